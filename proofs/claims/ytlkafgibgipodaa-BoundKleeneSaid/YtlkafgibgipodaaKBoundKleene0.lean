/- All and Any are the opposite of each other for opposite answers; their answer is Yes or No just if it is so for all ways to replace Open with Yes or No. Part 1 of 1. -/
-- Put together by wip/tools/shake.py, a program of this work: out of the words that the kit's print tool (print.sh) writes for a claim and what wip/tools/xprint.py prints, those that this claim reaches, and this work's own texts.
import Derived.Below
import Derived.Deep.Draws
import Derived.Deep.AppendLies
import Derived.Maps.AppendAt
import Derived.OwnWalk
import Derived.Laws.BytesArg
import Derived.Laws.MakeOwn
import Derived.Laws.OwnMore
import Derived.Deep.OwnRows
import Derived.Tactics
import Derived.Lib.ConvBytes
import Derived.Laws.Slices
import Derived.WalkKit
import Derived.KernelRfl
import Derived.RowKit3
import Derived.Deep.LoopGhost
import Derived.Deep.QuietTactic
import Derived.BigQuiet
import Derived.WideLaws
import Derived.Deep.DeepCutAuto
import Derived.Deep.CutBlock
import Derived.Deep.RegionHeld3
import Derived.Laws.Rows
import Derived.Lib.AppendStr
import Derived.ArgAppend
import Derived.Laws.IdiomCopy
import Derived.RowKit
import Derived.OrdersHeld
import Derived.Laws.BitsLemmas
import Derived.Laws.StructEq
import Derived.Test.YtlkafgibgipodaaProg
import Derived.RangeFuncBox
import Derived.RangeFuncNested
import Derived.RangeFuncBound
import Derived.RangeFuncCalls
import Derived.RangeFuncLeaves
import Derived.Shelf.Abstract
import Derived.Shelf.RegionOpen
import Derived.OwnWalkIn
import Derived.TacticsInMore
import Derived.LoopNIn
import Derived.LoopIn
import Derived.Sort.QuietIn
import Derived.Sort.LoopGhostIn
import Derived.Laws.EntriesVeiled
import Derived.Shelf.SlSortCmp.WholeK
import Derived.Deep.Slices
import Derived.OpenShut
import Derived.Test.YtlkafgibgipodaaRows
import Derived.ProofKit
import Derived.ShutString
import Derived.ChangeOld
import Derived.SizedLaws
import Derived.Carry
import Derived.Laws.Externs
import Derived.Test.YtlkafgibgipodaaKOps3
set_option linter.unusedVariables false
set_option linter.unusedSimpArgs false
namespace Go.Proofs.YtlkafgibgipodaaW.PrintWords
open Go.RowKit
namespace Kd
theorem R_appended {α : Type} {d : Kd α} {e base : Nat} {ok okp : Nat → Prop} {W w1 : World} {v v1 : Value} {xs : List α} {p : α} {inner cs : List Value} (h0 : ∀ k, v.ownBlock = some k → ok k) (hr : Reps (d.M W base (fun k => ok k ∧ some k ≠ v.ownBlock)) d.sz xs inner) (hp : d.M W base okp p cs) (hokp : ∀ k, okp k → ok k ∧ some k ≠ v.ownBlock) (hfresh : ∀ k, W.heap.size ≤ k → ok k)
  (hown : w1.ownsRow base e d.sz v1 (xs.length + 1) (inner ++ cs)) (hg : W.grownBy w1 v.ownBlock) (hat : v1.ownBlock = v.ownBlock ∨ ∃ b, v1.ownBlock = some b ∧ W.heap.size ≤ b) : d.R e w1 base ok v1 (xs ++ [p]) := by
 have hne : ∀ k, some k ≠ v.ownBlock → k < W.heap.size → some k ≠ v1.ownBlock := by
  intro k hk hlt
  rcases hat with hat | ⟨b, hb, hle⟩
  ·rw [hat]; exact hk
  rw [hb]
  intro he
  injection he with he
  omega
 have step : ∀ {q : α} {c : List Value} {o : Nat → Prop}, d.M W base o q c → (∀ k, o k → ok k ∧ some k ≠ v.ownBlock) → d.M w1 base (fun k => ok k ∧ some k ≠ v1.ownBlock) q c := by
  intro q c o hq ho
  have h1 := d.M_move (w1 := w1) (fun k hk => hg.block k hk.2.2.1 (ho k hk.1).2) (d.M_bound hq)
  exact d.M_mono (fun k hk => ⟨(ho k hk.1).1, hne k (ho k hk.1).2 hk.2.2.1⟩) h1
 refine ⟨fun k hk => ?_, inner ++ cs, by rw [List.length_append, List.length_singleton]; exact hown, ?_⟩
 ·rcases hat with hat | ⟨b, hb, hle⟩
  ·exact h0 k (hat ▸ hk)
  rw [hb] at hk
  injection hk with hk
  exact hfresh k (by omega)
 exact (hr.imp_ (fun _ _ hq => step hq (fun _ hk => hk))).snoc (step hp hokp) (d.K_len (d.K_of_M hp))
section
variable {P : Program} {ops : Array Oper} {rest : List Oper} {o : Oper} {a : Act} {Q : Exit → Act → World → Prop} {α : Type}
theorem R_append (d : Kd α) {w0 W : World} (base : Nat) (hgd : o.guard = none) (s x : Operand) (t e : TypeId) (z : Value) (bytes : Nat)
  (ho : o.op = .call { callee := .builtin .append, args := #[s, x], argTypes := #[t, t] })
  (ht : P.underlying t = some (.slice e)) (hinfo : (P.info? e).map (fun i => (i.zero, i.size, i.bytes)) = some (some z, d.sz, bytes)) (hz : z.cells.size = d.sz) (hs0 : 0 < d.sz) (hb0 : 0 < bytes)
  (v : Value) (xs : List α) (p : α) (cs : List Value) (ok okp : Nat → Prop) (hs : a.eval s = v) (hx : a.eval x = .slice (some ⟨W.heap.size, 0, none⟩) 1 1) (hp : d.M W base okp p cs) (hokp : ∀ k, okp k → ok k ∧ some k ≠ v.ownBlock) (hfresh : ∀ k, W.heap.size ≤ k → ok k)
  (HO : d.R e W base ok v xs) (HB : Below base w0 W) (hbase : base ≤ W.heap.size) (hl : (xs.length + 1) * bytes ≤ 140737488355328)
  (h : ∀ v1 w1, d.R e w1 base ok v1 (xs ++ [p]) → Below base w0 w1 → W.grownBy w1 v.ownBlock → (v1.ownBlock = v.ownBlock ∨ ∃ b, v1.ownBlock = some b ∧ W.heap.size ≤ b) → wpList P ops Q rest (a.put o.dst v1) w1) :
  wpList P ops Q (o :: rest) a (W.alloc (.cells cs.toArray e)) := by
 obtain ⟨h0, inner, hown, hr⟩ := HO
 refine print_append_cells base hgd s x t e z d.sz bytes ho ht hinfo hz hs0 hb0 v xs.length inner cs hs hx (d.K_len (d.K_of_M hp)) (d.K_one (d.K_of_M hp)) hown HB hbase hl ?_
 intro v1 w1 hown1 hb1 hg1 hat1
 exact h v1 w1 (R_appended h0 hr hp hokp hfresh hown1 hg1 hat1) hb1 hg1 hat1
end
end Kd
section
variable {w w1 : World} {base n size : Nat} {e : TypeId} {v : Value} {xs : List Value}
theorem q_of_own (h : w.ownsRow base e size v n xs) : QRow w base e size v n xs := by
 obtain ⟨h1, h2⟩ := h
 refine ⟨h1, ?_⟩
 rcases h2 with ⟨rfl, h0⟩ | ⟨g, cap, cur, rfl, hb, hh, hnc, hcm, hcs, ht⟩
 ·exact .inl ⟨h0, none, rfl, fun a ha => by cases ha⟩
 exact .inr ⟨g, 0, cap, cur, by rw [Nat.zero_mul], hb, hh, hnc, by rw [Nat.zero_add]; exact hcm, by rw [Nat.zero_add]; exact hcs, by rw [Nat.zero_mul, List.drop_zero]; exact ht⟩
end
namespace Kd
section
variable {α : Type} {d : Kd α} {e : Nat} {w w1 W : World} {base : Nat} {ok ok' : Nat → Prop} {v : Value} {xs : List α}
theorem Q_of_R (h : d.R e w base ok v xs) : d.Q e w base ok v xs := by
 obtain ⟨h0, inner, ho, hr⟩ := h
 exact ⟨h0, inner, q_of_own ho, hr⟩
theorem Q_nil (d : Kd α) (e : Nat) (w : World) (base : Nat) (ok : Nat → Prop) : d.Q e w base ok (.slice none 0 0) [] := Q_of_R (R_nil d e w base ok)
end
end Kd
end Go.Proofs.YtlkafgibgipodaaW.PrintWords
namespace Go.Proofs.YtlkafgibgipodaaW.PrintWords
open Go.RowKit
namespace Kd
section
variable {α β : Type} {d : Kd α} {d' : Kd β} {e e' : Nat} {w w1 W : World} {base b : Nat} {ok ok' okv oku : Nat → Prop} {u v : Value} {xs : List α} {ys : List β}
theorem S_nil (d : Kd α) (e : Nat) (w : World) (base : Nat) (ok : Nat → Prop) : S d e w base ok (.slice none 0 0) [] := ⟨fun _ => 0, R_nil _ _ _ _ _⟩
end
end Kd
end Go.Proofs.YtlkafgibgipodaaW.PrintWords
namespace Go.Proofs.YtlkafgibgipodaaW.PrintWords
open Go.RowKit
namespace Kd
section
variable {α β : Type} {d : Kd α} {e base n n' cc g N : Nat} {ok ok' okp S : Nat → Prop} {w w0 w1 W W1 : World} {A A' : Option Addr} {u v v1 : Value} {xs : List α} {xs' : List β} {d' : Kd β} {x : α} {c : List Value}
theorem F_nil (d : Kd α) (W : World) (ok : Nat → Prop) : F d W ok none ([] : List α).length [] := fun W' _ => C_nil d W'
theorem FK_of_M (h : d.M W base ok x c) : FK d W ok x c := fun _ hW => d.K_of_M (M_step h hW)
end
end Kd
end Go.Proofs.YtlkafgibgipodaaW.PrintWords
namespace Go.Proofs.YtlkafgibgipodaaW.PrintWords
open Go.RowKit
namespace Kd
def chunks (sz : Nat) (n : Nat) (inner : List Value) : List (List Value) := (List.range n).map fun j => (inner.drop (j * sz)).take sz
theorem chunks_length (sz n : Nat) (inner : List Value) : (chunks sz n inner).length = n := by simp [chunks]
theorem chunks_at {sz n : Nat} {inner : List Value} {j : Nat} (hj : j < n) : (chunks sz n inner)[j]? = some ((inner.drop (j * sz)).take sz) := by simp [chunks, hj]
theorem chunks_get {sz n : Nat} {inner : List Value} {j : Nat} {c : List Value} (h : (chunks sz n inner)[j]? = some c) : c = (inner.drop (j * sz)).take sz := by
 have hj : j < n := by have := (List.getElem?_eq_some_iff.1 h).1; rwa [chunks_length] at this
 rw [chunks_at hj] at h
 injection h with h
 exact h.symm
theorem reps_raw {α : Type} {Rr : α → List Value → Prop} {sz : Nat} {xs : List α} {inner : List Value} (h : Reps Rr sz xs inner) (hR : ∀ x c, Rr x c → c.length = sz ∧ ∀ u ∈ c, u.oneCell' = true) : Reps (fun x cs => cs = x ∧ cs.length = sz ∧ ∀ u ∈ cs, u.oneCell' = true) sz (chunks sz xs.length inner) inner := by
 refine ⟨by rw [chunks_length]; exact h.1, fun j p hj => ?_⟩
 have hjl : j < xs.length := by have := (List.getElem?_eq_some_iff.1 hj).1; rwa [chunks_length] at this
 have hp := chunks_get hj
 exact ⟨hp.symm, hR _ _ (h.2 j _ (List.getElem?_eq_getElem hjl))⟩
section
variable {α : Type} {d : Kd α} {e base n cc g : Nat} {ok ok' okp S : Nat → Prop} {w w1 W W1 : World} {A : Option Addr} {u v v1 : Value} {xs : List α} {x : α} {c : List Value}
theorem R_N (h : d.R e w base ok v xs) : N d e w base ok v xs := by
 obtain ⟨h0, inner, ho, hr⟩ := h
 refine ⟨h0, chunks d.sz xs.length inner, chunks_length _ _ _, ⟨fun k hk => hk.symm, inner, by rw [chunks_length]; exact ho, reps_raw hr (fun x c hp => ⟨d.K_len (d.K_of_M hp), d.K_one (d.K_of_M hp)⟩)⟩, fun j x c hx hc => ?_⟩
 rw [chunks_get hc]
 exact FK_of_M (hr.2 j x hx)
theorem N_nil (d : Kd α) (e : Nat) (w : World) (base : Nat) (ok : Nat → Prop) : N d e w base ok (.slice none 0 0) [] := R_N (R_nil _ _ _ _ _)
end
end Kd
end Go.Proofs.YtlkafgibgipodaaW.PrintWords
namespace Go.Proofs.YtlkafgibgipodaaW.PrintWords
open Go.RowKit
def shl (k : IntKind) (x y : Int) : Int := k.wrap (x * 2 ^ min y.toNat k.bits)
theorem shl_small {k : IntKind} {x y j : Int} (h : shl k x y = j) (hy : y ≤ k.bits) : k.wrap (x * 2 ^ y.toNat) = j := by rw [← h]; unfold shl; rw [Nat.min_eq_left (by omega)]
end Go.Proofs.YtlkafgibgipodaaW.PrintWords
namespace Go.Proofs.YtlkafgibgipodaaW.PrintWords
open Go.RowKit
namespace Kd
section
variable {α β : Type} {d : Kd α} {e base base' n m c g N' lo hi : Nat} {ok ok' S : Nat → Prop} {w W w1 : World} {A : Option Addr} {ad : Addr} {u v v1 : Value} {xs : List α}
theorem V_nil (d : Kd α) (e : Nat) (W : World) (base : Nat) (ok : Nat → Prop) : V d e W base ok (.slice none 0 0) [] := ⟨none, 0, rfl, Nat.le_refl _, F_nil d W ok⟩
end
end Kd
end Go.Proofs.YtlkafgibgipodaaW.PrintWords
namespace Go.Proofs.Ytlkafgibgipodaa.P
open Go.RowKit Go.Proofs.YtlkafgibgipodaaW.PrintWords Go.Proofs.YtlkafgibgipodaaW.PrintLast Go.Proofs.YtlkafgibgipodaaW.PrintMore
attribute [local go_sem] max2_int min2_int max_two min_two max_three min_three max_four min_four   -- for this text's walks alone
set_option linter.unusedVariables false
set_option linter.unusedSimpArgs false
theorem info24 : (Try.prog.info? 24).map (fun i => (i.zero, i.size, i.bytes)) = some (some (.int .i64 0), 1, 8) := by kernel_rfl
set_option maxHeartbeats 8000000 in
set_option maxRecDepth 100000 in
theorem bound_All_1.calls (a0 : Int) (a1 : Int) (r : Int) (w : World) (h : bound_All_1.f a0 a1 = some r) :
  Calls Try.prog 77 #[.int .i64 a0, .int .i64 a1] w fun e w' => e = .returned (.int .i64 r) ∧ Below w.heap.size w w' := by
 have HB := zam (Below.refl w.heap.size w)
 have H : (some (mn a0 a1)) = some r := h
 clear h
 obtain ⟨ji3, hji3⟩ : ∃ j_ : Int, (mn a0 a1) = j_ := ⟨_, rfl⟩
 replace H : (some ji3) = some r := by first | (rw [hji3] at H; exact H) | (simp only [hji3] at H ⊢; exact H)
 have hji3_ : (if a1 < a0 then a1 else a0) = ji3 := hji3
 obtain rfl := zsi H
 go_enter Try.func77, Try.ntmps77
 go_wp2
 go_ret
 exact ⟨by first | rfl | (simp [errW_none, errW_some] <;> rfl) | (simp only [← hji3]; first | rfl | (simp [errW_none, errW_some] <;> rfl)) | (simp [*, errW_none, errW_some] <;> rfl), by repeat (first | (with_reducible first | exact HB.out | apply zba | apply zbn | apply zb1) | exact HB.out)⟩
set_option maxHeartbeats 8000000 in
set_option maxRecDepth 100000 in
theorem bound_isAnswer.calls (a0 : Int) (r : Bool) (w : World) (h : bound_isAnswer.f a0 = some r) :
  Calls Try.prog 75 #[.int .i64 a0] w fun e w' => e = .returned (.bool r) ∧ Drawn0 w w' := by
 have H : (if a0 ≥ 0 then (some (decide (a0 ≤ 2))) else (some false)) = some r := h
 clear h
 by_cases c2 : a0 ≥ 0
 ·rw [if_pos c2] at H
  have c2b0 : decide (0 ≤ a0) = true := zdt c2
  clear c2
  obtain rfl := zsi H
  go_enter Try.func75, Try.ntmps75
  go_wp2
  go_ret
  exact ⟨by first | rfl | (simp; done) | (simp [*]; done), by repeat (first | exact Drawn0.refl _ | apply Drawn0.step)⟩
 rw [if_neg c2] at H
 have c2b0 : decide (0 ≤ a0) = false := zdf c2
 clear c2
 obtain rfl := zsi H
 go_enter Try.func75, Try.ntmps75
 go_wp2
 go_ret
 exact ⟨by first | rfl | (simp; done) | (simp [*]; done), by repeat (first | exact Drawn0.refl _ | apply Drawn0.step)⟩
set_option maxHeartbeats 8000000 in
set_option maxRecDepth 100000 in
theorem bound_fold_bound_All_1.calls (k : Nat) (A0 : Option Addr) (c0 : Nat) (l0 : List Int) (a1 : Int)  (r1 : Int) (r2 : Int) (w : World) (hr0 : Kd.C (Kd.int .i64) w A0 l0.length l0) (hc0 : l0.length ≤ c0) (h : bound_fold_bound_All_1.f k l0 a1 = some (r1, r2)) :
  Calls Try.prog 76 #[.slice A0 l0.length c0, .int .i64 a1, .func (.func 77) #[] #[]] w fun e w' => e = .returned (.tuple #[.int .i64 r1, .int .i64 r2]) ∧ Below w.heap.size w w' := by
 have HR0 := zam hr0
 have HC0 := zam hc0
 clear hr0 hc0
 have HB := zam (Below.refl w.heap.size w)
 have H : (if (l0.length : Int) > 256 then (some (0, 6)) else (bound_fold_bound_All_1.l0 k a1 l0 (l0.length : Int) 0)) = some (r1, r2) := h
 clear h
 by_cases c4 : (l0.length : Int) > 256
 ·rw [if_pos c4] at H
  have c4b0 : decide (256 < (l0.length : Int)) = true := zdt c4
  have c4b1 : decide (256 < l0.length) = true := zdt (by omega)
  clear c4
  simp only [Option.some.injEq, Prod.mk.injEq] at H
  obtain ⟨rfl, rfl⟩ := H
  go_enter Try.func76, Try.ntmps76
  go_wp2
  go_ret2
  exact ⟨by first | rfl | (simp [errW_none, errW_some] <;> rfl) | (simp [*, errW_none, errW_some] <;> rfl), by repeat (first | (with_reducible first | exact HB.out | apply zba | apply zbn | apply zb1) | exact HB.out)⟩
 rw [if_neg c4] at H
 have c4b0 : decide (256 < (l0.length : Int)) = false := zdf c4
 have c4b1 : decide (256 < l0.length) = false := zdf (by omega)
 clear c4
 have H' := zam H
 clear H
 go_enter Try.func76, Try.ntmps76
 go_wp2
 go_loopg [1, 15] k (fun kq v1 v15 w' => ∃ (x1_1 : Int) (x15_1 : Int), v1 = .int .i64 x1_1 ∧ v15 = .int .i64 x15_1 ∧ Aside0 (bound_fold_bound_All_1.l0 kq x1_1 l0 (l0.length : Int) x15_1 = some (r1, r2)) ∧ Aside0 (kq ≤ k) ∧ Aside0 (Below w.heap.size w w'))
 case atStart => exact ⟨(a1), (0), (by first | rfl | (simp; done) | (simp [*]; done)), (by first | rfl | (simp; done) | (simp [*]; done)), H', ⟨Nat.le_refl _⟩, ⟨by repeat (first | (with_reducible first | exact HB.out | apply zba | apply zbn | apply zb1) | exact HB.out)⟩⟩
 case round =>
  clear H'
  try clear p2
  try clear c4
  try clear c4b0
  try clear c4b1
  obtain ⟨x1_1, x15_1, rfl, rfl, HA, HK1, HB⟩ := hrel
  cases gk with
  | zero => exact absurd HA.out (by simp [bound_fold_bound_All_1.l0])
  | succ k1 =>
   have H := HA.out
   clear HA
   simp only [bound_fold_bound_All_1.l0] at H
   by_cases c5 : x15_1 < (l0.length : Int)
   ·rw [if_pos c5] at H
    have c5b0 : decide (x15_1 < (l0.length : Int)) = true := zdt c5
    clear c5
    by_cases c6 : 0 ≤ x15_1
    ·rw [if_pos c6] at H
     have c6b0 : decide (0 ≤ x15_1) = true := zdt c6
     clear c6
     by_cases c7 : x15_1 < (l0.length : Int)
     ·rw [if_pos c7] at H
      have c7b0 : decide (x15_1 < (l0.length : Int)) = true := zdt c7
      clear c7
      replace H := Option.bind_eq_some_iff.mp H
      obtain ⟨t102, A80, H⟩ := H
      replace H : (if t102 = true then ((bound_All_1.f x1_1 (rd l0 x15_1)).bind fun t103 => (bound_fold_bound_All_1.l0 k1 t103 l0 (l0.length : Int) (wrap64 (x15_1 + 1)))) else (some (0, 2))) = some (r1, r2) := H
      have A8 := zam A80
      clear A80
      by_cases c9 : t102 = true
      ·subst c9
       have H1 : ((bound_All_1.f x1_1 (rd l0 x15_1)).bind fun t103 => (bound_fold_bound_All_1.l0 k1 t103 l0 (l0.length : Int) (wrap64 (x15_1 + 1)))) = some (r1, r2) := by rw [if_pos rfl] at H; exact H
       clear H
       have H := H1
       clear H1
       replace H := Option.bind_eq_some_iff.mp H
       obtain ⟨t103, A100, H⟩ := H
       replace H : (bound_fold_bound_All_1.l0 k1 t103 l0 (l0.length : Int) (wrap64 (x15_1 + 1))) = some (r1, r2) := H
       have A10 := zam A100
       clear A100
       have H' := zam H
       clear H
       have p101 : 0 ≤ (x15_1 : Int) := zod (by first | (with_reducible assumption) | assumption)
       have q101 : x15_1 < (l0.length : Int) := zod (by first | (with_reducible assumption) | assumption)
       obtain ⟨ad101, e101, hx101_0⟩ := Kd.at_int HR0.out x15_1 p101 q101
       cases e101
       replace hx101_0 := (HB.out.cell (World.block_lt_of_cell? w _ hx101_0)).trans hx101_0
       replace p101 := eq_true p101
       replace q101 := eq_true q101
       go_wp2_with (first | ((with_reducible refine zgc (f := 75) rfl ?_); refine goesL_ (some 20) rfl rfl Try.func75 (by kernel_rfl) rfl #[.int .i64 (rd l0 x15_1)] rfl (by (try simp only [zmt, List.map_cons, List.map_nil]); first | done | rfl | (simp only [zld, zlt]; rfl)) ?_; (with_reducible refine (bound_isAnswer.calls (rd l0 x15_1) true _ A8.out).mono ?_); rintro e w' ⟨rfl, ⟨nd, rfl⟩⟩; refine ⟨_, rfl, ?_⟩) | (go_at_call 77; (with_reducible refine (bound_All_1.calls x1_1 (rd l0 x15_1) t103 _ A10.out).mono ?_); rintro e w11 ⟨rfl, hb⟩; have n0_ := zam (zbt (by repeat (first | (with_reducible first | exact HB.out | apply zba | apply zbn | apply zb1) | exact HB.out)) hb); clear HB; have HB := n0_; clear n0_; (try clear hb); (try clear hb2); (try clear hk); (try clear hi)))
       go_roundg k1
       case measure => have := HK1.out; omega
       case rel => exact ⟨(t103), (wrap64 (x15_1 + 1)), (by first | rfl | (simp; done) | (simp [*]; done)), (by first | rfl | (simp; done) | (simp [*]; done)), H', ⟨by have := HK1.out; omega⟩, ⟨by repeat (first | (with_reducible first | exact HB.out | apply zba | apply zbn | apply zb1) | exact HB.out)⟩⟩
      replace c9 := Bool.eq_false_iff.mpr c9
      subst c9
      have H1 : (some (0, 2)) = some (r1, r2) := by rw [if_neg (show ¬ (false = true) by decide)] at H; exact H
      clear H
      have H := H1
      clear H1
      simp only [Option.some.injEq, Prod.mk.injEq] at H
      obtain ⟨rfl, rfl⟩ := H
      have p101 : 0 ≤ (x15_1 : Int) := zod (by first | (with_reducible assumption) | assumption)
      have q101 : x15_1 < (l0.length : Int) := zod (by first | (with_reducible assumption) | assumption)
      obtain ⟨ad101, e101, hx101_0⟩ := Kd.at_int HR0.out x15_1 p101 q101
      cases e101
      replace hx101_0 := (HB.out.cell (World.block_lt_of_cell? w _ hx101_0)).trans hx101_0
      replace p101 := eq_true p101
      replace q101 := eq_true q101
      go_wp2_with (first | ((with_reducible refine zgc (f := 75) rfl ?_); refine goesL_ (some 20) rfl rfl Try.func75 (by kernel_rfl) rfl #[.int .i64 (rd l0 x15_1)] rfl (by (try simp only [zmt, List.map_cons, List.map_nil]); first | done | rfl | (simp only [zld, zlt]; rfl)) ?_; (with_reducible refine (bound_isAnswer.calls (rd l0 x15_1) false _ A8.out).mono ?_); rintro e w' ⟨rfl, ⟨nd, rfl⟩⟩; refine ⟨_, rfl, ?_⟩))
      go_ret2
      exact ⟨by first | rfl | (simp [errW_none, errW_some] <;> rfl) | (simp [*, errW_none, errW_some] <;> rfl), by repeat (first | (with_reducible first | exact HB.out | apply zba | apply zbn | apply zb1) | exact HB.out)⟩
     rw [if_neg c7] at H
     exact absurd H (by simp)
    rw [if_neg c6] at H
    exact absurd H (by simp)
   rw [if_neg c5] at H
   have c5b0 : decide (x15_1 < (l0.length : Int)) = false := zdf c5
   clear c5
   simp only [Option.some.injEq, Prod.mk.injEq] at H
   obtain ⟨rfl, rfl⟩ := H
   go_wp2
   go_ret2
   exact ⟨by first | rfl | (simp [errW_none, errW_some] <;> rfl) | (simp [*, errW_none, errW_some] <;> rfl), by repeat (first | (with_reducible first | exact HB.out | apply zba | apply zbn | apply zb1) | exact HB.out)⟩
set_option maxHeartbeats 8000000 in
set_option maxRecDepth 100000 in
theorem bound_All.calls (k : Nat) (A0 : Option Addr) (c0 : Nat) (l0 : List Int) (r1 : Int) (r2 : Int) (w : World) (hr0 : Kd.C (Kd.int .i64) w A0 l0.length l0) (hc0 : l0.length ≤ c0) (h : bound_All.f k l0 = some (r1, r2)) :
  Calls Try.prog 20 #[.slice A0 l0.length c0] w fun e w' => e = .returned (.tuple #[.int .i64 r1, .int .i64 r2]) ∧ Below w.heap.size w w' := by
 have HR0 := zam hr0
 have HC0 := zam hc0
 clear hr0 hc0
 have HB := zam (Below.refl w.heap.size w)
 have H : ((bound_fold_bound_All_1.f k l0 2).bind fun bt101 => (some (bt101.1, bt101.2))) = some (r1, r2) := h
 clear h
 replace H := Option.bind_eq_some_iff.mp H
 obtain ⟨⟨t101, t102⟩, A20, H⟩ := H
 replace H : (some (t101, t102)) = some (r1, r2) := H
 have A2 := zam A20
 clear A20
 simp only [Option.some.injEq, Prod.mk.injEq] at H
 obtain ⟨rfl, rfl⟩ := H
 go_enter Try.func20, Try.ntmps20
 go_wp2_with (first | ((with_reducible refine zgc (f := 76) rfl ?_); refine goesL_ (some 5) rfl rfl Try.func76 (by kernel_rfl) rfl #[.slice A0 l0.length c0, .int .i64 2, .func (.func 77) #[] #[]] rfl (by (try simp only [zmt, List.map_cons, List.map_nil]); first | done | rfl | (simp only [zld, zlt]; rfl)) ?_; (with_reducible refine (bound_fold_bound_All_1.calls k _ _ l0 2  t101 t102 _ ?side1 ?side2 A2.out).mono ?_); (case side1 => repeat (first | exact HR0.out | (with_reducible refine Kd.C_alloc ?_ _) | (with_reducible refine Kd.C_drewN ?_ _) | (with_reducible refine Kd.C_drew ?_))); (case side2 => exact HC0.out); rintro e w3 ⟨rfl, hb⟩; refine ⟨_, rfl, ?_⟩; have n0_ := zam (zbt (by repeat (first | (with_reducible first | exact HB.out | apply zba | apply zbn | apply zb1) | exact HB.out)) hb); clear HB; have HB := n0_; clear n0_; (try clear hb); (try clear hb2); (try clear hk); (try clear hi)))
 go_ret2
 exact ⟨by first | rfl | (simp [errW_none, errW_some] <;> rfl) | (simp [*, errW_none, errW_some] <;> rfl), by repeat (first | (with_reducible first | exact HB.out | apply zba | apply zbn | apply zb1) | exact HB.out)⟩
set_option maxHeartbeats 8000000 in
set_option maxRecDepth 100000 in
theorem bound_Any_1.calls (a0 : Int) (a1 : Int) (r : Int) (w : World) (h : bound_Any_1.f a0 a1 = some r) :
  Calls Try.prog 78 #[.int .i64 a0, .int .i64 a1] w fun e w' => e = .returned (.int .i64 r) ∧ Below w.heap.size w w' := by
 have HB := zam (Below.refl w.heap.size w)
 have H : (some (mx a0 a1)) = some r := h
 clear h
 obtain ⟨ji3, hji3⟩ : ∃ j_ : Int, (mx a0 a1) = j_ := ⟨_, rfl⟩
 replace H : (some ji3) = some r := by first | (rw [hji3] at H; exact H) | (simp only [hji3] at H ⊢; exact H)
 have hji3_ : (if a0 < a1 then a1 else a0) = ji3 := hji3
 obtain rfl := zsi H
 go_enter Try.func78, Try.ntmps78
 go_wp2
 go_ret
 exact ⟨by first | rfl | (simp [errW_none, errW_some] <;> rfl) | (simp only [← hji3]; first | rfl | (simp [errW_none, errW_some] <;> rfl)) | (simp [*, errW_none, errW_some] <;> rfl), by repeat (first | (with_reducible first | exact HB.out | apply zba | apply zbn | apply zb1) | exact HB.out)⟩
set_option maxHeartbeats 8000000 in
set_option maxRecDepth 100000 in
theorem bound_fold_bound_Any_1.calls (k : Nat) (A0 : Option Addr) (c0 : Nat) (l0 : List Int) (a1 : Int)  (r1 : Int) (r2 : Int) (w : World) (hr0 : Kd.C (Kd.int .i64) w A0 l0.length l0) (hc0 : l0.length ≤ c0) (h : bound_fold_bound_Any_1.f k l0 a1 = some (r1, r2)) :
  Calls Try.prog 76 #[.slice A0 l0.length c0, .int .i64 a1, .func (.func 78) #[] #[]] w fun e w' => e = .returned (.tuple #[.int .i64 r1, .int .i64 r2]) ∧ Below w.heap.size w w' := by
 have HR0 := zam hr0
 have HC0 := zam hc0
 clear hr0 hc0
 have HB := zam (Below.refl w.heap.size w)
 have H : (if (l0.length : Int) > 256 then (some (0, 6)) else (bound_fold_bound_Any_1.l0 k a1 l0 (l0.length : Int) 0)) = some (r1, r2) := h
 clear h
 by_cases c4 : (l0.length : Int) > 256
 ·rw [if_pos c4] at H
  have c4b0 : decide (256 < (l0.length : Int)) = true := zdt c4
  have c4b1 : decide (256 < l0.length) = true := zdt (by omega)
  clear c4
  simp only [Option.some.injEq, Prod.mk.injEq] at H
  obtain ⟨rfl, rfl⟩ := H
  go_enter Try.func76, Try.ntmps76
  go_wp2
  go_ret2
  exact ⟨by first | rfl | (simp [errW_none, errW_some] <;> rfl) | (simp [*, errW_none, errW_some] <;> rfl), by repeat (first | (with_reducible first | exact HB.out | apply zba | apply zbn | apply zb1) | exact HB.out)⟩
 rw [if_neg c4] at H
 have c4b0 : decide (256 < (l0.length : Int)) = false := zdf c4
 have c4b1 : decide (256 < l0.length) = false := zdf (by omega)
 clear c4
 have H' := zam H
 clear H
 go_enter Try.func76, Try.ntmps76
 go_wp2
 go_loopg [1, 15] k (fun kq v1 v15 w' => ∃ (x1_1 : Int) (x15_1 : Int), v1 = .int .i64 x1_1 ∧ v15 = .int .i64 x15_1 ∧ Aside0 (bound_fold_bound_Any_1.l0 kq x1_1 l0 (l0.length : Int) x15_1 = some (r1, r2)) ∧ Aside0 (kq ≤ k) ∧ Aside0 (Below w.heap.size w w'))
 case atStart => exact ⟨(a1), (0), (by first | rfl | (simp; done) | (simp [*]; done)), (by first | rfl | (simp; done) | (simp [*]; done)), H', ⟨Nat.le_refl _⟩, ⟨by repeat (first | (with_reducible first | exact HB.out | apply zba | apply zbn | apply zb1) | exact HB.out)⟩⟩
 case round =>
  clear H'
  try clear p2
  try clear c4
  try clear c4b0
  try clear c4b1
  obtain ⟨x1_1, x15_1, rfl, rfl, HA, HK1, HB⟩ := hrel
  cases gk with
  | zero => exact absurd HA.out (by simp [bound_fold_bound_Any_1.l0])
  | succ k1 =>
   have H := HA.out
   clear HA
   simp only [bound_fold_bound_Any_1.l0] at H
   by_cases c5 : x15_1 < (l0.length : Int)
   ·rw [if_pos c5] at H
    have c5b0 : decide (x15_1 < (l0.length : Int)) = true := zdt c5
    clear c5
    by_cases c6 : 0 ≤ x15_1
    ·rw [if_pos c6] at H
     have c6b0 : decide (0 ≤ x15_1) = true := zdt c6
     clear c6
     by_cases c7 : x15_1 < (l0.length : Int)
     ·rw [if_pos c7] at H
      have c7b0 : decide (x15_1 < (l0.length : Int)) = true := zdt c7
      clear c7
      replace H := Option.bind_eq_some_iff.mp H
      obtain ⟨t102, A80, H⟩ := H
      replace H : (if t102 = true then ((bound_Any_1.f x1_1 (rd l0 x15_1)).bind fun t103 => (bound_fold_bound_Any_1.l0 k1 t103 l0 (l0.length : Int) (wrap64 (x15_1 + 1)))) else (some (0, 2))) = some (r1, r2) := H
      have A8 := zam A80
      clear A80
      by_cases c9 : t102 = true
      ·subst c9
       have H1 : ((bound_Any_1.f x1_1 (rd l0 x15_1)).bind fun t103 => (bound_fold_bound_Any_1.l0 k1 t103 l0 (l0.length : Int) (wrap64 (x15_1 + 1)))) = some (r1, r2) := by rw [if_pos rfl] at H; exact H
       clear H
       have H := H1
       clear H1
       replace H := Option.bind_eq_some_iff.mp H
       obtain ⟨t103, A100, H⟩ := H
       replace H : (bound_fold_bound_Any_1.l0 k1 t103 l0 (l0.length : Int) (wrap64 (x15_1 + 1))) = some (r1, r2) := H
       have A10 := zam A100
       clear A100
       have H' := zam H
       clear H
       have p101 : 0 ≤ (x15_1 : Int) := zod (by first | (with_reducible assumption) | assumption)
       have q101 : x15_1 < (l0.length : Int) := zod (by first | (with_reducible assumption) | assumption)
       obtain ⟨ad101, e101, hx101_0⟩ := Kd.at_int HR0.out x15_1 p101 q101
       cases e101
       replace hx101_0 := (HB.out.cell (World.block_lt_of_cell? w _ hx101_0)).trans hx101_0
       replace p101 := eq_true p101
       replace q101 := eq_true q101
       go_wp2_with (first | ((with_reducible refine zgc (f := 75) rfl ?_); refine goesL_ (some 20) rfl rfl Try.func75 (by kernel_rfl) rfl #[.int .i64 (rd l0 x15_1)] rfl (by (try simp only [zmt, List.map_cons, List.map_nil]); first | done | rfl | (simp only [zld, zlt]; rfl)) ?_; (with_reducible refine (bound_isAnswer.calls (rd l0 x15_1) true _ A8.out).mono ?_); rintro e w' ⟨rfl, ⟨nd, rfl⟩⟩; refine ⟨_, rfl, ?_⟩) | (go_at_call 78; (with_reducible refine (bound_Any_1.calls x1_1 (rd l0 x15_1) t103 _ A10.out).mono ?_); rintro e w11 ⟨rfl, hb⟩; have n0_ := zam (zbt (by repeat (first | (with_reducible first | exact HB.out | apply zba | apply zbn | apply zb1) | exact HB.out)) hb); clear HB; have HB := n0_; clear n0_; (try clear hb); (try clear hb2); (try clear hk); (try clear hi)))
       go_roundg k1
       case measure => have := HK1.out; omega
       case rel => exact ⟨(t103), (wrap64 (x15_1 + 1)), (by first | rfl | (simp; done) | (simp [*]; done)), (by first | rfl | (simp; done) | (simp [*]; done)), H', ⟨by have := HK1.out; omega⟩, ⟨by repeat (first | (with_reducible first | exact HB.out | apply zba | apply zbn | apply zb1) | exact HB.out)⟩⟩
      replace c9 := Bool.eq_false_iff.mpr c9
      subst c9
      have H1 : (some (0, 2)) = some (r1, r2) := by rw [if_neg (show ¬ (false = true) by decide)] at H; exact H
      clear H
      have H := H1
      clear H1
      simp only [Option.some.injEq, Prod.mk.injEq] at H
      obtain ⟨rfl, rfl⟩ := H
      have p101 : 0 ≤ (x15_1 : Int) := zod (by first | (with_reducible assumption) | assumption)
      have q101 : x15_1 < (l0.length : Int) := zod (by first | (with_reducible assumption) | assumption)
      obtain ⟨ad101, e101, hx101_0⟩ := Kd.at_int HR0.out x15_1 p101 q101
      cases e101
      replace hx101_0 := (HB.out.cell (World.block_lt_of_cell? w _ hx101_0)).trans hx101_0
      replace p101 := eq_true p101
      replace q101 := eq_true q101
      go_wp2_with (first | ((with_reducible refine zgc (f := 75) rfl ?_); refine goesL_ (some 20) rfl rfl Try.func75 (by kernel_rfl) rfl #[.int .i64 (rd l0 x15_1)] rfl (by (try simp only [zmt, List.map_cons, List.map_nil]); first | done | rfl | (simp only [zld, zlt]; rfl)) ?_; (with_reducible refine (bound_isAnswer.calls (rd l0 x15_1) false _ A8.out).mono ?_); rintro e w' ⟨rfl, ⟨nd, rfl⟩⟩; refine ⟨_, rfl, ?_⟩))
      go_ret2
      exact ⟨by first | rfl | (simp [errW_none, errW_some] <;> rfl) | (simp [*, errW_none, errW_some] <;> rfl), by repeat (first | (with_reducible first | exact HB.out | apply zba | apply zbn | apply zb1) | exact HB.out)⟩
     rw [if_neg c7] at H
     exact absurd H (by simp)
    rw [if_neg c6] at H
    exact absurd H (by simp)
   rw [if_neg c5] at H
   have c5b0 : decide (x15_1 < (l0.length : Int)) = false := zdf c5
   clear c5
   simp only [Option.some.injEq, Prod.mk.injEq] at H
   obtain ⟨rfl, rfl⟩ := H
   go_wp2
   go_ret2
   exact ⟨by first | rfl | (simp [errW_none, errW_some] <;> rfl) | (simp [*, errW_none, errW_some] <;> rfl), by repeat (first | (with_reducible first | exact HB.out | apply zba | apply zbn | apply zb1) | exact HB.out)⟩
set_option maxHeartbeats 8000000 in
set_option maxRecDepth 100000 in
theorem bound_Any.calls (k : Nat) (A0 : Option Addr) (c0 : Nat) (l0 : List Int) (r1 : Int) (r2 : Int) (w : World) (hr0 : Kd.C (Kd.int .i64) w A0 l0.length l0) (hc0 : l0.length ≤ c0) (h : bound_Any.f k l0 = some (r1, r2)) :
  Calls Try.prog 21 #[.slice A0 l0.length c0] w fun e w' => e = .returned (.tuple #[.int .i64 r1, .int .i64 r2]) ∧ Below w.heap.size w w' := by
 have HR0 := zam hr0
 have HC0 := zam hc0
 clear hr0 hc0
 have HB := zam (Below.refl w.heap.size w)
 have H : ((bound_fold_bound_Any_1.f k l0 0).bind fun bt101 => (some (bt101.1, bt101.2))) = some (r1, r2) := h
 clear h
 replace H := Option.bind_eq_some_iff.mp H
 obtain ⟨⟨t101, t102⟩, A20, H⟩ := H
 replace H : (some (t101, t102)) = some (r1, r2) := H
 have A2 := zam A20
 clear A20
 simp only [Option.some.injEq, Prod.mk.injEq] at H
 obtain ⟨rfl, rfl⟩ := H
 go_enter Try.func21, Try.ntmps21
 go_wp2_with (first | ((with_reducible refine zgc (f := 76) rfl ?_); refine goesL_ (some 5) rfl rfl Try.func76 (by kernel_rfl) rfl #[.slice A0 l0.length c0, .int .i64 0, .func (.func 78) #[] #[]] rfl (by (try simp only [zmt, List.map_cons, List.map_nil]); first | done | rfl | (simp only [zld, zlt]; rfl)) ?_; (with_reducible refine (bound_fold_bound_Any_1.calls k _ _ l0 0  t101 t102 _ ?side1 ?side2 A2.out).mono ?_); (case side1 => repeat (first | exact HR0.out | (with_reducible refine Kd.C_alloc ?_ _) | (with_reducible refine Kd.C_drewN ?_ _) | (with_reducible refine Kd.C_drew ?_))); (case side2 => exact HC0.out); rintro e w3 ⟨rfl, hb⟩; refine ⟨_, rfl, ?_⟩; have n0_ := zam (zbt (by repeat (first | (with_reducible first | exact HB.out | apply zba | apply zbn | apply zb1) | exact HB.out)) hb); clear HB; have HB := n0_; clear n0_; (try clear hb); (try clear hb2); (try clear hk); (try clear hi)))
 go_ret2
 exact ⟨by first | rfl | (simp [errW_none, errW_some] <;> rfl) | (simp [*, errW_none, errW_some] <;> rfl), by repeat (first | (with_reducible first | exact HB.out | apply zba | apply zbn | apply zb1) | exact HB.out)⟩
set_option maxHeartbeats 8000000 in
set_option maxRecDepth 100000 in
theorem bound_Not.calls (a0 : Int) (r1 : Int) (r2 : Int) (w : World) (h : bound_Not.f a0 = some (r1, r2)) :
  Calls Try.prog 19 #[.int .i64 a0] w fun e w' => e = .returned (.tuple #[.int .i64 r1, .int .i64 r2]) ∧ Drawn0 w w' := by
 have H : ((bound_isAnswer.f a0).bind fun t101 => (if t101 = true then (some (wrap64 (2 - a0), 0)) else (some (0, 2)))) = some (r1, r2) := h
 clear h
 replace H := Option.bind_eq_some_iff.mp H
 obtain ⟨t101, A20, H⟩ := H
 replace H : (if t101 = true then (some (wrap64 (2 - a0), 0)) else (some (0, 2))) = some (r1, r2) := H
 have A2 := zam A20
 clear A20
 by_cases c3 : t101 = true
 ·subst c3
  have H1 : (some (wrap64 (2 - a0), 0)) = some (r1, r2) := by rw [if_pos rfl] at H; exact H
  clear H
  have H := H1
  clear H1
  simp only [Option.some.injEq, Prod.mk.injEq] at H
  obtain ⟨rfl, rfl⟩ := H
  go_enter Try.func19, Try.ntmps19
  go_wp2_with (first | ((with_reducible refine zgc (f := 75) rfl ?_); refine goesL_ (some 5) rfl rfl Try.func75 (by kernel_rfl) rfl #[.int .i64 a0] rfl (by (try simp only [zmt, List.map_cons, List.map_nil]); first | done | rfl | (simp only [zld, zlt]; rfl)) ?_; (with_reducible refine (bound_isAnswer.calls a0 true _ A2.out).mono ?_); rintro e w' ⟨rfl, ⟨nd, rfl⟩⟩; refine ⟨_, rfl, ?_⟩))
  go_ret2
  exact ⟨by first | rfl | (simp; done) | (simp [*]; done), by repeat (first | exact Drawn0.refl _ | apply Drawn0.step)⟩
 replace c3 := Bool.eq_false_iff.mpr c3
 subst c3
 have H1 : (some (0, 2)) = some (r1, r2) := by rw [if_neg (show ¬ (false = true) by decide)] at H; exact H
 clear H
 have H := H1
 clear H1
 simp only [Option.some.injEq, Prod.mk.injEq] at H
 obtain ⟨rfl, rfl⟩ := H
 go_enter Try.func19, Try.ntmps19
 go_wp2_with (first | ((with_reducible refine zgc (f := 75) rfl ?_); refine goesL_ (some 5) rfl rfl Try.func75 (by kernel_rfl) rfl #[.int .i64 a0] rfl (by (try simp only [zmt, List.map_cons, List.map_nil]); first | done | rfl | (simp only [zld, zlt]; rfl)) ?_; (with_reducible refine (bound_isAnswer.calls a0 false _ A2.out).mono ?_); rintro e w' ⟨rfl, ⟨nd, rfl⟩⟩; refine ⟨_, rfl, ?_⟩))
 go_ret2
 exact ⟨by first | rfl | (simp; done) | (simp [*]; done), by repeat (first | exact Drawn0.refl _ | apply Drawn0.step)⟩
mutual
def isobathlaw01_BoundKleene.l0 : Nat → List Int → List Int → Int → Int → Option (Bool)
 | 0, _, _, _, _ => none
 | k + 1, x0, x3, x4, x5 => if x5 < (x0.length : Int) then (if 0 ≤ x5 then ((bound_Not.f (rd x0 x5)).bind fun bt103 => ((bound_Not.f bt103.1).bind fun bt105 => (if bt103.2 = 0 then (if bt105.2 = 0 then (isobathlaw01_BoundKleene.j1 k x0 x3 x4 x5 bt103.1 (bt105.1 != (rd x0 x5))) else (none)) else (if (rd x0 x5) < 0 then (if bt103.2 = 2 then ((isobathlaw01_Works.f k).bind fun t108 => (some t108)) else (none)) else (if (rd x0 x5) > 2 then (if bt103.2 = 2 then ((isobathlaw01_Works.f k).bind fun t110 => (some t110)) else (none)) else (none)))))) else (none)) else ((bound_All.f k x0).bind fun bt116 => ((bound_Any.f k x3).bind fun bt118 => (if bt116.2 = 0 then (if bt118.2 = 0 then (isobathlaw01_BoundKleene.j2 k x0 x4 bt116.1 (bt116.1 != (wrap64 (2 - bt118.1)))) else (none)) else (none))))
def isobathlaw01_BoundKleene.j1 : Nat → List Int → List Int → Int → Int → Int → Bool → Option (Bool)
 | 0, _, _, _, _, _, _ => none
 | k + 1, x0, x3, x4, x5, x6, x74 => if x74 = true then (none) else (if x3.length < 17592186044416 then ((some (x3 ++ [x6] : List Int)).bind fun y112 => (if 0 ≤ x5 then (if x5 < (x0.length : Int) then (if (rd x0 x5) = 1 then (isobathlaw01_BoundKleene.l0 k x0 y112 (wrap64 (x4 + 1)) (wrap64 (x5 + 1))) else (isobathlaw01_BoundKleene.l0 k x0 y112 x4 (wrap64 (x5 + 1)))) else (none)) else (none))) else (none))
def isobathlaw01_BoundKleene.j2 : Nat → List Int → Int → Int → Bool → Option (Bool)
 | 0, _, _, _, _ => none
 | k + 1, x0, x4, x10, x107 => if x107 = true then (none) else (isobathlaw01_BoundKleene.l1 k x0 x4 x10 true true 0)
def isobathlaw01_BoundKleene.l1 : Nat → List Int → Int → Int → Bool → Bool → Int → Option (Bool)
 | 0, _, _, _, _, _, _ => none
 | k + 1, x0, x4, x10, x14, x15, x16 => if 0 ≤ (IntKind.u64.wrap (x4)) then (if x16 < (shl .i64 1 (IntKind.u64.wrap (x4))) then (isobathlaw01_BoundKleene.l2 k x0 x4 x10 x14 x15 x16 x16 true 0) else (if ((x10 == 2) == x14) = true then (if ((x10 == 0) == x15) = true then ((isobathlaw01_Works.f k).bind fun t120 => (some t120)) else (none)) else (none))) else (none)
def isobathlaw01_BoundKleene.l2 : Nat → List Int → Int → Int → Bool → Bool → Int → Int → Bool → Int → Option (Bool)
 | 0, _, _, _, _, _, _, _, _, _ => none
 | k + 1, x0, x4, x10, x14, x15, x16, x17, x18, x19 => if x19 < (x0.length : Int) then (if 0 ≤ x19 then (if (rd x0 x19) = 1 then (if x18 = true then (isobathlaw01_BoundKleene.l2 k x0 x4 x10 x14 x15 x16 (wrap64 (Int.tdiv x17 2)) ((Int.tmod x17 2) == 1) (wrap64 (x19 + 1))) else (isobathlaw01_BoundKleene.l2 k x0 x4 x10 x14 x15 x16 (wrap64 (Int.tdiv x17 2)) false (wrap64 (x19 + 1)))) else (if x18 = true then (isobathlaw01_BoundKleene.l2 k x0 x4 x10 x14 x15 x16 x17 ((rd x0 x19) == 2) (wrap64 (x19 + 1))) else (isobathlaw01_BoundKleene.l2 k x0 x4 x10 x14 x15 x16 x17 false (wrap64 (x19 + 1))))) else (none)) else (if x14 = true then (if x15 = true then (isobathlaw01_BoundKleene.l1 k x0 x4 x10 x18 (!x18) (wrap64 (x16 + 1))) else (isobathlaw01_BoundKleene.l1 k x0 x4 x10 x18 false (wrap64 (x16 + 1)))) else (if x15 = true then (isobathlaw01_BoundKleene.l1 k x0 x4 x10 false (!x18) (wrap64 (x16 + 1))) else (isobathlaw01_BoundKleene.l1 k x0 x4 x10 false false (wrap64 (x16 + 1)))))
end
def isobathlaw01_BoundKleene.f (k : Nat) (l0 : List Int) : Option (Bool) := if (l0.length : Int) > 12 then ((isobathlaw01_Works.f k).bind fun t101 => (some t101)) else (isobathlaw01_BoundKleene.l0 k l0 ([] : List Int) 0 0)
set_option maxHeartbeats 8000000 in
set_option maxRecDepth 100000 in
theorem isobathlaw01_BoundKleene.calls (k : Nat) (A0 : Option Addr) (c0 : Nat) (l0 : List Int) (r : Bool) (w : World) (hr0 : Kd.C (Kd.int .i64) w A0 l0.length l0) (hc0 : l0.length ≤ c0) (h : isobathlaw01_BoundKleene.f k l0 = some r) :
  Calls Try.prog 3 #[.slice A0 l0.length c0] w fun e w' => e = .returned (.bool r) ∧ Below w.heap.size w w' := by
 have HR0 := zam hr0
 have HC0 := zam hc0
 clear hr0 hc0
 have HB := zam (Below.refl w.heap.size w)
 have H : (if (l0.length : Int) > 12 then ((isobathlaw01_Works.f k).bind fun t101 => (some t101)) else (isobathlaw01_BoundKleene.l0 k l0 ([] : List Int) 0 0)) = some r := h
 clear h
 by_cases c2 : (l0.length : Int) > 12
 ·rw [if_pos c2] at H
  have c2b0 : decide (12 < (l0.length : Int)) = true := zdt c2
  have c2b1 : decide (12 < l0.length) = true := zdt (by omega)
  clear c2
  replace H := Option.bind_eq_some_iff.mp H
  obtain ⟨t101, A30, H⟩ := H
  replace H : (some t101) = some r := H
  have A3 := zam A30
  clear A30
  obtain rfl := zsi H
  go_enter Try.func3, Try.ntmps3
  go_wp2_with (first | ((with_reducible refine zgc (f := 18) rfl ?_); refine goesL_ (some 24) rfl rfl Try.func18 (by kernel_rfl) rfl #[] rfl (by (try simp only [zmt, List.map_cons, List.map_nil]); first | done | rfl | (simp only [zld, zlt]; rfl)) ?_; (with_reducible refine (isobathlaw01_Works.calls k  t101 _ A3.out).mono ?_); rintro e w4 ⟨rfl, hb⟩; refine ⟨_, rfl, ?_⟩; have n0_ := zam (zbt (by repeat (first | (with_reducible first | exact HB.out | apply zba | apply zbn | apply zb1) | exact HB.out)) hb); clear HB; have HB := n0_; clear n0_; (try clear hb); (try clear hb2); (try clear hk); (try clear hi)))
  go_ret
  exact ⟨by first | rfl | (simp [errW_none, errW_some] <;> rfl) | (simp [*, errW_none, errW_some] <;> rfl), by repeat (first | (with_reducible first | exact HB.out | apply zba | apply zbn | apply zb1) | exact HB.out)⟩
 rw [if_neg c2] at H
 have c2b0 : decide (12 < (l0.length : Int)) = false := zdf c2
 have c2b1 : decide (12 < l0.length) = false := zdf (by omega)
 clear c2
 have H' := zam H
 clear H
 go_enter Try.func3, Try.ntmps3
 go_wp2
 go_loopg [3, 4, 5] k (fun kq v3 v4 v5 w' => ∃ (x3_1 : List Int) (x4_1 : Int) (x5_1 : Int), v4 = .int .i64 x4_1 ∧ v5 = .int .i64 x5_1 ∧ Aside0 (isobathlaw01_BoundKleene.l0 kq l0 x3_1 x4_1 x5_1 = some r) ∧ Aside0 (kq ≤ k) ∧ Aside0 (Kd.R (Kd.int .i64) 24 w' w.heap.size (fun _ => True) v3 x3_1) ∧ Aside0 (Below w.heap.size w w'))
 case atStart => exact ⟨(([] : List Int)), (0), (0), (by first | rfl | (simp; done) | (simp [*]; done)), (by first | rfl | (simp; done) | (simp [*]; done)), H', ⟨Nat.le_refl _⟩, ⟨by first | exact Kd.R_nil _ _ _ _ _ | exact Kd.N_nil _ _ _ _ _ | exact Kd.V_nil _ _ _ _ _ | exact Kd.Q_nil _ _ _ _ _ | exact Kd.S_nil _ _ _ _ _⟩, ⟨by repeat (first | (with_reducible first | exact HB.out | apply zba | apply zbn | apply zb1) | exact HB.out)⟩⟩
 case round =>
  clear H'
  try clear c1
  try clear c2
  try clear c2b0
  try clear c2b1
  try clear p2
  try clear c3
  obtain ⟨x3_1, x4_1, x5_1, rfl, rfl, HA, HK1, HO_3, HB⟩ := hrel
  cases gk with
  | zero => exact absurd HA.out (by simp [isobathlaw01_BoundKleene.l0])
  | succ k1 =>
   have H := HA.out
   clear HA
   simp only [isobathlaw01_BoundKleene.l0] at H
   by_cases c5 : x5_1 < (l0.length : Int)
   ·rw [if_pos c5] at H
    have c5b0 : decide (x5_1 < (l0.length : Int)) = true := zdt c5
    clear c5
    by_cases c6 : 0 ≤ x5_1
    ·rw [if_pos c6] at H
     have c6b0 : decide (0 ≤ x5_1) = true := zdt c6
     clear c6
     replace H := Option.bind_eq_some_iff.mp H
     obtain ⟨⟨t103, t104⟩, A70, H⟩ := H
     replace H : ((bound_Not.f t103).bind fun bt105 => (if t104 = 0 then (if bt105.2 = 0 then (isobathlaw01_BoundKleene.j1 k1 l0 x3_1 x4_1 x5_1 t103 (bt105.1 != (rd l0 x5_1))) else (none)) else (if (rd l0 x5_1) < 0 then (if t104 = 2 then ((isobathlaw01_Works.f k1).bind fun t108 => (some t108)) else (none)) else (if (rd l0 x5_1) > 2 then (if t104 = 2 then ((isobathlaw01_Works.f k1).bind fun t110 => (some t110)) else (none)) else (none))))) = some r := H
     have A7 := zam A70
     clear A70
     replace H := Option.bind_eq_some_iff.mp H
     obtain ⟨⟨t105, t106⟩, A80, H⟩ := H
     replace H : (if t104 = 0 then (if t106 = 0 then (isobathlaw01_BoundKleene.j1 k1 l0 x3_1 x4_1 x5_1 t103 (t105 != (rd l0 x5_1))) else (none)) else (if (rd l0 x5_1) < 0 then (if t104 = 2 then ((isobathlaw01_Works.f k1).bind fun t108 => (some t108)) else (none)) else (if (rd l0 x5_1) > 2 then (if t104 = 2 then ((isobathlaw01_Works.f k1).bind fun t110 => (some t110)) else (none)) else (none)))) = some r := H
     have A8 := zam A80
     clear A80
     by_cases c9 : t104 = 0
     ·rw [if_pos c9] at H
      have c9b0 : (t104 == 0) = true := beq_iff_eq.mpr c9
      have c9b1 : (t104 != 0) = false := bne_eq_false_iff_eq.mpr c9
      clear c9
      have HC10 := zam H
      clear H
      have p102 : 0 ≤ (x5_1 : Int) := zod (by first | (with_reducible assumption) | assumption)
      have q102 : x5_1 < (l0.length : Int) := zod (by first | (with_reducible assumption) | assumption)
      obtain ⟨ad102, e102, hx102_0⟩ := Kd.at_int HR0.out x5_1 p102 q102
      cases e102
      replace hx102_0 := (HB.out.cell (World.block_lt_of_cell? w _ hx102_0)).trans hx102_0
      replace p102 := eq_true p102
      replace q102 := eq_true q102
      go_upto_region 12 with (first | ((with_reducible refine zgc (f := 19) rfl ?_); refine goesL_ (some 36) rfl rfl Try.func19 (by kernel_rfl) rfl #[.int .i64 (rd l0 x5_1)] rfl (by (try simp only [zmt, List.map_cons, List.map_nil]); first | done | rfl | (simp only [zld, zlt]; rfl)) ?_; (with_reducible refine (bound_Not.calls (rd l0 x5_1) t103 t104 _ A7.out).mono ?_); rintro e w' ⟨rfl, ⟨nd, rfl⟩⟩; refine ⟨_, rfl, ?_⟩) | ((with_reducible refine zgc (f := 19) rfl ?_); refine goesL_ (some 41) rfl rfl Try.func19 (by kernel_rfl) rfl #[.int .i64 t103] rfl (by (try simp only [zmt, List.map_cons, List.map_nil]); first | done | rfl | (simp only [zld, zlt]; rfl)) ?_; (with_reducible refine (bound_Not.calls t103 t105 t106 _ A8.out).mono ?_); rintro e w' ⟨rfl, ⟨nd, rfl⟩⟩; refine ⟨_, rfl, ?_⟩))
      (try simp only [Act.put, zsa, zsz, zss])
      go_cut [74] (fun v74 wc => ∃ (kq : Nat) (x74_9 : Bool), v74 = .bool x74_9 ∧ Aside0 (isobathlaw01_BoundKleene.j1 kq l0 x3_1 x4_1 x5_1 t103 x74_9 = some r) ∧ Aside0 (kq ≤ k1) ∧ Aside0 (Kd.R (Kd.int .i64) 24 wc w.heap.size (fun _ => True) u3 x3_1) ∧ Aside0 (Below w.heap.size w wc))
      case first =>
       have H := HC10.out
       clear HC10
       by_cases c11 : t106 = 0
       ·rw [if_pos c11] at H
        have c11b0 : (t106 == 0) = true := beq_iff_eq.mpr c11
        have c11b1 : (t106 != 0) = false := bne_eq_false_iff_eq.mpr c11
        clear c11
        (first | rw [c11b0] | (simp only [i64_w, i32_w]; rw [c11b0]) | skip)
        have H' := zam H
        clear H
        have p111 : 0 ≤ (x5_1 : Int) := zod (by first | (with_reducible assumption) | assumption)
        have q111 : x5_1 < (l0.length : Int) := zod (by first | (with_reducible assumption) | assumption)
        obtain ⟨ad111, e111, hx111_0⟩ := Kd.at_int HR0.out x5_1 p111 q111
        obtain rfl : ad102 = ad111 := (by injection e111)
        replace hx111_0 := (HB.out.cell (World.block_lt_of_cell? w _ hx111_0)).trans hx111_0
        replace p111 := eq_true p111
        replace q111 := eq_true q111
        go_wp2
        go_meet
        case rel => exact ⟨_, ((t105 != (rd l0 x5_1))), (by first | rfl | (simp; done) | (simp [*]; done)), H', ⟨by have := HK1.out; first | omega | exact Nat.le_refl _⟩, ⟨by (with_reducible repeat (first | apply zRa | apply zRn | apply zRd)); exact HO_3.out⟩, ⟨by repeat (first | (with_reducible first | exact HB.out | apply zba | apply zbn | apply zb1) | exact HB.out)⟩⟩
       rw [if_neg c11] at H
       exact absurd H (by simp)
      case rest =>
       clear HC10
       try clear c1
       try clear p1
       try clear q1
       try clear hx1
       try clear c2
       try clear c2b0
       try clear c2b1
       try clear p2
       try clear c3
       try clear c5
       try clear c5b0
       try clear c6
       try clear c6b0
       try clear c9
       try clear c9b0
       try clear c9b1
       try clear p10
       try clear q10
       try clear hx10
       try clear c11
       try clear c11b0
       try clear c11b1
       try clear p11
       try clear q11
       try clear hx11
       try clear hx102_0
       try clear hx111_0
       try clear p102
       try clear p111
       try clear p2
       try clear q102
       try clear q111
       obtain ⟨kq, x74_9, rfl, HA, HJ9, HO_3, HB⟩ := hcut
       cases kq with
       | zero => exact absurd HA.out (by simp [isobathlaw01_BoundKleene.j1])
       | succ kj9 =>
        have H := HA.out
        clear HA
        simp only [isobathlaw01_BoundKleene.j1] at H
        by_cases c12 : x74_9 = true
        ·subst c12
         have H1 : (none) = some r := by rw [if_pos rfl] at H; exact H
         clear H
         have H := H1
         clear H1
         exact absurd H (by simp)
        replace c12 := Bool.eq_false_iff.mpr c12
        subst c12
        have H1 : (if x3_1.length < 17592186044416 then ((some (x3_1 ++ [t103] : List Int)).bind fun y112 => (if 0 ≤ x5_1 then (if x5_1 < (l0.length : Int) then (if (rd l0 x5_1) = 1 then (isobathlaw01_BoundKleene.l0 kj9 l0 y112 (wrap64 (x4_1 + 1)) (wrap64 (x5_1 + 1))) else (isobathlaw01_BoundKleene.l0 kj9 l0 y112 x4_1 (wrap64 (x5_1 + 1)))) else (none)) else (none))) else (none)) = some r := by rw [if_neg (show ¬ (false = true) by decide)] at H; exact H
        clear H
        have H := H1
        clear H1
        by_cases c13 : x3_1.length < 17592186044416
        ·rw [if_pos c13] at H
         have LMc13 := zam c13
         clear c13
         obtain ⟨y112, hy112⟩ : ∃ y_ : List Int, y_ = (x3_1 ++ [t103]) := ⟨_, rfl⟩
         replace H : (if 0 ≤ x5_1 then (if x5_1 < (l0.length : Int) then (if (rd l0 x5_1) = 1 then (isobathlaw01_BoundKleene.l0 kj9 l0 y112 (wrap64 (x4_1 + 1)) (wrap64 (x5_1 + 1))) else (isobathlaw01_BoundKleene.l0 kj9 l0 y112 x4_1 (wrap64 (x5_1 + 1)))) else (none)) else (none)) = some r := by first | (rw [hy112]; with_reducible exact H) | (have H2_ := (Option.bind_some _ _).symm.trans H; rw [hy112]; with_reducible exact H2_) | (have H2_ := (Option.bind_some _ _).symm.trans H; with_reducible exact H2_) | with_reducible exact H | (rw [hy112]; exact H) | exact H
         have Ny112 := zam hy112
         clear hy112
         by_cases c14 : 0 ≤ x5_1
         ·rw [if_pos c14] at H
          have c14b0 : decide (0 ≤ x5_1) = true := zdt c14
          clear c14
          by_cases c15 : x5_1 < (l0.length : Int)
          ·rw [if_pos c15] at H
           have c15b0 : decide (x5_1 < (l0.length : Int)) = true := zdt c15
           clear c15
           by_cases c16 : (rd l0 x5_1) = 1
           ·rw [if_pos c16] at H
            have c16b0 : ((rd l0 x5_1) == 1) = true := beq_iff_eq.mpr c16
            have c16b1 : ((rd l0 x5_1) != 1) = false := bne_eq_false_iff_eq.mpr c16
            clear c16
            have H' := zam H
            clear H
            go_wp2_with (first | ((with_reducible refine gate_builtin (b := .append) (xs := #[.tmp 75, .tmp 77]) rfl ?_); at_builtin; refine Kd.R_append (Kd.int .i64) (w0 := w) w.heap.size rfl (.tmp 75) (.tmp 77) 22 24 (.int .i64 0) 8 rfl Try.underlying22 info24 rfl (by decide) (by omega) u3 x3_1 t103 [.int .i64 t103] (fun _ => True) (fun _ => False) rfl rfl ?aP (fun _ hk => hk.elim) ?aF ?aO ?aB ?aS ?aL ?_; (case aP => exact rfl); (case aB => exact (by repeat (first | (with_reducible first | exact HB.out | apply zba | apply zbn | apply zb1) | exact HB.out))); (case aF => exact (fun _ _ => trivial)); (case aO => exact (by (with_reducible repeat (first | apply zRa | apply zRn | apply zRd)); exact HO_3.out)); (case aS => exact (zbz (by repeat (first | (with_reducible first | exact HB.out | apply zba | apply zbn | apply zb1) | exact HB.out)))); (case aL => have := LMc13.out; omega); intro v113 w17 ho hb hg hat; rw [← Ny112.out] at ho; have n0_ := zam (hb); have n1_ := zam (ho); clear HB; clear HO_3; have HB := n0_; have HO114 := n1_; clear n0_ n1_; clear ho hb hg hat; have p115 : 0 ≤ (x5_1 : Int) := zod (by first | (with_reducible assumption) | assumption); have q115 : x5_1 < (l0.length : Int) := zod (by first | (with_reducible assumption) | assumption); obtain ⟨ad115, e115, hx115_0⟩ := Kd.at_int HR0.out x5_1 p115 q115; obtain rfl : ad102 = ad115 := (by injection e115); replace hx115_0 := (HB.out.cell (World.block_lt_of_cell? w _ hx115_0)).trans hx115_0; replace p115 := eq_true p115; replace q115 := eq_true q115))
            go_roundg kj9
            case measure => have := HK1.out; have := HJ9.out; omega
            case rel => exact ⟨(y112), (wrap64 (x4_1 + 1)), (wrap64 (x5_1 + 1)), (by first | rfl | (simp; done) | (simp [*]; done)), (by first | rfl | (simp; done) | (simp [*]; done)), H', ⟨by have := HK1.out; have := HJ9.out; omega⟩, ⟨by (with_reducible repeat (first | apply zRa | apply zRn | apply zRd)); exact HO114.out⟩, ⟨by repeat (first | (with_reducible first | exact HB.out | apply zba | apply zbn | apply zb1) | exact HB.out)⟩⟩
           rw [if_neg c16] at H
           have c16b0 : ((rd l0 x5_1) == 1) = false := beq_eq_false_iff_ne.mpr c16
           have c16b1 : ((rd l0 x5_1) != 1) = true := bne_iff_ne.mpr c16
           have H' := zam H
           clear H
           go_wp2_with (first | ((with_reducible refine gate_builtin (b := .append) (xs := #[.tmp 75, .tmp 77]) rfl ?_); at_builtin; refine Kd.R_append (Kd.int .i64) (w0 := w) w.heap.size rfl (.tmp 75) (.tmp 77) 22 24 (.int .i64 0) 8 rfl Try.underlying22 info24 rfl (by decide) (by omega) u3 x3_1 t103 [.int .i64 t103] (fun _ => True) (fun _ => False) rfl rfl ?aP (fun _ hk => hk.elim) ?aF ?aO ?aB ?aS ?aL ?_; (case aP => exact rfl); (case aB => exact (by repeat (first | (with_reducible first | exact HB.out | apply zba | apply zbn | apply zb1) | exact HB.out))); (case aF => exact (fun _ _ => trivial)); (case aO => exact (by (with_reducible repeat (first | apply zRa | apply zRn | apply zRd)); exact HO_3.out)); (case aS => exact (zbz (by repeat (first | (with_reducible first | exact HB.out | apply zba | apply zbn | apply zb1) | exact HB.out)))); (case aL => have := LMc13.out; omega); intro v113 w18 ho hb hg hat; rw [← Ny112.out] at ho; have n0_ := zam (hb); have n1_ := zam (ho); clear HB; clear HO_3; have HB := n0_; have HO114 := n1_; clear n0_ n1_; clear ho hb hg hat; have p115 : 0 ≤ (x5_1 : Int) := zod (by first | (with_reducible assumption) | assumption); have q115 : x5_1 < (l0.length : Int) := zod (by first | (with_reducible assumption) | assumption); obtain ⟨ad115, e115, hx115_0⟩ := Kd.at_int HR0.out x5_1 p115 q115; obtain rfl : ad102 = ad115 := (by injection e115); replace hx115_0 := (HB.out.cell (World.block_lt_of_cell? w _ hx115_0)).trans hx115_0; replace p115 := eq_true p115; replace q115 := eq_true q115))
           go_roundg kj9
           case measure => have := HK1.out; have := HJ9.out; omega
           case rel => exact ⟨(y112), (x4_1), (wrap64 (x5_1 + 1)), (by first | rfl | (simp; done) | (simp [*]; done)), (by first | rfl | (simp; done) | (simp [*]; done)), H', ⟨by have := HK1.out; have := HJ9.out; omega⟩, ⟨by (with_reducible repeat (first | apply zRa | apply zRn | apply zRd)); exact HO114.out⟩, ⟨by repeat (first | (with_reducible first | exact HB.out | apply zba | apply zbn | apply zb1) | exact HB.out)⟩⟩
          rw [if_neg c15] at H
          exact absurd H (by simp)
         rw [if_neg c14] at H
         exact absurd H (by simp)
        rw [if_neg c13] at H
        exact absurd H (by simp)
     rw [if_neg c9] at H
     have c9b0 : (t104 == 0) = false := beq_eq_false_iff_ne.mpr c9
     have c9b1 : (t104 != 0) = true := bne_iff_ne.mpr c9
     by_cases c19 : (rd l0 x5_1) < 0
     ·rw [if_pos c19] at H
      have c19b0 : decide ((rd l0 x5_1) < 0) = true := zdt c19
      clear c19
      by_cases c20 : t104 = 2
      ·rw [if_pos c20] at H
       have c20b0 : (t104 == 2) = true := beq_iff_eq.mpr c20
       have c20b1 : (t104 != 2) = false := bne_eq_false_iff_eq.mpr c20
       clear c20
       replace H := Option.bind_eq_some_iff.mp H
       obtain ⟨t108, A210, H⟩ := H
       replace H : (some t108) = some r := H
       have A21 := zam A210
       clear A210
       obtain rfl := zsi H
       have p102 : 0 ≤ (x5_1 : Int) := zod (by first | (with_reducible assumption) | assumption)
       have q102 : x5_1 < (l0.length : Int) := zod (by first | (with_reducible assumption) | assumption)
       obtain ⟨ad102, e102, hx102_0⟩ := Kd.at_int HR0.out x5_1 p102 q102
       cases e102
       replace hx102_0 := (HB.out.cell (World.block_lt_of_cell? w _ hx102_0)).trans hx102_0
       replace p102 := eq_true p102
       replace q102 := eq_true q102
       go_wp2_with (first | ((with_reducible refine zgc (f := 19) rfl ?_); refine goesL_ (some 36) rfl rfl Try.func19 (by kernel_rfl) rfl #[.int .i64 (rd l0 x5_1)] rfl (by (try simp only [zmt, List.map_cons, List.map_nil]); first | done | rfl | (simp only [zld, zlt]; rfl)) ?_; (with_reducible refine (bound_Not.calls (rd l0 x5_1) t103 t104 _ A7.out).mono ?_); rintro e w' ⟨rfl, ⟨nd, rfl⟩⟩; refine ⟨_, rfl, ?_⟩) | ((with_reducible refine zgc (f := 19) rfl ?_); refine goesL_ (some 41) rfl rfl Try.func19 (by kernel_rfl) rfl #[.int .i64 t103] rfl (by (try simp only [zmt, List.map_cons, List.map_nil]); first | done | rfl | (simp only [zld, zlt]; rfl)) ?_; (with_reducible refine (bound_Not.calls t103 t105 t106 _ A8.out).mono ?_); rintro e w' ⟨rfl, ⟨nd, rfl⟩⟩; refine ⟨_, rfl, ?_⟩; have p107 : 0 ≤ (x5_1 : Int) := zod (by first | (with_reducible assumption) | assumption); have q107 : x5_1 < (l0.length : Int) := zod (by first | (with_reducible assumption) | assumption); obtain ⟨ad107, e107, hx107_0⟩ := Kd.at_int HR0.out x5_1 p107 q107; obtain rfl : ad102 = ad107 := (by injection e107); replace hx107_0 := (HB.out.cell (World.block_lt_of_cell? w _ hx107_0)).trans hx107_0; replace p107 := eq_true p107; replace q107 := eq_true q107) | (go_at_call 18; (with_reducible refine (isobathlaw01_Works.calls k1  t108 _ A21.out).mono ?_); rintro e w22 ⟨rfl, hb⟩; have n0_ := zam (Kd.R_below (by (with_reducible repeat (first | apply zRa | apply zRn | apply zRd)); exact HO_3.out) hb); have n1_ := zam (zbt (by repeat (first | (with_reducible first | exact HB.out | apply zba | apply zbn | apply zb1) | exact HB.out)) hb); clear HO_3; clear HB; have HO_3 := n0_; have HB := n1_; clear n0_ n1_; (try clear hb); (try clear hb2); (try clear hk); (try clear hi)))
       go_ret
       exact ⟨by first | rfl | (simp [errW_none, errW_some] <;> rfl) | (simp [*, errW_none, errW_some] <;> rfl), by repeat (first | (with_reducible first | exact HB.out | apply zba | apply zbn | apply zb1) | exact HB.out)⟩
      rw [if_neg c20] at H
      exact absurd H (by simp)
     rw [if_neg c19] at H
     have c19b0 : decide ((rd l0 x5_1) < 0) = false := zdf c19
     clear c19
     by_cases c23 : (rd l0 x5_1) > 2
     ·rw [if_pos c23] at H
      have c23b0 : decide (2 < (rd l0 x5_1)) = true := zdt c23
      clear c23
      by_cases c24 : t104 = 2
      ·rw [if_pos c24] at H
       have c24b0 : (t104 == 2) = true := beq_iff_eq.mpr c24
       have c24b1 : (t104 != 2) = false := bne_eq_false_iff_eq.mpr c24
       clear c24
       replace H := Option.bind_eq_some_iff.mp H
       obtain ⟨t110, A250, H⟩ := H
       replace H : (some t110) = some r := H
       have A25 := zam A250
       clear A250
       obtain rfl := zsi H
       have p102 : 0 ≤ (x5_1 : Int) := zod (by first | (with_reducible assumption) | assumption)
       have q102 : x5_1 < (l0.length : Int) := zod (by first | (with_reducible assumption) | assumption)
       obtain ⟨ad102, e102, hx102_0⟩ := Kd.at_int HR0.out x5_1 p102 q102
       cases e102
       replace hx102_0 := (HB.out.cell (World.block_lt_of_cell? w _ hx102_0)).trans hx102_0
       replace p102 := eq_true p102
       replace q102 := eq_true q102
       go_wp2_with (first | ((with_reducible refine zgc (f := 19) rfl ?_); refine goesL_ (some 36) rfl rfl Try.func19 (by kernel_rfl) rfl #[.int .i64 (rd l0 x5_1)] rfl (by (try simp only [zmt, List.map_cons, List.map_nil]); first | done | rfl | (simp only [zld, zlt]; rfl)) ?_; (with_reducible refine (bound_Not.calls (rd l0 x5_1) t103 t104 _ A7.out).mono ?_); rintro e w' ⟨rfl, ⟨nd, rfl⟩⟩; refine ⟨_, rfl, ?_⟩) | ((with_reducible refine zgc (f := 19) rfl ?_); refine goesL_ (some 41) rfl rfl Try.func19 (by kernel_rfl) rfl #[.int .i64 t103] rfl (by (try simp only [zmt, List.map_cons, List.map_nil]); first | done | rfl | (simp only [zld, zlt]; rfl)) ?_; (with_reducible refine (bound_Not.calls t103 t105 t106 _ A8.out).mono ?_); rintro e w' ⟨rfl, ⟨nd, rfl⟩⟩; refine ⟨_, rfl, ?_⟩; have p107 : 0 ≤ (x5_1 : Int) := zod (by first | (with_reducible assumption) | assumption); have q107 : x5_1 < (l0.length : Int) := zod (by first | (with_reducible assumption) | assumption); obtain ⟨ad107, e107, hx107_0⟩ := Kd.at_int HR0.out x5_1 p107 q107; obtain rfl : ad102 = ad107 := (by injection e107); replace hx107_0 := (HB.out.cell (World.block_lt_of_cell? w _ hx107_0)).trans hx107_0; replace p107 := eq_true p107; replace q107 := eq_true q107; have p109 : 0 ≤ (x5_1 : Int) := zod (by first | (with_reducible assumption) | assumption); have q109 : x5_1 < (l0.length : Int) := zod (by first | (with_reducible assumption) | assumption); obtain ⟨ad109, e109, hx109_0⟩ := Kd.at_int HR0.out x5_1 p109 q109; obtain rfl : ad102 = ad109 := (by injection e109); replace hx109_0 := (HB.out.cell (World.block_lt_of_cell? w _ hx109_0)).trans hx109_0; replace p109 := eq_true p109; replace q109 := eq_true q109) | (go_at_call 18; (with_reducible refine (isobathlaw01_Works.calls k1  t110 _ A25.out).mono ?_); rintro e w26 ⟨rfl, hb⟩; have n0_ := zam (Kd.R_below (by (with_reducible repeat (first | apply zRa | apply zRn | apply zRd)); exact HO_3.out) hb); have n1_ := zam (zbt (by repeat (first | (with_reducible first | exact HB.out | apply zba | apply zbn | apply zb1) | exact HB.out)) hb); clear HO_3; clear HB; have HO_3 := n0_; have HB := n1_; clear n0_ n1_; (try clear hb); (try clear hb2); (try clear hk); (try clear hi)))
       go_ret
       exact ⟨by first | rfl | (simp [errW_none, errW_some] <;> rfl) | (simp [*, errW_none, errW_some] <;> rfl), by repeat (first | (with_reducible first | exact HB.out | apply zba | apply zbn | apply zb1) | exact HB.out)⟩
      rw [if_neg c24] at H
      exact absurd H (by simp)
     rw [if_neg c23] at H
     exact absurd H (by simp)
    rw [if_neg c6] at H
    exact absurd H (by simp)
   rw [if_neg c5] at H
   have c5b0 : decide (x5_1 < (l0.length : Int)) = false := zdf c5
   clear c5
   replace H := Option.bind_eq_some_iff.mp H
   obtain ⟨⟨t116, t117⟩, A270, H⟩ := H
   replace H : ((bound_Any.f k1 x3_1).bind fun bt118 => (if t117 = 0 then (if bt118.2 = 0 then (isobathlaw01_BoundKleene.j2 k1 l0 x4_1 t116 (t116 != (wrap64 (2 - bt118.1)))) else (none)) else (none))) = some r := H
   have A27 := zam A270
   clear A270
   replace H := Option.bind_eq_some_iff.mp H
   obtain ⟨⟨t118, t119⟩, A280, H⟩ := H
   replace H : (if t117 = 0 then (if t119 = 0 then (isobathlaw01_BoundKleene.j2 k1 l0 x4_1 t116 (t116 != (wrap64 (2 - t118)))) else (none)) else (none)) = some r := H
   have A28 := zam A280
   clear A280
   have HC29 := zam H
   clear H
   go_upto_region 19 with (first | ((with_reducible refine zgc (f := 20) rfl ?_); refine goesL_ (some 88) rfl rfl Try.func20 (by kernel_rfl) rfl #[.slice A0 l0.length c0] rfl (by (try simp only [zmt, List.map_cons, List.map_nil]); first | done | rfl | (simp only [zld, zlt]; rfl)) ?_; (with_reducible refine (bound_All.calls k1 _ _ l0 t116 t117 _ ?side1 ?side2 A27.out).mono ?_); (case side1 => repeat (first | exact (Kd.C_below HR0.out HB.out) | (with_reducible refine Kd.C_alloc ?_ _) | (with_reducible refine Kd.C_drewN ?_ _) | (with_reducible refine Kd.C_drew ?_))); (case side2 => exact HC0.out); rintro e w30 ⟨rfl, hb⟩; refine ⟨_, rfl, ?_⟩; have n0_ := zam (Kd.R_below (by (with_reducible repeat (first | apply zRa | apply zRn | apply zRd)); exact HO_3.out) hb); have n1_ := zam (zbt (by repeat (first | (with_reducible first | exact HB.out | apply zba | apply zbn | apply zb1) | exact HB.out)) hb); clear HO_3; clear HB; have HO_3 := n0_; have HB := n1_; clear n0_ n1_; (try clear hb); (try clear hb2); (try clear hk); (try clear hi); obtain ⟨Ao31, co31, eo31⟩ := Kd.R_slice HO_3.out; subst eo31) | ((with_reducible refine zgc (f := 21) rfl ?_); refine goesL_ (some 93) rfl rfl Try.func21 (by kernel_rfl) rfl #[.slice Ao31 x3_1.length co31] rfl (by (try simp only [zmt, List.map_cons, List.map_nil]); first | done | rfl | (simp only [zld, zlt]; rfl)) ?_; (with_reducible refine (bound_Any.calls k1 _ _ x3_1 t118 t119 _ ?side1 ?side2 A28.out).mono ?_); (case side1 => repeat (first | exact (Kd.R_reads' HO_3.out).2.2 | (with_reducible refine Kd.C_alloc ?_ _) | (with_reducible refine Kd.C_drewN ?_ _) | (with_reducible refine Kd.C_drew ?_))); (case side2 => exact (Kd.R_reads' HO_3.out).2.1); rintro e w32 ⟨rfl, hb⟩; refine ⟨_, rfl, ?_⟩; have n0_ := zam (Kd.R_below (by (with_reducible repeat (first | apply zRa | apply zRn | apply zRd)); exact HO_3.out) hb); have n1_ := zam (zbt (by repeat (first | (with_reducible first | exact HB.out | apply zba | apply zbn | apply zb1) | exact HB.out)) hb); clear HO_3; clear HB; have HO_3 := n0_; have HB := n1_; clear n0_ n1_; (try clear hb); (try clear hb2); (try clear hk); (try clear hi)))
   (try simp only [Act.put, zsa, zsz, zss])
   go_cut [107] (fun v107 wc => ∃ (kq : Nat) (x107_28 : Bool), v107 = .bool x107_28 ∧ Aside0 (isobathlaw01_BoundKleene.j2 kq l0 x4_1 t116 x107_28 = some r) ∧ Aside0 (kq ≤ k1) ∧ Aside0 (Below w.heap.size w wc))
   case first =>
    have H := HC29.out
    clear HC29
    by_cases c33 : t117 = 0
    ·rw [if_pos c33] at H
     have c33b0 : (t117 == 0) = true := beq_iff_eq.mpr c33
     have c33b1 : (t117 != 0) = false := bne_eq_false_iff_eq.mpr c33
     clear c33
     (first | rw [c33b0] | (simp only [i64_w, i32_w]; rw [c33b0]) | skip)
     by_cases c34 : t119 = 0
     ·rw [if_pos c34] at H
      have c34b0 : (t119 == 0) = true := beq_iff_eq.mpr c34
      have c34b1 : (t119 != 0) = false := bne_eq_false_iff_eq.mpr c34
      clear c34
      have H' := zam H
      clear H
      go_wp2
      go_meet
      case rel => exact ⟨_, ((t116 != (wrap64 (2 - t118)))), (by first | rfl | (simp; done) | (simp [*]; done)), H', ⟨by have := HK1.out; first | omega | exact Nat.le_refl _⟩, ⟨by repeat (first | (with_reducible first | exact HB.out | apply zba | apply zbn | apply zb1) | exact HB.out)⟩⟩
     rw [if_neg c34] at H
     exact absurd H (by simp)
    rw [if_neg c33] at H
    exact absurd H (by simp)
   case rest =>
    clear HC29
    try clear c1
    try clear p1
    try clear q1
    try clear hx1
    try clear c2
    try clear c2b0
    try clear c2b1
    try clear p2
    try clear c3
    try clear c5
    try clear c5b0
    try clear c6
    try clear c6b0
    try clear p6
    try clear c9
    try clear c9b0
    try clear c9b1
    try clear p10
    try clear q10
    try clear hx10
    try clear c11
    try clear c11b0
    try clear c11b1
    try clear p11
    try clear q11
    try clear hx11
    try clear c12
    try clear c13
    try clear c14
    try clear c14b0
    try clear c15
    try clear c15b0
    try clear c16
    try clear c16b0
    try clear c16b1
    try clear c18
    try clear c19
    try clear c19b0
    try clear c20
    try clear c20b0
    try clear c20b1
    try clear c21
    try clear c23
    try clear c23b0
    try clear c24
    try clear c24b0
    try clear c24b1
    try clear c33
    try clear c33b0
    try clear c33b1
    try clear c34
    try clear c34b0
    try clear c34b1
    try clear hx102_0
    try clear hx107_0
    try clear hx109_0
    try clear hx111_0
    try clear hx115_0
    try clear p1
    try clear p10
    try clear p102
    try clear p107
    try clear p109
    try clear p11
    try clear p111
    try clear p115
    try clear p2
    try clear q1
    try clear q10
    try clear q102
    try clear q107
    try clear q109
    try clear q11
    try clear q111
    try clear q115
    obtain ⟨kq, x107_28, rfl, HA, HJ28, HB⟩ := hcut
    cases kq with
    | zero => exact absurd HA.out (by simp [isobathlaw01_BoundKleene.j2])
    | succ kj28 =>
     have H := HA.out
     clear HA
     simp only [isobathlaw01_BoundKleene.j2] at H
     by_cases c35 : x107_28 = true
     ·subst c35
      have H1 : (none) = some r := by rw [if_pos rfl] at H; exact H
      clear H
      have H := H1
      clear H1
      exact absurd H (by simp)
     replace c35 := Bool.eq_false_iff.mpr c35
     subst c35
     have H1 : (isobathlaw01_BoundKleene.l1 kj28 l0 x4_1 t116 true true 0) = some r := by rw [if_neg (show ¬ (false = true) by decide)] at H; exact H
     clear H
     have H := H1
     clear H1
     have H' := zam H
     clear H
     go_wp2
     go_loopg [14, 15, 16] kj28 (fun kq v14 v15 v16 w' => ∃ (x14_3 : Bool) (x15_3 : Bool) (x16_3 : Int), v14 = .bool x14_3 ∧ v15 = .bool x15_3 ∧ v16 = .int .i64 x16_3 ∧ Aside0 (isobathlaw01_BoundKleene.l1 kq l0 x4_1 t116 x14_3 x15_3 x16_3 = some r) ∧ Aside0 (kq ≤ kj28) ∧ Aside0 (Below w.heap.size w w'))
     case atStart => exact ⟨(true), (true), (0), (by first | rfl | (simp; done) | (simp [*]; done)), (by first | rfl | (simp; done) | (simp [*]; done)), (by first | rfl | (simp; done) | (simp [*]; done)), H', ⟨Nat.le_refl _⟩, ⟨by repeat (first | (with_reducible first | exact HB.out | apply zba | apply zbn | apply zb1) | exact HB.out)⟩⟩
     case round =>
      clear H'
      try clear c1
      try clear p1
      try clear q1
      try clear hx1
      try clear c2
      try clear c2b0
      try clear c2b1
      try clear p2
      try clear c3
      try clear c5
      try clear c5b0
      try clear c6
      try clear c6b0
      try clear p6
      try clear c9
      try clear c9b0
      try clear c9b1
      try clear p10
      try clear q10
      try clear hx10
      try clear c11
      try clear c11b0
      try clear c11b1
      try clear p11
      try clear q11
      try clear hx11
      try clear c12
      try clear c13
      try clear c14
      try clear c14b0
      try clear c15
      try clear c15b0
      try clear c16
      try clear c16b0
      try clear c16b1
      try clear c18
      try clear c19
      try clear c19b0
      try clear c20
      try clear c20b0
      try clear c20b1
      try clear c21
      try clear c23
      try clear c23b0
      try clear c24
      try clear c24b0
      try clear c24b1
      try clear c33
      try clear c33b0
      try clear c33b1
      try clear c34
      try clear c34b0
      try clear c34b1
      try clear c35
      try clear hx102_0
      try clear hx107_0
      try clear hx109_0
      try clear hx111_0
      try clear hx115_0
      try clear p1
      try clear p10
      try clear p102
      try clear p107
      try clear p109
      try clear p11
      try clear p111
      try clear p115
      try clear p2
      try clear p6
      try clear q1
      try clear q10
      try clear q102
      try clear q107
      try clear q109
      try clear q11
      try clear q111
      try clear q115
      obtain ⟨x14_3, x15_3, x16_3, rfl, rfl, rfl, HA, HK3, HB⟩ := hrel
      cases gk with
      | zero => exact absurd HA.out (by simp [isobathlaw01_BoundKleene.l1])
      | succ k3 =>
       have H := HA.out
       clear HA
       simp only [isobathlaw01_BoundKleene.l1] at H
       obtain ⟨ji36, hji36⟩ : ∃ j_ : Int, (IntKind.u64.wrap (x4_1)) = j_ := ⟨_, rfl⟩
       replace H : (if 0 ≤ (ji36) then (if x16_3 < (shl .i64 1 (ji36)) then (isobathlaw01_BoundKleene.l2 k3 l0 x4_1 t116 x14_3 x15_3 x16_3 x16_3 true 0) else (if ((t116 == 2) == x14_3) = true then (if ((t116 == 0) == x15_3) = true then ((isobathlaw01_Works.f k3).bind fun t120 => (some t120)) else (none)) else (none))) else (none)) = some r := by first | (rw [hji36] at H; exact H) | (simp only [hji36] at H ⊢; exact H)
       by_cases c37 : 0 ≤ (ji36)
       ·rw [if_pos c37] at H
        have c37b0 := eq_true c37
        have c37b1 : decide (0 ≤ (ji36)) = true := zdt c37
        clear c37
        obtain ⟨ji38, hji38⟩ : ∃ j_ : Int, (shl .i64 1 (ji36)) = j_ := ⟨_, rfl⟩
        replace H : (if x16_3 < (ji38) then (isobathlaw01_BoundKleene.l2 k3 l0 x4_1 t116 x14_3 x15_3 x16_3 x16_3 true 0) else (if ((t116 == 2) == x14_3) = true then (if ((t116 == 0) == x15_3) = true then ((isobathlaw01_Works.f k3).bind fun t120 => (some t120)) else (none)) else (none))) = some r := by first | (rw [hji38] at H; exact H) | (simp only [hji38] at H ⊢; exact H)
        have hji38_ : (IntKind.i64.wrap (1 * 2 ^ min (ji36).toNat 64)) = ji38 := hji38
        have hji38z : (ji36) ≤ 64 → (IntKind.i64.wrap (1 * 2 ^ (ji36).toNat)) = ji38 := shl_small hji38
        have hji38u : (IntKind.i64.wrap (2 ^ min (ji36).toNat 64)) = ji38 := by have h_ := hji38_; rw [Int.one_mul] at h_; exact h_
        have hji38v : (ji36) ≤ 64 → (IntKind.i64.wrap (2 ^ (ji36).toNat)) = ji38 := fun hle_ => by have h_ := hji38z hle_; rw [Int.one_mul] at h_; exact h_
        have hji38y : (wrap64 (1 * 2 ^ min (ji36).toNat 64)) = ji38 := (i64_w _).symm.trans hji38_
        have hji38x : (ji36) ≤ 64 → (wrap64 (1 * 2 ^ (ji36).toNat)) = ji38 := fun h_ => (i64_w _).symm.trans (hji38z h_)
        by_cases c39 : x16_3 < (ji38)
        ·rw [if_pos c39] at H
         have c39b0 : decide (x16_3 < (ji38)) = true := zdt c39
         clear c39
         have H' := zam H
         clear H
         go_wp2
         go_loopg [17, 18, 19] k3 (fun kq v17 v18 v19 w' => ∃ (x17_4 : Int) (x18_4 : Bool) (x19_4 : Int), v17 = .int .i64 x17_4 ∧ v18 = .bool x18_4 ∧ v19 = .int .i64 x19_4 ∧ Aside0 (isobathlaw01_BoundKleene.l2 kq l0 x4_1 t116 x14_3 x15_3 x16_3 x17_4 x18_4 x19_4 = some r) ∧ Aside0 (kq ≤ k3) ∧ Aside0 (Below w.heap.size w w'))
         case atStart => exact ⟨(x16_3), (true), (0), (by first | rfl | (simp; done) | (simp [*]; done)), (by first | rfl | (simp; done) | (simp [*]; done)), (by first | rfl | (simp; done) | (simp [*]; done)), H', ⟨Nat.le_refl _⟩, ⟨by repeat (first | (with_reducible first | exact HB.out | apply zba | apply zbn | apply zb1) | exact HB.out)⟩⟩
         case round =>
          clear H'
          try clear c1
          try clear p1
          try clear q1
          try clear hx1
          try clear c2
          try clear c2b0
          try clear c2b1
          try clear p2
          try clear c3
          try clear c5
          try clear c5b0
          try clear c6
          try clear c6b0
          try clear p6
          try clear c9
          try clear c9b0
          try clear c9b1
          try clear p10
          try clear q10
          try clear hx10
          try clear c11
          try clear c11b0
          try clear c11b1
          try clear p11
          try clear q11
          try clear hx11
          try clear c12
          try clear c13
          try clear c14
          try clear c14b0
          try clear c15
          try clear c15b0
          try clear c16
          try clear c16b0
          try clear c16b1
          try clear c18
          try clear c19
          try clear c19b0
          try clear c20
          try clear c20b0
          try clear c20b1
          try clear c21
          try clear c23
          try clear c23b0
          try clear c24
          try clear c24b0
          try clear c24b1
          try clear c33
          try clear c33b0
          try clear c33b1
          try clear c34
          try clear c34b0
          try clear c34b1
          try clear c35
          try clear c37
          try clear c37b0
          try clear c37b1
          try clear c39
          try clear c39b0
          try clear hx102_0
          try clear hx107_0
          try clear hx109_0
          try clear hx111_0
          try clear hx115_0
          try clear p1
          try clear p10
          try clear p102
          try clear p107
          try clear p109
          try clear p11
          try clear p111
          try clear p115
          try clear p2
          try clear p6
          try clear q1
          try clear q10
          try clear q102
          try clear q107
          try clear q109
          try clear q11
          try clear q111
          try clear q115
          obtain ⟨x17_4, x18_4, x19_4, rfl, rfl, rfl, HA, HK4, HB⟩ := hrel
          cases gk with
          | zero => exact absurd HA.out (by simp [isobathlaw01_BoundKleene.l2])
          | succ k4 =>
           have H := HA.out
           clear HA
           simp only [isobathlaw01_BoundKleene.l2] at H
           by_cases c40 : x19_4 < (l0.length : Int)
           ·rw [if_pos c40] at H
            have c40b0 : decide (x19_4 < (l0.length : Int)) = true := zdt c40
            clear c40
            by_cases c41 : 0 ≤ x19_4
            ·rw [if_pos c41] at H
             have c41b0 : decide (0 ≤ x19_4) = true := zdt c41
             clear c41
             by_cases c42 : (rd l0 x19_4) = 1
             ·rw [if_pos c42] at H
              have c42b0 : ((rd l0 x19_4) == 1) = true := beq_iff_eq.mpr c42
              have c42b1 : ((rd l0 x19_4) != 1) = false := bne_eq_false_iff_eq.mpr c42
              clear c42
              by_cases c43 : x18_4 = true
              ·subst c43
               have H1 : (isobathlaw01_BoundKleene.l2 k4 l0 x4_1 t116 x14_3 x15_3 x16_3 (wrap64 (Int.tdiv x17_4 2)) ((Int.tmod x17_4 2) == 1) (wrap64 (x19_4 + 1))) = some r := by rw [if_pos rfl] at H; exact H
               clear H
               have H := H1
               clear H1
               have H' := zam H
               clear H
               have p121 : 0 ≤ (x19_4 : Int) := zod (by first | (with_reducible assumption) | assumption)
               have q121 : x19_4 < (l0.length : Int) := zod (by first | (with_reducible assumption) | assumption)
               obtain ⟨ad121, e121, hx121_0⟩ := Kd.at_int HR0.out x19_4 p121 q121
               cases e121
               replace hx121_0 := (HB.out.cell (World.block_lt_of_cell? w _ hx121_0)).trans hx121_0
               replace p121 := eq_true p121
               replace q121 := eq_true q121
               have p122 : 0 ≤ (x19_4 : Int) := zod (by first | (with_reducible assumption) | assumption)
               have q122 : x19_4 < (l0.length : Int) := zod (by first | (with_reducible assumption) | assumption)
               obtain ⟨ad122, e122, hx122_0⟩ := Kd.at_int HR0.out x19_4 p122 q122
               obtain rfl : ad121 = ad122 := (by injection e122)
               replace hx122_0 := (HB.out.cell (World.block_lt_of_cell? w _ hx122_0)).trans hx122_0
               replace p122 := eq_true p122
               replace q122 := eq_true q122
               go_wp2
               go_roundg k4
               case measure => have := HK1.out; have := HJ28.out; have := HK3.out; have := HK4.out; omega
               case rel => exact ⟨(wrap64 (Int.tdiv x17_4 2)), (((Int.tmod x17_4 2) == 1)), (wrap64 (x19_4 + 1)), (by first | rfl | (simp; done) | (simp [*]; done)), (by first | rfl | (simp; done) | (simp [*]; done)), (by first | rfl | (simp; done) | (simp [*]; done)), H', ⟨by have := HK1.out; have := HJ28.out; have := HK3.out; have := HK4.out; omega⟩, ⟨by repeat (first | (with_reducible first | exact HB.out | apply zba | apply zbn | apply zb1) | exact HB.out)⟩⟩
              replace c43 := Bool.eq_false_iff.mpr c43
              subst c43
              have H1 : (isobathlaw01_BoundKleene.l2 k4 l0 x4_1 t116 x14_3 x15_3 x16_3 (wrap64 (Int.tdiv x17_4 2)) false (wrap64 (x19_4 + 1))) = some r := by rw [if_neg (show ¬ (false = true) by decide)] at H; exact H
              clear H
              have H := H1
              clear H1
              have H' := zam H
              clear H
              have p121 : 0 ≤ (x19_4 : Int) := zod (by first | (with_reducible assumption) | assumption)
              have q121 : x19_4 < (l0.length : Int) := zod (by first | (with_reducible assumption) | assumption)
              obtain ⟨ad121, e121, hx121_0⟩ := Kd.at_int HR0.out x19_4 p121 q121
              cases e121
              replace hx121_0 := (HB.out.cell (World.block_lt_of_cell? w _ hx121_0)).trans hx121_0
              replace p121 := eq_true p121
              replace q121 := eq_true q121
              have p122 : 0 ≤ (x19_4 : Int) := zod (by first | (with_reducible assumption) | assumption)
              have q122 : x19_4 < (l0.length : Int) := zod (by first | (with_reducible assumption) | assumption)
              obtain ⟨ad122, e122, hx122_0⟩ := Kd.at_int HR0.out x19_4 p122 q122
              obtain rfl : ad121 = ad122 := (by injection e122)
              replace hx122_0 := (HB.out.cell (World.block_lt_of_cell? w _ hx122_0)).trans hx122_0
              replace p122 := eq_true p122
              replace q122 := eq_true q122
              go_wp2
              go_roundg k4
              case measure => have := HK1.out; have := HJ28.out; have := HK3.out; have := HK4.out; omega
              case rel => exact ⟨(wrap64 (Int.tdiv x17_4 2)), (false), (wrap64 (x19_4 + 1)), (by first | rfl | (simp; done) | (simp [*]; done)), (by first | rfl | (simp; done) | (simp [*]; done)), (by first | rfl | (simp; done) | (simp [*]; done)), H', ⟨by have := HK1.out; have := HJ28.out; have := HK3.out; have := HK4.out; omega⟩, ⟨by repeat (first | (with_reducible first | exact HB.out | apply zba | apply zbn | apply zb1) | exact HB.out)⟩⟩
             rw [if_neg c42] at H
             have c42b0 : ((rd l0 x19_4) == 1) = false := beq_eq_false_iff_ne.mpr c42
             have c42b1 : ((rd l0 x19_4) != 1) = true := bne_iff_ne.mpr c42
             by_cases c44 : x18_4 = true
             ·subst c44
              have H1 : (isobathlaw01_BoundKleene.l2 k4 l0 x4_1 t116 x14_3 x15_3 x16_3 x17_4 ((rd l0 x19_4) == 2) (wrap64 (x19_4 + 1))) = some r := by rw [if_pos rfl] at H; exact H
              clear H
              have H := H1
              clear H1
              have H' := zam H
              clear H
              have p121 : 0 ≤ (x19_4 : Int) := zod (by first | (with_reducible assumption) | assumption)
              have q121 : x19_4 < (l0.length : Int) := zod (by first | (with_reducible assumption) | assumption)
              obtain ⟨ad121, e121, hx121_0⟩ := Kd.at_int HR0.out x19_4 p121 q121
              cases e121
              replace hx121_0 := (HB.out.cell (World.block_lt_of_cell? w _ hx121_0)).trans hx121_0
              replace p121 := eq_true p121
              replace q121 := eq_true q121
              have p122 : 0 ≤ (x19_4 : Int) := zod (by first | (with_reducible assumption) | assumption)
              have q122 : x19_4 < (l0.length : Int) := zod (by first | (with_reducible assumption) | assumption)
              obtain ⟨ad122, e122, hx122_0⟩ := Kd.at_int HR0.out x19_4 p122 q122
              obtain rfl : ad121 = ad122 := (by injection e122)
              replace hx122_0 := (HB.out.cell (World.block_lt_of_cell? w _ hx122_0)).trans hx122_0
              replace p122 := eq_true p122
              replace q122 := eq_true q122
              go_wp2
              go_roundg k4
              case measure => have := HK1.out; have := HJ28.out; have := HK3.out; have := HK4.out; omega
              case rel => exact ⟨(x17_4), (((rd l0 x19_4) == 2)), (wrap64 (x19_4 + 1)), (by first | rfl | (simp; done) | (simp [*]; done)), (by first | rfl | (simp; done) | (simp [*]; done)), (by first | rfl | (simp; done) | (simp [*]; done)), H', ⟨by have := HK1.out; have := HJ28.out; have := HK3.out; have := HK4.out; omega⟩, ⟨by repeat (first | (with_reducible first | exact HB.out | apply zba | apply zbn | apply zb1) | exact HB.out)⟩⟩
             replace c44 := Bool.eq_false_iff.mpr c44
             subst c44
             have H1 : (isobathlaw01_BoundKleene.l2 k4 l0 x4_1 t116 x14_3 x15_3 x16_3 x17_4 false (wrap64 (x19_4 + 1))) = some r := by rw [if_neg (show ¬ (false = true) by decide)] at H; exact H
             clear H
             have H := H1
             clear H1
             have H' := zam H
             clear H
             have p121 : 0 ≤ (x19_4 : Int) := zod (by first | (with_reducible assumption) | assumption)
             have q121 : x19_4 < (l0.length : Int) := zod (by first | (with_reducible assumption) | assumption)
             obtain ⟨ad121, e121, hx121_0⟩ := Kd.at_int HR0.out x19_4 p121 q121
             cases e121
             replace hx121_0 := (HB.out.cell (World.block_lt_of_cell? w _ hx121_0)).trans hx121_0
             replace p121 := eq_true p121
             replace q121 := eq_true q121
             have p122 : 0 ≤ (x19_4 : Int) := zod (by first | (with_reducible assumption) | assumption)
             have q122 : x19_4 < (l0.length : Int) := zod (by first | (with_reducible assumption) | assumption)
             obtain ⟨ad122, e122, hx122_0⟩ := Kd.at_int HR0.out x19_4 p122 q122
             obtain rfl : ad121 = ad122 := (by injection e122)
             replace hx122_0 := (HB.out.cell (World.block_lt_of_cell? w _ hx122_0)).trans hx122_0
             replace p122 := eq_true p122
             replace q122 := eq_true q122
             go_wp2
             go_roundg k4
             case measure => have := HK1.out; have := HJ28.out; have := HK3.out; have := HK4.out; omega
             case rel => exact ⟨(x17_4), (false), (wrap64 (x19_4 + 1)), (by first | rfl | (simp; done) | (simp [*]; done)), (by first | rfl | (simp; done) | (simp [*]; done)), (by first | rfl | (simp; done) | (simp [*]; done)), H', ⟨by have := HK1.out; have := HJ28.out; have := HK3.out; have := HK4.out; omega⟩, ⟨by repeat (first | (with_reducible first | exact HB.out | apply zba | apply zbn | apply zb1) | exact HB.out)⟩⟩
            rw [if_neg c41] at H
            exact absurd H (by simp)
           rw [if_neg c40] at H
           have c40b0 : decide (x19_4 < (l0.length : Int)) = false := zdf c40
           clear c40
           by_cases c45 : x14_3 = true
           ·subst c45
            have H1 : (if x15_3 = true then (isobathlaw01_BoundKleene.l1 k4 l0 x4_1 t116 x18_4 (!x18_4) (wrap64 (x16_3 + 1))) else (isobathlaw01_BoundKleene.l1 k4 l0 x4_1 t116 x18_4 false (wrap64 (x16_3 + 1)))) = some r := by rw [if_pos rfl] at H; exact H
            clear H
            have H := H1
            clear H1
            by_cases c46 : x15_3 = true
            ·subst c46
             have H1 : (isobathlaw01_BoundKleene.l1 k4 l0 x4_1 t116 x18_4 (!x18_4) (wrap64 (x16_3 + 1))) = some r := by rw [if_pos rfl] at H; exact H
             clear H
             have H := H1
             clear H1
             have H' := zam H
             clear H
             go_wp2
             go_roundg k4
             case measure => have := HK1.out; have := HJ28.out; have := HK3.out; have := HK4.out; omega
             case rel => exact ⟨(x18_4), (!x18_4), (wrap64 (x16_3 + 1)), (by first | rfl | (simp; done) | (simp [*]; done)), (by first | rfl | (simp; done) | (simp [*]; done)), (by first | rfl | (simp; done) | (simp [*]; done)), H', ⟨by have := HK1.out; have := HJ28.out; have := HK3.out; have := HK4.out; omega⟩, ⟨by repeat (first | (with_reducible first | exact HB.out | apply zba | apply zbn | apply zb1) | exact HB.out)⟩⟩
            replace c46 := Bool.eq_false_iff.mpr c46
            subst c46
            have H1 : (isobathlaw01_BoundKleene.l1 k4 l0 x4_1 t116 x18_4 false (wrap64 (x16_3 + 1))) = some r := by rw [if_neg (show ¬ (false = true) by decide)] at H; exact H
            clear H
            have H := H1
            clear H1
            have H' := zam H
            clear H
            go_wp2
            go_roundg k4
            case measure => have := HK1.out; have := HJ28.out; have := HK3.out; have := HK4.out; omega
            case rel => exact ⟨(x18_4), (false), (wrap64 (x16_3 + 1)), (by first | rfl | (simp; done) | (simp [*]; done)), (by first | rfl | (simp; done) | (simp [*]; done)), (by first | rfl | (simp; done) | (simp [*]; done)), H', ⟨by have := HK1.out; have := HJ28.out; have := HK3.out; have := HK4.out; omega⟩, ⟨by repeat (first | (with_reducible first | exact HB.out | apply zba | apply zbn | apply zb1) | exact HB.out)⟩⟩
           replace c45 := Bool.eq_false_iff.mpr c45
           subst c45
           have H1 : (if x15_3 = true then (isobathlaw01_BoundKleene.l1 k4 l0 x4_1 t116 false (!x18_4) (wrap64 (x16_3 + 1))) else (isobathlaw01_BoundKleene.l1 k4 l0 x4_1 t116 false false (wrap64 (x16_3 + 1)))) = some r := by rw [if_neg (show ¬ (false = true) by decide)] at H; exact H
           clear H
           have H := H1
           clear H1
           by_cases c47 : x15_3 = true
           ·subst c47
            have H1 : (isobathlaw01_BoundKleene.l1 k4 l0 x4_1 t116 false (!x18_4) (wrap64 (x16_3 + 1))) = some r := by rw [if_pos rfl] at H; exact H
            clear H
            have H := H1
            clear H1
            have H' := zam H
            clear H
            go_wp2
            go_roundg k4
            case measure => have := HK1.out; have := HJ28.out; have := HK3.out; have := HK4.out; omega
            case rel => exact ⟨(false), (!x18_4), (wrap64 (x16_3 + 1)), (by first | rfl | (simp; done) | (simp [*]; done)), (by first | rfl | (simp; done) | (simp [*]; done)), (by first | rfl | (simp; done) | (simp [*]; done)), H', ⟨by have := HK1.out; have := HJ28.out; have := HK3.out; have := HK4.out; omega⟩, ⟨by repeat (first | (with_reducible first | exact HB.out | apply zba | apply zbn | apply zb1) | exact HB.out)⟩⟩
           replace c47 := Bool.eq_false_iff.mpr c47
           subst c47
           have H1 : (isobathlaw01_BoundKleene.l1 k4 l0 x4_1 t116 false false (wrap64 (x16_3 + 1))) = some r := by rw [if_neg (show ¬ (false = true) by decide)] at H; exact H
           clear H
           have H := H1
           clear H1
           have H' := zam H
           clear H
           go_wp2
           go_roundg k4
           case measure => have := HK1.out; have := HJ28.out; have := HK3.out; have := HK4.out; omega
           case rel => exact ⟨(false), (false), (wrap64 (x16_3 + 1)), (by first | rfl | (simp; done) | (simp [*]; done)), (by first | rfl | (simp; done) | (simp [*]; done)), (by first | rfl | (simp; done) | (simp [*]; done)), H', ⟨by have := HK1.out; have := HJ28.out; have := HK3.out; have := HK4.out; omega⟩, ⟨by repeat (first | (with_reducible first | exact HB.out | apply zba | apply zbn | apply zb1) | exact HB.out)⟩⟩
        rw [if_neg c39] at H
        have c39b0 : decide (x16_3 < (ji38)) = false := zdf c39
        clear c39
        by_cases c48 : ((t116 == 2) == x14_3) = true
        ·rw [if_pos c48] at H
         have c48b0 : ((t116 == 2) == x14_3) = true := c48
         (try (have c48b1 : decide ((t116 == 2) = x14_3) = true := by simpa using c48))
         (try (have c48b2 : ((t116 == 2) == x14_3) = true := by simpa using c48))
         clear c48
         by_cases c49 : ((t116 == 0) == x15_3) = true
         ·rw [if_pos c49] at H
          have c49b0 : ((t116 == 0) == x15_3) = true := c49
          (try (have c49b1 : decide ((t116 == 0) = x15_3) = true := by simpa using c49))
          (try (have c49b2 : ((t116 == 0) == x15_3) = true := by simpa using c49))
          clear c49
          replace H := Option.bind_eq_some_iff.mp H
          obtain ⟨t120, A500, H⟩ := H
          replace H : (some t120) = some r := H
          have A50 := zam A500
          clear A500
          obtain rfl := zsi H
          go_wp2_with (first | (go_at_call 18; (with_reducible refine (isobathlaw01_Works.calls k3  t120 _ A50.out).mono ?_); rintro e w51 ⟨rfl, hb⟩; have n0_ := zam (zbt (by repeat (first | (with_reducible first | exact HB.out | apply zba | apply zbn | apply zb1) | exact HB.out)) hb); clear HB; have HB := n0_; clear n0_; (try clear hb); (try clear hb2); (try clear hk); (try clear hi)))
          go_ret
          exact ⟨by first | rfl | (simp [errW_none, errW_some] <;> rfl) | (simp only [← hji36, ← hji38]; first | rfl | (simp [errW_none, errW_some] <;> rfl)) | (simp [*, errW_none, errW_some] <;> rfl), by repeat (first | (with_reducible first | exact HB.out | apply zba | apply zbn | apply zb1) | exact HB.out)⟩
         rw [if_neg c49] at H
         exact absurd H (by simp)
        rw [if_neg c48] at H
        exact absurd H (by simp)
       rw [if_neg c37] at H
       exact absurd H (by simp)
end Go.Proofs.Ytlkafgibgipodaa.P
namespace Go.Proofs.Ytlkafgibgipodaa.P
open Go.RowKit Go.Proofs.YtlkafgibgipodaaW.PrintWords Go.Proofs.YtlkafgibgipodaaW.PrintLast Go.Proofs.YtlkafgibgipodaaW.PrintMore
namespace boundKleene
open Go.ChangeShapes Go.WideShapes Go.ChangeAt
set_option linter.unusedVariables false
set_option linter.unusedSimpArgs false
def Pure : Prop := ∀ (x0 : (List Int)), (fun xs : List Int => xs.length ≤ 9223372036854775807 ∧ ∀ x ∈ xs, (fun n : Int => (Lit.int .i64 n).wf = true) x) x0 → ∃ k, isobathlaw01_BoundKleene.f k x0 = some true
theorem own : ownKnob Try.prog.godebug = none := by kernel_rfl
theorem laidOut : laidOutB Try.prog = true := by kernel_rfl
set_option maxRecDepth 100000 in
theorem lifted (hP : Pure) (os : Os) (started : os.Started) (H : Type) (enc : TypeId × Value → H) :
  ReturnsInHanded {} Try.checked os 3 .any (Rows.boundKleeneSpec.pre6 enc Try.prog Try.f3 Rows.boundKleeneRow.domain false) (Rows.boundKleeneSpec.post enc Try.prog Try.f3 false true false false) := by
 refine returnsInHanded_of_change_sized (C := Try.checked) own started (by kernel_rfl) Try.func3
  (ChangeSpec.witness6 (enc := enc) (C := Try.checked) false ⟨#[], #[.slice none 0 0], []⟩ 8 (by kernel_rfl) (by kernel_rfl) (by kernel_rfl) (by kernel_rfl)) ?_
 intro W base args ds gs before hval0 hW hcnd hsz0 _
 have hval : ∀ (j : Nat) t v, Try.f3.params[j]? = some t → args[j]? = some v → Value.okWide Try.prog W .any base t v := hval0
 have hW' := hW
 obtain ⟨p, q, hA0, hV, rfl, hfz, hnd⟩ := hW
 have hA : DataW.TrodAll enc Try.prog W 0 (fun _ => true) true Try.f3.params.toList args.toList ds p := hA0
 rw [Try.params3] at hA hval
 obtain ⟨v0, vs0, d0, ds0, p0, q0, hargs, rfl, rfl, h0, r0⟩ := trodAll_cons hA
 obtain ⟨rfl, rfl, rfl⟩ := trodAll_nil r0
 obtain rfl : args = #[v0] := by cases args; simp_all
 obtain ⟨rfl, rfl⟩ := trodVars_none hV
 have k0 := h0
 have lt0 : ∀ x ∈ p0, x.block < W.heap.size := by obtain ⟨m, hm⟩ := k0; exact DataW.trod_lt m _ _ _ hm
 obtain ⟨m0, hm0⟩ := h0
 obtain ⟨x0, hk0, w0⟩ := Opens.run (Opens.slice Try.underlying22 (by kernel_rfl) (Opens.int Try.underlying24)) hm0
 obtain ⟨a0, len0, cap0, rfl⟩ := okWide_slice Try.underlying22 (hval 0 22 v0 rfl rfl)
 obtain ⟨A0, c0, hcs0, hc0, hr0⟩ := hk0
 simp [Value.cells] at hcs0
 obtain ⟨rfl, rfl, rfl⟩ := hcs0
 clear hA0 hval0 hsz0
 obtain ⟨k, hf⟩ := hP x0 w0
 refine (isobathlaw01_BoundKleene.calls (k := k) (A0 := a0) (c0 := cap0) (l0 := x0) (r := true) (w := W) (hr0 := hr0) (hc0 := hc0) (h := hf)).mono fun e W' ⟨he, hd⟩ => ?_
 have bel : Below W.heap.size W W' := by first | exact hd | (obtain ⟨m, rfl⟩ := hd; exact zbn (Below.refl _ _) m)
 subst he
 exact ⟨_, rfl, _, _, _, [], _, [], hW', trodAll_mk1 (shut_bool Try.underlying4 _), (trodAll_cons_mk (Below.trod laidOut (by kernel_rfl) (zod (by kernel_rfl)) k0 bel lt0) trodAll_mk0), rfl, bel.frame _, fun h => by cases h⟩
theorem over (hP : Pure) : Rows.boundKleeneRow.holds Try.pinned (OpenSpec.ofChange Rows.boundKleeneSpec) :=
 OpenClaim.holds_of_wide 3 Try.f3 rfl rfl rfl rfl rfl rfl rfl ⟨rfl, rfl, rfl, rfl, rfl⟩ rfl rfl rfl rfl rfl (by kernel_rfl) Try.func3 (by kernel_rfl)
  (zod (by kernel_rfl)) (by unfold Func.isWrapper; first | (rw [if_pos (by decide +kernel)]; kernel_rfl) | (rw [if_neg (by decide +kernel)]; exact ⟨rfl, rfl⟩))
  (fun os started H enc _ => lifted hP os started H enc)
theorem proved (hP : Pure) : Rows.BoundKleeneSaid := over hP
end boundKleene
end Go.Proofs.Ytlkafgibgipodaa.P
namespace Go.Proofs.Ytlkafgibgipodaa.P
open Go.RowKit Go.Proofs.YtlkafgibgipodaaW.PrintWords Go.Proofs.YtlkafgibgipodaaW.PrintLast Go.Proofs.YtlkafgibgipodaaW.PrintMore
attribute [local go_sem] max2_int min2_int max_two min_two max_three min_three max_four min_four   -- for this text's walks alone
set_option linter.unusedVariables false
set_option linter.unusedSimpArgs false
def Kl.whole : List Int → Int → Bool
 | [], _ => true
 | x :: xs, b => if x = 1 then (decide (b % 2 = 1)) && Kl.whole xs (b / 2) else decide (x = 2) && Kl.whole xs b
def Kl.open_ : List Int → Nat
 | [] => 0
 | x :: xs => if x = 1 then Kl.open_ xs + 1 else Kl.open_ xs
theorem Kl.open_le : ∀ xs : List Int, Kl.open_ xs ≤ xs.length
 | [] => Nat.le_refl _
 | x :: xs => by
  have := Kl.open_le xs
  unfold Kl.open_
  split <;> simp only [List.length_cons] <;> omega
theorem Kl.open_snoc (xs : List Int) (x : Int) : Kl.open_ (xs ++ [x]) = Kl.open_ xs + if x = 1 then 1 else 0 := by
 induction xs with
 | nil => simp only [List.nil_append, Kl.open_]; split <;> rfl
 | cons y ys ih =>
  rw [List.cons_append, Kl.open_, ih, Kl.open_]
  split <;> omega
theorem Kl.whole_yes : ∀ (xs : List Int) (b : Int), (∀ x ∈ xs, x = 2) → Kl.whole xs b = true
 | [], _, _ => rfl
 | x :: xs, b, h => by
  have h1 := h x List.mem_cons_self
  rw [Kl.whole, if_neg (by omega), h1, Kl.whole_yes xs b fun y hy => h y (List.mem_cons_of_mem _ hy)]
  rfl
theorem Kl.whole_no : ∀ (xs : List Int) (b : Int), (∃ x ∈ xs, x = 0) → Kl.whole xs b = false
 | [], _, ⟨_, h, _⟩ => by cases h
 | x :: xs, b, ⟨y, hy, hy0⟩ => by
  rw [Kl.whole]
  rcases List.mem_cons.1 hy with rfl | hy
  ·rw [if_neg (by omega), zdf (by omega), Bool.false_and]
  rw [Kl.whole_no xs _ ⟨y, hy, hy0⟩, Kl.whole_no xs _ ⟨y, hy, hy0⟩, Bool.and_false, Bool.and_false, ite_self]
theorem Kl.whole_zero : ∀ (xs : List Int), (∃ x ∈ xs, x = 1) → Kl.whole xs 0 = false
 | [], ⟨_, h, _⟩ => by cases h
 | x :: xs, ⟨y, hy, hy0⟩ => by
  rw [Kl.whole]
  by_cases q : x = 1
  ·rw [if_pos q]
   rfl
  rw [if_neg q]
  rcases List.mem_cons.1 hy with rfl | hy
  ·exact absurd hy0 q
  rw [Kl.whole_zero xs ⟨y, hy, hy0⟩, Bool.and_false]
theorem Kl.whole_ones : ∀ (xs : List Int), (∀ x ∈ xs, x = 1 ∨ x = 2) → Kl.whole xs (2 ^ Kl.open_ xs - 1) = true
 | [], _ => rfl
 | x :: xs, h => by
  have ih := Kl.whole_ones xs fun y hy => h y (List.mem_cons_of_mem _ hy)
  rw [Kl.whole, Kl.open_]
  by_cases q : x = 1
  ·rw [if_pos q, if_pos q, Int.pow_succ]
   have e1 : ((2 : Int) ^ Kl.open_ xs * 2 - 1) % 2 = 1 := by omega
   have e2 : ((2 : Int) ^ Kl.open_ xs * 2 - 1) / 2 = 2 ^ Kl.open_ xs - 1 := by omega
   rw [e1, e2, ih]
   rfl
  have h1 := h x List.mem_cons_self
  rw [if_neg q, if_neg q, ih, zdt (by omega)]
  rfl
def Kl.yes (xs : List Int) : Nat → Int → Bool
 | 0, _ => true
 | d + 1, n => Kl.whole xs n && Kl.yes xs d (n + 1)
def Kl.no (xs : List Int) : Nat → Int → Bool
 | 0, _ => true
 | d + 1, n => !Kl.whole xs n && Kl.no xs d (n + 1)
theorem Kl.yes_iff (xs : List Int) : ∀ (d : Nat) (n : Int), Kl.yes xs d n = true ↔ ∀ j : Nat, j < d → Kl.whole xs (n + j) = true
 | 0, n => ⟨fun _ j hj => absurd hj (Nat.not_lt_zero _), fun _ => rfl⟩
 | d + 1, n => by
  rw [Kl.yes, Bool.and_eq_true, Kl.yes_iff xs d (n + 1)]
  constructor
  ·rintro ⟨h1, h2⟩ j hj
   cases j with
   | zero => simpa using h1
   | succ j =>
    have := h2 j (by omega)
    rwa [show n + 1 + (j : Int) = n + ((j + 1 : Nat) : Int) by omega] at this
  intro h
  refine ⟨by simpa using h 0 (by omega), fun j hj => ?_⟩
  have := h (j + 1) (by omega)
  rwa [show n + ((j + 1 : Nat) : Int) = n + 1 + (j : Int) by omega] at this
theorem Kl.no_iff (xs : List Int) : ∀ (d : Nat) (n : Int), Kl.no xs d n = true ↔ ∀ j : Nat, j < d → Kl.whole xs (n + j) = false
 | 0, n => ⟨fun _ j hj => absurd hj (Nat.not_lt_zero _), fun _ => rfl⟩
 | d + 1, n => by
  rw [Kl.no, Bool.and_eq_true, Bool.not_eq_true', Kl.no_iff xs d (n + 1)]
  constructor
  ·rintro ⟨h1, h2⟩ j hj
   cases j with
   | zero => simpa using h1
   | succ j =>
    have := h2 j (by omega)
    rwa [show n + 1 + (j : Int) = n + ((j + 1 : Nat) : Int) by omega] at this
  intro h
  refine ⟨by simpa using h 0 (by omega), fun j hj => ?_⟩
  have := h (j + 1) (by omega)
  rwa [show n + ((j + 1 : Nat) : Int) = n + 1 + (j : Int) by omega] at this
theorem Kl.l2 {xs : List Int} (hl : xs.length ≤ 12) (o a : Int) (y no : Bool) (n : Int) : ∀ (d k i : Nat) (b : Int) (acc : Bool), i + d = xs.length → d < k → 0 ≤ b → b ≤ 4096 →
  ∃ k', k = k' + d + 1 ∧ isobathlaw01_BoundKleene.l2 k xs o a y no n b acc (i : Int) = isobathlaw01_BoundKleene.l1 k' xs o a (y && (acc && Kl.whole (xs.drop i) b)) (no && !(acc && Kl.whole (xs.drop i) b)) (wrap64 (n + 1)) := by
 intro d
 induction d with
 | zero =>
  intro k i b acc hi hk h0 h1
  obtain ⟨k, rfl⟩ : ∃ m, k = m + 1 := ⟨k - 1, by omega⟩
  refine ⟨k, rfl, ?_⟩
  simp only [isobathlaw01_BoundKleene.l2]
  rw [if_neg (by omega), List.drop_of_length_le (by omega)]
  cases y <;> cases no <;> cases acc <;> rfl
 | succ d ih =>
  intro k i b acc hi hk h0 h1
  obtain ⟨k, rfl⟩ : ∃ m, k = m + 1 := ⟨k - 1, by omega⟩
  have hlt : i < xs.length := by omega
  simp only [isobathlaw01_BoundKleene.l2]
  rw [if_pos (by omega), if_pos (by omega), rd_nat hlt, wrap_succ hlt (by omega), drop_cons hlt]
  have tm : Int.tmod b 2 = b % 2 := Int.tmod_eq_emod_of_nonneg h0
  rw [tdiv_pos h0, tm, wrap_id (n := b / 2) (by omega) (by omega)]
  by_cases q : xs[i] = 1
  ·obtain ⟨k', e1, e2⟩ := ih k (i + 1) (b / 2) (if acc = true then b % 2 == 1 else false) (by omega) (by omega) (by omega) (by omega)
   refine ⟨k', by omega, ?_⟩
   rw [if_pos q, Kl.whole, if_pos q]
   cases acc
   ·rw [if_neg (by decide)]
    rw [if_neg (by decide)] at e2
    rw [e2]
    simp
   rw [if_pos rfl]
   rw [if_pos rfl] at e2
   rw [e2]
   simp [Bool.beq_eq_decide_eq]
  obtain ⟨k', e1, e2⟩ := ih k (i + 1) b (if acc = true then xs[i] == 2 else false) (by omega) (by omega) h0 h1
  refine ⟨k', by omega, ?_⟩
  rw [if_neg q, Kl.whole, if_neg q]
  cases acc
  ·rw [if_neg (by decide)]
   rw [if_neg (by decide)] at e2
   rw [e2]
   simp
  rw [if_pos rfl]
  rw [if_pos rfl] at e2
  have eb : (xs[i] == 2) = decide (xs[i] = 2) := rfl
  rw [eb] at e2 ⊢
  rw [e2]
  simp
theorem Kl.l1 {xs : List Int} (hl : xs.length ≤ 12) (o : Nat) (ho : o ≤ 12) (a : Int) : ∀ (d k : Nat) (n : Int) (y no : Bool), 0 ≤ n → n + d = 2 ^ o → d * 14 + 40 ≤ k → ((a == 2) == (y && Kl.yes xs d n)) = true → ((a == 0) == (no && Kl.no xs d n)) = true → isobathlaw01_BoundKleene.l1 k xs (o : Int) a y no n = some true := by
 have hp : (2 : Int) ^ o ≤ 4096 := by
  have : 2 ^ o ≤ 2 ^ 12 := Nat.pow_le_pow_right (by omega) ho
  have h2 : ((2 ^ o : Nat) : Int) ≤ ((2 ^ 12 : Nat) : Int) := by omega
  rw [Int.natCast_pow] at h2
  exact h2
 have hp0 : (0 : Int) < 2 ^ o := Int.pow_pos (by decide)
 have hu : IntKind.u64.wrap (o : Int) = (o : Int) := by
  show (o : Int) % 18446744073709551616 = _
  omega
 have hs : shl .i64 1 (o : Int) = 2 ^ o := by
  unfold shl
  rw [Int.toNat_natCast, Nat.min_eq_left (by show o ≤ 64; omega), Int.one_mul]
  rw [i64_w]
  exact wrap_id (by omega) (by omega)
 intro d
 induction d with
 | zero =>
  intro k n y no h0 hn hk h1 h2
  obtain ⟨k, rfl⟩ : ∃ m, k = m + 1 := ⟨k - 1, by omega⟩
  simp only [isobathlaw01_BoundKleene.l1]
  rw [hu, if_pos (by omega), hs, if_neg (by omega)]
  rw [Kl.yes, Bool.and_true] at h1
  rw [Kl.no, Bool.and_true] at h2
  rw [if_pos h1, if_pos h2, Bo.works (by omega)]
  rfl
 | succ d ih =>
  intro k n y no h0 hn hk h1 h2
  obtain ⟨k, rfl⟩ : ∃ m, k = m + 1 := ⟨k - 1, by omega⟩
  simp only [isobathlaw01_BoundKleene.l1]
  rw [hu, if_pos (by omega), hs, if_pos (by omega)]
  obtain ⟨k', e1, e2⟩ := Kl.l2 hl (o : Int) a y no n xs.length k 0 n true (by omega) (by omega) h0 (by omega)
  rw [Int.natCast_zero] at e2
  rw [e2, List.drop_zero, Bool.true_and, wrap_id (by omega) (by omega)]
  refine ih k' (n + 1) _ _ (by omega) (by omega) (by omega) ?_ ?_
  ·rw [Kl.yes, ← Bool.and_assoc] at h1
   exact h1
  rw [Kl.no, ← Bool.and_assoc] at h2
  exact h2
theorem Kl.foldl_min (xs : List Int) : ∀ m : Int, (∀ x ∈ xs, 0 ≤ x ∧ x ≤ 2) → 0 ≤ m → m ≤ 2 → 0 ≤ xs.foldl min m ∧ xs.foldl min m ≤ 2 ∧ (xs.foldl min m = 2 ↔ m = 2 ∧ ∀ x ∈ xs, x = 2) ∧ (xs.foldl min m = 0 ↔ m = 0 ∨ ∃ x ∈ xs, x = 0) := by
 induction xs with
 | nil => intro m _ h0 h1; simp; omega
 | cons x xs ih =>
  intro m h h0 h1
  have hx := h x List.mem_cons_self
  obtain ⟨a, b, c, e⟩ := ih (min m x) (fun y hy => h y (List.mem_cons_of_mem _ hy)) (by omega) (by omega)
  rw [List.foldl_cons]
  refine ⟨a, b, c.trans ⟨fun ⟨p, q⟩ => ⟨by omega, fun y hy => ?_⟩, fun ⟨p, q⟩ => ⟨?_, fun y hy => q y (List.mem_cons_of_mem _ hy)⟩⟩, e.trans ⟨fun p => ?_, fun p => ?_⟩⟩
  ·rcases List.mem_cons.1 hy with rfl | hy
   ·omega
   exact q y hy
  ·have := q x List.mem_cons_self
   omega
  ·rcases p with p | ⟨y, hy, hz⟩
   ·rcases (show m = 0 ∨ x = 0 by omega) with p | p
    ·exact .inl p
    exact .inr ⟨x, List.mem_cons_self, p⟩
   exact .inr ⟨y, List.mem_cons_of_mem _ hy, hz⟩
  rcases p with p | ⟨y, hy, hz⟩
  ·exact .inl (by omega)
  rcases List.mem_cons.1 hy with rfl | hy
  ·exact .inl (by omega)
  exact .inr ⟨y, hy, hz⟩
theorem Kl.foldl_opp (xs : List Int) : ∀ m : Int, (xs.map fun x => 2 - x).foldl max (2 - m) = 2 - xs.foldl min m := by
 induction xs with
 | nil => intro m; rfl
 | cons x xs ih =>
  intro m
  rw [List.map_cons, List.foldl_cons, List.foldl_cons, ← ih (min m x)]
  congr 1
  omega
theorem Kl.not_f {x : Int} (h0 : 0 ≤ x) (h1 : x ≤ 2) : bound_Not.f x = some (2 - x, 0) := by
 unfold bound_Not.f
 rw [Bo.isAnswer, Option.bind_some]
 unfold Bo.ansB
 rw [zdt h0, zdt h1, if_pos (by rfl), wrap_id (by omega) (by omega)]
theorem Kl.ansB_iff (x : Int) : Bo.ansB x = true ↔ 0 ≤ x ∧ x ≤ 2 := by unfold Bo.ansB; simp
theorem Kl.ans_ok {xs : List Int} (hl : xs.length ≤ 12) (h : ∀ x ∈ xs, 0 ≤ x ∧ x ≤ 2) : Bo.ans xs = 0 := by
 unfold Bo.ans
 rw [if_neg (by omega), if_pos]
 rw [List.all_eq_true]
 exact fun x hx => (Kl.ansB_iff x).2 (h x hx)
theorem Kl.after {xs : List Int} (hl : xs.length ≤ 12) (h : ∀ x ∈ xs, 0 ≤ x ∧ x ≤ 2) (k : Nat) (hk : 100000 ≤ k) :
  ((bound_All.f k xs).bind fun bt116 => (bound_Any.f k (xs.map fun x => 2 - x)).bind fun bt118 => if bt116.2 = 0 then if bt118.2 = 0 then isobathlaw01_BoundKleene.j2 k xs (Kl.open_ xs : Int) bt116.1 (bt116.1 != wrap64 (2 - bt118.1)) else none else none) = some true := by
 have hm : ∀ x ∈ xs.map (fun x => 2 - x), 0 ≤ x ∧ x ≤ 2 := by
  intro x hx
  obtain ⟨y, hy, rfl⟩ := List.mem_map.1 hx
  have := h y hy
  omega
 have ea : Bo.all xs = (xs.foldl min 2, 0) := by
  unfold Bo.all
  rw [Kl.ans_ok hl h, if_pos rfl]
 have eb : Bo.any (xs.map fun x => 2 - x) = (2 - xs.foldl min 2, 0) := by
  unfold Bo.any
  rw [Kl.ans_ok (by rw [List.length_map]; exact hl) hm, if_pos rfl]
  have := Kl.foldl_opp xs 2
  rw [show (2 : Int) - 2 = 0 by decide] at this
  rw [this]
 rw [Bo.all_b xs (by omega) (by omega), Bo.any_b _ (by rw [List.length_map]; omega) (by omega), ea, eb]
 obtain ⟨a0, a1, a2, a3⟩ := Kl.foldl_min xs 2 h (by decide) (by decide)
 obtain ⟨a, ha⟩ : ∃ a, xs.foldl min 2 = a := ⟨_, rfl⟩
 rw [ha] at a0 a1 a2 a3 ⊢
 simp only [Option.bind_some, if_true]
 rw [show 2 - (2 - a) = a by omega, wrap_id (by omega) (by omega), bne_self_eq_false]
 obtain ⟨k, rfl⟩ : ∃ m, k = m + 1 := ⟨k - 1, by omega⟩
 simp only [isobathlaw01_BoundKleene.j2]
 rw [if_neg (by decide)]
 have ho := Kl.open_le xs
 have hp0 : 0 < 2 ^ Kl.open_ xs := Nat.two_pow_pos _
 have hp1 : 2 ^ Kl.open_ xs ≤ 4096 := Nat.pow_le_pow_right (n := 2) (by omega) (show Kl.open_ xs ≤ 12 by omega)
 refine Kl.l1 hl (Kl.open_ xs) (by omega) a (2 ^ Kl.open_ xs) k 0 true true (by omega) (by rw [Int.natCast_pow]; exact Int.zero_add _) (by omega) ?_ ?_
 ·rw [Bool.true_and, beq_iff_eq, Bool.eq_iff_iff, beq_iff_eq, Kl.yes_iff, a2]
  constructor
  ·exact fun hh j _ => Kl.whole_yes xs _ hh.2
  refine fun hh => ⟨rfl, fun x hx => ?_⟩
  have hx2 := h x hx
  have h0 := hh 0 hp0
  rw [Int.natCast_zero, Int.add_zero] at h0
  rcases (show x = 0 ∨ x = 1 ∨ x = 2 by omega) with e | e | e
  ·rw [Kl.whole_no xs _ ⟨x, hx, e⟩] at h0
   cases h0
  ·rw [Kl.whole_zero xs ⟨x, hx, e⟩] at h0
   cases h0
  exact e
 rw [Bool.true_and, beq_iff_eq, Bool.eq_iff_iff, beq_iff_eq, Kl.no_iff, a3]
 constructor
 ·rintro (hh | hh) j _
  ·cases hh
  exact Kl.whole_no xs _ hh
 intro hh
 right
 refine Classical.byContradiction fun hn => ?_
 have h1 := hh (2 ^ Kl.open_ xs - 1) (by omega)
 have e0 : ((2 ^ Kl.open_ xs : Nat) : Int) = (2 : Int) ^ Kl.open_ xs := by rw [Int.natCast_pow]; rfl
 have e1 : (0 : Int) + ((2 ^ Kl.open_ xs - 1 : Nat) : Int) = 2 ^ Kl.open_ xs - 1 := by
  rw [← e0]
  generalize 2 ^ Kl.open_ xs = P at hp0 ⊢
  omega
 have h2 := Kl.whole_ones xs fun x hx => by
  have := h x hx
  rcases (show x = 0 ∨ x = 1 ∨ x = 2 by omega) with e | e | e
  ·exact absurd ⟨x, hx, e⟩ hn
  ·exact .inl e
  exact .inr e
 rw [e1, h2] at h1
 cases h1
theorem Kl.l0 {xs : List Int} (hl : xs.length ≤ 12) (hx : ∀ x ∈ xs, -9223372036854775808 ≤ x ∧ x ≤ 9223372036854775807) : ∀ (d k i : Nat), i + d = xs.length → 2 * d + 100100 ≤ k → (∀ x ∈ xs.take i, 0 ≤ x ∧ x ≤ 2) → isobathlaw01_BoundKleene.l0 k xs ((xs.take i).map fun x => 2 - x) (Kl.open_ (xs.take i) : Int) (i : Int) = some true := by
 intro d
 induction d with
 | zero =>
  intro k i hi hk h
  obtain ⟨k, rfl⟩ : ∃ m, k = m + 1 := ⟨k - 1, by omega⟩
  have ht : xs.take i = xs := List.take_of_length_le (by omega)
  rw [ht] at h ⊢
  simp only [isobathlaw01_BoundKleene.l0]
  rw [if_neg (by omega)]
  exact Kl.after hl h k (by omega)
 | succ d ih =>
  intro k i hi hk h
  obtain ⟨k, rfl⟩ : ∃ m, k = m + 2 := ⟨k - 2, by omega⟩
  have hlt : i < xs.length := by omega
  have hxi := hx xs[i] (List.getElem_mem hlt)
  simp only [isobathlaw01_BoundKleene.l0, isobathlaw01_BoundKleene.j1]
  rw [if_pos (by omega), if_pos (by omega), rd_nat hlt]
  by_cases q : 0 ≤ xs[i] ∧ xs[i] ≤ 2
  ·have ih' := ih k (i + 1) (by omega) (by omega) (by
    rw [take_snoc hlt]
    intro x hx
    rcases List.mem_append.1 hx with hx | hx
    ·exact h x hx
    rw [List.mem_singleton.1 hx]
    exact q)
   rw [take_snoc hlt, List.map_append, Kl.open_snoc] at ih'
   have hlen : ((xs.take i).map fun x => 2 - x).length = i := by rw [List.length_map, zlt]; omega
   have hol := Kl.open_le (xs.take i)
   rw [zlt] at hol
   rw [Kl.not_f q.1 q.2, Option.bind_some]
   simp only []
   rw [Kl.not_f (by omega) (by omega), Option.bind_some]
   simp only [if_true]
   rw [show 2 - (2 - xs[i]) = xs[i] by omega, bne_self_eq_false, if_neg (by decide), hlen, if_pos (by omega), Option.bind_some, if_pos (by omega), if_pos (by omega), wrap_succ hlt (by omega)]
   by_cases e : xs[i] = 1
   ·rw [if_pos e]
    rw [if_pos e] at ih'
    rw [wrap_id (by omega) (by omega)]
    exact ih'
   rw [if_neg e]
   rw [if_neg e] at ih'
   exact ih'
  have nb : Bo.ansB xs[i] = false := by
   rw [← Bool.not_eq_true, Kl.ansB_iff]
   exact q
  have nf : bound_Not.f xs[i] = some (0, 2) := by
   unfold bound_Not.f
   rw [Bo.isAnswer, Option.bind_some, nb, if_neg (by decide)]
  rw [nf, Option.bind_some]
  simp only []
  rw [Kl.not_f (by decide) (by decide), Option.bind_some, if_neg (by decide), Bo.works (by omega)]
  by_cases q1 : xs[i] < 0
  ·rw [if_pos q1, if_pos trivial]
   rfl
  rw [if_neg q1, if_pos (by omega), if_pos trivial]
  rfl
theorem Kl.kleene {xs : List Int} (hx : ∀ x ∈ xs, -9223372036854775808 ≤ x ∧ x ≤ 9223372036854775807) : isobathlaw01_BoundKleene.f 200000 xs = some true := by
 unfold isobathlaw01_BoundKleene.f
 by_cases h : (xs.length : Int) > 12
 ·rw [if_pos h, Bo.works (by omega)]
  rfl
 rw [if_neg h]
 have := Kl.l0 (xs := xs) (by omega) hx xs.length 200000 0 (by omega) (by omega) (by simp)
 exact this
theorem Kl.i64 {n : Int} (h : (Lit.int .i64 n).wf = true) : -9223372036854775808 ≤ n ∧ n ≤ 9223372036854775807 := by
 have e : (decide ((-9223372036854775808 : Int) ≤ n) && decide (n ≤ 9223372036854775807)) = true := h
 simp at e
 omega
theorem boundKleene_holds : Rows.BoundKleeneSaid := boundKleene.proved fun l hl => ⟨200000, Kl.kleene fun x hx => Kl.i64 (hl.2 x hx)⟩
#print axioms boundKleene_holds
end Go.Proofs.Ytlkafgibgipodaa.P
