/- .. Part 1 of 5. -/
-- Put together by wip/tools/shake.py, a program of this work: out of the words that the kit's print tool (print.sh) writes for a claim and what wip/tools/xprint.py prints, those that this claim reaches, and this work's own texts.
import Derived.Below
import Derived.Deep.Draws
import Derived.Deep.AppendLies
import Derived.Maps.AppendAt
import Derived.OwnWalk
import Derived.Laws.BytesArg
import Derived.Laws.MakeOwn
import Derived.Laws.OwnMore
import Derived.Deep.OwnRows
import Derived.Tactics
import Derived.Lib.ConvBytes
import Derived.Laws.Slices
import Derived.WalkKit
import Derived.KernelRfl
import Derived.RowKit3
import Derived.Deep.LoopGhost
import Derived.Deep.QuietTactic
import Derived.BigQuiet
import Derived.WideLaws
import Derived.Deep.DeepCutAuto
import Derived.Deep.CutBlock
import Derived.Deep.RegionHeld3
import Derived.Laws.Rows
import Derived.Lib.AppendStr
import Derived.ArgAppend
import Derived.Laws.IdiomCopy
import Derived.RowKit
import Derived.OrdersHeld
import Derived.Laws.BitsLemmas
import Derived.Laws.StructEq
import Derived.Test.YtaheamdoldiojaaProg
import Derived.Laws.CopyRow
import Derived.Laws.CopyOwn
import Derived.Outline
import Derived.StillTailTactics
import Derived.RegionTactic
import Derived.BigRegion
set_option linter.unusedVariables false
set_option linter.unusedSimpArgs false
namespace Go.Proofs.YtaheamdoldiojaaW.PrintWords
open Go.RowKit
structure Aside0 (p : Prop) : Prop where mk :: (out : p)
structure Drawn0 (w w' : World) : Prop where mk :: (out : ∃ n, w' = w.drewN n)
theorem Drawn0.refl (w : World) : Drawn0 w w := ⟨⟨0, rfl⟩⟩
theorem Drawn0.step {w w' : World} (h : Drawn0 w w') (n : Nat) : Drawn0 w (w'.drewN n) := by
 obtain ⟨m, rfl⟩ := h
 exact ⟨⟨m + n, World.drewN_drewN ..⟩⟩
theorem Drawn0.grown {w w' : World} (h : Drawn0 w w') : Grown w w' := by
 obtain ⟨n, rfl⟩ := h
 induction n with
 | zero => exact Grown.refl _
 | succ n ih => rw [← World.drew_drewN]; exact Grown.drew ih
theorem Drawn0.below {w w' : World} (h : Drawn0 w w') : Below w.heap.size w w' := by
 obtain ⟨n, rfl⟩ := h
 induction n with
 | zero => exact Below.refl _ _
 | succ n ih => rw [← World.drew_drewN]; exact ih.drew
def rd (xs : List Int) (i : Int) : Int := xs.getD i.toNat 0
def bt (s : ByteArray) (i : Int) : Int := if h : i.toNat < s.size then ((s[i.toNat]'h).toNat : Int) else 0
theorem below_alloc {w W : World} (h : Below w.heap.size w W) (o : Obj) : Below w.heap.size w (W.alloc o) := h.alloc h.size o
theorem below_drew {B : Nat} {w W : World} (h : Below B w W) : Below B w W.drew := ⟨h.os, h.tape, h.output, h.size, h.block⟩
theorem pw_below_drewN {B : Nat} {w W : World} (h : Below B w W) (n : Nat) : Below B w (W.drewN n) := ⟨h.os, h.tape, h.output, h.size, h.block⟩
theorem below_then {B : Nat} {w w1 w2 : World} (h : Below B w w1) (hB : B ≤ w1.heap.size) (k : Below w1.heap.size w1 w2) : Below B w w2 :=
 h.trans ⟨k.os, k.tape, k.output, k.size, fun i hi => k.block i (Nat.lt_of_lt_of_le hi hB)⟩
theorem grown_of_below {w w1 : World} (h : Below w.heap.size w w1) (row : Option Nat) : w.grownBy w1 row := ⟨h.os, h.tape, h.output, h.size, fun i hi _ => h.block i hi⟩
theorem pw_cell_below {w w1 : World} (h : Below w.heap.size w w1) {a : Addr} {v : Value} (hc : w.cell? a = some v) : w1.cell? a = some v := (h.cell (World.block_lt_of_cell? w a hc)).trans hc
theorem add_plain (g j : Nat) : (⟨g, 0, none⟩ : Addr).add j = ⟨g, j, none⟩ := by unfold Addr.add; split <;> simp_all
def ReadsInt (w : World) (k : IntKind) (A : Option Addr) (n : Nat) (xs : List Int) : Prop :=
 xs.length = n ∧ n ≤ 9223372036854775807 ∧ (0 < n → ∃ ad, A = some ad ∧ ∀ j, j < n → w.cell? (ad.add j) = some (.int k (xs.getD j 0)))
theorem ReadsInt.at_ {w : World} {k : IntKind} {A : Option Addr} {n : Nat} {xs : List Int} (h : ReadsInt w k A n xs) (i : Int) (h0 : 0 ≤ i) (h1 : i < n) : ∃ ad, A = some ad ∧ w.cell? (ad.add i.toNat) = some (.int k (rd xs i)) := by
 obtain ⟨ad, e, hc⟩ := h.2.2 (by omega)
 exact ⟨ad, e, hc _ (by omega)⟩
theorem ReadsInt.below {w w1 : World} {k : IntKind} {A : Option Addr} {n : Nat} {xs : List Int} (h : ReadsInt w k A n xs) (hb : Below w.heap.size w w1) : ReadsInt w1 k A n xs :=
 ⟨h.1, h.2.1, fun hn => by
  obtain ⟨ad, e, hc⟩ := h.2.2 hn
  exact ⟨ad, e, fun j hj => pw_cell_below hb (hc j hj)⟩⟩
theorem own_nil (W : World) (base : Nat) (e : TypeId) (size : Nat) : W.ownsRow base e size (.slice none 0 0) 0 [] := ⟨by simp, .inl ⟨rfl, rfl⟩⟩
theorem own_base {w : World} {base : Nat} {e : TypeId} {size n : Nat} {v : Value} {xs : List Value} (h : w.ownsRow base e size v n xs) (k : Nat) (hk : v.ownBlock = some k) : base ≤ k := by
 rcases h.2 with ⟨rfl, _⟩ | ⟨g, cap, cur, rfl, hb, _⟩
 ·simp [Value.ownBlock] at hk
 have : g = k := by simpa [Value.ownBlock] using hk
 omega
theorem own_lt {w : World} {base : Nat} {e : TypeId} {size n : Nat} {v : Value} {xs : List Value} (h : w.ownsRow base e size v n xs) (k : Nat) (hk : v.ownBlock = some k) : k < w.heap.size := by
 rcases h.2 with ⟨rfl, _⟩ | ⟨g, cap, cur, rfl, hb, hh, _⟩
 ·simp [Value.ownBlock] at hk
 have : g = k := by simpa [Value.ownBlock] using hk
 subst this
 exact (Array.getElem?_eq_some_iff.1 hh).1
theorem pw_own_below {w w1 : World} {base : Nat} {e : TypeId} {size n : Nat} {v : Value} {xs : List Value} (h : w.ownsRow base e size v n xs) (hb : Below w.heap.size w w1) : w1.ownsRow base e size v n xs :=
 h.kept (grown_of_below hb none) (by cases v.ownBlock <;> simp)
theorem ReadsInt.take_ {w : World} {k : IntKind} {A : Option Addr} {n : Nat} {xs : List Int} (h : ReadsInt w k A n xs) (i : Nat) (hi : i ≤ n) : ReadsInt w k A i (xs.take i) := by
 refine ⟨by rw [List.length_take, h.1]; omega, by have := h.2.1; omega, fun hp => ?_⟩
 obtain ⟨ad, e, hc⟩ := h.2.2 (by omega)
 refine ⟨ad, e, fun j hj => ?_⟩
 rw [hc j (by omega)]
 simp [List.getD_eq_getElem?_getD, hj]
def LeO {α : Type} (a b : Option α) : Prop := ∀ r, a = some r → b = some r
theorem LeO.refl {α : Type} (a : Option α) : LeO a a := fun _ h => h
theorem LeO.none {α : Type} (b : Option α) : LeO Option.none b := fun _ h => by cases h
theorem LeO.trans {α : Type} {a b c : Option α} (h : LeO a b) (k : LeO b c) : LeO a c := fun r hr => k r (h r hr)
theorem LeO.ite {α : Type} {c : Prop} [Decidable c] {a a' b b' : Option α} (h : LeO a a') (k : LeO b b') : LeO (if c then a else b) (if c then a' else b') := by
 split
 ·exact h
 exact k
theorem LeO.bind {α β : Type} {a a' : Option α} {f f' : α → Option β} (h : LeO a a') (k : ∀ x, LeO (f x) (f' x)) : LeO (a.bind f) (a'.bind f') := by
 intro r hr
 obtain ⟨x, hx, hf⟩ := Option.bind_eq_some_iff.1 hr
 exact Option.bind_eq_some_iff.2 ⟨x, h x hx, k x r hf⟩
theorem LeO.map {α β : Type} {a a' : Option α} (f : α → β) (h : LeO a a') : LeO (a.map f) (a'.map f) := by
 intro r hr
 obtain ⟨x, hx, hf⟩ := Option.map_eq_some_iff.1 hr
 exact Option.map_eq_some_iff.2 ⟨x, h x hx, hf⟩
theorem more_rounds {α : Type} {g : Nat → Option α} (h : ∀ k, LeO (g k) (g (k + 1))) (k : Nat) : ∀ j, LeO (g k) (g (k + j))
 | 0 => LeO.refl _
 | j + 1 => (more_rounds h k j).trans (h (k + j))
theorem at_rounds {α : Type} {g : Nat → Option α} (h : ∀ k, LeO (g k) (g (k + 1))) {k k' : Nat} (hk : k ≤ k') {r : α} (hr : g k = some r) : g k' = some r := by
 have := more_rounds h k (k' - k) r hr
 rwa [Nat.add_sub_cancel' hk] at this
def Reps {α : Type} (R : α → List Value → Prop) (size : Nat) (ps : List α) (cs : List Value) : Prop :=
 cs.length = ps.length * size ∧ ∀ j p, ps[j]? = some p → R p ((cs.drop (j * size)).take size)
theorem Reps.none {α : Type} (R : α → List Value → Prop) (size : Nat) : Reps R size [] [] := ⟨by simp, fun j p h => by simp at h⟩
theorem Reps.snoc {α : Type} {R : α → List Value → Prop} {size : Nat} {ps : List α} {cs c : List Value} {p : α} (h : Reps R size ps cs) (hp : R p c) (hc : c.length = size) : Reps R size (ps ++ [p]) (cs ++ c) := by
 refine ⟨by rw [List.length_append, h.1, hc, List.length_append, List.length_singleton, Nat.add_mul, Nat.one_mul], fun j q hq => ?_⟩
 rcases Nat.lt_or_ge j ps.length with hj | hj
 ·rw [List.getElem?_append_left hj] at hq
  have h1 : j * size + size ≤ cs.length := by rw [h.1, ← Nat.succ_mul]; exact Nat.mul_le_mul_right _ hj
  have h2 := h.2 j q hq
  rw [List.drop_append_of_le_length (by omega), List.take_append_of_le_length (by rw [List.length_drop]; omega)]
  exact h2
 have hj' : j = ps.length := by
  have := (List.getElem?_eq_some_iff.1 hq).1
  rw [List.length_append, List.length_singleton] at this
  omega
 subst hj'
 have hq' : p = q := by simpa using hq
 subst hq'
 rw [← h.1, List.drop_left, ← hc, List.take_length]
 exact hp
theorem Reps.imp_ {α : Type} {R R' : α → List Value → Prop} {size : Nat} {ps : List α} {cs : List Value} (h : Reps R size ps cs) (hR : ∀ p c, R p c → R' p c) : Reps R' size ps cs := ⟨h.1, fun j p hj => hR _ _ (h.2 j p hj)⟩
def ReadsRow {α : Type} (R : α → List Value → Prop) (size : Nat) (w : World) (A : Option Addr) (n : Nat) (ps : List α) : Prop :=
 ps.length = n ∧ n ≤ 9223372036854775807 ∧ (0 < n → ∃ ad, A = some ad ∧ ∀ j p, ps[j]? = some p → ∃ c, c.length = size ∧ R p c ∧ ∀ i u, c[i]? = some u → w.cell? (ad.add (j * size + i)) = some u)
theorem ReadsRow.get_ {α : Type} {R : α → List Value → Prop} {size : Nat} {w : World} {A : Option Addr} {n : Nat} {ps : List α} (h : ReadsRow R size w A n ps) (d : α) (i : Int) (h0 : 0 ≤ i) (h1 : i < n) :
  ∃ ad c, A = some ad ∧ c.length = size ∧ R (ps.getD i.toNat d) c ∧ ∀ j u, c[j]? = some u → w.cell? (ad.add (i.toNat * size + j)) = some u := by
 obtain ⟨ad, e, hc⟩ := h.2.2 (by omega)
 have hl : i.toNat < ps.length := by have := h.1; omega
 obtain ⟨c, hs, hr, hcell⟩ := hc i.toNat _ (List.getElem?_eq_getElem hl)
 refine ⟨ad, c, e, hs, ?_, hcell⟩
 rw [List.getD_eq_getElem?_getD, List.getElem?_eq_getElem hl]
 exact hr
theorem ReadsRow.imp_ {α : Type} {R R' : α → List Value → Prop} {size : Nat} {w w1 : World} {A : Option Addr} {n : Nat} {ps : List α} (h : ReadsRow R size w A n ps) (hb : Below w.heap.size w w1) (hR : ∀ p c, R p c → R' p c) : ReadsRow R' size w1 A n ps :=
 ⟨h.1, h.2.1, fun hn => by
  obtain ⟨ad, e, hc⟩ := h.2.2 hn
  refine ⟨ad, e, fun j p hj => ?_⟩
  obtain ⟨c, hs, hr, hcell⟩ := hc j p hj
  exact ⟨c, hs, hR _ _ hr, fun i u hu => pw_cell_below hb (hcell i u hu)⟩⟩
theorem own_reads_row {α : Type} {R : α → List Value → Prop} {w : World} {base n size : Nat} {e : TypeId} {v : Value} {ps : List α} {cs : List Value} (h : w.ownsRow base e size v n cs) (hR : Reps R size ps cs) (hn : ps.length = n) :
  ∃ A c, v = .slice A n c ∧ ReadsRow R size w A n ps := by
 rcases Nat.eq_zero_or_pos n with h0 | h0
 ·rcases h.2 with ⟨rfl, rfl⟩ | ⟨g, cap, cur, rfl, _⟩
  ·exact ⟨none, 0, rfl, hn, by omega, fun hp => absurd hp (by omega)⟩
  exact ⟨_, cap, rfl, hn, by omega, fun hp => absurd hp (by omega)⟩
 obtain ⟨g, cap, rfl, _, _⟩ := h.form h0
 have hm : n ≤ 9223372036854775807 := by
  rcases h.2 with ⟨_, h1⟩ | ⟨g', cap', cur, he, _, _, h1, h2, _⟩
  ·omega
  simp only [maxLen] at h2
  omega
 refine ⟨_, cap, rfl, hn, hm, fun _ => ⟨_, rfl, fun j p hj => ⟨(cs.drop (j * size)).take size, ?_, hR.2 j p hj, fun i u hu => ?_⟩⟩⟩
 ·have hjl := (List.getElem?_eq_some_iff.1 hj).1
  have h1 : j * size + size ≤ cs.length := by rw [hR.1, ← Nat.succ_mul]; exact Nat.mul_le_mul_right _ hjl
  rw [List.length_take, List.length_drop]
  omega
 refine h.cells (g := g) rfl _ u ?_
 rw [List.getElem?_take] at hu
 split at hu
 ·rw [List.getElem?_drop] at hu
  exact hu
 cases hu
theorem add_field (ad : Addr) (m j : Nat) (hj : 0 < j) : ad.add (m + j) = ⟨(ad.add m).block, (ad.add m).off + j, none⟩ := by
 unfold Addr.add
 by_cases hm : m = 0
 ·subst hm
  simp [Nat.ne_of_gt hj]
 simp [hm, Nat.add_assoc]
section
variable {P : Program} {ops : Array Oper} {rest : List Oper} {o : Oper} {a : Act} {Q : Exit → Act → World → Prop}
theorem print_append_cells {w0 W : World} (base : Nat) (hgd : o.guard = none) (s x : Operand) (t e : TypeId) (z : Value) (size bytes : Nat)
  (ho : o.op = .call { callee := .builtin .append, args := #[s, x], argTypes := #[t, t] })
  (ht : P.underlying t = some (.slice e)) (hinfo : (P.info? e).map (fun i => (i.zero, i.size, i.bytes)) = some (some z, size, bytes)) (hz : z.cells.size = size) (hs0 : 0 < size) (hb0 : 0 < bytes)
  (v : Value) (n : Nat) (xs ys : List Value) (hs : a.eval s = v) (hx : a.eval x = .slice (some ⟨W.heap.size, 0, none⟩) 1 1) (hys : ys.length = size) (h1 : ∀ u ∈ ys, u.oneCell' = true)
  (HO : W.ownsRow base e size v n xs) (HB : Below base w0 W) (hbase : base ≤ W.heap.size) (hl : (n + 1) * bytes ≤ 140737488355328)
  (h : ∀ v1 w1, w1.ownsRow base e size v1 (n + 1) (xs ++ ys) → Below base w0 w1 → W.grownBy w1 v.ownBlock → (v1.ownBlock = v.ownBlock ∨ ∃ b, v1.ownBlock = some b ∧ W.heap.size ≤ b) → wpList P ops Q rest (a.put o.dst v1) w1) :
  wpList P ops Q (o :: rest) a (W.alloc (.cells ys.toArray e)) := by
 obtain ⟨i0, hi, hzz⟩ := Option.map_eq_some_iff.1 hinfo
 simp only [Prod.mk.injEq] at hzz
 obtain ⟨hz0, hz1, hz2⟩ := hzz
 have hlen : n + 1 ≤ 140737488355328 := Nat.le_trans (Nat.le_mul_of_pos_right _ hb0) hl
 refine wpList_append_own_at (W.alloc (.cells ys.toArray e)) hgd s x t ho base e i0 z size bytes ht hi hz0 hz1 hz2 hz hs0 v n xs hs (HO.alloc _) ⟨W.heap.size, 0, none⟩ 1 1 ys hx (by rw [hys]; simp)
  (by simpa using World.news_of_block (cs := ys.toArray) (t := e) (fr := (0, 0)) (heap_alloc_new W (.cells ys.toArray e))) h1 (by simp only [maxLen]; omega) hl (by simp; omega) ?_
 intro v1 w1 hown hg _ hat
 refine h v1 w1 hown ((HB.alloc hbase _).grown hg (by simp; omega) (own_base HO)) (World.grownBy.trans (World.grownBy_alloc W _ _) hg) ?_
 rcases hat with hat | hat
 ·exact .inl hat
 exact .inr ⟨_, hat, by simp⟩
end
theorem own_ne {w : World} {base : Nat} {e t : TypeId} {size n g : Nat} {v : Value} {xs : List Value} {cs : Array Value} (h : w.ownsRow base e size v n xs) (hg : w.heap[g]? = some (.cells cs t (0, 0))) (hne : e ≠ t) : some g ≠ v.ownBlock := by
 rcases h.2 with ⟨rfl, _⟩ | ⟨g', cap, cur, rfl, _, hh, _⟩
 ·simp [Value.ownBlock]
 intro he
 have : g = g' := by simpa [Value.ownBlock] using he
 subst this
 rw [hg] at hh
 injection hh with hh
 injection hh with _ ht
 exact hne ht.symm
theorem blk_set {w : World} {g : Nat} {t : TypeId} {cs : Array Value} (h : w.heap[g]? = some (.cells cs t (0, 0))) (i : Nat) (u : Value) : (w.setCell ⟨g, i, none⟩ u).heap[g]? = some (.cells (cs.setIfInBounds i u) t (0, 0)) := by
 simp [World.setCell, Array.getElem?_modify, h]
theorem blk_far {w : World} {g : Nat} {t : TypeId} {cs : Array Value} (h : w.heap[g]? = some (.cells cs t (0, 0))) {p : Addr} (hp : g ≠ p.block) (u : Value) : (w.setCell p u).heap[g]? = some (.cells cs t (0, 0)) := (Below.heap_setCell w p u g hp).trans h
theorem blk_lt {w : World} {g : Nat} {o : Obj} (h : w.heap[g]? = some o) : g < w.heap.size := (Array.getElem?_eq_some_iff.1 h).1
theorem blk_cell {w : World} {g : Nat} {t : TypeId} {cs : Array Value} (h : w.heap[g]? = some (.cells cs t (0, 0))) (i : Nat) : w.cell? ⟨g, i, none⟩ = cs[i]? := cell_of_row w g i cs t (0, 0) h
theorem blk_frozen {w : World} {g : Nat} {t : TypeId} {cs : Array Value} (h : w.heap[g]? = some (.cells cs t (0, 0))) (i : Nat) : w.frozen? ⟨g, i, none⟩ = false := by simp [World.frozen?, h]
theorem blk_grown {w w1 : World} {g : Nat} {o : Obj} {row : Option Nat} (h : w.heap[g]? = some o) (hg : w.grownBy w1 row) (hne : some g ≠ row) : w1.heap[g]? = some o := (hg.block g (blk_lt h) hne).trans h
theorem blk_ne {w : World} {g g' : Nat} {t t' : TypeId} {cs cs' : Array Value} (h : w.heap[g]? = some (.cells cs t (0, 0))) (h' : w.heap[g']? = some (.cells cs' t' (0, 0))) (hne : t ≠ t') : g ≠ g' := by
 rintro rfl
 rw [h] at h'
 injection h' with h'
 injection h' with _ ht
 exact hne ht
def KeepBut (w w' : World) (g : Nat) (row : Option Nat) : Prop := w.heap.size ≤ w'.heap.size ∧ ∀ i, i < w.heap.size → i ≠ g → some i ≠ row → w'.heap[i]? = w.heap[i]?
theorem KeepBut.refl (w : World) (g : Nat) (row : Option Nat) : KeepBut w w g row := ⟨Nat.le_refl _, fun _ _ _ _ => rfl⟩
theorem KeepBut.of_below {w w1 : World} (h : Below w.heap.size w w1) (g : Nat) (row : Option Nat) : KeepBut w w1 g row := ⟨h.size, fun i hi _ _ => h.block i hi⟩
theorem KeepBut.trans {w w1 w2 : World} {g : Nat} {row row1 : Option Nat} (h : KeepBut w w1 g row) (k : KeepBut w1 w2 g row1) (hr : row1 = row ∨ ∃ b, row1 = some b ∧ w.heap.size ≤ b) : KeepBut w w2 g row :=
 ⟨Nat.le_trans h.1 k.1, fun i hi hg hn => by
  refine (k.2 i (Nat.lt_of_lt_of_le hi h.1) hg ?_).trans (h.2 i hi hg hn)
  rcases hr with rfl | ⟨b, rfl, hb⟩
  ·exact hn
  intro e
  injection e with e
  omega⟩
theorem KeepBut.blk {w w1 : World} {g g' : Nat} {row : Option Nat} {o : Obj} (h : KeepBut w w1 g row) (hb : w.heap[g']? = some o) (hg : g' ≠ g) (hr : some g' ≠ row) : w1.heap[g']? = some o := (h.2 g' (blk_lt hb) hg hr).trans hb
theorem KeepBut.own {w w1 : World} {g : Nat} {row : Option Nat} {base : Nat} {e : TypeId} {size n : Nat} {v : Value} {xs : List Value} (h : KeepBut w w1 g row) (ho : w.ownsRow base e size v n xs) (hg : v.ownBlock ≠ some g) (hr : v.ownBlock = none ∨ v.ownBlock ≠ row) : w1.ownsRow base e size v n xs := by
 obtain ⟨h1, h2⟩ := ho
 refine ⟨h1, ?_⟩
 rcases h2 with h2 | ⟨b, cap, cur, rfl, hb, hh, r⟩
 ·exact .inl h2
 refine .inr ⟨b, cap, cur, rfl, hb, h.blk hh ?_ ?_, r⟩
 ·intro e
  exact hg (by rw [← e]; rfl)
 rcases hr with hr | hr
 ·simp [Value.ownBlock] at hr
 exact hr
def Ev {α : Type} (g : Nat → Option α) (r : α) : Prop := ∃ K, ∀ k, K ≤ k → g k = some r
theorem Ev.of {α : Type} {g : Nat → Option α} {r : α} (hg : ∀ k, LeO (g k) (g (k + 1))) {k : Nat} (h : g k = some r) : Ev g r := ⟨k, fun _ hk => at_rounds hg hk h⟩
theorem Ev.now {α : Type} (r : α) : Ev (fun _ => some r) r := ⟨0, fun _ _ => rfl⟩
theorem Ev.bind {α β : Type} {g : Nat → Option α} {f : Nat → α → Option β} {a : α} {r : β} (h : Ev g a) (k : Ev (fun n => f n a) r) : Ev (fun n => (g n).bind (f n)) r := by
 obtain ⟨K, h⟩ := h
 obtain ⟨K', k⟩ := k
 refine ⟨max K K', fun n hn => ?_⟩
 have h1 := h n (by omega)
 have h2 := k n (by omega)
 simp only [h1, Option.bind_some]
 exact h2
theorem Ev.step {α : Type} {g f : Nat → Option α} {r : α} (h : ∀ k, g (k + 1) = f k) (k : Ev f r) : Ev g r := by
 obtain ⟨K, k⟩ := k
 refine ⟨K + 1, fun n hn => ?_⟩
 obtain ⟨m, rfl⟩ : ∃ m, n = m + 1 := ⟨n - 1, by omega⟩
 rw [h]
 exact k m (by omega)
theorem Ev.congr {α : Type} {g f : Nat → Option α} {r : α} (h : ∀ k, g k = f k) (k : Ev f r) : Ev g r := by
 obtain ⟨K, k⟩ := k
 exact ⟨K, fun n hn => (h n).trans (k n hn)⟩
theorem own_weaken {w : World} {base base' : Nat} {e : TypeId} {size n : Nat} {v : Value} {xs : List Value} (h : w.ownsRow base e size v n xs) (hb : base' ≤ base) : w.ownsRow base' e size v n xs := by
 obtain ⟨h1, h2⟩ := h
 refine ⟨h1, ?_⟩
 rcases h2 with h2 | ⟨g, cap, cur, rfl, hg, r⟩
 ·exact .inl h2
 exact .inr ⟨g, cap, cur, rfl, Nat.le_trans hb hg, r⟩
section
variable {α : Type} {enc : α → Value} {d : α}
def encs (enc : α → Value) (xs : List α) : List Value := xs.map enc
def rdOf (d : α) (xs : List α) (i : Int) : α := xs.getD i.toNat d
theorem encs_length (xs : List α) : (encs enc xs).length = xs.length := by simp [encs]
theorem encs_get (xs : List α) (j : Nat) (h : j < xs.length) : (encs enc xs)[j]? = some (enc (xs.getD j d)) := by
 simp [encs, List.getElem?_eq_getElem h, List.getD_eq_getElem?_getD]
def ReadsOf (enc : α → Value) (d : α) (w : World) (A : Option Addr) (n : Nat) (xs : List α) : Prop :=
 xs.length = n ∧ n ≤ 9223372036854775807 ∧ (0 < n → ∃ ad, A = some ad ∧ ∀ j, j < n → w.cell? (ad.add j) = some (enc (xs.getD j d)))
theorem ReadsOf.at_ {w : World} {A : Option Addr} {n : Nat} {xs : List α} (h : ReadsOf enc d w A n xs) (i : Int) (h0 : 0 ≤ i) (h1 : i < n) : ∃ ad, A = some ad ∧ w.cell? (ad.add i.toNat) = some (enc (rdOf d xs i)) := by
 obtain ⟨ad, e, hc⟩ := h.2.2 (by omega)
 exact ⟨ad, e, hc _ (by omega)⟩
theorem ReadsOf.below {w w1 : World} {A : Option Addr} {n : Nat} {xs : List α} (h : ReadsOf enc d w A n xs) (hb : Below w.heap.size w w1) : ReadsOf enc d w1 A n xs :=
 ⟨h.1, h.2.1, fun hn => by
  obtain ⟨ad, e, hc⟩ := h.2.2 hn
  exact ⟨ad, e, fun j hj => pw_cell_below hb (hc j hj)⟩⟩
theorem ReadsOf.take_ {w : World} {A : Option Addr} {n : Nat} {xs : List α} (h : ReadsOf enc d w A n xs) (i : Nat) (hi : i ≤ n) : ReadsOf enc d w A i (xs.take i) := by
 refine ⟨by rw [List.length_take, h.1]; omega, by have := h.2.1; omega, fun hp => ?_⟩
 obtain ⟨ad, e, hc⟩ := h.2.2 (by omega)
 refine ⟨ad, e, fun j hj => ?_⟩
 rw [hc j (by omega)]
 simp [List.getD_eq_getElem?_getD, hj]
theorem own_at_of {W : World} {base g n cap : Nat} {e : TypeId} {xs : List α} (h : W.ownsRow base e 1 (.slice (some ⟨g, 0, none⟩) n cap) n (encs enc xs)) (i : Int) (h0 : 0 ≤ i) (h1 : i < n) :
  W.cell? ⟨g, i.toNat, none⟩ = some (enc (rdOf d xs i)) ∧ W.frozen? ⟨g, i.toNat, none⟩ = false := by
 have hl : xs.length = n := by have := h.1; simp [encs] at this; exact this
 constructor
 ·have hc := h.cells (g := g) rfl i.toNat _ (encs_get (d := d) xs i.toNat (by omega))
  rwa [add_plain] at hc
 rcases h.2 with ⟨h', _⟩ | ⟨g', cap', cur, h', _, hh, _⟩
 ·cases h'
 have : g = g' := by injection h' with h'; injection h' with h'; injection h' with h'
 subst this
 simp [World.frozen?, hh]
theorem own_store_of {W : World} {base g n cap : Nat} {e : TypeId} {xs : List α} (h : W.ownsRow base e 1 (.slice (some ⟨g, 0, none⟩) n cap) n (encs enc xs)) (i : Int) (x : α) :
  (W.setCell ⟨g, i.toNat, none⟩ (enc x)).ownsRow base e 1 (.slice (some ⟨g, 0, none⟩) n cap) n (encs enc (xs.set i.toNat x)) ∧ W.grownBy (W.setCell ⟨g, i.toNat, none⟩ (enc x)) (some g) := by
 have hs := h.stored i.toNat (enc x)
 have he : (encs enc xs).set i.toNat (enc x) = encs enc (xs.set i.toNat x) := by simp [encs, List.map_set]
 rwa [he] at hs
end
theorem blk_alloc {w : World} {g : Nat} {o : Obj} (h : w.heap[g]? = some o) (o' : Obj) : (w.alloc o').heap[g]? = some o := (Below.heap_alloc w o' g (blk_lt h)).trans h
theorem blk_drew {w : World} {g : Nat} {o : Obj} (h : w.heap[g]? = some o) : w.drew.heap[g]? = some o := h
theorem blk_drewN {w : World} {g : Nat} {o : Obj} (h : w.heap[g]? = some o) (n : Nat) : (w.drewN n).heap[g]? = some o := h
theorem blk_below {w w1 : World} {g : Nat} {o : Obj} (h : w.heap[g]? = some o) (hb : Below w.heap.size w w1) : w1.heap[g]? = some o := (hb.block g (blk_lt h)).trans h
theorem blk_new (w : World) (o : Obj) : (w.alloc o).heap[w.heap.size]? = some o := heap_alloc_new w o
section
variable {P : Program}
theorem results_ct {fn : Func} {p u : Tmp} {ty : TypeId} (h : fn.results = #[.cell p ty, .tmp u]) (tmps : Array Value) (w : World) (g : Nat) (t : TypeId) (cs : Array Value) (fr : Nat × Nat) (d : TypeDesc)
  (hp : tmps.getD p undef = .pointer (some ⟨g, 0, none⟩)) (hg : w.heap[g]? = some (.cells cs t fr))
  (hu : P.underlying ty = some d) (hd : (match d with | .struct _ | .array _ _ => true | _ => false) = true) (hi : (P.info? ty).map (·.size) = some cs.size) :
  (results fn tmps).run P w = .ok (.tuple #[.agg cs, tmps.getD u undef]) w := by
 have hp' : tmps[p]?.getD undef = .pointer (some ⟨g, 0, none⟩) := by simpa using hp
 simp [results, h, hp', asAddr, run_loadVar_row w g t ty cs fr d hg hu hd hi]
theorem results_tc {fn : Func} {p u : Tmp} {ty : TypeId} (h : fn.results = #[.tmp u, .cell p ty]) (tmps : Array Value) (w : World) (g : Nat) (t : TypeId) (cs : Array Value) (fr : Nat × Nat) (d : TypeDesc)
  (hp : tmps.getD p undef = .pointer (some ⟨g, 0, none⟩)) (hg : w.heap[g]? = some (.cells cs t fr))
  (hu : P.underlying ty = some d) (hd : (match d with | .struct _ | .array _ _ => true | _ => false) = true) (hi : (P.info? ty).map (·.size) = some cs.size) :
  (results fn tmps).run P w = .ok (.tuple #[tmps.getD u undef, .agg cs]) w := by
 have hp' : tmps[p]?.getD undef = .pointer (some ⟨g, 0, none⟩) := by simpa using hp
 simp [results, h, hp', asAddr, run_loadVar_row w g t ty cs fr d hg hu hd hi]
end
theorem own_le {w : World} {base n m c size : Nat} {e : TypeId} {A : Option Addr} {xs : List Value} (h : w.ownsRow base e size (.slice A m c) n xs) : m ≤ c := by
 rcases h.2 with ⟨he, _⟩ | ⟨g, cap, cur, he, _, _, hnc, _⟩
 ·injection he with _ h2 h3
  omega
 injection he with _ h2 h3
 omega
def OwnRow {α : Type} (R : α → List Value → Prop) (e : TypeId) (size : Nat) (w : World) (base : Nat) (v : Value) (ps : List α) : Prop :=
 ∃ inner, w.ownsRow base e size v ps.length inner ∧ Reps R size ps inner
section
variable {α : Type} {R R' : α → List Value → Prop} {e : TypeId} {size : Nat} {w w1 : World} {base : Nat} {v : Value} {ps : List α}
theorem OwnRow.none_ (R : α → List Value → Prop) (e : TypeId) (size : Nat) (w : World) (base : Nat) : OwnRow R e size w base (.slice none 0 0) [] := ⟨[], own_nil _ _ _ _, Reps.none _ _⟩
theorem OwnRow.imp_ (h : OwnRow R e size w base v ps) (hR : ∀ p c, R p c → R' p c) : OwnRow R' e size w base v ps := by
 obtain ⟨inner, ho, hr⟩ := h
 exact ⟨inner, ho, hr.imp_ hR⟩
theorem OwnRow.below (h : OwnRow R e size w base v ps) (hb : Below w.heap.size w w1) : OwnRow R e size w1 base v ps := by
 obtain ⟨inner, ho, hr⟩ := h
 exact ⟨inner, pw_own_below ho hb, hr⟩
theorem OwnRow.keep (h : OwnRow R e size w base v ps) {g : Nat} {t : TypeId} {cells : Array Value} (hb : w.heap[g]? = some (.cells cells t (0, 0))) (ht : e ≠ t) (hk : KeepBut w w1 g none) : OwnRow R e size w1 base v ps := by
 obtain ⟨inner, ho, hr⟩ := h
 exact ⟨inner, hk.own ho (Ne.symm (own_ne ho hb ht)) (by cases v.ownBlock <;> simp), hr⟩
theorem OwnRow.reads (h : OwnRow R e size w base v ps) : ∃ A c, v = .slice A ps.length c ∧ ps.length ≤ c ∧ ReadsRow R size w A ps.length ps := by
 obtain ⟨inner, ho, hr⟩ := h
 obtain ⟨A, c, rfl, hrow⟩ := own_reads_row ho hr rfl
 exact ⟨A, c, rfl, own_le ho, hrow⟩
theorem OwnRow.ne_block (h : OwnRow R e size w base v ps) {g : Nat} {t : TypeId} {cells : Array Value} (hb : w.heap[g]? = some (.cells cells t (0, 0))) (ht : e ≠ t) : some g ≠ v.ownBlock := by
 obtain ⟨inner, ho, hr⟩ := h
 exact own_ne ho hb ht
end
section
variable {P : Program} {ops : Array Oper} {rest : List Oper} {o : Oper} {a : Act} {Q : Exit → Act → World → Prop} {α : Type} {R : α → List Value → Prop}
theorem OwnRow.append {w0 W : World} (base : Nat) (hgd : o.guard = none) (s x : Operand) (t e : TypeId) (z : Value) (size bytes : Nat)
  (ho : o.op = .call { callee := .builtin .append, args := #[s, x], argTypes := #[t, t] })
  (ht : P.underlying t = some (.slice e)) (hinfo : (P.info? e).map (fun i => (i.zero, i.size, i.bytes)) = some (some z, size, bytes)) (hz : z.cells.size = size) (hs0 : 0 < size) (hb0 : 0 < bytes)
  (v : Value) (ps : List α) (p : α) (cs : List Value) (hs : a.eval s = v) (hx : a.eval x = .slice (some ⟨W.heap.size, 0, none⟩) 1 1) (hp : R p cs) (hcs : cs.length = size) (h1 : ∀ u ∈ cs, u.oneCell' = true)
  (HO : OwnRow R e size W base v ps) (HB : Below base w0 W) (hbase : base ≤ W.heap.size) (hl : (ps.length + 1) * bytes ≤ 140737488355328)
  (h : ∀ v1 w1, OwnRow R e size w1 base v1 (ps ++ [p]) → Below base w0 w1 → W.grownBy w1 v.ownBlock → (v1.ownBlock = v.ownBlock ∨ ∃ b, v1.ownBlock = some b ∧ W.heap.size ≤ b) → wpList P ops Q rest (a.put o.dst v1) w1) :
  wpList P ops Q (o :: rest) a (W.alloc (.cells cs.toArray e)) := by
 obtain ⟨inner, hown, hr⟩ := HO
 refine print_append_cells base hgd s x t e z size bytes ho ht hinfo hz hs0 hb0 v ps.length inner cs hs hx hcs h1 hown HB hbase hl ?_
 intro v1 w1 hown1 hb1 hg1 hat1
 exact h v1 w1 ⟨inner ++ cs, by rw [List.length_append, List.length_singleton]; exact hown1, hr.snoc hp hcs⟩ hb1 hg1 hat1
end
structure Kd (α : Type) where
 sz : Nat
 E : List Nat
 K : World → α → List Value → Prop
 M : World → Nat → (Nat → Prop) → α → List Value → Prop
 K_len : ∀ {w x cs}, K w x cs → cs.length = sz
 K_one : ∀ {w x cs}, K w x cs → ∀ u ∈ cs, u.oneCell' = true
 K_below : ∀ {w w1 : World} {x cs}, Below w.heap.size w w1 → K w x cs → K w1 x cs
 K_of_M : ∀ {w base ok x cs}, M w base ok x cs → K w x cs
 M_mono : ∀ {w base ok ok' x cs}, (∀ k, ok k → ok' k) → M w base ok x cs → M w base ok' x cs
 M_bound : ∀ {w : World} {base ok x cs}, M w base ok x cs → M w base (fun k => ok k ∧ base ≤ k ∧ k < w.heap.size ∧ ∃ q, q ∈ E ∧ ∃ cells, w.heap[k]? = some (.cells cells q (0, 0))) x cs
 M_move : ∀ {w w1 : World} {base ok x cs}, (∀ k, ok k → w1.heap[k]? = w.heap[k]?) → M w base ok x cs → M w1 base ok x cs
 M_lower : ∀ {w base base' ok x cs}, base' ≤ base → M w base ok x cs → M w base' ok x cs
theorem own_move {w w1 : World} {base : Nat} {e : TypeId} {size n : Nat} {v : Value} {xs : List Value} (h : w.ownsRow base e size v n xs) (hm : ∀ k, v.ownBlock = some k → w1.heap[k]? = w.heap[k]?) : w1.ownsRow base e size v n xs := by
 obtain ⟨h1, h2⟩ := h
 refine ⟨h1, ?_⟩
 rcases h2 with h2 | ⟨g, cap, cur, rfl, hg, hh, r⟩
 ·exact .inl h2
 exact .inr ⟨g, cap, cur, rfl, hg, (hm g (by simp [Value.ownBlock])).trans hh, r⟩
theorem own_typed {w : World} {base : Nat} {e : TypeId} {size n : Nat} {v : Value} {xs : List Value} (h : w.ownsRow base e size v n xs) (k : Nat) (hk : v.ownBlock = some k) : ∃ cells, w.heap[k]? = some (.cells cells e (0, 0)) := by
 rcases h.2 with ⟨rfl, _⟩ | ⟨g, cap, cur, rfl, hg, hh, r⟩
 ·simp [Value.ownBlock] at hk
 have : g = k := by simpa [Value.ownBlock] using hk
 subst this
 exact ⟨cur, hh⟩
namespace Kd
def C {α : Type} (d : Kd α) (w : World) (A : Option Addr) (n : Nat) (xs : List α) : Prop := ReadsRow (d.K w) d.sz w A n xs
def R {α : Type} (d : Kd α) (e : Nat) (w : World) (base : Nat) (ok : Nat → Prop) (v : Value) (xs : List α) : Prop :=
 (∀ k, v.ownBlock = some k → ok k) ∧ OwnRow (d.M w base (fun k => ok k ∧ some k ≠ v.ownBlock)) e d.sz w base v xs
section
variable {α : Type} {d : Kd α} {e : Nat} {w w1 : World} {base : Nat} {ok ok' : Nat → Prop} {v : Value} {xs : List α}
theorem C_below {A : Option Addr} {n : Nat} (h : d.C w A n xs) (hb : Below w.heap.size w w1) : d.C w1 A n xs := ReadsRow.imp_ h hb (fun _ _ hp => d.K_below hb hp)
theorem R_nil (d : Kd α) (e : Nat) (w : World) (base : Nat) (ok : Nat → Prop) : d.R e w base ok (.slice none 0 0) [] := ⟨fun k hk => by simp [Value.ownBlock] at hk, OwnRow.none_ _ _ _ _ _⟩
theorem R_mono (h : d.R e w base ok v xs) (hok : ∀ k, ok k → ok' k) : d.R e w base ok' v xs := ⟨fun k hk => hok k (h.1 k hk), h.2.imp_ (fun _ _ hp => d.M_mono (fun k hk => ⟨hok k hk.1, hk.2⟩) hp)⟩
theorem R_bound (h : d.R e w base ok v xs) : d.R e w base (fun k => ok k ∧ base ≤ k ∧ k < w.heap.size ∧ ∃ q, q ∈ e :: d.E ∧ ∃ cells, w.heap[k]? = some (.cells cells q (0, 0))) v xs := by
 obtain ⟨h0, inner, ho, hr⟩ := h
 refine ⟨fun k hk => ?_, inner, ho, hr.imp_ (fun _ _ hp => d.M_mono (fun k hk => ?_) (d.M_bound hp))⟩
 ·obtain ⟨cells, hc⟩ := own_typed ho k hk
  exact ⟨h0 k hk, own_base ho k hk, own_lt ho k hk, e, List.mem_cons_self, cells, hc⟩
 obtain ⟨⟨h1, h2⟩, h3, h4, q, hq, hc⟩ := hk
 exact ⟨⟨h1, h3, h4, q, List.mem_cons_of_mem _ hq, hc⟩, h2⟩
theorem R_move (h : d.R e w base ok v xs) (hm : ∀ k, ok k → w1.heap[k]? = w.heap[k]?) : d.R e w1 base ok v xs := by
 obtain ⟨h0, inner, ho, hr⟩ := h
 exact ⟨h0, inner, own_move ho (fun k hk => hm k (h0 k hk)), hr.imp_ (fun _ _ hp => d.M_move (fun k hk => hm k hk.1) hp)⟩
theorem R_lower {base' : Nat} (h : d.R e w base ok v xs) (hb : base' ≤ base) : d.R e w base' ok v xs := by
 obtain ⟨h0, inner, ho, hr⟩ := h
 exact ⟨h0, inner, own_weaken ho hb, hr.imp_ (fun _ _ hp => d.M_lower hb hp)⟩
theorem R_step (h : d.R e w base ok v xs) (hm : ∀ k, ok k → k < w.heap.size → w1.heap[k]? = w.heap[k]?) : d.R e w1 base ok v xs :=
 R_mono (R_move (R_bound h) (fun k hk => hm k hk.1 hk.2.2.1)) (fun _ hk => hk.1)
theorem M_step {x : α} {cs : List Value} (h : d.M w base ok x cs) (hm : ∀ k, ok k → k < w.heap.size → w1.heap[k]? = w.heap[k]?) : d.M w1 base ok x cs :=
 d.M_mono (fun _ hk => hk.1) (d.M_move (fun k hk => hm k hk.1 hk.2.2.1) (d.M_bound h))
theorem R_below (h : d.R e w base ok v xs) (hb : Below w.heap.size w w1) : d.R e w1 base ok v xs := R_step h (fun k _ hk => hb.block k hk)
theorem M_below {x : α} {cs : List Value} (h : d.M w base ok x cs) (hb : Below w.heap.size w w1) : d.M w1 base ok x cs := M_step h (fun k _ hk => hb.block k hk)
theorem R_far (h : d.R e w base ok v xs) {p : Addr} (hok : ∀ k, ok k → k ≠ p.block) (u : Value) : d.R e (w.setCell p u) base ok v xs := R_step h (fun k ho _ => Below.heap_setCell w p u k (hok k ho))
theorem R_types (h : d.R e w base ok v xs) {g t : Nat} {cells : Array Value} (hb : w.heap[g]? = some (.cells cells t (0, 0))) (ht : ∀ q, q ∈ e :: d.E → q ≠ t) : d.R e w base (fun k => ok k ∧ k ≠ g) v xs :=
 R_mono (R_bound h) (fun k hk => ⟨hk.1, by
  obtain ⟨_, _, _, q, hq, cells', hc⟩ := hk
  rintro rfl
  rw [hc] at hb
  injection hb with hb
  injection hb with _ hb
  exact ht q hq hb⟩)
theorem R_reads (h : d.R e w base ok v xs) : ∃ A c, v = .slice A xs.length c ∧ xs.length ≤ c ∧ d.C w A xs.length xs := by
 obtain ⟨A, c, he, hl, hr⟩ := OwnRow.reads h.2
 exact ⟨A, c, he, hl, hr.imp_ (Below.refl _ _) (fun _ _ hp => d.K_of_M hp)⟩
theorem R_slice (h : d.R e w base ok v xs) : ∃ A c, v = .slice A xs.length c := by
 obtain ⟨A, c, he, _⟩ := R_reads h
 exact ⟨A, c, he⟩
theorem R_own (h : d.R e w base ok v xs) : ∃ inner, w.ownsRow base e d.sz v xs.length inner := by
 obtain ⟨_, inner, ho, _⟩ := h
 exact ⟨inner, ho⟩
theorem R_ne (h : d.R e w base ok v xs) {g t : Nat} {cells : Array Value} (hb : w.heap[g]? = some (.cells cells t (0, 0))) (ht : e ≠ t) : some g ≠ v.ownBlock := OwnRow.ne_block h.2 hb ht
end
def scalar {α : Type} (enc : α → Value) (h1 : ∀ x, (enc x).oneCell' = true) : Kd α where
 sz := 1
 E := []
 K := fun _ x cs => cs = [enc x]
 M := fun _ _ _ x cs => cs = [enc x]
 K_len := fun h => by rw [h]; rfl
 K_one := fun h u hu => by
  rw [h] at hu
  rw [List.mem_singleton.1 hu]
  exact h1 _
 K_below := fun _ h => h
 K_of_M := fun h => h
 M_mono := fun _ h => h
 M_bound := fun h => h
 M_move := fun _ h => h
 M_lower := fun _ h => h
def int (k : IntKind) : Kd Int := scalar (Value.int k) (fun _ => rfl)
def bool : Kd Bool := scalar Value.bool (fun _ => rfl)
def slice {α : Type} (e : Nat) (d : Kd α) : Kd (List α) where
 sz := 1
 E := e :: d.E
 K := fun w xs cs => ∃ A c, cs = [.slice A xs.length c] ∧ xs.length ≤ c ∧ d.C w A xs.length xs
 M := fun w base ok xs cs => ∃ v, cs = [v] ∧ d.R e w base ok v xs
 K_len := by
  rintro w x cs ⟨A, c, rfl, _⟩
  rfl
 K_one := by
  rintro w x cs ⟨A, c, rfl, _⟩ u hu
  rw [List.mem_singleton.1 hu]
  rfl
 K_below := by
  rintro w w1 x cs hb ⟨A, c, rfl, hl, hr⟩
  exact ⟨A, c, rfl, hl, C_below hr hb⟩
 K_of_M := by
  rintro w base ok x cs ⟨v, rfl, h⟩
  obtain ⟨A, c, rfl, hl, hr⟩ := R_reads h
  exact ⟨A, c, rfl, hl, hr⟩
 M_mono := by
  rintro w base ok ok' x cs hok ⟨v, rfl, h⟩
  exact ⟨v, rfl, R_mono h hok⟩
 M_bound := by
  rintro w base ok x cs ⟨v, rfl, h⟩
  exact ⟨v, rfl, R_bound h⟩
 M_move := by
  rintro w w1 base ok x cs hm ⟨v, rfl, h⟩
  exact ⟨v, rfl, R_move h hm⟩
 M_lower := by
  rintro w base base' ok x cs hb ⟨v, rfl, h⟩
  exact ⟨v, rfl, R_lower h hb⟩
def pair {α β : Type} (a : Kd α) (b : Kd β) : Kd (α × β) where
 sz := a.sz + b.sz
 E := a.E ++ b.E
 K := fun w x cs => ∃ c0 c1, cs = c0 ++ c1 ∧ a.K w x.1 c0 ∧ b.K w x.2 c1
 M := fun w base ok x cs => ∃ c0 c1, cs = c0 ++ c1 ∧ a.M w base ok x.1 c0 ∧ b.M w base ok x.2 c1
 K_len := by
  rintro w x cs ⟨c0, c1, rfl, h0, h1⟩
  rw [List.length_append, a.K_len h0, b.K_len h1]
 K_one := by
  rintro w x cs ⟨c0, c1, rfl, h0, h1⟩ u hu
  rcases List.mem_append.1 hu with hu | hu
  ·exact a.K_one h0 u hu
  exact b.K_one h1 u hu
 K_below := by
  rintro w w1 x cs hb ⟨c0, c1, rfl, h0, h1⟩
  exact ⟨c0, c1, rfl, a.K_below hb h0, b.K_below hb h1⟩
 K_of_M := by
  rintro w base ok x cs ⟨c0, c1, rfl, h0, h1⟩
  exact ⟨c0, c1, rfl, a.K_of_M h0, b.K_of_M h1⟩
 M_mono := by
  rintro w base ok ok' x cs hok ⟨c0, c1, rfl, h0, h1⟩
  exact ⟨c0, c1, rfl, a.M_mono hok h0, b.M_mono hok h1⟩
 M_bound := by
  rintro w base ok x cs ⟨c0, c1, rfl, h0, h1⟩
  refine ⟨c0, c1, rfl, a.M_mono ?_ (a.M_bound h0), b.M_mono ?_ (b.M_bound h1)⟩
  ·rintro k ⟨h2, h3, h4, q, hq, hc⟩
   exact ⟨h2, h3, h4, q, List.mem_append_left _ hq, hc⟩
  rintro k ⟨h2, h3, h4, q, hq, hc⟩
  exact ⟨h2, h3, h4, q, List.mem_append_right _ hq, hc⟩
 M_move := by
  rintro w w1 base ok x cs hm ⟨c0, c1, rfl, h0, h1⟩
  exact ⟨c0, c1, rfl, a.M_move hm h0, b.M_move hm h1⟩
 M_lower := by
  rintro w base base' ok x cs hb ⟨c0, c1, rfl, h0, h1⟩
  exact ⟨c0, c1, rfl, a.M_lower hb h0, b.M_lower hb h1⟩
def iso {α β : Type} (d : Kd α) (f : β → α) : Kd β where
 sz := d.sz
 E := d.E
 K := fun w x cs => d.K w (f x) cs
 M := fun w base ok x cs => d.M w base ok (f x) cs
 K_len := d.K_len
 K_one := d.K_one
 K_below := d.K_below
 K_of_M := d.K_of_M
 M_mono := d.M_mono
 M_bound := d.M_bound
 M_move := d.M_move
 M_lower := d.M_lower
def bot {α : Type} (sz : Nat) (E : List Nat) : Kd α where
 sz := sz
 E := E
 K := fun _ _ _ => False
 M := fun _ _ _ _ _ => False
 K_len := fun h => h.elim
 K_one := fun h => h.elim
 K_below := fun _ h => h
 K_of_M := fun h => h
 M_mono := fun _ h => h
 M_bound := fun h => h
 M_move := fun _ h => h
 M_lower := fun _ h => h
def upto {α : Type} (F : Kd α → Kd α) (sz : Nat) (E : List Nat) : Nat → Kd α
 | 0 => bot sz E
 | n + 1 => F (upto F sz E n)
theorem C_get {α : Type} {d : Kd α} {w : World} {A : Option Addr} {n : Nat} {xs : List α} (h : d.C w A n xs) (z : α) (i : Int) (h0 : 0 ≤ i) (h1 : i < n) :
  ∃ ad c, A = some ad ∧ c.length = d.sz ∧ d.K w (xs.getD i.toNat z) c ∧ ∀ j u, c[j]? = some u → w.cell? (ad.add (i.toNat * d.sz + j)) = some u := ReadsRow.get_ h z i h0 h1
theorem R_appended {α : Type} {d : Kd α} {e base : Nat} {ok okp : Nat → Prop} {W w1 : World} {v v1 : Value} {xs : List α} {p : α} {inner cs : List Value} (h0 : ∀ k, v.ownBlock = some k → ok k) (hr : Reps (d.M W base (fun k => ok k ∧ some k ≠ v.ownBlock)) d.sz xs inner) (hp : d.M W base okp p cs) (hokp : ∀ k, okp k → ok k ∧ some k ≠ v.ownBlock) (hfresh : ∀ k, W.heap.size ≤ k → ok k)
  (hown : w1.ownsRow base e d.sz v1 (xs.length + 1) (inner ++ cs)) (hg : W.grownBy w1 v.ownBlock) (hat : v1.ownBlock = v.ownBlock ∨ ∃ b, v1.ownBlock = some b ∧ W.heap.size ≤ b) : d.R e w1 base ok v1 (xs ++ [p]) := by
 have hne : ∀ k, some k ≠ v.ownBlock → k < W.heap.size → some k ≠ v1.ownBlock := by
  intro k hk hlt
  rcases hat with hat | ⟨b, hb, hle⟩
  ·rw [hat]; exact hk
  rw [hb]
  intro he
  injection he with he
  omega
 have step : ∀ {q : α} {c : List Value} {o : Nat → Prop}, d.M W base o q c → (∀ k, o k → ok k ∧ some k ≠ v.ownBlock) → d.M w1 base (fun k => ok k ∧ some k ≠ v1.ownBlock) q c := by
  intro q c o hq ho
  have h1 := d.M_move (w1 := w1) (fun k hk => hg.block k hk.2.2.1 (ho k hk.1).2) (d.M_bound hq)
  exact d.M_mono (fun k hk => ⟨(ho k hk.1).1, hne k (ho k hk.1).2 hk.2.2.1⟩) h1
 refine ⟨fun k hk => ?_, inner ++ cs, by rw [List.length_append, List.length_singleton]; exact hown, ?_⟩
 ·rcases hat with hat | ⟨b, hb, hle⟩
  ·exact h0 k (hat ▸ hk)
  rw [hb] at hk
  injection hk with hk
  exact hfresh k (by omega)
 exact (hr.imp_ (fun _ _ hq => step hq (fun _ hk => hk))).snoc (step hp hokp) (d.K_len (d.K_of_M hp))
section
variable {P : Program} {ops : Array Oper} {rest : List Oper} {o : Oper} {a : Act} {Q : Exit → Act → World → Prop} {α : Type}
theorem R_append (d : Kd α) {w0 W : World} (base : Nat) (hgd : o.guard = none) (s x : Operand) (t e : TypeId) (z : Value) (bytes : Nat)
  (ho : o.op = .call { callee := .builtin .append, args := #[s, x], argTypes := #[t, t] })
  (ht : P.underlying t = some (.slice e)) (hinfo : (P.info? e).map (fun i => (i.zero, i.size, i.bytes)) = some (some z, d.sz, bytes)) (hz : z.cells.size = d.sz) (hs0 : 0 < d.sz) (hb0 : 0 < bytes)
  (v : Value) (xs : List α) (p : α) (cs : List Value) (ok okp : Nat → Prop) (hs : a.eval s = v) (hx : a.eval x = .slice (some ⟨W.heap.size, 0, none⟩) 1 1) (hp : d.M W base okp p cs) (hokp : ∀ k, okp k → ok k ∧ some k ≠ v.ownBlock) (hfresh : ∀ k, W.heap.size ≤ k → ok k)
  (HO : d.R e W base ok v xs) (HB : Below base w0 W) (hbase : base ≤ W.heap.size) (hl : (xs.length + 1) * bytes ≤ 140737488355328)
  (h : ∀ v1 w1, d.R e w1 base ok v1 (xs ++ [p]) → Below base w0 w1 → W.grownBy w1 v.ownBlock → (v1.ownBlock = v.ownBlock ∨ ∃ b, v1.ownBlock = some b ∧ W.heap.size ≤ b) → wpList P ops Q rest (a.put o.dst v1) w1) :
  wpList P ops Q (o :: rest) a (W.alloc (.cells cs.toArray e)) := by
 obtain ⟨h0, inner, hown, hr⟩ := HO
 refine print_append_cells base hgd s x t e z d.sz bytes ho ht hinfo hz hs0 hb0 v xs.length inner cs hs hx (d.K_len (d.K_of_M hp)) (d.K_one (d.K_of_M hp)) hown HB hbase hl ?_
 intro v1 w1 hown1 hb1 hg1 hat1
 exact h v1 w1 (R_appended h0 hr hp hokp hfresh hown1 hg1 hat1) hb1 hg1 hat1
end
theorem reps_scalar {α : Type} {enc : α → Value} (xs : List α) : Reps (fun (x : α) (cs : List Value) => cs = [enc x]) 1 xs (encs enc xs) := by
 refine ⟨by simp [encs], fun j p hj => ?_⟩
 obtain ⟨hl, hp⟩ := List.getElem?_eq_some_iff.1 hj
 have hl' : j < (encs enc xs).length := by rw [encs_length]; exact hl
 rw [Nat.mul_one, List.drop_eq_getElem_cons hl']
 simp [encs, hp]
theorem R_of_own {α : Type} {enc : α → Value} {h1 : ∀ x, (enc x).oneCell' = true} {e : Nat} {w : World} {base : Nat} {ok : Nat → Prop} {v : Value} {xs : List α} (ho : w.ownsRow base e 1 v xs.length (encs enc xs)) (hok : ∀ k, v.ownBlock = some k → ok k) : (scalar enc h1).R e w base ok v xs := ⟨hok, encs enc xs, ho, reps_scalar xs⟩
theorem own_of_R {α : Type} {enc : α → Value} {h1 : ∀ x, (enc x).oneCell' = true} {e : Nat} {w : World} {base : Nat} {ok : Nat → Prop} {v : Value} {xs : List α} (h : (scalar enc h1).R e w base ok v xs) : w.ownsRow base e 1 v xs.length (encs enc xs) := by
 obtain ⟨_, inner, ho, hr⟩ := h
 have : inner = encs enc xs := by
  apply List.ext_getElem?
  intro j
  rcases Nat.lt_or_ge j xs.length with hj | hj
  ·have h2 := hr.2 j _ (List.getElem?_eq_getElem hj)
   have hl : j < inner.length := by have := hr.1; simp [scalar] at this; omega
   have h3 : (inner.drop (j * 1)).take 1 = [enc xs[j]] := h2
   rw [Nat.mul_one, List.drop_eq_getElem_cons hl] at h3
   have h4 : inner[j] = enc xs[j] := by
    have h5 := congrArg List.head? h3
    rw [List.take_succ_cons] at h5
    exact Option.some.inj h5
   rw [List.getElem?_eq_getElem hl, h4]
   simp [encs, List.getElem?_eq_getElem hj]
  have h3 : inner.length = xs.length := by have := hr.1; simp [scalar] at this; omega
  rw [List.getElem?_eq_none (by omega), List.getElem?_eq_none (by rw [encs_length]; omega)]
 rw [← this]
 exact ho
theorem reads_of_C {α : Type} {enc : α → Value} {d : α} {h1 : ∀ x, (enc x).oneCell' = true} {w : World} {A : Option Addr} {n : Nat} {xs : List α} (h : (scalar enc h1).C w A n xs) : ReadsOf enc d w A n xs := by
 refine ⟨h.1, h.2.1, fun hn => ?_⟩
 obtain ⟨ad, e, hc⟩ := h.2.2 hn
 refine ⟨ad, e, fun j hj => ?_⟩
 have hl : j < xs.length := by have := h.1; omega
 obtain ⟨c, _, hK, hcell⟩ := hc j _ (List.getElem?_eq_getElem hl)
 have hK' : c = [enc xs[j]] := hK
 subst hK'
 have := hcell 0 _ rfl
 simpa [scalar, List.getD_eq_getElem?_getD, List.getElem?_eq_getElem hl] using this
end Kd
namespace Kd
theorem R_after {α : Type} {d : Kd α} {e base : Nat} {ok : Nat → Prop} {W w1 : World} {u v v1 : Value} {xs : List α} (h : d.R e W base (fun k => ok k ∧ some k ≠ v.ownBlock) u xs) (hg : W.grownBy w1 v.ownBlock) (hat : v1.ownBlock = v.ownBlock ∨ ∃ b, v1.ownBlock = some b ∧ W.heap.size ≤ b) : d.R e w1 base (fun k => ok k ∧ some k ≠ v1.ownBlock) u xs := by
 refine R_mono (R_move (R_bound h) (fun k hk => hg.block k hk.2.2.1 hk.1.2)) (fun k hk => ⟨hk.1.1, ?_⟩)
 rcases hat with hat | ⟨b, hb, hle⟩
 ·rw [hat]; exact hk.1.2
 rw [hb]
 intro he
 injection he with he
 have := hk.2.2.1
 omega
theorem M_row {α : Type} {d : Kd α} {e base : Nat} {ok : Nat → Prop} {w : World} {v : Value} {xs : List α} (h : d.R e w base ok v xs) : (slice e d).M w base ok xs [v] := ⟨v, rfl, h⟩
end Kd
namespace Kd
section
variable {α β : Type} {d : Kd α} {d' : Kd β} {e e' : Nat} {w w1 W : World} {base b b' : Nat} {ok ok' okv oku : Nat → Prop} {v u : Value} {xs : List α} {ys : List β}
theorem R_alloc (h : d.R e w base ok v xs) (o : Obj) : d.R e (w.alloc o) base ok v xs := R_below h (below_alloc (Below.refl _ _) o)
theorem R_drew (h : d.R e w base ok v xs) : d.R e w.drew base ok v xs := R_below h (below_drew (Below.refl _ _))
theorem R_drewN (h : d.R e w base ok v xs) (m : Nat) : d.R e (w.drewN m) base ok v xs := R_below h (pw_below_drewN (Below.refl _ _) m)
theorem C_alloc {A : Option Addr} {n : Nat} (h : d.C w A n xs) (o : Obj) : d.C (w.alloc o) A n xs := C_below h (below_alloc (Below.refl _ _) o)
theorem C_drew {A : Option Addr} {n : Nat} (h : d.C w A n xs) : d.C w.drew A n xs := C_below h (below_drew (Below.refl _ _))
theorem C_drewN {A : Option Addr} {n : Nat} (h : d.C w A n xs) (m : Nat) : d.C (w.drewN m) A n xs := C_below h (pw_below_drewN (Below.refl _ _) m)
theorem C_nil (d : Kd α) (w : World) : d.C w none ([] : List α).length [] := ⟨rfl, by simp, fun h => absurd h (Nat.lt_irrefl 0)⟩
theorem R_reads' {A : Option Addr} {n c : Nat} (h : d.R e w base ok (.slice A n c) xs) : n = xs.length ∧ n ≤ c ∧ d.C w A xs.length xs := by
 obtain ⟨A', c', he, hl, hr⟩ := R_reads h
 injection he with h1 h2 h3
 subst h1
 exact ⟨h2, by omega, hr⟩
theorem R_lt (h : d.R e w base ok v xs) : ∀ k, v.ownBlock = some k → k < w.heap.size := by
 obtain ⟨inner, ho⟩ := R_own h
 exact own_lt ho
theorem R_base (h : d.R e w base ok v xs) : ∀ k, v.ownBlock = some k → base ≤ k := by
 obtain ⟨inner, ho⟩ := R_own h
 exact own_base ho
theorem R_form (h : d.R e w base ok v xs) (hp : 0 < xs.length) : ∃ g cap, v = .slice (some ⟨g, 0, none⟩) xs.length cap ∧ base ≤ g ∧ g < w.heap.size ∧ ∃ cells, w.heap[g]? = some (.cells cells e (0, 0)) := by
 obtain ⟨inner, ho⟩ := R_own h
 obtain ⟨g, cap, he, hb, hl⟩ := ho.form hp
 obtain ⟨cells, hc⟩ := own_typed ho g (by rw [he]; simp [Value.ownBlock])
 exact ⟨g, cap, he, hb, hl, cells, hc⟩
end
section
variable {w W : World} {A : Option Addr} {n : Nat}
theorem at_int {k : IntKind} {xs : List Int} (h : (Kd.int k).C w A n xs) (i : Int) (h0 : 0 ≤ i) (h1 : i < n) : ∃ ad, A = some ad ∧ w.cell? (ad.add i.toNat) = some (.int k (rd xs i)) :=
 ReadsOf.at_ (reads_of_C (enc := Value.int k) (d := (0 : Int)) (h1 := fun _ => rfl) h) i h0 h1
variable {α : Type} {enc : α → Value} {h1 : ∀ x, (enc x).oneCell' = true} {e base g cap : Nat} {ok : Nat → Prop} {xs : List α}
theorem R_cell (d : α) (h : (scalar enc h1).R e W base ok (.slice (some ⟨g, 0, none⟩) xs.length cap) xs) (i : Int) (h0 : 0 ≤ i) (hi : i < xs.length) : W.cell? ⟨g, i.toNat, none⟩ = some (enc (rdOf d xs i)) ∧ W.frozen? ⟨g, i.toNat, none⟩ = false := own_at_of (own_of_R h) i h0 hi
theorem R_put (h : (scalar enc h1).R e W base ok (.slice (some ⟨g, 0, none⟩) xs.length cap) xs) (i : Int) (x : α) : (scalar enc h1).R e (W.setCell ⟨g, i.toNat, none⟩ (enc x)) base ok (.slice (some ⟨g, 0, none⟩) xs.length cap) (xs.set i.toNat x) ∧ W.grownBy (W.setCell ⟨g, i.toNat, none⟩ (enc x)) (some g) := by
 obtain ⟨ho, hg⟩ := own_store_of (own_of_R h) i x
 exact ⟨R_of_own (by rw [List.length_set]; exact ho) h.1, hg⟩
end
section
variable {P : Program} {ops : Array Oper} {rest : List Oper} {o : Oper} {a : Act} {Q : Exit → Act → World → Prop}
theorem event_run {W w1 : World} {v : Value} (hgd : o.guard = none) (hrun : (execOp a.eval o).run P W = .ok (.value v) w1) (h : wpList P ops Q rest (a.put o.dst v) w1) : wpList P ops Q (o :: rest) a W := by
 refine wpList_plain hgd fun K hK => ?_
 unfold Oper.wp
 rw [hrun]
 exact hK _ _ h
variable {α : Type}
theorem R_lit (d : Kd α) {w0 W : World} (base e : Nat) (hgd : o.guard = none) {N : Tmp} (_hd : o.dst = some N) {xs : List α} {inner : List Value} {ok okp : Nat → Prop}
  (hrun : (execOp a.eval o).run P W = .ok (.value (.slice (some ⟨W.heap.size, 0, none⟩) xs.length xs.length)) (W.alloc (.cells inner.toArray e)))
  (hrep : Reps (d.M W base okp) d.sz xs inner) (hok : ∀ k, okp k → ok k) (hfresh : ok W.heap.size) (HB : Below base w0 W) (hbase : base ≤ W.heap.size) (hm : xs.length ≤ 9223372036854775807)
  (h : ∀ v1 w1, d.R e w1 base ok v1 xs → Below base w0 w1 → W.grownBy w1 none → (∃ b, v1.ownBlock = some b ∧ W.heap.size ≤ b) → wpList P ops Q rest (a.put o.dst v1) w1) : wpList P ops Q (o :: rest) a W := by
 refine event_run hgd hrun (h _ _ ⟨fun k hk => ?_, inner, ?_, ?_⟩ (HB.alloc hbase _) (World.grownBy_alloc W _ none) ⟨W.heap.size, by simp [Value.ownBlock], Nat.le_refl _⟩)
 ·have : W.heap.size = k := by simpa [Value.ownBlock] using hk
  subst this
  exact hfresh
 ·have h2 := World.ownsRow_lit (base := base) (e := e) (size := d.sz) W inner.toArray xs.length hbase (by simpa [maxLen] using hm) (by simpa using hrep.1)
  simpa using h2
 refine hrep.imp_ (fun p c hp => d.M_mono (fun k hk => ⟨hok k hk.1, fun he => ?_⟩) (M_below (d.M_bound hp) (below_alloc (Below.refl _ _) _)))
 have h3 : k = W.heap.size := by simpa [Value.ownBlock] using he
 have := hk.2.2.1
 omega
theorem reps_made {α : Type} {R : α → List Value → Prop} {z : Value} {size : Nat} {z0 : α} (hz : z.cells.size = size) (hs : 0 < size) (h0 : R z0 z.cells.toList) (m : Nat) : Reps R size (List.replicate m z0) (madeCells z.cells (m * size)).toList := by
 refine ⟨by simp [size_madeCells], fun j p hj => ?_⟩
 obtain ⟨hjl, hp⟩ := List.getElem?_eq_some_iff.1 hj
 have hjm : j < m := by simpa using hjl
 have hp' : z0 = p := by simpa using hp
 subst hp'
 have hle : j * size + size ≤ m * size := by rw [← Nat.succ_mul]; exact Nat.mul_le_mul_right _ hjm
 have : ((madeCells z.cells (m * size)).toList.drop (j * size)).take size = z.cells.toList := by
  apply List.ext_getElem
  ·simp [size_madeCells, hz]
   omega
  intro i h1 h2
  have hi : i < size := by rw [Array.length_toList, hz] at h2; exact h2
  have hmod : (j * size + i) % size = i := by
   rw [Nat.mul_comm, Nat.mul_add_mod]
   exact Nat.mod_eq_of_lt hi
  simp [madeCells, hz, hmod]
  rw [getElem!_pos z.cells i (by omega)]
 rw [this]
 exact h0
theorem R_make (d : Kd α) {w0 W : World} (base e : Nat) (hgd : o.guard = none) {N : Tmp} (hd : o.dst = some N) (t : TypeId) (x y : Operand) (ho : o.op = .makeSlice t x y) (n : Int) (hx : a.eval x = .int .i64 n) (hy : a.eval y = .int .i64 n)
  (ht : P.underlying t = some (.slice e)) (z : Value) (bytes : Nat) (hinfo : (P.info? e).map (fun i => (i.zero, i.size, i.bytes)) = some (some z, d.sz, bytes)) (hz : z.cells.size = d.sz) (hs0 : 0 < d.sz) (hb0 : 0 < bytes)
  (z0 : α) {ok okp : Nat → Prop} (hzero : d.M W base okp z0 z.cells.toList) (hok : ∀ k, okp k → ok k) (hfresh : ok W.heap.size) (h0 : 0 ≤ n) (hl : n.toNat * bytes ≤ 281474976710656) (HB : Below base w0 W) (hbase : base ≤ W.heap.size)
  (h : ∀ v1 w1, d.R e w1 base ok v1 (List.replicate n.toNat z0) → Below base w0 w1 → W.grownBy w1 none → (∃ b, v1.ownBlock = some b ∧ W.heap.size ≤ b) → wpList P ops Q rest (a.put o.dst v1) w1) : wpList P ops Q (o :: rest) a W := by
 obtain ⟨m, rfl⟩ := Int.eq_ofNat_of_zero_le h0
 simp only [Int.toNat_natCast] at hl h
 obtain ⟨i0, hi, hzz⟩ := Option.map_eq_some_iff.1 hinfo
 simp only [Prod.mk.injEq] at hzz
 obtain ⟨hz0, hz1, hz2⟩ := hzz
 have hm : m ≤ 281474976710656 := Nat.le_trans (Nat.le_mul_of_pos_right _ hb0) hl
 have hr := run_make (P := P) W t e i0 z ht hi hz0 .i64 .i64 (m : Int) (m : Int) (by omega) (by omega)
  (by
   have h3 : ((i0.bytes * m : Nat) : Int) ≤ 281474976710656 := by rw [hz2, Nat.mul_comm]; omega
   rwa [Int.natCast_mul] at h3) (by omega)
 simp only [Int.toNat_natCast] at hr
 rw [hz1] at hr
 refine R_lit d base e hgd hd (xs := List.replicate m z0) (inner := (madeCells z.cells (m * d.sz)).toList) (okp := okp) (ok := ok) ?_ (reps_made hz hs0 hzero m) hok hfresh HB hbase (by simp; omega) h
 simp [execOp, ho, hx, hy, hr]
end
end Kd
def QRow (w : World) (base : Nat) (e : TypeId) (size : Nat) (v : Value) (n : Nat) (xs : List Value) : Prop :=
 xs.length = n * size ∧
 ((n = 0 ∧ ∃ A, v = .slice A 0 0 ∧ ∀ a, A = some a → base ≤ a.block ∧ ∃ cur, w.heap[a.block]? = some (.cells cur e (0, 0))) ∨
  ∃ g off cap cur, v = .slice (some ⟨g, off * size, none⟩) n cap ∧ base ≤ g ∧ w.heap[g]? = some (.cells cur e (0, 0)) ∧ n ≤ cap ∧ off + cap ≤ maxLen ∧ cur.size = (off + cap) * size ∧ (cur.toList.drop (off * size)).take (n * size) = xs)
section
variable {w w1 : World} {base n size : Nat} {e : TypeId} {v : Value} {xs : List Value}
theorem q_of_own (h : w.ownsRow base e size v n xs) : QRow w base e size v n xs := by
 obtain ⟨h1, h2⟩ := h
 refine ⟨h1, ?_⟩
 rcases h2 with ⟨rfl, h0⟩ | ⟨g, cap, cur, rfl, hb, hh, hnc, hcm, hcs, ht⟩
 ·exact .inl ⟨h0, none, rfl, fun a ha => by cases ha⟩
 exact .inr ⟨g, 0, cap, cur, by rw [Nat.zero_mul], hb, hh, hnc, by rw [Nat.zero_add]; exact hcm, by rw [Nat.zero_add]; exact hcs, by rw [Nat.zero_mul, List.drop_zero]; exact ht⟩
theorem add_at (g o j : Nat) : (⟨g, o, none⟩ : Addr).add j = ⟨g, o + j, none⟩ := by unfold Addr.add; split <;> simp_all
end
namespace Kd
def Q {α : Type} (d : Kd α) (e : Nat) (w : World) (base : Nat) (ok : Nat → Prop) (v : Value) (xs : List α) : Prop :=
 (∀ k, v.ownBlock = some k → ok k) ∧ ∃ inner, QRow w base e d.sz v xs.length inner ∧ Reps (d.M w base (fun k => ok k ∧ some k ≠ v.ownBlock)) d.sz xs inner
section
variable {α : Type} {d : Kd α} {e : Nat} {w w1 W : World} {base : Nat} {ok ok' : Nat → Prop} {v : Value} {xs : List α}
theorem Q_of_R (h : d.R e w base ok v xs) : d.Q e w base ok v xs := by
 obtain ⟨h0, inner, ho, hr⟩ := h
 exact ⟨h0, inner, q_of_own ho, hr⟩
theorem Q_nil (d : Kd α) (e : Nat) (w : World) (base : Nat) (ok : Nat → Prop) : d.Q e w base ok (.slice none 0 0) [] := Q_of_R (R_nil d e w base ok)
end
end Kd
namespace Kd
section
variable {α : Type} {d : Kd α} {e e' : Nat} {w w1 W : World} {base : Nat} {ok : Nat → Prop} {u v : Value} {xs : List α}
theorem R_typed (h : d.R e w base ok v xs) : ∀ k, v.ownBlock = some k → ∃ cells, w.heap[k]? = some (.cells cells e (0, 0)) := by
 obtain ⟨inner, ho⟩ := R_own h
 exact fun k hk => own_typed ho k hk
theorem R_apart' (h : d.R e W base ok u xs) (hty : ∀ k, v.ownBlock = some k → ∃ cells, W.heap[k]? = some (.cells cells e' (0, 0))) (ht : ∀ q, q ∈ e :: d.E → q ≠ e') : d.R e W base (fun k => ok k ∧ some k ≠ v.ownBlock) u xs := by
 refine R_mono (R_bound h) (fun k hk => ⟨hk.1, fun he => ?_⟩)
 obtain ⟨_, _, _, q, hq, cells, hc⟩ := hk
 obtain ⟨cells', hc'⟩ := hty k he.symm
 rw [hc] at hc'
 injection hc' with hc'
 injection hc' with _ hc'
 exact ht q hq hc'
theorem R_elder' (hu : d.R e W base ok u xs) (hbase : ∀ k, v.ownBlock = some k → W.heap.size ≤ k) (hb : Below W.heap.size W w1) : d.R e w1 base (fun k => ok k ∧ some k ≠ v.ownBlock) u xs :=
 R_mono (R_move (R_bound hu) (fun k hk => hb.block k hk.2.2.1)) (fun k hk => ⟨hk.1, fun he => by have := hbase k he.symm; have := hk.2.2.1; omega⟩)
theorem R_new' (h : d.R e w1 W.heap.size ok v xs) (hlt : ∀ k, u.ownBlock = some k → k < W.heap.size) : d.R e w1 W.heap.size (fun k => ok k ∧ some k ≠ u.ownBlock) v xs :=
 R_mono (R_bound h) (fun k hk => ⟨hk.1, fun he => by have := hlt k he.symm; have := hk.2.1; omega⟩)
theorem fresh' (hlt : ∀ k, u.ownBlock = some k → k < W.heap.size) : ∀ k, W.heap.size ≤ k → some k ≠ u.ownBlock := fun k hk he => by have := hlt k he.symm; omega
end
end Kd
namespace Kd
section
variable {α : Type} {d : Kd α} {e base g n cap : Nat} {ok okp : Nat → Prop} {W : World} {xs : List α}
theorem R_elem (h : d.R e W base ok (.slice (some ⟨g, 0, none⟩) n cap) xs) (z : α) (i : Int) (h0 : 0 ≤ i) (h1 : i < n) :
  ∃ c, c.length = d.sz ∧ d.M W base (fun k => ok k ∧ k ≠ g) (xs.getD i.toNat z) c ∧ (∀ j u, c[j]? = some u → W.cell? ⟨g, i.toNat * d.sz + j, none⟩ = some u) ∧ ∀ j, W.frozen? ⟨g, i.toNat * d.sz + j, none⟩ = false := by
 obtain ⟨hn, hnc, hC⟩ := R_reads' h
 obtain ⟨_, inner, ho, hr⟩ := h
 have hil : i.toNat < xs.length := by omega
 have hseg : i.toNat * d.sz + d.sz ≤ inner.length := by rw [hr.1, ← Nat.succ_mul]; exact Nat.mul_le_mul_right _ hil
 have hM := hr.2 i.toNat _ (List.getElem?_eq_getElem hil)
 refine ⟨(inner.drop (i.toNat * d.sz)).take d.sz, by rw [List.length_take, List.length_drop]; omega, ?_, fun j u hu => ?_, fun j => ?_⟩
 ·rw [List.getD_eq_getElem?_getD, List.getElem?_eq_getElem hil]
  exact d.M_mono (fun k hk => ⟨hk.1, fun he => hk.2 (by rw [he]; simp [Value.ownBlock])⟩) hM
 ·rw [List.getElem?_take] at hu
  split at hu
  ·rw [List.getElem?_drop] at hu
   have := ho.cells (g := g) (by simp [Value.ownBlock]) _ u hu
   rwa [add_plain] at this
  cases hu
 obtain ⟨cells, hc⟩ := own_typed ho g (by simp [Value.ownBlock])
 exact blk_frozen hc _
end
end Kd
theorem add_add (a : Addr) (i j : Nat) : (a.add i).add j = a.add (i + j) := by
 unfold Addr.add
 by_cases h1 : i = 0 <;> by_cases h2 : j = 0 <;> simp [h1, h2, Nat.add_assoc]
theorem below_size {w W : World} (h : Below w.heap.size w W) : w.heap.size ≤ W.heap.size := h.size
theorem below_step {w W w2 : World} (h : Below w.heap.size w W) (k : Below W.heap.size W w2) : Below w.heap.size w w2 := below_then h h.size k
theorem ReadsInt.nil (W : World) (k : IntKind) : ReadsInt W k none ([] : List Int).length [] := ⟨rfl, by simp, fun h => absurd h (Nat.lt_irrefl 0)⟩
theorem ReadsInt.drewN {W : World} {k : IntKind} {A : Option Addr} {n : Nat} {xs : List Int} (h : ReadsInt W k A n xs) (m : Nat) : ReadsInt (W.drewN m) k A n xs := h
theorem below_set {w W : World} {g j : Nat} {v : Value} (h : Below w.heap.size w W) (hg : w.heap.size ≤ g) : Below w.heap.size w (W.setCell ⟨g, j, none⟩ v) := h.setCell hg _
theorem keep_cell {w W : World} {g : Nat} (h : KeepBut w W g none) {a : Addr} {v : Value} (hc : w.cell? a = some v) (hne : a.block ≠ g) : W.cell? a = some v := by
 have := h.2 a.block (World.block_lt_of_cell? w a hc) hne (by simp)
 simpa [World.cell?, this] using hc
theorem add_block (a : Addr) (i : Nat) : (a.add i).block = a.block := by unfold Addr.add; split <;> rfl
theorem ReadsOf.nil {α : Type} (enc : α → Value) (d : α) (W : World) : ReadsOf enc d W none ([] : List α).length [] := ⟨rfl, by simp, fun h => absurd h (Nat.lt_irrefl 0)⟩
theorem ReadsOf.drewN {α : Type} {enc : α → Value} {d : α} {W : World} {A : Option Addr} {n : Nat} {xs : List α} (h : ReadsOf enc d W A n xs) (m : Nat) : ReadsOf enc d (W.drewN m) A n xs := h
theorem ReadsInt.keep {w W : World} {k : IntKind} {A : Option Addr} {n g : Nat} {xs : List Int} (h : ReadsInt w k A n xs) (hk : KeepBut w W g none) (hf : ∀ ad, A = some ad → 0 < n → ad.block ≠ g) : ReadsInt W k A n xs :=
 ⟨h.1, h.2.1, fun hn => by
  obtain ⟨ad, e, hc⟩ := h.2.2 hn
  exact ⟨ad, e, fun j hj => keep_cell hk (hc j hj) (by rw [add_block]; exact hf ad e hn)⟩⟩
theorem ReadsOf.keep {α : Type} {enc : α → Value} {d : α} {w W : World} {A : Option Addr} {n g : Nat} {xs : List α} (h : ReadsOf enc d w A n xs) (hk : KeepBut w W g none) (hf : ∀ ad, A = some ad → 0 < n → ad.block ≠ g) : ReadsOf enc d W A n xs :=
 ⟨h.1, h.2.1, fun hn => by
  obtain ⟨ad, e, hc⟩ := h.2.2 hn
  exact ⟨ad, e, fun j hj => keep_cell hk (hc j hj) (by rw [add_block]; exact hf ad e hn)⟩⟩
theorem cell_far {W : World} {p a : Addr} (h : a.block ≠ p.block) (u : Value) : (W.setCell p u).cell? a = W.cell? a := by
 have := Below.heap_setCell W p u a.block h
 simp [World.cell?, this]
theorem blk_put {w : World} {g : Nat} {t : TypeId} {cs cs' : Array Value} (h : w.heap[g]? = some (.cells cs t (0, 0))) (i : Nat) (u : Value) (e : cs.setIfInBounds i u = cs') : (w.setCell ⟨g, i, none⟩ u).heap[g]? = some (.cells cs' t (0, 0)) := e ▸ blk_set h i u
theorem below_drew1 {base : Nat} {w W : World} (h : Below base w W) : Below base w W.drew := h.drew
namespace Kd
section
variable {α : Type} {d : Kd α} {e base g : Nat} {ok : Nat → Prop} {w w1 : World} {v : Value} {xs : List α} {o : Obj}
theorem R_newB (h : d.R e w1 w.heap.size ok v xs) (hb : w.heap[g]? = some o) : d.R e w1 w.heap.size (fun k => ok k ∧ k ≠ g) v xs := R_mono (R_bound h) (fun k hk => ⟨hk.1, by have := blk_lt hb; have := hk.2.1; omega⟩)
theorem freshB (hb : w.heap[g]? = some o) : ∀ k, w.heap.size ≤ k → k ≠ g := fun k hk => by have := blk_lt hb; omega
end
end Kd
section
variable {P : Program} {ops : Array Oper} {rest : List Oper} {o : Oper} {a : Act} {Q : Exit → Act → World → Prop}
theorem box_event {W : World} (hgd : o.guard = none) {N : Tmp} (_hd : o.dst = some N) {cs : Array Value} {t : TypeId}
  (hrun : (execOp a.eval o).run P W = .ok (.value (.pointer (some ⟨W.heap.size, 0, none⟩))) (W.alloc (.cells cs t (0, 0))))
  (h : ∀ g, g = W.heap.size → ∀ w1, w1.heap[g]? = some (.cells cs t (0, 0)) → Below W.heap.size W w1 → wpList P ops Q rest (a.put o.dst (.pointer (some ⟨g, 0, none⟩))) w1) : wpList P ops Q (o :: rest) a W :=
 Kd.event_run hgd hrun (h _ rfl _ (blk_new W _) (below_alloc (Below.refl _ _) _))
end
namespace Kd
section
variable {α : Type} {enc : α → Value} {h1 : ∀ x, (enc x).oneCell' = true} {e base g n cap : Nat} {ok : Nat → Prop} {W : World} {xs : List α}
theorem R_celln (d : α) (h : (scalar enc h1).R e W base ok (.slice (some ⟨g, 0, none⟩) n cap) xs) (i : Int) (h0 : 0 ≤ i) (hi : i < n) : W.cell? ⟨g, i.toNat, none⟩ = some (enc (rdOf d xs i)) ∧ W.frozen? ⟨g, i.toNat, none⟩ = false := by
 obtain ⟨rfl, _⟩ := R_reads' h
 exact R_cell d h i h0 hi
end
end Kd
section
variable {P : Program} {ops : Array Oper} {rest : List Oper} {o : Oper} {a : Act} {Q : Exit → Act → World → Prop}
theorem store_event {W w1 : World} (hgd : o.guard = none) {t : TypeId} {p : Tmp} {v : Operand} (_ho : o.op = .store t (.tmp p) v) (hN : o.dst = none)
  (hrun : (execOp a.eval o).run P W = .ok .skip w1) (h : ∀ w', w' = w1 → wpList P ops Q rest a w') : wpList P ops Q (o :: rest) a W := by
 refine wpList_plain hgd fun K hK => ?_
 unfold Oper.wp
 rw [hrun]
 show K (a.put o.dst undef) w1
 rw [hN]
 exact hK _ _ (h _ rfl)
end
namespace Kd
section
variable {α : Type} {enc : α → Value} {h1 : ∀ x, (enc x).oneCell' = true} {e base g n cap : Nat} {ok : Nat → Prop} {W : World} {xs : List α}
theorem R_putg (h : (scalar enc h1).R e W base ok (.slice (some ⟨g, 0, none⟩) n cap) xs) (i : Int) (x : α) : (scalar enc h1).R e (W.setCell ⟨g, i.toNat, none⟩ (enc x)) base ok (.slice (some ⟨g, 0, none⟩) n cap) (xs.set i.toNat x) ∧ W.grownBy (W.setCell ⟨g, i.toNat, none⟩ (enc x)) (some g) := by
 obtain ⟨rfl, _⟩ := R_reads' h
 exact R_put h i x
end
end Kd
section
variable {P : Program} {ops : Array Oper} {rest : List Oper} {o : Oper} {a : Act} {Q : Exit → Act → World → Prop} {W : World}
theorem gate_dst {N : Tmp} (_hN : o.dst = some N) (h : wpList P ops Q (o :: rest) a W) : wpList P ops Q (o :: rest) a W := h
theorem gate_store {t : TypeId} {p : Tmp} {v : Operand} (_ho : o.op = .store t (.tmp p) v) (h : wpList P ops Q (o :: rest) a W) : wpList P ops Q (o :: rest) a W := h
end
section
variable {P : Program} {ops : Array Oper} {o : Oper} {a : Act} {Q : Exit → Act → World → Prop} {Kc : Act → World → Prop}
theorem event_step {W w1 : World} {v : Value} (hw : Region.wanted o (yielded ops a.tmps) = true) (hrun : (execOp a.eval o).run P W = .ok (.value v) w1) (h : Kc (a.put o.dst v) w1) : if Region.wanted o (yielded ops a.tmps) = true then Oper.wp P o a W Kc Q else Kc (a.put o.dst undef) W := by
 rw [if_pos hw]
 unfold Oper.wp
 rw [hrun]
 exact h
theorem box_step {W : World} (hw : Region.wanted o (yielded ops a.tmps) = true) {N : Tmp} (_hd : o.dst = some N) {cs : Array Value} {t : TypeId}
  (hrun : (execOp a.eval o).run P W = .ok (.value (.pointer (some ⟨W.heap.size, 0, none⟩))) (W.alloc (.cells cs t (0, 0))))
  (h : ∀ g, g = W.heap.size → ∀ w1, w1.heap[g]? = some (.cells cs t (0, 0)) → Below W.heap.size W w1 → Kc (a.put o.dst (.pointer (some ⟨g, 0, none⟩))) w1) : if Region.wanted o (yielded ops a.tmps) = true then Oper.wp P o a W Kc Q else Kc (a.put o.dst undef) W :=
 event_step hw hrun (h _ rfl _ (blk_new W _) (below_alloc (Below.refl _ _) _))
end
end Go.Proofs.YtaheamdoldiojaaW.PrintWords
namespace Go.Proofs.YtaheamdoldiojaaW.PrintLast
section
variable {P : Program} {ops : Array Oper} {Q : Exit → Act → World → Prop} {md : Region.Mode} {S : World → Prop} {ds : List Nat}
def Region.reachB (md : Region.Mode) (ops : Array Oper) (i : Nat) : Nat → Nat → Bool
 | 0, _ => false
 | fuel + 1, d => match ops[d]? with
  | some o => o.after.any fun e => Region.binds md e && (e.on == i || Region.reachB md ops i fuel e.on)
  | none => false
def Region.closedB (md : Region.Mode) (ops : Array Oper) (listed : Array Bool) : Bool :=
 (List.range ops.size).all fun j => !listed.getD j false || match ops[j]? with
  | some o => o.after.all fun e => !Region.binds md e || listed.getD e.on false
  | none => true
def Region.lastB (md : Region.Mode) (ops : Array Oper) (listed : Array Bool) (ds : List Nat) (i : Nat) : Bool :=
 ds.all fun d => listed.getD d true || Region.reachB md ops i ops.size d
def ListedClosed (md : Region.Mode) (ops : Array Oper) (listed : Array Bool) : Prop :=
 ∀ j oj, ops[j]? = some oj → listed.getD j false = true → ∀ e ∈ oj.after, Region.binds md e = true → listed.getD e.on false = true
theorem Region.closedB_spec {listed : Array Bool} (h : Region.closedB md ops listed = true) : ListedClosed md ops listed := by
 intro j oj hj hl e he hb
 have hlt : j < ops.size := (Array.getElem?_eq_some_iff.1 hj).1
 have h1 := List.all_eq_true.1 h j (List.mem_range.2 hlt)
 simp only [hl, hj, Bool.not_true, Bool.false_or] at h1
 have h2 := Array.all_eq_true_iff_forall_mem.1 h1 e he
 simpa [hb] using h2
theorem ListedClosed.set {listed : Array Bool} {i : Nat} (h : ListedClosed md ops listed) (hi : i ∈ Region.ready md ops listed) : ListedClosed md ops (listed.setIfInBounds i true) := by
 obtain ⟨_, oi, hoi, hall⟩ := mem_ready.1 hi
 intro j oj hj hl e he hb
 by_cases hij : i = j
 ·subst hij
  have : oj = oi := Option.some.inj (hj.symm.trans hoi)
  subst this
  exact getD_set_true (hall e he hb)
 rw [getD_set_ne false hij] at hl
 exact getD_set_true (h j oj hj hl e he hb)
theorem Region.reach_listed {listed : Array Bool} {i : Nat} (hc : ListedClosed md ops listed) : ∀ (fuel d : Nat), Region.reachB md ops i fuel d = true → listed.getD d false = true → listed.getD i false = true
 | 0, _, h, _ => by simp [Region.reachB] at h
 | fuel + 1, d, h, hl => by
  unfold Region.reachB at h
  cases ho : ops[d]? with
  | none => rw [ho] at h; simp at h
  | some o =>
   rw [ho] at h
   obtain ⟨e, he, h1⟩ := Array.any_eq_true'.1 h
   simp only [Bool.and_eq_true, Bool.or_eq_true, beq_iff_eq] at h1
   have hle := hc d o ho hl e he h1.1
   rcases h1.2 with h2 | h2
   ·rw [← h2]; exact hle
   exact Region.reach_listed hc fuel e.on h2 hle
theorem Region.reach_not_ready {listed : Array Bool} {i d fuel : Nat} (hc : ListedClosed md ops listed) (hr : Region.reachB md ops i fuel d = true) (hun : listed.getD i true = false) : d ∉ Region.ready md ops listed := by
 intro hd
 obtain ⟨_, o, ho, hall⟩ := mem_ready.1 hd
 have hi : listed.getD i false = true := by
  cases fuel with
  | zero => simp [Region.reachB] at hr
  | succ n =>
   unfold Region.reachB at hr
   rw [ho] at hr
   obtain ⟨e, he, h1⟩ := Array.any_eq_true'.1 hr
   simp only [Bool.and_eq_true, Bool.or_eq_true, beq_iff_eq] at h1
   have hle := hall e he h1.1
   rcases h1.2 with h2 | h2
   ·rw [← h2]; exact hle
   exact Region.reach_listed hc n e.on h2 hle
 rcases Nat.lt_or_ge i listed.size with h' | h'
 ·simp [h'] at hun hi
  rw [hun] at hi
  cases hi
 simp [Array.getElem?_eq_none h'] at hun
def wpAnyLast (P : Program) (md : Region.Mode) (ops : Array Oper) (Q : Exit → Act → World → Prop) (S : World → Prop) (ds : List Nat) : Nat → Array Bool → Act → World → Prop
 | 0, listed, a, w => Region.ready md ops listed = [] ∧ Q .normal a w
 | fuel + 1, listed, a, w =>
  (Region.ready md ops listed = [] → Q .normal a w) ∧
  ∀ i ∈ Region.ready md ops listed, wpOp P ops Q i (fun a' w' => (i ∉ ds → S w → S w') ∧ wpAnyLast P md ops Q S ds fuel (listed.setIfInBounds i true) a' w') a w
theorem wpAny_of_last : ∀ (fuel : Nat) (listed : Array Bool) (a : Act) (w : World), wpAnyLast P md ops Q S ds fuel listed a w → wpAny P md ops Q fuel listed a w
 | 0, _, _, _, h => h
 | fuel + 1, _, _, _, h => ⟨h.1, fun i hi => wpOp_mono (fun a' w' h' => wpAny_of_last fuel _ a' w' h'.2) (h.2 i hi)⟩
theorem wpAnyLast_first {i : Nat} {oi : Oper} {v : Value} (hi : ops[i]? = some oi) (hsel : ∀ (j : Nat) (o : Oper) cs b, ops[j]? = some o → o.op ≠ .select cs b)
  (hQ : ∀ c a w, Q (.panic c) (a.put oi.dst v) w → Q (.panic c) a w) (n : Nat) :
  ∀ (fuel : Nat) (listed : Array Bool) (a : Act) (w : World),
   (∀ j oj, ops[j]? = some oj → j ≠ i → listed.getD j true = false → (∀ e ∈ oj.after, Region.binds md e = true → e.on ≠ i) → oi.apart ops oj = true) →
   ListedClosed md ops listed → (∀ d ∈ ds, listed.getD d true = false → Region.reachB md ops i n d = true) →
   i ∈ Region.ready md ops listed → YieldsIf P ops S oi v a → S w →
   wpAnyLast P md ops Q S ds fuel (listed.setIfInBounds i true) (a.put oi.dst v) w → wpAnyLast P md ops Q S ds (fuel + 1) listed a w := by
 intro fuel
 induction fuel with
 | zero =>
  intro listed a w _ _ _ hr hy hS H
  refine ⟨fun h => (by rw [h] at hr; cases hr), fun j hj => ?_⟩
  by_cases hji : j = i
  ·subst hji; exact hy.wpOp hi hS ⟨fun _ h => h, H⟩
  have := ready_mono hj hji
  rw [H.1] at this
  cases this
 | succ fuel ih =>
  intro listed a w hfree hc hd hr hy hS H
  refine ⟨fun h => (by rw [h] at hr; cases hr), fun j hj => ?_⟩
  by_cases hji : j = i
  ·subst hji; exact hy.wpOp hi hS ⟨fun _ h => h, H⟩
  have h1 := H.2 j (ready_mono hj hji)
  obtain ⟨hjun, oj, hoj, hall⟩ := mem_ready.1 hj
  have hiun := (mem_ready.1 hr).1
  have hnot : ∀ e ∈ oj.after, Region.binds md e = true → e.on ≠ i := fun e he hb heq => by
   have h1 := hall e he hb
   rw [heq] at h1
   rcases Nat.lt_or_ge i listed.size with h' | h'
   ·simp [h'] at hiun h1; rw [hiun] at h1; cases h1
   simp [Array.getElem?_eq_none h'] at h1
  have hjd : j ∉ ds := fun hm => Region.reach_not_ready hc (hd j hm hjun) hiun hj
  have h2 := wpOp_putIf hoj (hfree j oj hoj hji hjun hnot) (fun cs b => hsel i oi cs b hi) (fun cs b => hsel j oj cs b hoj) hQ hy h1
  have hfree' : ∀ k ok, ops[k]? = some ok → k ≠ i → (listed.setIfInBounds j true).getD k true = false →
    (∀ e ∈ ok.after, Region.binds md e = true → e.on ≠ i) → oi.apart ops ok = true := fun k ok hk hki hun hno => by
   refine hfree k ok hk hki ?_ hno
   by_cases hjk : j = k
   ·subst hjk; exact hjun
   rw [getD_set_ne true hjk] at hun; exact hun
  have hd' : ∀ d ∈ ds, (listed.setIfInBounds j true).getD d true = false → Region.reachB md ops i n d = true := fun d hm hun => by
   refine hd d hm ?_
   by_cases hjk : j = d
   ·subst hjk; exact hjun
   rw [getD_set_ne true hjk] at hun; exact hun
  refine wpOp_mono (fun a' w' h3 => ⟨h3.2.1, ih (listed.setIfInBounds j true) a' w' hfree' (hc.set hj) hd' (ready_mono hr (Ne.symm hji)) h3.1 (h3.2.1 hjd hS) ?_⟩) h2
  rw [Array.setIfInBounds_comm _ _ hji]
  exact h3.2.2
theorem wpAnyLast_any {i : Nat} {oi : Oper} {v : Value} (hi : ops[i]? = some oi) (hsel : ∀ (j : Nat) (o : Oper) cs b, ops[j]? = some o → o.op ≠ .select cs b)
  (hQ : ∀ c a w, Q (.panic c) (a.put oi.dst v) w → Q (.panic c) a w) :
  ∀ (fuel : Nat) (listed : Array Bool) (a : Act) (w : World),
   (∀ j oj, ops[j]? = some oj → j ≠ i → listed.getD j true = false → (∀ e ∈ oj.after, Region.binds md e = true → e.on ≠ i) → oi.apart ops oj = true) →
   i ∈ Region.ready md ops listed → Yields P ops oi v a →
   wpAnyLast P md ops Q S ds fuel (listed.setIfInBounds i true) (a.put oi.dst v) w → wpAnyLast P md ops Q S ds (fuel + 1) listed a w := by
 intro fuel
 induction fuel with
 | zero =>
  intro listed a w _ hr hy H
  refine ⟨fun h => (by rw [h] at hr; cases hr), fun j hj => ?_⟩
  by_cases hji : j = i
  ·subst hji; exact (hy.yieldsIf (S := fun _ => True)).wpOp hi trivial ⟨fun _ h => h, H⟩
  have := ready_mono hj hji
  rw [H.1] at this
  cases this
 | succ fuel ih =>
  intro listed a w hfree hr hy H
  refine ⟨fun h => (by rw [h] at hr; cases hr), fun j hj => ?_⟩
  by_cases hji : j = i
  ·subst hji; exact (hy.yieldsIf (S := fun _ => True)).wpOp hi trivial ⟨fun _ h => h, H⟩
  have h1 := H.2 j (ready_mono hj hji)
  obtain ⟨hjun, oj, hoj, hall⟩ := mem_ready.1 hj
  have hiun := (mem_ready.1 hr).1
  have hnot : ∀ e ∈ oj.after, Region.binds md e = true → e.on ≠ i := fun e he hb heq => by
   have h1 := hall e he hb
   rw [heq] at h1
   rcases Nat.lt_or_ge i listed.size with h' | h'
   ·simp [h'] at hiun h1; rw [hiun] at h1; cases h1
   simp [Array.getElem?_eq_none h'] at h1
  have h2 := wpOp_put hoj (hfree j oj hoj hji hjun hnot) (fun cs b => hsel i oi cs b hi) (fun cs b => hsel j oj cs b hoj) hQ hy h1
  have hfree' : ∀ k ok, ops[k]? = some ok → k ≠ i → (listed.setIfInBounds j true).getD k true = false →
    (∀ e ∈ ok.after, Region.binds md e = true → e.on ≠ i) → oi.apart ops ok = true := fun k ok hk hki hun hno => by
   refine hfree k ok hk hki ?_ hno
   by_cases hjk : j = k
   ·subst hjk; exact hjun
   rw [getD_set_ne true hjk] at hun; exact hun
  refine wpOp_mono (fun a' w' h3 => ⟨h3.2.1, ih (listed.setIfInBounds j true) a' w' hfree' (ready_mono hr (Ne.symm hji)) h3.1 ?_⟩) h2
  rw [Array.setIfInBounds_comm _ _ hji]
  exact h3.2.2
theorem wpAnyLast_take {i : Nat} {oi : Oper} {v : Value} {fuel : Nat} {listed : Array Bool} {a : Act} {w : World} (hi : ops[i]? = some oi)
  (hs : Region.noSelect ops = true) (hf : Region.free md ops listed i = true) (hr : (Region.ready md ops listed).contains i = true)
  (hc : Region.closedB md ops listed = true) (hl : Region.lastB md ops listed ds i = true)
  (hQ : ∀ c a w, Q (.panic c) (a.put oi.dst v) w → Q (.panic c) a w) (hy : YieldsIf P ops S oi v a) (hS : S w)
  (h : wpAnyLast P md ops Q S ds fuel (listed.setIfInBounds i true) (a.put oi.dst v) w) : wpAnyLast P md ops Q S ds (fuel + 1) listed a w :=
 wpAnyLast_first hi (Region.noSelect_spec hs) hQ ops.size fuel listed a w (Region.free_spec hi hf) (Region.closedB_spec hc)
  (fun d hm hun => by have := List.all_eq_true.1 hl d hm; rw [hun] at this; simpa using this) (by simpa using hr) hy hS h
theorem wpAnyLast_all {rs : List Nat} {fuel : Nat} {listed : Array Bool} {a : Act} {w : World} (hr : Region.ready md ops listed = rs) (hne : rs ≠ [])
  (h : ∀ i ∈ rs, wpOp P ops Q i (fun a' w' => (i ∉ ds → S w → S w') ∧ wpAnyLast P md ops Q S ds fuel (listed.setIfInBounds i true) a' w') a w) : wpAnyLast P md ops Q S ds (fuel + 1) listed a w :=
 ⟨fun h0 => absurd (hr ▸ h0) hne, hr ▸ h⟩
theorem wpAnyLast_done {listed : Array Bool} {a : Act} {w : World} (hr : Region.ready md ops listed = []) (h : Q .normal a w) :
  ∀ fuel, wpAnyLast P md ops Q S ds fuel listed a w
 | 0 => ⟨hr, h⟩
 | _ + 1 => ⟨fun _ => h, by rw [hr]; simp⟩
theorem wp_region_last {id : Nat} {a : Act} {w : World} (hm : P.follows .mixedOrders = true)
  (h : wpAnyLast P .any ops Q S ds ops.size (Array.replicate ops.size false) a { w with drawn := w.drawn + 1 }) : (Code.region id ops true).wp P Q a w :=
 wp_region_any hm (wpAny_of_last _ _ _ _ h)
end
section
variable {P : Program} {ops : Array Oper} {Q : Exit → Act → World → Prop} {md : Region.Mode} {S : World → Prop} {ds : List Nat}
def AllReadyL (P : Program) (md : Region.Mode) (ops : Array Oper) (Q : Exit → Act → World → Prop) (S : World → Prop) (ds : List Nat) (fuel : Nat) (listed : Array Bool) (a : Act) (w : World) (rs : List Nat) : Prop :=
 ∀ i ∈ rs, wpOp P ops Q i (fun a' w' => (i ∉ ds → S w → S w') ∧ wpAnyLast P md ops Q S ds fuel (listed.setIfInBounds i true) a' w') a w
theorem AllReadyL.nil {fuel : Nat} {listed : Array Bool} {a : Act} {w : World} : AllReadyL P md ops Q S ds fuel listed a w [] := fun _ h => by cases h
theorem AllReadyL.cons {fuel : Nat} {listed : Array Bool} {a : Act} {w : World} {i : Nat} {o : Oper} {rs : List Nat} (ho : ops[i]? = some o) (hd : i ∉ ds)
  (h : ∀ K' : Act → World → Prop, Shut (∀ a w, S w → (S w → wpAnyLast P md ops Q S ds fuel (listed.setIfInBounds i true) a w) → K' a w) → if Region.wanted o (yielded ops a.tmps) = true then Oper.wp P o a w K' Q else K' (a.put o.dst undef) w)
  (hs : AllReadyL P md ops Q S ds fuel listed a w rs) : AllReadyL P md ops Q S ds fuel listed a w (i :: rs) := fun j hj => by
 rcases List.mem_cons.1 hj with rfl | hj
 ·exact wpOp_step ho (fun K' hK => h K' (fun a w hS hW => hK a w ⟨fun _ _ => hS, hW hS⟩))
 exact hs j hj
theorem wpAnyLast_ready {rs : List Nat} {fuel : Nat} {listed : Array Bool} {a : Act} {w : World} (hr : Region.ready md ops listed = rs) (hne : rs ≠ [])
  (h : AllReadyL P md ops Q S ds fuel listed a w rs) : wpAnyLast P md ops Q S ds (fuel + 1) listed a w := wpAnyLast_all hr hne h
theorem start_ {id n : Nat} {a : Act} {w : World} (l : Array Bool) (hm : P.follows .mixedOrders = true) (hn : ops.size = n) (hl : Array.replicate n false = l) (hS : S w.drew)
  (h : S w.drew → wpAnyLast P .any ops Q S ds n l a w.drew) : (Code.region id ops true).wp P Q a w := by
 subst hn
 subst hl
 exact wp_region_last hm (h hS)
def takeB (md : Region.Mode) (ops : Array Oper) (ds : List Nat) (l l' : Array Bool) (i : Nat) : Bool :=
 Region.noSelect ops && Region.free md ops l i && (Region.ready md ops l).contains i && Region.closedB md ops l && Region.lastB md ops l ds i && (l.setIfInBounds i true == l')
theorem take_ {i : Nat} {N : Option Tmp} {oi : Oper} {v : Value} {fuel : Nat} {l : Array Bool} {a : Act} {w : World} (l' : Array Bool) (hi : ops[i]? = some oi) (hN : oi.dst = N) (hc : takeB md ops ds l l' i = true)
  (hQ : ∀ c a w, Q (.panic c) (a.put oi.dst v) w → Q (.panic c) a w) (hy : YieldsIf P ops S oi v a) (hS : S w) {a' : Act} (ha : a.put N v = a')
  (h : wpAnyLast P md ops Q S ds fuel l' a' w) : wpAnyLast P md ops Q S ds (fuel + 1) l a w := by
 subst ha
 subst hN
 simp only [takeB, Bool.and_eq_true, beq_iff_eq] at hc
 obtain ⟨⟨⟨⟨⟨h1, h2⟩, h3⟩, h4⟩, h5⟩, h6⟩ := hc
 subst h6
 exact wpAnyLast_take hi h1 h2 h3 h4 h5 hQ hy hS h
def anyB (md : Region.Mode) (ops : Array Oper) (l l' : Array Bool) (i : Nat) : Bool :=
 Region.noSelect ops && Region.free md ops l i && (Region.ready md ops l).contains i && (l.setIfInBounds i true == l')
theorem pure_ {i : Nat} {N : Option Tmp} {oi : Oper} {v : Value} {fuel : Nat} {l : Array Bool} {a : Act} {w : World} (l' : Array Bool) (hi : ops[i]? = some oi) (hN : oi.dst = N) (hc : anyB md ops l l' i = true)
  (hQ : ∀ c a w, Q (.panic c) (a.put oi.dst v) w → Q (.panic c) a w) (hy : Yields P ops oi v a) {a' : Act} (ha : a.put N v = a')
  (h : wpAnyLast P md ops Q S ds fuel l' a' w) : wpAnyLast P md ops Q S ds (fuel + 1) l a w := by
 subst ha
 subst hN
 simp only [anyB, Bool.and_eq_true, beq_iff_eq] at hc
 obtain ⟨⟨⟨h1, h2⟩, h3⟩, h6⟩ := hc
 subst h6
 exact wpAnyLast_any hi (Region.noSelect_spec h1) hQ fuel l a w (Region.free_spec hi h2) (by simpa using h3) hy h
def readyB (md : Region.Mode) (ops : Array Oper) (l l' : Array Bool) (i : Nat) : Bool := (Region.ready md ops l == [i]) && (l.setIfInBounds i true == l')
theorem one_ {i : Nat} {N : Option Tmp} {oi : Oper} {fuel : Nat} {l : Array Bool} {a : Act} {w : World} (l' : Array Bool) (hi : ops[i]? = some oi) (hN : oi.dst = N) (hc : readyB md ops l l' i = true) (hd : i ∉ ds)
  (h : ∀ K : Act → World → Prop, Shut (∀ a' w', S w' → (S w' → wpAnyLast P md ops Q S ds fuel l' a' w') → K a' w') → if Region.wanted oi (yielded ops a.tmps) = true then Oper.wp P oi a w K Q else K (a.put N undef) w) :
  wpAnyLast P md ops Q S ds (fuel + 1) l a w := by
 subst hN
 simp only [readyB, Bool.and_eq_true, beq_iff_eq] at hc
 obtain ⟨h1, h2⟩ := hc
 subst h2
 exact wpAnyLast_ready h1 (by simp) (AllReadyL.cons hi hd (fun K hK => h K hK) AllReadyL.nil)
theorem done_ {l : Array Bool} {a : Act} {w : World} {n : Nat} (hr : (Region.ready md ops l == []) = true) (h : Q .normal a w) : wpAnyLast P md ops Q S ds n l a w := wpAnyLast_done (by simpa using hr) h n
theorem two_ {i j : Nat} {Ni Nj : Option Tmp} {oi oj : Oper} {fuel : Nat} {l : Array Bool} {a : Act} {w : World} (li lj : Array Bool) (hi : ops[i]? = some oi) (hj : ops[j]? = some oj) (hNi : oi.dst = Ni) (hNj : oj.dst = Nj)
  (hc : (Region.ready md ops l == [i, j] && l.setIfInBounds i true == li && l.setIfInBounds j true == lj) = true) (hdi : i ∉ ds) (hdj : j ∉ ds)
  (h1 : ∀ K : Act → World → Prop, Shut (∀ a' w', S w' → (S w' → wpAnyLast P md ops Q S ds fuel li a' w') → K a' w') → if Region.wanted oi (yielded ops a.tmps) = true then Oper.wp P oi a w K Q else K (a.put Ni undef) w)
  (h2 : ∀ K : Act → World → Prop, Shut (∀ a' w', S w' → (S w' → wpAnyLast P md ops Q S ds fuel lj a' w') → K a' w') → if Region.wanted oj (yielded ops a.tmps) = true then Oper.wp P oj a w K Q else K (a.put Nj undef) w) :
  wpAnyLast P md ops Q S ds (fuel + 1) l a w := by
 subst hNi
 subst hNj
 simp only [Bool.and_eq_true, beq_iff_eq] at hc
 obtain ⟨⟨h3, h4⟩, h5⟩ := hc
 subst h4
 subst h5
 exact wpAnyLast_ready h3 (by simp) (AllReadyL.cons hi hdi (fun K hK => h1 K hK) (AllReadyL.cons hj hdj (fun K hK => h2 K hK) AllReadyL.nil))
def putAll : Act → List (Tmp × Value) → Act
 | a, [] => a
 | a, (n, v) :: r => putAll (a.put (some n) v) r
theorem join_ {σ : Type} {fuel : Nat} {l : Array Bool} {a : Act} {w : World} (fuel' : Nat) (l' : Array Bool) (ns : σ → List (Tmp × Value)) (F : σ → World → Prop)
  (hcont : ∀ s w', F s w' → wpAnyLast P md ops Q S ds fuel' l' (putAll a (ns s)) w')
  (h : (∀ s w', F s w' → wpAnyLast P md ops Q S ds fuel' l' (putAll a (ns s)) w') → wpAnyLast P md ops Q S ds fuel l a w) : wpAnyLast P md ops Q S ds fuel l a w := h hcont
theorem norm_ {fuel : Nat} {l : Array Bool} {a a' : Act} {w : World} (ha : a = a') (h : wpAnyLast P md ops Q S ds fuel l a' w) : wpAnyLast P md ops Q S ds fuel l a w := by
 subst ha
 exact h
theorem call_ {oi : Oper} {N : Option Tmp} {a : Act} {w : World} {K : Act → World → Prop} (f : FuncId) (args : Array Value) (hw : Region.wanted oi (yielded ops a.tmps) = true) (hN : oi.dst = N) (hrun : (execOp a.eval oi).run P w = .ok (.enter f args) w)
  (h : Calls P f args w fun e w' => ∃ v, e = .returned v ∧ K (a.put N v) w') : if Region.wanted oi (yielded ops a.tmps) = true then Oper.wp P oi a w K Q else K (a.put N undef) w := by
 rw [if_pos hw]
 subst hN
 unfold Oper.wp
 rw [hrun, Oper.upon_enter]
 refine h.mono fun e w'' hh => ?_
 obtain ⟨v, rfl, hk⟩ := hh
 exact hk
theorem enters_ {f : FuncId} {fn : Func} (hf : P.funcs[f]? = some fn) (hname : (fn.name == "runtime.NumGoroutine") = false) (hb : fn.body.isSome = true) (args : Array Value) (w : World) : (callFunc f args).run P w = .ok (.enter f args) w := by
 have h1 : fn.name ≠ "runtime.NumGoroutine" := by simpa using hname
 obtain ⟨c, hc⟩ := Option.isSome_iff_exists.1 hb
 simp [callFunc, hf, h1, hc]
theorem goes_ {oi : Oper} {N : Option Tmp} {a : Act} {w : World} {K : Act → World → Prop} {f : FuncId} {fn : Func} {as_ : Array Operand} {ts : Array TypeId} (hf : P.funcs[f]? = some fn) (hname : (fn.name == "runtime.NumGoroutine") = false) (hb : fn.body.isSome = true) (args : Array Value)
  (hw : Region.wanted oi (yielded ops a.tmps) = true) (hN : oi.dst = N) (hop : oi.op = .call { callee := .value (.func f), args := as_, argTypes := ts }) (hargs : as_.map a.eval = args)
  (h : Calls P f args w fun e w' => ∃ v, e = .returned v ∧ K (a.put N v) w') : if Region.wanted oi (yielded ops a.tmps) = true then Oper.wp P oi a w K Q else K (a.put N undef) w := by
 refine call_ f args hw hN ?_ h
 have he := enters_ hf hname hb args w
 unfold execOp
 simp [hop, resolve, Deferred.ofValue, invoke, Act.eval, hargs, he]
theorem goesL_ {rest : List Oper} {oi : Oper} {a : Act} {w : World} (N : Option Tmp) (hd : oi.dst = N) (hg : oi.guard = none) {f : FuncId} {fn : Func} {as_ : Array Operand} {ts : Array TypeId} (hf : P.funcs[f]? = some fn) (hname : (fn.name == "runtime.NumGoroutine") = false) (hb : fn.body.isSome = true) (args : Array Value)
  (hop : oi.op = .call { callee := .value (.func f), args := as_, argTypes := ts }) (hargs : as_.map a.eval = args)
  (h : Calls P f args w fun e w' => ∃ v, e = .returned v ∧ wpList P ops Q rest (a.put N v) w') : wpList P ops Q (oi :: rest) a w := by
 refine wpList_plain hg fun K hK => ?_
 have he := enters_ hf hname hb args w
 have hrun : (execOp a.eval oi).run P w = .ok (.enter f args) w := by
  unfold execOp
  simp [hop, resolve, Deferred.ofValue, invoke, Act.eval, hargs, he]
 unfold Oper.wp
 rw [hrun, Oper.upon_enter]
 refine h.mono fun e w'' hh => ?_
 obtain ⟨v, rfl, hk⟩ := hh
 subst hd
 exact hK _ _ hk
theorem skip_ {oi : Oper} {a : Act} {w w1 : World} {K : Act → World → Prop} (hw : Region.wanted oi (yielded ops a.tmps) = true) (hN : oi.dst = none) (hrun : (execOp a.eval oi).run P w = .ok .skip w1)
  (h : K a w1) : if Region.wanted oi (yielded ops a.tmps) = true then Oper.wp P oi a w K Q else K (a.put none undef) w := by
 rw [if_pos hw]
 unfold Oper.wp
 rw [hrun]
 show K (a.put oi.dst undef) w1
 rw [hN]
 exact h
theorem i64_w (n : Int) : IntKind.i64.wrap n = Go.RowKit.wrap64 n := by unfold Go.RowKit.wrap64; exact IntKind.wrap_i64 n
theorem i32_w (n : Int) : IntKind.i32.wrap n = Go.RowKit.wrap32 n := by unfold Go.RowKit.wrap32; exact IntKind.wrap_i32 n
end
end Go.Proofs.YtaheamdoldiojaaW.PrintLast
namespace Go.Proofs.YtaheamdoldiojaaW.PrintLast
open Go.Proofs.YtaheamdoldiojaaW.PrintWords (Aside0)
def needsOf (md : Region.Mode) (o : Oper) : List Nat := (o.after.toList.filter (fun e => Region.binds md e)).map (fun e => e.on)
def clashOf (md : Region.Mode) (ops : Array Oper) (i : Nat) (oi : Oper) : List Nat := (List.range ops.size).filter fun j => !(j == i) && match ops[j]? with
 | some oj => !(oj.after.any (fun e => Region.binds md e && e.on == i) || oi.apart ops oj)
 | none => false
def rtab (md : Region.Mode) (ops : Array Oper) : Bool × List (List Nat × List Nat) := (Region.noSelect ops, (List.range ops.size).map fun i => match ops[i]? with
 | some o => (needsOf md o, clashOf md ops i o)
 | none => ([], []))
def readyAt (T : List (List Nat × List Nat)) (l : List Bool) (i : Nat) : Bool := !l.getD i true && match T[i]? with
 | some r => r.1.all (fun j => l.getD j false)
 | none => false
def readyT (T : List (List Nat × List Nat)) (l : List Bool) : List Nat := (List.range T.length).filter (readyAt T l)
def freeT (T : List (List Nat × List Nat)) (l : List Bool) (i : Nat) : Bool := match T[i]? with
 | some r => r.2.all (fun j => l.getD j true)
 | none => false
def closedT (T : List (List Nat × List Nat)) (l : List Bool) : Bool := (List.range T.length).all fun j => !l.getD j false || match T[j]? with
 | some r => r.1.all (fun k => l.getD k false)
 | none => true
def reachT (T : List (List Nat × List Nat)) (i : Nat) : Nat → Nat → Bool
 | 0, _ => false
 | fuel + 1, d => match T[d]? with
  | some r => r.1.any fun j => j == i || reachT T i fuel j
  | none => false
def lastT (T : List (List Nat × List Nat)) (l : List Bool) (ds : List Nat) (i : Nat) : Bool := ds.all fun d => l.getD d true || reachT T i T.length d
section
variable {md : Region.Mode} {ops : Array Oper} {T : Bool × List (List Nat × List Nat)} {l l' li lj lk : Array Bool} {ds : List Nat} {i j k : Nat}
theorem gd (l : Array Bool) (j : Nat) (b : Bool) : l.getD j b = l.toList.getD j b := by simp [Array.getD_eq_getD_getElem?, List.getD_eq_getElem?_getD]
theorem needs_all (o : Oper) (p : Nat → Bool) : o.after.all (fun e => !Region.binds md e || p e.on) = (needsOf md o).all p := by
 unfold needsOf
 rw [← Array.all_toList]
 induction o.after.toList with
 | nil => rfl
 | cons e r ih =>
  rw [List.all_cons, ih, List.filter_cons]
  cases h : Region.binds md e <;> simp
theorem needs_any (o : Oper) (p : Nat → Bool) : o.after.any (fun e => Region.binds md e && p e.on) = (needsOf md o).any p := by
 unfold needsOf
 rw [← Array.any_toList]
 induction o.after.toList with
 | nil => rfl
 | cons e r ih =>
  rw [List.any_cons, ih, List.filter_cons]
  cases h : Region.binds md e <;> simp
theorem rtab_length : (rtab md ops).2.length = ops.size := by simp [rtab]
theorem rtab_some {o : Oper} (h : ops[i]? = some o) : (rtab md ops).2[i]? = some (needsOf md o, clashOf md ops i o) := by
 have hi := (Array.getElem?_eq_some_iff.1 h).1
 unfold rtab
 rw [List.getElem?_map, List.getElem?_range hi, Option.map_some, h]
theorem rtab_none (h : ops[i]? = none) : (rtab md ops).2[i]? = none := by
 have hi : ops.size ≤ i := Array.getElem?_eq_none_iff.1 h
 exact List.getElem?_eq_none (by rw [rtab_length]; exact hi)
theorem readyAt_eq : readyAt (rtab md ops).2 l.toList i = (!l.getD i true && ((ops[i]?).map (·.after.all fun e => !Region.binds md e || l.getD e.on false)).getD false) := by
 unfold readyAt
 rw [gd]
 cases h : ops[i]? with
 | none => rw [rtab_none h]; rfl
 | some o =>
  rw [rtab_some h]
  simp only [Option.map_some, Option.getD_some]
  rw [← needs_all]
  simp only [gd]
theorem ready_eq : Region.ready md ops l = readyT (rtab md ops).2 l.toList := by
 unfold Region.ready readyT
 rw [rtab_length]
 refine List.filter_congr (fun i _ => ?_)
 rw [readyAt_eq]
theorem free_eq : Region.free md ops l i = freeT (rtab md ops).2 l.toList i := by
 unfold Region.free freeT
 cases h : ops[i]? with
 | none => rw [rtab_none h]
 | some oi =>
  rw [rtab_some h]
  simp only [clashOf]
  rw [List.all_filter]
  congr 1
  funext j
  rw [gd]
  cases hj : ops[j]? with
  | none => cases (j == i) <;> cases (l.toList.getD j true) <;> simp
  | some oj =>
   cases (j == i) <;> cases (l.toList.getD j true) <;> cases (oj.after.any (fun e => Region.binds md e && e.on == i) || oi.apart ops oj) <;> simp_all
theorem closed_eq : Region.closedB md ops l = closedT (rtab md ops).2 l.toList := by
 unfold Region.closedB closedT
 rw [rtab_length]
 congr 1
 funext j
 rw [gd]
 cases h : ops[j]? with
 | none => rw [rtab_none h]
 | some o =>
  rw [rtab_some h]
  simp only
  rw [← needs_all]
  simp only [gd]
theorem reach_eq : ∀ (fuel d : Nat), Region.reachB md ops i fuel d = reachT (rtab md ops).2 i fuel d
 | 0, _ => rfl
 | fuel + 1, d => by
  unfold Region.reachB reachT
  cases h : ops[d]? with
  | none => rw [rtab_none h]
  | some o =>
   rw [rtab_some h]
   simp only
   rw [← needs_any]
   congr 1
   funext e
   rw [reach_eq fuel]
theorem last_eq : Region.lastB md ops l ds i = lastT (rtab md ops).2 l.toList ds i := by
 unfold Region.lastB lastT
 rw [rtab_length]
 congr 1
 funext d
 rw [gd, reach_eq]
theorem readyAt_mem (h : readyAt T.2 l.toList i = true) (hT : rtab md ops = T) : (Region.ready md ops l).contains i = true := by
 subst hT
 rw [ready_eq]
 unfold readyT
 rw [List.contains_iff_mem, List.mem_filter, List.mem_range]
 refine ⟨?_, h⟩
 unfold readyAt at h
 rw [Bool.and_eq_true] at h
 cases hq : (rtab md ops).2[i]? with
 | none => rw [hq] at h; simp at h
 | some r => exact (List.getElem?_eq_some_iff.1 hq).1
theorem set_of (h : (l.toList.set i true == l'.toList) = true) : (l.setIfInBounds i true == l') = true := by
 rw [beq_iff_eq] at h ⊢
 apply Array.ext'
 rw [Array.toList_setIfInBounds]
 exact h
def anyT (T : Bool × List (List Nat × List Nat)) (l l' : List Bool) (i : Nat) : Bool := T.1 && freeT T.2 l i && readyAt T.2 l i && (l.set i true == l')
theorem any_of (hT : rtab md ops = T) (h : anyT T l.toList l'.toList i = true) : anyB md ops l l' i = true := by
 simp only [anyT, Bool.and_eq_true] at h
 obtain ⟨⟨⟨h1, h2⟩, h3⟩, h4⟩ := h
 have h5 := readyAt_mem h3 hT
 have h6 := set_of h4
 subst hT
 simp only [anyB, Bool.and_eq_true]
 exact ⟨⟨⟨h1, by rw [free_eq]; exact h2⟩, h5⟩, h6⟩
def takeT (T : Bool × List (List Nat × List Nat)) (ds : List Nat) (l l' : List Bool) (i : Nat) : Bool := T.1 && freeT T.2 l i && readyAt T.2 l i && closedT T.2 l && lastT T.2 l ds i && (l.set i true == l')
theorem take_of (hT : rtab md ops = T) (h : takeT T ds l.toList l'.toList i = true) : takeB md ops ds l l' i = true := by
 simp only [takeT, Bool.and_eq_true] at h
 obtain ⟨⟨⟨⟨⟨h1, h2⟩, h3⟩, h4⟩, h5⟩, h6⟩ := h
 have h7 := readyAt_mem h3 hT
 have h8 := set_of h6
 subst hT
 simp only [takeB, Bool.and_eq_true]
 exact ⟨⟨⟨⟨⟨h1, by rw [free_eq]; exact h2⟩, h7⟩, by rw [closed_eq]; exact h4⟩, by rw [last_eq]; exact h5⟩, h8⟩
theorem one_of (hT : rtab md ops = T) (h : (readyT T.2 l.toList == [i] && l.toList.set i true == l'.toList) = true) : readyB md ops l l' i = true := by
 simp only [Bool.and_eq_true] at h
 obtain ⟨h1, h2⟩ := h
 subst hT
 simp only [readyB, Bool.and_eq_true]
 exact ⟨by rw [ready_eq]; exact h1, set_of h2⟩
theorem two_of (hT : rtab md ops = T) (h : (readyT T.2 l.toList == [i, j] && l.toList.set i true == li.toList && l.toList.set j true == lj.toList) = true) : (Region.ready md ops l == [i, j] && l.setIfInBounds i true == li && l.setIfInBounds j true == lj) = true := by
 simp only [Bool.and_eq_true] at h ⊢
 obtain ⟨⟨h1, h2⟩, h3⟩ := h
 subst hT
 exact ⟨⟨by rw [ready_eq]; exact h1, set_of h2⟩, set_of h3⟩
theorem done_of (hT : rtab md ops = T) (h : (readyT T.2 l.toList == []) = true) : (Region.ready md ops l == []) = true := by
 subst hT
 rw [ready_eq]
 exact h
def upM (B : List Nat) (d : Nat) : List Nat → Nat
 | [] => 0
 | n :: r => (2 ^ n ||| (if n < d then B.getD n 0 else 0)) ||| upM B d r
def waitsOk (T : List (List Nat × List Nat)) (B : List Nat) : Bool := (List.range T.length).all fun d => match T[d]? with
 | some r => (B.getD d 0 ||| upM B d r.1) == upM B d r.1
 | none => false
theorem upM_bit {B : List Nat} {d i : Nat} : ∀ {ns : List Nat}, (upM B d ns).testBit i = true → ∃ n ∈ ns, n = i ∨ (n < d ∧ (B.getD n 0).testBit i = true)
 | [], h => by simp [upM] at h
 | n :: r, h => by
  unfold upM at h
  rw [Nat.testBit_or, Nat.testBit_or, Bool.or_eq_true, Bool.or_eq_true] at h
  rcases h with (h | h) | h
  ·rw [Nat.testBit_two_pow] at h
   exact ⟨n, List.mem_cons_self, .inl (by simpa using h)⟩
  ·by_cases hn : n < d
   ·rw [if_pos hn] at h
    exact ⟨n, List.mem_cons_self, .inr ⟨hn, h⟩⟩
   rw [if_neg hn] at h
   simp at h
  obtain ⟨m, hm, h2⟩ := upM_bit h
  exact ⟨m, List.mem_cons_of_mem _ hm, h2⟩
theorem reach_bit {T : List (List Nat × List Nat)} {B : List Nat} (hB : waitsOk T B = true) : ∀ (fuel d : Nat), d < fuel → d < T.length → (B.getD d 0).testBit i = true → reachT T i fuel d = true
 | 0, d, h, _, _ => by omega
 | fuel + 1, d, h, hd, hb => by
  have h1 := List.all_eq_true.1 hB d (List.mem_range.2 hd)
  cases hr : T[d]? with
  | none => rw [hr] at h1; simp at h1
  | some r =>
   rw [hr] at h1
   simp only [beq_iff_eq] at h1
   have h2 : (upM B d r.1).testBit i = true := by rw [← h1, Nat.testBit_or, hb, Bool.true_or]
   obtain ⟨n, hn, h3⟩ := upM_bit h2
   unfold reachT
   rw [hr]
   simp only
   rw [List.any_eq_true]
   refine ⟨n, hn, ?_⟩
   rcases h3 with rfl | ⟨h4, h5⟩
   ·simp
   rw [reach_bit hB fuel n (by omega) (by omega) h5, Bool.or_true]
def lastW (T : List (List Nat × List Nat)) (B : List Nat) (l : List Bool) (ds : List Nat) (i : Nat) : Bool := ds.all fun d => l.getD d true || (decide (d < T.length) && (B.getD d 0).testBit i)
def takeW (T : Bool × List (List Nat × List Nat)) (B : List Nat) (ds : List Nat) (l l' : List Bool) (i : Nat) : Bool := T.1 && freeT T.2 l i && readyAt T.2 l i && closedT T.2 l && lastW T.2 B l ds i && (l.set i true == l')
theorem take_ofW {B : List Nat} (hT : rtab md ops = T) (hB : waitsOk T.2 B = true) (h : takeW T B ds l.toList l'.toList i = true) : takeB md ops ds l l' i = true := by
 refine take_of hT ?_
 simp only [takeW, takeT, Bool.and_eq_true] at h ⊢
 obtain ⟨⟨⟨⟨⟨h1, h2⟩, h3⟩, h4⟩, h5⟩, h6⟩ := h
 refine ⟨⟨⟨⟨⟨h1, h2⟩, h3⟩, h4⟩, ?_⟩, h6⟩
 unfold lastW at h5
 unfold lastT
 rw [List.all_eq_true] at h5 ⊢
 intro d hd
 have h7 := h5 d hd
 rw [Bool.or_eq_true, Bool.and_eq_true, decide_eq_true_eq] at h7
 rcases h7 with h7 | ⟨h8, h9⟩
 ·rw [h7, Bool.true_or]
 rw [reach_bit hB _ d h8 h8 h9, Bool.or_true]
theorem with_tabW {P : Program} {Q : Exit → Act → World → Prop} {S : World → Prop} {n : Nat} {a : Act} {w : World} {B : List Nat} (hT : rtab md ops = T) (hB : waitsOk T.2 B = true) (h : Aside0 (rtab md ops = T) → Aside0 (waitsOk T.2 B = true) → wpAnyLast P md ops Q S ds n l a w) : wpAnyLast P md ops Q S ds n l a w := h ⟨hT⟩ ⟨hB⟩
end
def opsIn : Code → Nat → Option (Array Oper)
 | .region id ops _, k => if id == k then some ops else none
 | .seq a b, k => match opsIn a k with
  | some o => some o
  | none => opsIn b k
 | .cond _ a b, k => match opsIn a k with
  | some o => some o
  | none => opsIn b k
 | .block _ c, k => opsIn c k
 | .loop c, k => opsIn c k
 | .scope c, k => opsIn c k
 | .rangeFunc _ _ a b, k => match opsIn a k with
  | some o => some o
  | none => opsIn b k
 | _, _ => none
def opsOf (f : Func) (k : Nat) : Array Oper := ((f.body.bind fun c => opsIn c k)).getD #[]
end Go.Proofs.YtaheamdoldiojaaW.PrintLast
namespace Go.Proofs.YtaheamdoldiojaaW.PrintWords
open Go.RowKit
namespace Kd
def tag {α : Type} (f : Nat → Nat) (d : Kd α) : Kd (α × Nat) where
 sz := d.sz
 E := d.E
 K := fun w x cs => d.K w x.1 cs
 M := fun w base ok x cs => d.M w base (fun k => ok k ∧ f k = x.2) x.1 cs
 K_len := fun h => d.K_len h
 K_one := fun h => d.K_one h
 K_below := fun hb h => d.K_below hb h
 K_of_M := fun h => d.K_of_M h
 M_mono := fun hok h => d.M_mono (fun k hk => ⟨hok k hk.1, hk.2⟩) h
 M_bound := fun h => d.M_mono (fun _ hk => ⟨⟨hk.1.1, hk.2⟩, hk.1.2⟩) (d.M_bound h)
 M_move := fun hm h => d.M_move (fun k hk => hm k hk.1) h
 M_lower := fun hb h => d.M_lower hb h
def raw (sz : Nat) : Kd (List Value) where
 sz := sz
 E := []
 K := fun _ x cs => cs = x ∧ cs.length = sz ∧ ∀ u ∈ cs, u.oneCell' = true
 M := fun _ _ _ x cs => cs = x ∧ cs.length = sz ∧ ∀ u ∈ cs, u.oneCell' = true
 K_len := fun h => h.2.1
 K_one := fun h => h.2.2
 K_below := fun _ h => h
 K_of_M := fun h => h
 M_mono := fun _ h => h
 M_bound := fun h => h
 M_move := fun _ h => h
 M_lower := fun _ h => h
def S {α : Type} (d : Kd α) (e : Nat) (w : World) (base : Nat) (ok : Nat → Prop) (v : Value) (xs : List α) : Prop := ∃ f, (tag f d).R e w base ok v xs.zipIdx
section
variable {α β : Type} {d : Kd α} {d' : Kd β} {e e' : Nat} {w w1 W : World} {base b : Nat} {ok ok' okv oku : Nat → Prop} {u v : Value} {xs : List α} {ys : List β}
theorem zip_at {xs : List α} {j : Nat} {p : α} (h : xs[j]? = some p) : xs.zipIdx[j]? = some (p, j) := by rw [List.getElem?_zipIdx, h, Nat.zero_add]; rfl
theorem S_R (h : S d e w base ok v xs) : d.R e w base ok v xs := by
 obtain ⟨f, h0, inner, ho, hr⟩ := h
 rw [List.length_zipIdx] at ho
 exact ⟨h0, inner, ho, by have := hr.1; rw [List.length_zipIdx] at this; exact this, fun j p hj => d.M_mono (fun _ hk => hk.1) (hr.2 j (p, j) (zip_at hj))⟩
theorem R_head {ad : Addr} {n cap : Nat} (h : d.R e w base ok (.slice (some ad) n cap) xs) : ∃ g, ad = ⟨g, 0, none⟩ := by
 obtain ⟨_, inner, ho, hr⟩ := h
 rcases ho.2 with ⟨hv, _⟩ | ⟨g, cap', cur, hv, _⟩
 ·cases hv
 injection hv with ha _ _
 injection ha with ha
 exact ⟨g, ha⟩
theorem R_getA {ad : Addr} {n cap : Nat} (h : d.R e W base ok (.slice (some ad) n cap) xs) (z : α) (i : Int) (h0 : 0 ≤ i) (h1 : i < n) :
  ∃ c, c.length = d.sz ∧ d.M W base (fun k => ok k ∧ some k ≠ (Value.slice (some ad) n cap).ownBlock) (xs.getD i.toNat z) c ∧ ∀ j u, c[j]? = some u → W.cell? (ad.add (i.toNat * d.sz + j)) = some u := by
 obtain ⟨g, rfl⟩ := R_head h
 obtain ⟨c, hcl, hM, hcc, _⟩ := R_elem h z i h0 h1
 refine ⟨c, hcl, d.M_mono (fun k hk => ⟨hk.1, fun he => hk.2 (by simpa [Value.ownBlock] using he)⟩) hM, fun j u hu => ?_⟩
 rw [add_at, Nat.zero_add]
 exact hcc j u hu
theorem R_tight (hE : d.E = []) (h : d.R e w base ok v xs) : d.R e w base (fun k => some k = v.ownBlock) v xs := by
 obtain ⟨h0, inner, ho, hr⟩ := h
 refine ⟨fun k hk => hk.symm, inner, ho, hr.imp_ (fun p c hp => d.M_mono (fun k hk => ?_) (d.M_bound hp))⟩
 obtain ⟨_, _, _, q, hq, _⟩ := hk
 rw [hE] at hq
 cases hq
theorem S_nil (d : Kd α) (e : Nat) (w : World) (base : Nat) (ok : Nat → Prop) : S d e w base ok (.slice none 0 0) [] := ⟨fun _ => 0, R_nil _ _ _ _ _⟩
theorem S_mono (h : S d e w base ok v xs) (hok : ∀ k, ok k → ok' k) : S d e w base ok' v xs := by
 obtain ⟨f, h⟩ := h
 exact ⟨f, R_mono h hok⟩
theorem S_bound (h : S d e w base ok v xs) : S d e w base (fun k => ok k ∧ base ≤ k ∧ k < w.heap.size ∧ ∃ q, q ∈ e :: d.E ∧ ∃ cells, w.heap[k]? = some (.cells cells q (0, 0))) v xs := by
 obtain ⟨f, h⟩ := h
 exact ⟨f, R_bound h⟩
theorem S_move (h : S d e w base ok v xs) (hm : ∀ k, ok k → w1.heap[k]? = w.heap[k]?) : S d e w1 base ok v xs := by
 obtain ⟨f, h⟩ := h
 exact ⟨f, R_move h hm⟩
theorem S_step (h : S d e w base ok v xs) (hm : ∀ k, ok k → k < w.heap.size → w1.heap[k]? = w.heap[k]?) : S d e w1 base ok v xs :=
 S_mono (S_move (S_bound h) (fun k hk => hm k hk.1 hk.2.2.1)) (fun _ hk => hk.1)
theorem S_below (h : S d e w base ok v xs) (hb : Below w.heap.size w w1) : S d e w1 base ok v xs := S_step h (fun k _ hk => hb.block k hk)
theorem S_alloc (h : S d e w base ok v xs) (o : Obj) : S d e (w.alloc o) base ok v xs := S_below h (below_alloc (Below.refl _ _) o)
theorem S_drew (h : S d e w base ok v xs) : S d e w.drew base ok v xs := S_below h (below_drew (Below.refl _ _))
theorem S_drewN (h : S d e w base ok v xs) (m : Nat) : S d e (w.drewN m) base ok v xs := S_below h (pw_below_drewN (Below.refl _ _) m)
theorem S_far (h : S d e w base ok v xs) {p : Addr} (hok : ∀ k, ok k → k ≠ p.block) (u : Value) : S d e (w.setCell p u) base ok v xs := S_step h (fun k ho _ => Below.heap_setCell w p u k (hok k ho))
theorem S_types (h : S d e w base ok v xs) {g t : Nat} {cells : Array Value} (hb : w.heap[g]? = some (.cells cells t (0, 0))) (ht : ∀ q, q ∈ e :: d.E → q ≠ t) : S d e w base (fun k => ok k ∧ k ≠ g) v xs := by
 obtain ⟨f, h⟩ := h
 exact ⟨f, R_types h hb ht⟩
theorem S_typed (h : S d e w base ok v xs) : ∀ k, v.ownBlock = some k → ∃ cells, w.heap[k]? = some (.cells cells e (0, 0)) := R_typed (S_R h)
theorem S_elder' (h : S d e W base ok u xs) (hbase : ∀ k, v.ownBlock = some k → W.heap.size ≤ k) (hb : Below W.heap.size W w1) : S d e w1 base (fun k => ok k ∧ some k ≠ v.ownBlock) u xs := by
 obtain ⟨f, h⟩ := h
 exact ⟨f, R_elder' h hbase hb⟩
theorem S_after {v1 : Value} (h : S d e W base (fun k => ok k ∧ some k ≠ v.ownBlock) u xs) (hg : W.grownBy w1 v.ownBlock) (hat : v1.ownBlock = v.ownBlock ∨ ∃ b, v1.ownBlock = some b ∧ W.heap.size ≤ b) : S d e w1 base (fun k => ok k ∧ some k ≠ v1.ownBlock) u xs := by
 obtain ⟨f, h⟩ := h
 exact ⟨f, R_after h hg hat⟩
theorem R_tag {f f' : Nat → Nat} {zs : List (α × Nat)} (h : (tag f d).R e w base ok v zs) (hf : ∀ k, ok k → k < w.heap.size → f' k = f k) : (tag f' d).R e w base ok v zs := by
 obtain ⟨h0, inner, ho, hr⟩ := R_bound h
 exact ⟨fun k hk => (h0 k hk).1, inner, ho, hr.1, fun j p hj => d.M_mono (fun k hk => ⟨⟨hk.1.1.1, hk.1.2⟩, (hf k hk.1.1.1 hk.1.1.2.2.1).trans hk.2⟩) (hr.2 j p hj)⟩
end
section
variable {α β : Type} {d : Kd α} {d' : Kd β} {e e' g : Nat} {w w1 W : World} {base b : Nat} {ok ok' okv oku : Nat → Prop} {u v : Value} {xs : List α} {ys : List β}
theorem S_ne (h : S d e w base ok v xs) {t : Nat} {cells : Array Value} (hb : w.heap[g]? = some (.cells cells t (0, 0))) (ht : e ≠ t) : some g ≠ v.ownBlock := R_ne (S_R h) hb ht
theorem S_slice (h : S d e w base ok v xs) : ∃ A c, v = .slice A xs.length c := R_slice (S_R h)
theorem S_reads' {A : Option Addr} {n c : Nat} (h : S d e w base ok (.slice A n c) xs) : n = xs.length ∧ n ≤ c ∧ d.C w A xs.length xs := R_reads' (S_R h)
theorem S_get {ad : Addr} {n cap : Nat} (h : S d e W base ok (.slice (some ad) n cap) xs) (z : α) (i : Int) (h0 : 0 ≤ i) (h1 : i < n) :
  ∃ c, c.length = d.sz ∧ d.M W base (fun k => ok k ∧ some k ≠ (Value.slice (some ad) n cap).ownBlock) (xs.getD i.toNat z) c ∧ ∀ j u, c[j]? = some u → W.cell? (ad.add (i.toNat * d.sz + j)) = some u := R_getA (S_R h) z i h0 h1
theorem zip_snoc (xs : List α) (p : α) : (xs ++ [p]).zipIdx = xs.zipIdx ++ [(p, xs.length)] := by rw [List.zipIdx_append]; simp
end
section
open Classical in
theorem S_tag {α : Type} {d : Kd α} {e base : Nat} {okv : Nat → Prop} {w : World} {v : Value} {xs : List α} (h : S d e w base okv v xs) (m : Nat) (okp : Nat → Prop) (hap : ∀ k, okp k → ¬ okv k) : ∃ f, (∀ k, okp k → f k = m) ∧ (tag f d).R e w base okv v xs.zipIdx := by
 obtain ⟨f, h⟩ := h
 exact ⟨fun k => if okp k then m else f k, fun k hk => if_pos hk, R_tag h (fun k hk _ => if_neg (fun h2 => hap k h2 hk))⟩
variable {P : Program} {ops : Array Oper} {rest : List Oper} {o : Oper} {a : Act} {Q : Exit → Act → World → Prop} {Kc : Act → World → Prop} {α : Type}
theorem S_append (d : Kd α) {w0 W : World} (base : Nat) (hgd : o.guard = none) (s x : Operand) (t e : TypeId) (z : Value) (bytes : Nat)
  (ho : o.op = .call { callee := .builtin .append, args := #[s, x], argTypes := #[t, t] })
  (ht : P.underlying t = some (.slice e)) (hinfo : (P.info? e).map (fun i => (i.zero, i.size, i.bytes)) = some (some z, d.sz, bytes)) (hz : z.cells.size = d.sz) (hs0 : 0 < d.sz) (hb0 : 0 < bytes)
  (v : Value) (xs : List α) (p : α) (cs : List Value) (ok okp : Nat → Prop) (hs : a.eval s = v) (hx : a.eval x = .slice (some ⟨W.heap.size, 0, none⟩) 1 1) (hp : d.M W base okp p cs) (hokp : ∀ k, okp k → ok k ∧ some k ≠ v.ownBlock) (hfresh : ∀ k, W.heap.size ≤ k → ok k)
  (HO : S d e W base (fun k => ok k ∧ ¬ okp k) v xs) (HB : Below base w0 W) (hbase : base ≤ W.heap.size) (hl : (xs.length + 1) * bytes ≤ 140737488355328)
  (h : ∀ v1 w1, S d e w1 base ok v1 (xs ++ [p]) → Below base w0 w1 → W.grownBy w1 v.ownBlock → (v1.ownBlock = v.ownBlock ∨ ∃ b, v1.ownBlock = some b ∧ W.heap.size ≤ b) → wpList P ops Q rest (a.put o.dst v1) w1) :
  wpList P ops Q (o :: rest) a (W.alloc (.cells cs.toArray e)) := by
 obtain ⟨f, hf, hR⟩ := S_tag HO xs.length okp (fun _ hk h2 => h2.2 hk)
 refine R_append (tag f d) base hgd s x t e z bytes ho ht hinfo hz hs0 hb0 v xs.zipIdx (p, xs.length) cs ok okp hs hx (d.M_mono (fun k hk => ⟨hk, hf k hk⟩) hp) hokp hfresh (R_mono hR (fun _ hk => hk.1)) HB hbase (by rw [List.length_zipIdx]; exact hl) ?_
 intro v1 w1 hr
 rw [← zip_snoc] at hr
 exact h v1 w1 ⟨f, hr⟩
end
def gap {α : Type} (f : Nat → Nat) (d : Kd α) (i : Nat) (c : List Value) : Kd (α × Nat) where
 sz := d.sz
 E := d.E
 K := fun w x cs => (x.2 = i → cs = c ∧ cs.length = d.sz ∧ ∀ u ∈ cs, u.oneCell' = true) ∧ (x.2 ≠ i → d.K w x.1 cs)
 M := fun w base ok x cs => (x.2 = i → cs = c ∧ cs.length = d.sz ∧ ∀ u ∈ cs, u.oneCell' = true) ∧ (x.2 ≠ i → d.M w base (fun k => ok k ∧ f k = x.2) x.1 cs)
 K_len := fun {w x cs} h => by
  by_cases hx : x.2 = i
  ·exact (h.1 hx).2.1
  exact d.K_len (h.2 hx)
 K_one := fun {w x cs} h => by
  by_cases hx : x.2 = i
  ·exact (h.1 hx).2.2
  exact d.K_one (h.2 hx)
 K_below := fun hb h => ⟨h.1, fun hx => d.K_below hb (h.2 hx)⟩
 K_of_M := fun h => ⟨h.1, fun hx => d.K_of_M (h.2 hx)⟩
 M_mono := fun hok h => ⟨h.1, fun hx => d.M_mono (fun k hk => ⟨hok k hk.1, hk.2⟩) (h.2 hx)⟩
 M_bound := fun h => ⟨h.1, fun hx => d.M_mono (fun _ hk => ⟨⟨hk.1.1, hk.2⟩, hk.1.2⟩) (d.M_bound (h.2 hx))⟩
 M_move := fun hm h => ⟨h.1, fun hx => d.M_move (fun k hk => hm k hk.1) (h.2 hx)⟩
 M_lower := fun hb h => ⟨h.1, fun hx => d.M_lower hb (h.2 hx)⟩
def H {α : Type} (d : Kd α) (e : Nat) (w : World) (base : Nat) (ok : Nat → Prop) (v : Value) (xs : List α) (i : Int) (oki : Nat → Prop) (c : List Value) : Prop :=
 (∀ k, oki k → ok k) ∧ ∃ f, (gap f d i.toNat c).R e w base (fun k => ok k ∧ ¬ oki k) v xs.zipIdx
end Kd
end Go.Proofs.YtaheamdoldiojaaW.PrintWords
namespace Go.Proofs.YtaheamdoldiojaaW.PrintWords
open Go.RowKit
namespace Kd
structure Heap {α : Type} (d : Kd α) : Prop where
 K : ∀ {w w1 : World} {x : α} {cs : List Value}, (∀ k, k < w.heap.size → w1.heap[k]? = w.heap[k]?) → d.K w x cs → d.K w1 x cs
theorem cell_heap {w w1 : World} (hb : ∀ k, k < w.heap.size → w1.heap[k]? = w.heap[k]?) {a : Addr} {v : Value} (h : w.cell? a = some v) : w1.cell? a = some v := by
 have := hb a.block (World.block_lt_of_cell? w a h)
 simpa [World.cell?, this] using h
theorem Heap.C {α : Type} {d : Kd α} (hd : Heap d) {w w1 : World} {A : Option Addr} {n : Nat} {xs : List α} (hb : ∀ k, k < w.heap.size → w1.heap[k]? = w.heap[k]?) (h : d.C w A n xs) : d.C w1 A n xs :=
 ⟨h.1, h.2.1, fun hn => by
  obtain ⟨ad, e, hc⟩ := h.2.2 hn
  refine ⟨ad, e, fun j p hj => ?_⟩
  obtain ⟨c, hs, hr, hcell⟩ := hc j p hj
  exact ⟨c, hs, hd.K hb hr, fun i u hu => cell_heap hb (hcell i u hu)⟩⟩
end Kd
end Go.Proofs.YtaheamdoldiojaaW.PrintWords
namespace Go.Proofs.YtaheamdoldiojaaW.PrintWords
open Go.RowKit
def Kept (w W : World) (S : Nat → Prop) : Prop := w.heap.size ≤ W.heap.size ∧ ∀ i, i < w.heap.size → ¬ S i → W.heap[i]? = w.heap[i]?
section
variable {w W W2 : World} {S S2 S' : Nat → Prop}
theorem Kept.refl (w : World) (S : Nat → Prop) : Kept w w S := ⟨Nat.le_refl _, fun _ _ _ => rfl⟩
theorem Kept.of_below (h : Below w.heap.size w W) (S : Nat → Prop) : Kept w W S := ⟨h.size, fun i hi _ => h.block i hi⟩
theorem Kept.mono (h : Kept w W S) (hs : ∀ k, S k → S' k) : Kept w W S' := ⟨h.1, fun i hi hn => h.2 i hi (fun hk => hn (hs i hk))⟩
theorem Kept.then_ (h : Kept w W S) (k : Kept W W2 S2) (hs : ∀ k, S2 k → S k ∨ w.heap.size ≤ k) : Kept w W2 S :=
 ⟨Nat.le_trans h.1 k.1, fun i hi hn => (k.2 i (Nat.lt_of_lt_of_le hi h.1) (fun h2 => (hs i h2).elim hn (fun h3 => by omega))).trans (h.2 i hi hn)⟩
theorem Kept.below (h : Kept w W S) (hb : Below W.heap.size W W2) : Kept w W2 S := h.then_ (Kept.of_below hb (fun _ => False)) (fun _ hk => hk.elim)
theorem Kept.alloc (h : Kept w W S) (o : Obj) : Kept w (W.alloc o) S := h.below (below_alloc (Below.refl _ _) o)
theorem Kept.drew (h : Kept w W S) : Kept w W.drew S := h
theorem Kept.drewN (h : Kept w W S) (m : Nat) : Kept w (W.drewN m) S := h
theorem Kept.setCell (h : Kept w W S) {p : Addr} (hp : S p.block ∨ w.heap.size ≤ p.block) (u : Value) : Kept w (W.setCell p u) S :=
 h.then_ (S2 := fun k => k = p.block) ⟨by simp [World.setCell], fun i _ hn => Below.heap_setCell W p u i hn⟩ (fun k hk => by rw [hk]; exact hp)
theorem Kept.keep {g : Nat} (h : KeepBut w W g none) (k : Kept W W2 S2) (hs : ∀ k, S2 k → w.heap.size ≤ k) : KeepBut w W2 g none :=
 ⟨Nat.le_trans h.1 k.1, fun i hi hg hr => (k.2 i (Nat.lt_of_lt_of_le hi h.1) (fun h2 => by have := hs i h2; omega)).trans (h.2 i hi hg hr)⟩
theorem blk_kept {g : Nat} {o : Obj} (hb : W.heap[g]? = some o) (hk : Kept W W2 S) (hne : ¬ S g) : W2.heap[g]? = some o := (hk.2 g (blk_lt hb) hne).trans hb
end
end Go.Proofs.YtaheamdoldiojaaW.PrintWords
namespace Go.Proofs.YtaheamdoldiojaaW.PrintWords
open Go.RowKit
def Foot (P : World → Prop) (W : World) (ok : Nat → Prop) : Prop := ∀ W' : World, (∀ k, ok k → k < W.heap.size → W'.heap[k]? = W.heap[k]?) → P W'
theorem heap_lt {W W1 : World} {k : Nat} (h : W1.heap[k]? = W.heap[k]?) (hlt : k < W.heap.size) : k < W1.heap.size := by
 rw [Array.getElem?_eq_getElem hlt] at h
 exact (Array.getElem?_eq_some_iff.1 h).1
namespace Foot
variable {P Q : World → Prop} {W W1 : World} {ok ok' : Nat → Prop}
theorem now (h : Foot P W ok) : P W := h W (fun _ _ _ => rfl)
theorem mono (h : Foot P W ok) (hok : ∀ k, ok k → ok' k) : Foot P W ok' := fun W' hW => h W' (fun k hk hlt => hW k (hok k hk) hlt)
theorem bound (h : Foot P W ok) : Foot P W (fun k => ok k ∧ k < W.heap.size) := fun W' hW => h W' (fun k hk hlt => hW k ⟨hk, hlt⟩ hlt)
theorem step (h : Foot P W ok) (hm : ∀ k, ok k → k < W.heap.size → W1.heap[k]? = W.heap[k]?) : Foot P W1 ok := fun W' hW => h W' (fun k hk hlt => (hW k hk (heap_lt (hm k hk hlt) hlt)).trans (hm k hk hlt))
theorem imp (h : Foot P W ok) (hi : ∀ W', P W' → Q W') : Foot Q W ok := fun W' hW => hi W' (h W' hW)
end Foot
namespace Kd
def F {α : Type} (d : Kd α) (W : World) (ok : Nat → Prop) (A : Option Addr) (n : Nat) (xs : List α) : Prop := Foot (fun W => d.C W A n xs) W ok
def FK {α : Type} (d : Kd α) (W : World) (ok : Nat → Prop) (x : α) (c : List Value) : Prop := Foot (fun W => d.K W x c) W ok
section
variable {α β : Type} {d : Kd α} {e base n n' cc g N : Nat} {ok ok' okp S : Nat → Prop} {w w0 w1 W W1 : World} {A A' : Option Addr} {u v v1 : Value} {xs : List α} {xs' : List β} {d' : Kd β} {x : α} {c : List Value}
theorem F_nil (d : Kd α) (W : World) (ok : Nat → Prop) : F d W ok none ([] : List α).length [] := fun W' _ => C_nil d W'
theorem R_F (h : d.R e W base ok (.slice A n cc) xs) : F d W ok A n xs := fun W' hW => by
 have h2 := R_reads' (R_step h hW)
 rw [h2.1]
 exact h2.2.2
theorem FK_now (h : FK d W ok x c) : d.K W x c := Foot.now h
theorem FK_mono (h : FK d W ok x c) (hok : ∀ k, ok k → ok' k) : FK d W ok' x c := Foot.mono h hok
theorem FK_bound (h : FK d W ok x c) : FK d W (fun k => ok k ∧ k < W.heap.size) x c := Foot.bound h
theorem FK_step (h : FK d W ok x c) (hm : ∀ k, ok k → k < W.heap.size → W1.heap[k]? = W.heap[k]?) : FK d W1 ok x c := Foot.step h hm
theorem FK_of_M (h : d.M W base ok x c) : FK d W ok x c := fun _ hW => d.K_of_M (M_step h hW)
end
end Kd
end Go.Proofs.YtaheamdoldiojaaW.PrintWords
namespace Go.Proofs.YtaheamdoldiojaaW.PrintWords
open Go.RowKit
namespace Kd
def chunks (sz : Nat) (n : Nat) (inner : List Value) : List (List Value) := (List.range n).map fun j => (inner.drop (j * sz)).take sz
theorem chunks_length (sz n : Nat) (inner : List Value) : (chunks sz n inner).length = n := by simp [chunks]
theorem chunks_at {sz n : Nat} {inner : List Value} {j : Nat} (hj : j < n) : (chunks sz n inner)[j]? = some ((inner.drop (j * sz)).take sz) := by simp [chunks, hj]
theorem chunks_get {sz n : Nat} {inner : List Value} {j : Nat} {c : List Value} (h : (chunks sz n inner)[j]? = some c) : c = (inner.drop (j * sz)).take sz := by
 have hj : j < n := by have := (List.getElem?_eq_some_iff.1 h).1; rwa [chunks_length] at this
 rw [chunks_at hj] at h
 injection h with h
 exact h.symm
theorem reps_raw {α : Type} {Rr : α → List Value → Prop} {sz : Nat} {xs : List α} {inner : List Value} (h : Reps Rr sz xs inner) (hR : ∀ x c, Rr x c → c.length = sz ∧ ∀ u ∈ c, u.oneCell' = true) : Reps (fun x cs => cs = x ∧ cs.length = sz ∧ ∀ u ∈ cs, u.oneCell' = true) sz (chunks sz xs.length inner) inner := by
 refine ⟨by rw [chunks_length]; exact h.1, fun j p hj => ?_⟩
 have hjl : j < xs.length := by have := (List.getElem?_eq_some_iff.1 hj).1; rwa [chunks_length] at this
 have hp := chunks_get hj
 exact ⟨hp.symm, hR _ _ (h.2 j _ (List.getElem?_eq_getElem hjl))⟩
section
variable {α : Type} {d : Kd α} {e base n cc g : Nat} {ok ok' okp S : Nat → Prop} {w w1 W W1 : World} {A : Option Addr} {u v v1 : Value} {xs : List α} {x : α} {c : List Value}
def N {α : Type} (d : Kd α) (e : Nat) (w : World) (base : Nat) (ok : Nat → Prop) (v : Value) (xs : List α) : Prop :=
 (∀ k, v.ownBlock = some k → ok k) ∧ ∃ rows : List (List Value), rows.length = xs.length ∧ (raw d.sz).R e w base (fun k => some k = v.ownBlock) v rows ∧ ∀ (j : Nat) (x : α) (c : List Value), xs[j]? = some x → rows[j]? = some c → FK d w (fun k => ok k ∧ some k ≠ v.ownBlock) x c
theorem raw_tight {sz : Nat} {rows : List (List Value)} (h : (raw sz).R e w base ok v rows) : (raw sz).R e w base (fun k => some k = v.ownBlock) v rows := R_tight rfl h
theorem R_N (h : d.R e w base ok v xs) : N d e w base ok v xs := by
 obtain ⟨h0, inner, ho, hr⟩ := h
 refine ⟨h0, chunks d.sz xs.length inner, chunks_length _ _ _, ⟨fun k hk => hk.symm, inner, by rw [chunks_length]; exact ho, reps_raw hr (fun x c hp => ⟨d.K_len (d.K_of_M hp), d.K_one (d.K_of_M hp)⟩)⟩, fun j x c hx hc => ?_⟩
 rw [chunks_get hc]
 exact FK_of_M (hr.2 j x hx)
theorem N_nil (d : Kd α) (e : Nat) (w : World) (base : Nat) (ok : Nat → Prop) : N d e w base ok (.slice none 0 0) [] := R_N (R_nil _ _ _ _ _)
theorem N_mono (h : N d e w base ok v xs) (hok : ∀ k, ok k → ok' k) : N d e w base ok' v xs := by
 obtain ⟨h0, rows, hl, hR, hf⟩ := h
 exact ⟨fun k hk => hok k (h0 k hk), rows, hl, hR, fun j x c hx hc => FK_mono (hf j x c hx hc) (fun k hk => ⟨hok k hk.1, hk.2⟩)⟩
theorem N_lt (h : N d e w base ok v xs) : ∀ k, v.ownBlock = some k → k < w.heap.size := by
 obtain ⟨_, rows, _, hR, _⟩ := h
 exact R_lt hR
theorem N_bound (h : N d e w base ok v xs) : N d e w base (fun k => ok k ∧ k < w.heap.size) v xs := by
 have hlt := N_lt h
 obtain ⟨h0, rows, hl, hR, hf⟩ := h
 exact ⟨fun k hk => ⟨h0 k hk, hlt k hk⟩, rows, hl, hR, fun j x c hx hc => FK_mono (FK_bound (hf j x c hx hc)) (fun k hk => ⟨⟨hk.1.1, hk.2⟩, hk.1.2⟩)⟩
theorem N_lower {base' : Nat} (h : N d e w base ok v xs) (hb : base' ≤ base) : N d e w base' ok v xs := by
 obtain ⟨h0, rows, hl, hR, hf⟩ := h
 exact ⟨h0, rows, hl, R_lower hR hb, hf⟩
theorem N_step (h : N d e w base ok v xs) (hm : ∀ k, ok k → k < w.heap.size → w1.heap[k]? = w.heap[k]?) : N d e w1 base ok v xs := by
 obtain ⟨h0, rows, hl, hR, hf⟩ := h
 exact ⟨h0, rows, hl, R_step hR (fun k hk hlt => hm k (h0 k hk.symm) hlt), fun j x c hx hc => FK_step (hf j x c hx hc) (fun k hk hlt => hm k hk.1 hlt)⟩
theorem N_below (h : N d e w base ok v xs) (hb : Below w.heap.size w w1) : N d e w1 base ok v xs := N_step h (fun k _ hk => hb.block k hk)
theorem N_alloc (h : N d e w base ok v xs) (o : Obj) : N d e (w.alloc o) base ok v xs := N_below h (below_alloc (Below.refl _ _) o)
theorem N_drew (h : N d e w base ok v xs) : N d e w.drew base ok v xs := N_below h (below_drew (Below.refl _ _))
theorem N_drewN (h : N d e w base ok v xs) (m : Nat) : N d e (w.drewN m) base ok v xs := N_below h (pw_below_drewN (Below.refl _ _) m)
theorem N_far (h : N d e w base ok v xs) {p : Addr} (hok : ∀ k, ok k → k ≠ p.block) (u : Value) : N d e (w.setCell p u) base ok v xs := N_step h (fun k ho _ => Below.heap_setCell w p u k (hok k ho))
theorem N_elderB (h : N d e w base ok v xs) (a : Nat) (ha : w.heap.size ≤ a) : N d e w base (fun k => ok k ∧ k ≠ a) v xs := N_mono (N_bound h) (fun k hk => ⟨hk.1, by have := hk.2; omega⟩)
theorem N_slice (h : N d e w base ok v xs) : ∃ A c, v = .slice A xs.length c := by
 obtain ⟨_, rows, hl, hR, _⟩ := h
 obtain ⟨A, c, he⟩ := R_slice hR
 exact ⟨A, c, by rw [he, hl]⟩
theorem N_reads' {n c : Nat} (h : N d e w base ok (.slice A n c) xs) : n = xs.length ∧ n ≤ c ∧ d.C w A xs.length xs := by
 obtain ⟨_, rows, hl, hR, hf⟩ := h
 obtain ⟨hn, hc, hC⟩ := R_reads' hR
 refine ⟨by omega, hc, ?_⟩
 rw [hl] at hC
 refine ⟨rfl, hC.2.1, fun hp => ?_⟩
 obtain ⟨ad, he, hcell⟩ := hC.2.2 hp
 refine ⟨ad, he, fun j p hj => ?_⟩
 have hjl : j < rows.length := by have := (List.getElem?_eq_some_iff.1 hj).1; omega
 obtain ⟨c', hcl, hK, hcc⟩ := hcell j _ (List.getElem?_eq_getElem hjl)
 have hk := FK_now (hf j p _ hj (List.getElem?_eq_getElem hjl))
 refine ⟨c', hcl, ?_, hcc⟩
 rw [show c' = rows[j] from hK.1]
 exact hk
end
end Kd
end Go.Proofs.YtaheamdoldiojaaW.PrintWords
namespace Go.Proofs.YtaheamdoldiojaaW.PrintWords
open Go.RowKit
section
variable {P : Program} {d : Nat} {xs ys : Array Value} {f : Field} {fs : List Field} {a b : Value} {r s : Bool} {w : World}
theorem eqf_last (hn : (f.name == "_") = false) (ha : (part f.type xs f.offset).run P w = .ok a w) (hb : (part f.type ys f.offset).run P w = .ok b w) (he : (Op.equalIn d f.type a b).run P w = .ok r w) : (Op.eqFields d xs ys [f]).run P w = .ok r w := by
 have hn' : f.name ≠ "_" := by simpa using hn
 simp only [Op.eqFields, if_pos hn', Sem.run_bind, ha, hb, he, Result.andThen_ok]
 cases r <;> simp
theorem eqf_cons (hn : (f.name == "_") = false) (ha : (part f.type xs f.offset).run P w = .ok a w) (hb : (part f.type ys f.offset).run P w = .ok b w) (he : (Op.equalIn d f.type a b).run P w = .ok r w) (hr : (Op.eqFields d xs ys fs).run P w = .ok s w) : (Op.eqFields d xs ys (f :: fs)).run P w = .ok (r && s) w := by
 have hn' : f.name ≠ "_" := by simpa using hn
 rw [Op.eqFields]
 simp only [if_pos hn', Sem.run_bind, ha, hb, he, Result.andThen_ok]
 cases r
 ·simp
 simpa using hr
theorem eqA_of {t : TypeId} {fs : Array Field} (hu : P.underlying t = some (.struct fs)) (hp : P.stoodInHeld t = false) (h : (Op.eqFields d xs ys fs.toList).run P w = .ok r w) : (Op.equalIn (d + 1) t (.agg xs) (.agg ys)).run P w = .ok r w := by
 have hf : P.fieldsOf t = fs := by simp [Program.fieldsOf, hu]
 rw [run_equalIn_struct (P := P) w d t xs ys (by rw [hf]; exact hu) hp, hf]
 exact h
end
end Go.Proofs.YtaheamdoldiojaaW.PrintWords
namespace Go.Proofs.YtaheamdoldiojaaW.PrintWords
theorem Reps.one {α : Type} {R : α → List Value → Prop} {ps : List α} {cs : List Value} {p : α} {v : Value} (hp : R p [v]) (h : Reps R 1 ps cs) : Reps R 1 (p :: ps) (v :: cs) := by
 refine ⟨by simp [h.1], fun j q hq => ?_⟩
 cases j with
 | zero =>
  simp only [List.getElem?_cons_zero, Option.some.injEq] at hq
  subst hq
  simpa using hp
 | succ j =>
  simp only [List.getElem?_cons_succ] at hq
  have h1 := h.2 j q hq
  simpa [Nat.mul_one] using h1
theorem Reps.front {α : Type} {R : α → List Value → Prop} {size : Nat} {ps : List α} {cs c all : List Value} {p : α} (hp : R p c) (hc : c.length = size) (h : Reps R size ps cs) (ha : c ++ cs = all) : Reps R size (p :: ps) all := by
 subst ha
 refine ⟨by rw [List.length_append, hc, h.1, List.length_cons, Nat.succ_mul, Nat.add_comm], fun j q hq => ?_⟩
 cases j with
 | zero =>
  simp only [List.getElem?_cons_zero, Option.some.injEq] at hq
  subst hq
  rw [Nat.zero_mul, List.drop_zero, List.take_append_of_le_length (by omega), List.take_of_length_le (by omega)]
  exact hp
 | succ j =>
  simp only [List.getElem?_cons_succ] at hq
  have h1 := h.2 j q hq
  rw [Nat.succ_mul, List.drop_append, List.drop_of_length_le (by rw [hc]; exact Nat.le_add_left _ _), List.nil_append, hc, Nat.add_sub_cancel]
  exact h1
theorem Reps.c2 {α : Type} {R : α → List Value → Prop} {ps : List α} {cs : List Value} {p : α} {va vb : Value} (hp : R p [va, vb]) (h : Reps R 2 ps cs) : Reps R 2 (p :: ps) (va :: vb :: cs) := Reps.front hp rfl h rfl
theorem Reps.c3 {α : Type} {R : α → List Value → Prop} {ps : List α} {cs : List Value} {p : α} {va vb vc : Value} (hp : R p [va, vb, vc]) (h : Reps R 3 ps cs) : Reps R 3 (p :: ps) (va :: vb :: vc :: cs) := Reps.front hp rfl h rfl
theorem Reps.c4 {α : Type} {R : α → List Value → Prop} {ps : List α} {cs : List Value} {p : α} {va vb vc vd : Value} (hp : R p [va, vb, vc, vd]) (h : Reps R 4 ps cs) : Reps R 4 (p :: ps) (va :: vb :: vc :: vd :: cs) := Reps.front hp rfl h rfl
theorem Reps.c5 {α : Type} {R : α → List Value → Prop} {ps : List α} {cs : List Value} {p : α} {va vb vc vd ve : Value} (hp : R p [va, vb, vc, vd, ve]) (h : Reps R 5 ps cs) : Reps R 5 (p :: ps) (va :: vb :: vc :: vd :: ve :: cs) := Reps.front hp rfl h rfl
theorem Reps.c6 {α : Type} {R : α → List Value → Prop} {ps : List α} {cs : List Value} {p : α} {va vb vc vd ve vf : Value} (hp : R p [va, vb, vc, vd, ve, vf]) (h : Reps R 6 ps cs) : Reps R 6 (p :: ps) (va :: vb :: vc :: vd :: ve :: vf :: cs) := Reps.front hp rfl h rfl
theorem Reps.c7 {α : Type} {R : α → List Value → Prop} {ps : List α} {cs : List Value} {p : α} {va vb vc vd ve vf vg : Value} (hp : R p [va, vb, vc, vd, ve, vf, vg]) (h : Reps R 7 ps cs) : Reps R 7 (p :: ps) (va :: vb :: vc :: vd :: ve :: vf :: vg :: cs) := Reps.front hp rfl h rfl
theorem Reps.c8 {α : Type} {R : α → List Value → Prop} {ps : List α} {cs : List Value} {p : α} {va vb vc vd ve vf vg vh : Value} (hp : R p [va, vb, vc, vd, ve, vf, vg, vh]) (h : Reps R 8 ps cs) : Reps R 8 (p :: ps) (va :: vb :: vc :: vd :: ve :: vf :: vg :: vh :: cs) := Reps.front hp rfl h rfl
theorem Reps.c9 {α : Type} {R : α → List Value → Prop} {ps : List α} {cs : List Value} {p : α} {va vb vc vd ve vf vg vh vi : Value} (hp : R p [va, vb, vc, vd, ve, vf, vg, vh, vi]) (h : Reps R 9 ps cs) : Reps R 9 (p :: ps) (va :: vb :: vc :: vd :: ve :: vf :: vg :: vh :: vi :: cs) := Reps.front hp rfl h rfl
theorem Reps.c10 {α : Type} {R : α → List Value → Prop} {ps : List α} {cs : List Value} {p : α} {va vb vc vd ve vf vg vh vi vj : Value} (hp : R p [va, vb, vc, vd, ve, vf, vg, vh, vi, vj]) (h : Reps R 10 ps cs) : Reps R 10 (p :: ps) (va :: vb :: vc :: vd :: ve :: vf :: vg :: vh :: vi :: vj :: cs) := Reps.front hp rfl h rfl
end Go.Proofs.YtaheamdoldiojaaW.PrintWords
namespace Go.Proofs.YtaheamdoldiojaaW.PrintLast
def up (b : Nat → Bool) (i : Nat) : Nat → Bool := fun j => if j = i then true else b j
end Go.Proofs.YtaheamdoldiojaaW.PrintLast
namespace Go.Proofs.YtaheamdoldiojaaW.PrintWords
open Go.RowKit
section
variable {P : Program} {ops : Array Oper} {rest : List Oper} {o : Oper} {a : Act} {Q : Exit → Act → World → Prop} {W : World}
theorem gate_guard (hw : Region.wanted o (yielded ops a.tmps) = true) (h : wpList P ops Q ({ o with guard := none } :: rest) a W) : wpList P ops Q (o :: rest) a W := by
 have h1 : Region.wanted { o with guard := none } (yielded ops a.tmps) = true := rfl
 unfold wpList at h ⊢
 rw [if_pos h1] at h
 rw [if_pos hw]
 exact h
end
end Go.Proofs.YtaheamdoldiojaaW.PrintWords
namespace Go.Proofs.YtaheamdoldiojaaW.PrintWords
open Go.RowKit
namespace Kd
section
variable {α : Type} {d : Kd α} {e base n cap g : Nat} {ok ok' okp : Nat → Prop} {w w1 W : World} {v v1 : Value} {xs ys : List α}
theorem N_made {rows : List (List Value)} (hR : (raw d.sz).R e w1 base (fun k => k = W.heap.size) v1 rows) (hg : W.grownBy w1 none) (hat : ∃ b, v1.ownBlock = some b ∧ W.heap.size ≤ b) (hl : rows.length = xs.length) (hf : ∀ (j : Nat) (x : α) (c : List Value), xs[j]? = some x → rows[j]? = some c → FK d W okp x c)
  (hok : ∀ k, okp k → ok k) (hfresh : ok W.heap.size) : N d e w1 base ok v1 xs := by
 obtain ⟨b, hb, hle⟩ := hat
 refine ⟨fun k hk => by rw [hR.1 k hk]; exact hfresh, rows, hl, raw_tight hR, fun j x c hx hc => ?_⟩
 refine FK_mono (FK_step (FK_bound (hf j x c hx hc)) (fun k hk hlt => hg.block k hlt (by simp))) (fun k hk => ⟨hok k hk.1, fun he => ?_⟩)
 rw [hb] at he
 injection he with he
 have := hk.2
 omega
end
section
variable {P : Program} {ops : Array Oper} {rest : List Oper} {o : Oper} {a : Act} {Q : Exit → Act → World → Prop} {Kc : Act → World → Prop} {α : Type}
theorem N_lit (d : Kd α) {w0 W : World} (base e : Nat) (hgd : o.guard = none) {N' : Tmp} (_hd : o.dst = some N') {xs : List α} {inner : List Value} {ok okp : Nat → Prop}
  (hrun : (execOp a.eval o).run P W = .ok (.value (.slice (some ⟨W.heap.size, 0, none⟩) xs.length xs.length)) (W.alloc (.cells inner.toArray e)))
  (hrep : Reps (FK d W okp) d.sz xs inner) (hok : ∀ k, okp k → ok k) (hfresh : ok W.heap.size) (HB : Below base w0 W) (hbase : base ≤ W.heap.size) (hm : xs.length ≤ 9223372036854775807)
  (h : ∀ v1 w1, N d e w1 base ok v1 xs → Below base w0 w1 → W.grownBy w1 none → (∃ b, v1.ownBlock = some b ∧ W.heap.size ≤ b) → wpList P ops Q rest (a.put o.dst v1) w1) :
  wpList P ops Q (o :: rest) a W := by
 refine R_lit (raw d.sz) base e hgd _hd (xs := chunks d.sz xs.length inner) (inner := inner) (ok := fun k => k = W.heap.size) (okp := fun _ => False) (by rw [chunks_length]; exact hrun) (reps_raw hrep (fun y c hk => ⟨d.K_len (FK_now hk), d.K_one (FK_now hk)⟩)) (fun _ hk => hk.elim) rfl HB hbase (by rw [chunks_length]; exact hm) ?_
 intro v1 w1 hr hb hg hat
 exact h v1 w1 (N_made hr hg hat (chunks_length _ _ _) (fun j y c hy hc => by rw [chunks_get hc]; exact hrep.2 j y hy) hok hfresh) hb hg hat
end
end Kd
end Go.Proofs.YtaheamdoldiojaaW.PrintWords
namespace Go.Proofs.YtaheamdoldiojaaW.PrintMore
open Go.RowKit Go.Proofs.YtaheamdoldiojaaW.PrintWords
theorem max2_int (k k' : IntKind) (x y : Int) : Builtin.max2 (.int k x) (.int k' y) = pure (.int k (if x < y then y else x)) := by simp only [Builtin.max2, gt_iff_lt]
theorem min2_int (k k' : IntKind) (x y : Int) : Builtin.min2 (.int k x) (.int k' y) = pure (.int k (if y < x then y else x)) := by simp only [Builtin.min2]
theorem max_two (ats : Array TypeId) (ty : TypeId) (a b : Value) : Builtin.max_ ats ty #[a, b] = (Builtin.max2 a b >>= fun s => pure s) := by simp only [Builtin.max_, List.foldlM_cons, List.foldlM_nil]
theorem min_two (ats : Array TypeId) (ty : TypeId) (a b : Value) : Builtin.min_ ats ty #[a, b] = (Builtin.min2 a b >>= fun s => pure s) := by simp only [Builtin.min_, List.foldlM_cons, List.foldlM_nil]
theorem max_three (ats : Array TypeId) (ty : TypeId) (a b c : Value) : Builtin.max_ ats ty #[a, b, c] = (Builtin.max2 a b >>= fun s => Builtin.max2 s c >>= fun s => pure s) := by simp only [Builtin.max_, List.foldlM_cons, List.foldlM_nil]
theorem min_three (ats : Array TypeId) (ty : TypeId) (a b c : Value) : Builtin.min_ ats ty #[a, b, c] = (Builtin.min2 a b >>= fun s => Builtin.min2 s c >>= fun s => pure s) := by simp only [Builtin.min_, List.foldlM_cons, List.foldlM_nil]
theorem max_four (ats : Array TypeId) (ty : TypeId) (a b c d : Value) : Builtin.max_ ats ty #[a, b, c, d] = (Builtin.max2 a b >>= fun s => Builtin.max2 s c >>= fun s => Builtin.max2 s d >>= fun s => pure s) := by simp only [Builtin.max_, List.foldlM_cons, List.foldlM_nil]
theorem min_four (ats : Array TypeId) (ty : TypeId) (a b c d : Value) : Builtin.min_ ats ty #[a, b, c, d] = (Builtin.min2 a b >>= fun s => Builtin.min2 s c >>= fun s => Builtin.min2 s d >>= fun s => pure s) := by simp only [Builtin.min_, List.foldlM_cons, List.foldlM_nil]
end Go.Proofs.YtaheamdoldiojaaW.PrintMore
namespace Go.Proofs.YtaheamdoldiojaaW.PrintWords
open Go.RowKit
section
variable {P : Program} {ops : Array Oper} {rest : List Oper} {o : Oper} {a : Act} {Q : Exit → Act → World → Prop} {W : World}
theorem gate_callee {f : FuncId} {as_ : Array Operand} {ts : Array TypeId} (_ho : o.op = .call { callee := .value (.func f), args := as_, argTypes := ts }) (h : wpList P ops Q (o :: rest) a W) : wpList P ops Q (o :: rest) a W := h
theorem gate_builtin {b : Builtin} {xs : Array Operand} {ts : Array TypeId} (_ho : o.op = .call { callee := .builtin b, args := xs, argTypes := ts }) (h : wpList P ops Q (o :: rest) a W) : wpList P ops Q (o :: rest) a W := h
end
def mx (a b : Int) : Int := if a < b then b else a
def mn (a b : Int) : Int := if b < a then b else a
theorem drewN_self (w : World) (n : Nat) : w.drewN n = w.drewN n := rfl
end Go.Proofs.YtaheamdoldiojaaW.PrintWords
namespace Go.Proofs.YtaheamdoldiojaaW.PrintWords
open Go.RowKit
namespace Kd
def V {α : Type} (d : Kd α) (_e : Nat) (W : World) (_base : Nat) (ok : Nat → Prop) (v : Value) (xs : List α) : Prop := ∃ A c, v = .slice A xs.length c ∧ xs.length ≤ c ∧ F d W ok A xs.length xs
section
variable {α β : Type} {d : Kd α} {e base base' n m c g N' lo hi : Nat} {ok ok' S : Nat → Prop} {w W w1 : World} {A : Option Addr} {ad : Addr} {u v v1 : Value} {xs : List α}
theorem V_nil (d : Kd α) (e : Nat) (W : World) (base : Nat) (ok : Nat → Prop) : V d e W base ok (.slice none 0 0) [] := ⟨none, 0, rfl, Nat.le_refl _, F_nil d W ok⟩
theorem R_newM {M : Nat → Prop} (h : d.R e w1 W.heap.size ok v xs) (hle : w.heap.size ≤ W.heap.size) (hM : ∀ k, w.heap.size ≤ k → M k) : d.R e w1 W.heap.size (fun k => M k ∧ ok k) v xs := R_mono (R_bound h) (fun k hk => ⟨hM k (Nat.le_trans hle hk.2.1), hk.1⟩)
end
end Kd
end Go.Proofs.YtaheamdoldiojaaW.PrintWords
namespace Go.Proofs.Ytaheamdoldiojaa.P
open Go.RowKit Go.Proofs.YtaheamdoldiojaaW.PrintWords Go.Proofs.YtaheamdoldiojaaW.PrintLast Go.Proofs.YtaheamdoldiojaaW.PrintMore
theorem zba : type_of% @below_alloc := @below_alloc
theorem zbn : type_of% @pw_below_drewN := @pw_below_drewN
theorem zb1 : type_of% @below_drew1 := @below_drew1
theorem zbs : type_of% @below_set := @below_set
theorem zwb : type_of% @World.block_lt_of_cell? := @World.block_lt_of_cell?
theorem zsa : type_of% @List.setIfInBounds_toArray := @List.setIfInBounds_toArray
theorem zsz : type_of% @List.set_cons_zero := @List.set_cons_zero
theorem zss : type_of% @List.set_cons_succ := @List.set_cons_succ
theorem zka : type_of% @blk_alloc := @blk_alloc
theorem zkc : type_of% @blk_cell := @blk_cell
theorem zkn : type_of% @blk_drewN := @blk_drewN
theorem zkd : type_of% @blk_drew := @blk_drew
theorem zkf : type_of% @blk_far := @blk_far
theorem zkz : type_of% @blk_frozen := @blk_frozen
theorem zkb : type_of% @blk_below := @blk_below
theorem zbt : type_of% @below_step := @below_step
theorem zbz : type_of% @below_size := @below_size
theorem zod : type_of% @of_decide_eq_true := @of_decide_eq_true
theorem zdt : type_of% @decide_eq_true := @decide_eq_true
theorem zdf : type_of% @decide_eq_false := @decide_eq_false
theorem zgc : type_of% @gate_callee := @gate_callee
theorem zgd : type_of% @gate_dst := @gate_dst
theorem zam : type_of% @Aside0.mk := @Aside0.mk
theorem zRa : type_of% @Kd.R_alloc := @Kd.R_alloc
theorem zRn : type_of% @Kd.R_drewN := @Kd.R_drewN
theorem zRd : type_of% @Kd.R_drew := @Kd.R_drew
theorem zlt : type_of% @List.length_take := @List.length_take
theorem zld : type_of% @List.length_drop := @List.length_drop
theorem zsi : type_of% @Option.some.inj := @Option.some.inj
theorem zmt : type_of% @List.map_toArray := @List.map_toArray
end Go.Proofs.Ytaheamdoldiojaa.P
namespace Go.Proofs.Ytaheamdoldiojaa.P
open Go.RowKit Go.Proofs.YtaheamdoldiojaaW.PrintWords Go.Proofs.YtaheamdoldiojaaW.PrintLast Go.Proofs.YtaheamdoldiojaaW.PrintMore
attribute [local go_sem] max2_int min2_int max_two min_two max_three min_three max_four min_four   -- for this text's walks alone
set_option linter.unusedVariables false
set_option linter.unusedSimpArgs false
def errW : Option Int → Value
 | none => .nilIface
 | some c => .iface 0 (.int .i64 c)
theorem errW_none : errW none = .nilIface := rfl
theorem errW_some (c : Int) : errW (some c) = .iface 0 (.int .i64 c) := rfl
theorem info50 : (Try.prog.info? 50).map (fun i => (i.zero, i.size, i.bytes)) = some (some (.int .i64 0), 1, 8) := by kernel_rfl
theorem info66 : (Try.prog.info? 66).map (fun i => (i.zero, i.size, i.bytes)) = some (some (.slice none 0 0), 1, 24) := by kernel_rfl
structure S24 where
 f0 : Int
 f1 : Int
def z24 : S24 := ⟨(0 : Int), (0 : Int)⟩
def k24 : Kd S24 := Kd.iso (Kd.pair (Kd.int .i64) (Kd.int .i64)) (fun x : S24 => (x.f0, x.f1))
theorem k24_open {w : World} {x : S24} {cs : List Value} (h : k24.K w x cs) : cs = [.int .i64 x.f0, .int .i64 x.f1] := by
 obtain ⟨_, _, rfl, rfl, rfl⟩ := h
 exact rfl
theorem k24_mkM (w : World) (base : Nat) (ok : Nat → Prop) (x : S24)  : k24.M w base ok x [.int .i64 x.f0, .int .i64 x.f1] := ⟨[.int .i64 x.f0], [.int .i64 x.f1], rfl, rfl, rfl⟩
def rd_T24 (xs : List S24) (i : Int) : S24 := xs.getD i.toNat z24
theorem at_T24 {w : World} {A : Option Addr} {n : Nat} {xs : List S24} (h : Kd.C k24 w A n xs) (i : Int) (h0 : 0 ≤ i) (h1 : i < n) : ∃ ad , A = some ad ∧ w.cell? (ad.add (i.toNat * 2)) = some (.int .i64 (rd_T24 xs i).f0) ∧ w.cell? ⟨(ad.add (i.toNat * 2)).block, (ad.add (i.toNat * 2)).off + 1, none⟩ = some (.int .i64 (rd_T24 xs i).f1) := by
 obtain ⟨ad, c, e, _, hK, hc0⟩ := Kd.C_get h z24 i h0 h1
 have hc : ∀ j u, c[j]? = some u → w.cell? (ad.add (i.toNat * 2 + j)) = some u := hc0
 obtain rfl := k24_open hK
 exact ⟨ad, e, hc 0 _ rfl, by rw [← add_field _ _ 1 (by omega)]; exact hc 1 _ rfl⟩
def rd_L4 (xs : List (List Int)) (i : Int) : (List Int) := xs.getD i.toNat ([] : List Int)
theorem at_L4 {w : World} {A : Option Addr} {n : Nat} {xs : List (List Int)} (h : Kd.C (Kd.slice 50 (Kd.int .i64)) w A n xs) (i : Int) (h0 : 0 ≤ i) (h1 : i < n) : ∃ ad A0 c0, A = some ad ∧ w.cell? (ad.add i.toNat) = some (.slice A0 (rd_L4 xs i).length c0) ∧ (rd_L4 xs i).length ≤ c0 ∧ (Kd.int .i64).C w A0 (rd_L4 xs i).length (rd_L4 xs i) := by
 obtain ⟨ad, c, e, _, hK, hc0⟩ := Kd.C_get h ([] : List Int) i h0 h1
 have hc : ∀ j u, c[j]? = some u → w.cell? (ad.add (i.toNat * 1 + j)) = some u := hc0
 obtain ⟨A0, c0, rfl, l0, g0⟩ := hK
 exact ⟨ad, A0, c0, e, by have hq := hc 0 _ rfl; rwa [Nat.mul_one, Nat.add_zero] at hq, l0, g0⟩
structure S29 where
 f0 : S24
 f1 : S24
def z29 : S29 := ⟨z24, z24⟩
def k29 : Kd S29 := Kd.iso (Kd.pair k24 k24) (fun x : S29 => (x.f0, x.f1))
theorem k29_open {w : World} {x : S29} {cs : List Value} (h : k29.K w x cs) : cs = [.int .i64 x.f0.f0, .int .i64 x.f0.f1, .int .i64 x.f1.f0, .int .i64 x.f1.f1] := by
 obtain ⟨_, _, rfl, s0, s2⟩ := h
 obtain rfl := k24_open s0
 obtain rfl := k24_open s2
 exact rfl
theorem k29_mkM (w : World) (base : Nat) (ok : Nat → Prop) (x : S29)  : k29.M w base ok x [.int .i64 x.f0.f0, .int .i64 x.f0.f1, .int .i64 x.f1.f0, .int .i64 x.f1.f1] := ⟨[.int .i64 x.f0.f0, .int .i64 x.f0.f1], [.int .i64 x.f1.f0, .int .i64 x.f1.f1], rfl, (k24_mkM w base ok x.f0 ), (k24_mkM w base ok x.f1 )⟩
def rd_T29 (xs : List S29) (i : Int) : S29 := xs.getD i.toNat z29
theorem at_T29 {w : World} {A : Option Addr} {n : Nat} {xs : List S29} (h : Kd.C k29 w A n xs) (i : Int) (h0 : 0 ≤ i) (h1 : i < n) : ∃ ad , A = some ad ∧ w.cell? (ad.add (i.toNat * 4)) = some (.int .i64 (rd_T29 xs i).f0.f0) ∧ w.cell? ⟨(ad.add (i.toNat * 4)).block, (ad.add (i.toNat * 4)).off + 1, none⟩ = some (.int .i64 (rd_T29 xs i).f0.f1) ∧ w.cell? ⟨(ad.add (i.toNat * 4)).block, (ad.add (i.toNat * 4)).off + 2, none⟩ = some (.int .i64 (rd_T29 xs i).f1.f0) ∧ w.cell? ⟨(ad.add (i.toNat * 4)).block, (ad.add (i.toNat * 4)).off + 3, none⟩ = some (.int .i64 (rd_T29 xs i).f1.f1) := by
 obtain ⟨ad, c, e, _, hK, hc0⟩ := Kd.C_get h z29 i h0 h1
 have hc : ∀ j u, c[j]? = some u → w.cell? (ad.add (i.toNat * 4 + j)) = some u := hc0
 obtain rfl := k29_open hK
 exact ⟨ad, e, hc 0 _ rfl, by rw [← add_field _ _ 1 (by omega)]; exact hc 1 _ rfl, by rw [← add_field _ _ 2 (by omega)]; exact hc 2 _ rfl, by rw [← add_field _ _ 3 (by omega)]; exact hc 3 _ rfl⟩
structure S45 where
 f0 : (List S24)
def z45 : S45 := ⟨([] : List S24)⟩
def k45 : Kd S45 := Kd.iso (Kd.slice 24 k24) (fun x : S45 => x.f0)
theorem k45_open {w : World} {x : S45} {cs : List Value} (h : k45.K w x cs) : ∃ A0 c0, cs = [.slice A0 x.f0.length c0] ∧ x.f0.length ≤ c0 ∧ k24.C w A0 x.f0.length x.f0 := by
 obtain ⟨A0, c0, rfl, l0, g0⟩ := h
 exact ⟨A0, c0, rfl, l0, g0⟩
theorem k45_mk (w : World) (x : S45) {A0 : Option Addr} {c0 : Nat} (l0 : x.f0.length ≤ c0) (g0 : k24.C w A0 x.f0.length x.f0) : k45.K w x [.slice A0 x.f0.length c0] := ⟨A0, c0, rfl, l0, g0⟩
theorem k45_mkF (W : World) (ok : Nat → Prop) (x : S45) {A0 : Option Addr} {c0 : Nat} (l0 : x.f0.length ≤ c0) (g0 : Kd.F k24 W ok A0 x.f0.length x.f0) : Kd.FK k45 W ok x [.slice A0 x.f0.length c0] := fun W2 hW => k45_mk W2 x l0 (g0 W2 hW)
def rd_T45 (xs : List S45) (i : Int) : S45 := xs.getD i.toNat z45
theorem at_T45 {w : World} {A : Option Addr} {n : Nat} {xs : List S45} (h : Kd.C k45 w A n xs) (i : Int) (h0 : 0 ≤ i) (h1 : i < n) : ∃ ad A0 c0, A = some ad ∧ w.cell? (ad.add i.toNat) = some (.slice A0 (rd_T45 xs i).f0.length c0) ∧ (rd_T45 xs i).f0.length ≤ c0 ∧ k24.C w A0 (rd_T45 xs i).f0.length (rd_T45 xs i).f0 := by
 obtain ⟨ad, c, e, _, hK, hc0⟩ := Kd.C_get h z45 i h0 h1
 have hc : ∀ j u, c[j]? = some u → w.cell? (ad.add (i.toNat * 1 + j)) = some u := hc0
 obtain ⟨A0, c0, rfl, l0, g0⟩ := k45_open hK
 exact ⟨ad, A0, c0, e, by have hq := hc 0 _ rfl; rwa [Nat.mul_one, Nat.add_zero] at hq, l0, g0⟩
theorem eqA24 (d : Nat) (w : World) (x0 y0 : Int) (x1 y1 : Int) :
  (Op.equalIn (d + 2) 24 (.agg #[.int .i64 x0, .int .i64 x1]) (.agg #[.int .i64 y0, .int .i64 y1])).run Try.prog w = .ok (x0 == y0 && (x1 == y1)) w := by
 refine eqA_of Try.underlying24 (by kernel_rfl) ?_
 refine eqf_cons (by rfl) (by go_simp; rfl) (by go_simp; rfl) (by go_simp) ?_
 exact eqf_last (by rfl) (by go_simp; rfl) (by go_simp; rfl) (by go_simp)
theorem eqA29 (d : Nat) (w : World) (x0 y0 : Int) (x1 y1 : Int) (x2 y2 : Int) (x3 y3 : Int) :
  (Op.equalIn (d + 3) 29 (.agg #[.int .i64 x0, .int .i64 x1, .int .i64 x2, .int .i64 x3]) (.agg #[.int .i64 y0, .int .i64 y1, .int .i64 y2, .int .i64 y3])).run Try.prog w = .ok ((x0 == y0 && (x1 == y1)) && ((x2 == y2 && (x3 == y3)))) w := by
 refine eqA_of Try.underlying29 (by kernel_rfl) ?_
 refine eqf_cons (by rfl) (by go_simp) (by go_simp) (eqA24 (d + 0) w _ _ _ _) ?_
 exact eqf_last (by rfl) (by go_simp) (by go_simp) (eqA24 (d + 0) w _ _ _ _)
def isobathlaw07_point.f (a0 : Int) (a1 : Int) : Option (Int × Int × Int × Int) := some (a0, a0, a1, a1)
set_option maxHeartbeats 8000000 in
set_option maxRecDepth 100000 in
theorem isobathlaw07_point.calls (a0 : Int) (a1 : Int) (r1 : Int) (r2 : Int) (r3 : Int) (r4 : Int) (w : World) (h : isobathlaw07_point.f a0 a1 = some (r1, r2, r3, r4)) :
  Calls Try.prog 56 #[.int .i64 a0, .int .i64 a1] w fun e w' => e = .returned (.agg #[.int .i64 r1, .int .i64 r2, .int .i64 r3, .int .i64 r4]) ∧ Below w.heap.size w w' := by
 have hu29 := Try.underlying29
 have hu24 := Try.underlying24
 have HB := zam (Below.refl w.heap.size w)
 have H : (some (a0, a0, a1, a1)) = some (r1, r2, r3, r4) := h
 clear h
 simp only [Option.some.injEq, Prod.mk.injEq] at H
 obtain ⟨rfl, rfl, rfl, rfl⟩ := H
 go_enter Try.func56, Try.ntmps56
 go_wp2_with (first | ((with_reducible refine zgd (N := 4) rfl ?_); refine box_event ?hg (N := 4) ?hd (cs := #[.int .i64 0, .int .i64 0, .int .i64 0, .int .i64 0]) (t := 29) ?hr ?_; (case hd => rfl); (case hg => rfl); (case hr => first | (go_simp; done) | (go_simp; rfl)); intro gb101 hg w3 hbox hb; have n0_ := zam (zbt (by repeat (first | (with_reducible first | exact HB.out | apply zba | apply zbn | apply zb1) | exact HB.out)) hb); have n1_ := zam (hbox); have n2_ := zam ((by rw [hg]; exact (zbz (by repeat (first | (with_reducible first | exact HB.out | apply zba | apply zbn | apply zb1) | exact HB.out))) : w.heap.size ≤ gb101)); have n3_ := zam ((by rw [hg]; exact (zbz (by repeat (first | (with_reducible first | exact HB.out | apply zba | apply zbn | apply zb1) | exact HB.out))) : w.heap.size ≤ gb101)); clear HB; have HB := n0_; have BK101 := n1_; have GW101 := n2_; have GE101 := n3_; clear n0_ n1_ n2_ n3_; clear hb hbox hg; have hcz4_0 : w3.cell? ⟨gb101, 0, none⟩ = some (.int .i64 0) := (zkc BK101.out 0).trans rfl; have hcz4_1 : w3.cell? ⟨gb101, 1, none⟩ = some (.int .i64 0) := (zkc BK101.out 1).trans rfl; have hcz4_2 : w3.cell? ⟨gb101, 2, none⟩ = some (.int .i64 0) := (zkc BK101.out 2).trans rfl; have hcz4_3 : w3.cell? ⟨gb101, 3, none⟩ = some (.int .i64 0) := (zkc BK101.out 3).trans rfl; have hfz4_0 := zkz BK101.out 0; have hfz4_1 := zkz BK101.out 1; have hfz4_2 := zkz BK101.out 2; have hfz4_3 := zkz BK101.out 3))
 refine bodyPost_ret (results_cell_row rfl _ _ gb101 29 #[.int .i64 a0, .int .i64 a0, .int .i64 a1, .int .i64 a1] (0, 0) _ rfl (by (with_reducible repeat (first | refine zkn ?_ _ | refine zkd ?_ | refine zka ?_ _)); refine blk_put (cs := #[.int .i64 a0, .int .i64 a0, .int .i64 a1, .int .i64 0]) ?_ 3 _ rfl; (with_reducible repeat (first | refine zkn ?_ _ | refine zkd ?_ | refine zka ?_ _)); refine blk_put (cs := #[.int .i64 a0, .int .i64 a0, .int .i64 0, .int .i64 0]) ?_ 2 _ rfl; (with_reducible repeat (first | refine zkn ?_ _ | refine zkd ?_ | refine zka ?_ _)); refine blk_put (cs := #[.int .i64 a0, .int .i64 0, .int .i64 0, .int .i64 0]) ?_ 1 _ rfl; (with_reducible repeat (first | refine zkn ?_ _ | refine zkd ?_ | refine zka ?_ _)); refine blk_put (cs := #[.int .i64 0, .int .i64 0, .int .i64 0, .int .i64 0]) ?_ 0 _ rfl; (with_reducible repeat (first | refine zkn ?_ _ | refine zkd ?_ | refine zka ?_ _)); exact BK101.out) Try.underlying29 rfl (by kernel_rfl)) rfl ?_
 exact ⟨by first | rfl | (simp [errW_none, errW_some] <;> rfl) | (simp [*, errW_none, errW_some] <;> rfl), by repeat (first | (with_reducible first | exact HB.out | apply zba | apply zbn | apply zb1 | refine zbs ?_ GE101.out) | exact HB.out)⟩
def isobathlaw07_Example.f  : Option ((List (S29)) × Int × Int × (List (S24))) := (isobathlaw07_point.f 0 0).bind fun bt102 => ((isobathlaw07_point.f 3000 0).bind fun bt106 => ((isobathlaw07_point.f 0 4000).bind fun bt110 => (some ((([(⟨(⟨bt102.1, bt102.2.1⟩ : S24), (⟨bt102.2.2.1, bt102.2.2.2⟩ : S24)⟩ : S29), (⟨(⟨bt106.1, bt106.2.1⟩ : S24), (⟨bt106.2.2.1, bt106.2.2.2⟩ : S24)⟩ : S29), (⟨(⟨bt110.1, bt110.2.1⟩ : S24), (⟨bt110.2.2.1, bt110.2.2.2⟩ : S24)⟩ : S29)] : List (S29))), 1500, 1500, (([(⟨100, 100⟩ : S24), (⟨2100, 2100⟩ : S24), (⟨2767, 2767⟩ : S24)] : List (S24)))))))
set_option maxHeartbeats 8000000 in
set_option maxRecDepth 100000 in
theorem isobathlaw07_Example.calls  (r1 : List (S29)) (r2 : Int) (r3 : Int) (r4 : List (S24)) (w : World) (h : isobathlaw07_Example.f  = some (r1, r2, r3, r4)) :
  Calls Try.prog 55 #[] w fun e w' => ∃ v0_ v3_ : Value, e = .returned (.tuple #[.agg #[v0_, .int .i64 r2, .int .i64 r3], v3_]) ∧ Kd.R k29 29 w' w.heap.size (fun _ => True) v0_ r1 ∧ Kd.R k24 24 w' w.heap.size (fun _ => True) v3_ r4 ∧ Below w.heap.size w w' := by
 have hu26 := Try.underlying26
 have hu24 := Try.underlying24
 have HB := zam (Below.refl w.heap.size w)
 have H : ((isobathlaw07_point.f 0 0).bind fun bt102 => ((isobathlaw07_point.f 3000 0).bind fun bt106 => ((isobathlaw07_point.f 0 4000).bind fun bt110 => (some ((([(⟨(⟨bt102.1, bt102.2.1⟩ : S24), (⟨bt102.2.2.1, bt102.2.2.2⟩ : S24)⟩ : S29), (⟨(⟨bt106.1, bt106.2.1⟩ : S24), (⟨bt106.2.2.1, bt106.2.2.2⟩ : S24)⟩ : S29), (⟨(⟨bt110.1, bt110.2.1⟩ : S24), (⟨bt110.2.2.1, bt110.2.2.2⟩ : S24)⟩ : S29)] : List (S29))), 1500, 1500, (([(⟨100, 100⟩ : S24), (⟨2100, 2100⟩ : S24), (⟨2767, 2767⟩ : S24)] : List (S24)))))))) = some (r1, r2, r3, r4) := h
 clear h
 replace H := Option.bind_eq_some_iff.mp H
 obtain ⟨⟨t102, t103, t104, t105⟩, A10, H⟩ := H
 replace H : ((isobathlaw07_point.f 3000 0).bind fun bt106 => ((isobathlaw07_point.f 0 4000).bind fun bt110 => (some ((([(⟨(⟨t102, t103⟩ : S24), (⟨t104, t105⟩ : S24)⟩ : S29), (⟨(⟨bt106.1, bt106.2.1⟩ : S24), (⟨bt106.2.2.1, bt106.2.2.2⟩ : S24)⟩ : S29), (⟨(⟨bt110.1, bt110.2.1⟩ : S24), (⟨bt110.2.2.1, bt110.2.2.2⟩ : S24)⟩ : S29)] : List (S29))), 1500, 1500, (([(⟨100, 100⟩ : S24), (⟨2100, 2100⟩ : S24), (⟨2767, 2767⟩ : S24)] : List (S24))))))) = some (r1, r2, r3, r4) := H
 have A1 := zam A10
 clear A10
 replace H := Option.bind_eq_some_iff.mp H
 obtain ⟨⟨t106, t107, t108, t109⟩, A20, H⟩ := H
 replace H : ((isobathlaw07_point.f 0 4000).bind fun bt110 => (some ((([(⟨(⟨t102, t103⟩ : S24), (⟨t104, t105⟩ : S24)⟩ : S29), (⟨(⟨t106, t107⟩ : S24), (⟨t108, t109⟩ : S24)⟩ : S29), (⟨(⟨bt110.1, bt110.2.1⟩ : S24), (⟨bt110.2.2.1, bt110.2.2.2⟩ : S24)⟩ : S29)] : List (S29))), 1500, 1500, (([(⟨100, 100⟩ : S24), (⟨2100, 2100⟩ : S24), (⟨2767, 2767⟩ : S24)] : List (S24)))))) = some (r1, r2, r3, r4) := H
 have A2 := zam A20
 clear A20
 replace H := Option.bind_eq_some_iff.mp H
 obtain ⟨⟨t110, t111, t112, t113⟩, A30, H⟩ := H
 replace H : (some ((([(⟨(⟨t102, t103⟩ : S24), (⟨t104, t105⟩ : S24)⟩ : S29), (⟨(⟨t106, t107⟩ : S24), (⟨t108, t109⟩ : S24)⟩ : S29), (⟨(⟨t110, t111⟩ : S24), (⟨t112, t113⟩ : S24)⟩ : S29)] : List (S29))), 1500, 1500, (([(⟨100, 100⟩ : S24), (⟨2100, 2100⟩ : S24), (⟨2767, 2767⟩ : S24)] : List (S24))))) = some (r1, r2, r3, r4) := H
 have A3 := zam A30
 clear A30
 obtain ⟨y114, hy114⟩ : ∃ y_ : List (S29), y_ = (([(⟨(⟨t102, t103⟩ : S24), (⟨t104, t105⟩ : S24)⟩ : S29), (⟨(⟨t106, t107⟩ : S24), (⟨t108, t109⟩ : S24)⟩ : S29), (⟨(⟨t110, t111⟩ : S24), (⟨t112, t113⟩ : S24)⟩ : S29)] : List (S29))) := ⟨_, rfl⟩
 replace H : (some (y114, 1500, 1500, (([(⟨100, 100⟩ : S24), (⟨2100, 2100⟩ : S24), (⟨2767, 2767⟩ : S24)] : List (S24))))) = some (r1, r2, r3, r4) := by first | (rw [hy114]; with_reducible exact H) | (have H2_ := (Option.bind_some _ _).symm.trans H; rw [hy114]; with_reducible exact H2_) | (have H2_ := (Option.bind_some _ _).symm.trans H; with_reducible exact H2_) | with_reducible exact H | (rw [hy114]; exact H) | exact H
 have Ny114 := zam hy114
 clear hy114
 obtain ⟨y117, hy117⟩ : ∃ y_ : List (S24), y_ = (([(⟨100, 100⟩ : S24), (⟨2100, 2100⟩ : S24), (⟨2767, 2767⟩ : S24)] : List (S24))) := ⟨_, rfl⟩
 replace H : (some (y114, 1500, 1500, y117)) = some (r1, r2, r3, r4) := by first | (rw [hy117]; with_reducible exact H) | (have H2_ := (Option.bind_some _ _).symm.trans H; rw [hy117]; with_reducible exact H2_) | (have H2_ := (Option.bind_some _ _).symm.trans H; with_reducible exact H2_) | with_reducible exact H | (rw [hy117]; exact H) | exact H
 have Ny117 := zam hy117
 clear hy117
 simp only [Option.some.injEq, Prod.mk.injEq] at H
 obtain ⟨rfl, rfl, rfl, rfl⟩ := H
 go_enter Try.func55, Try.ntmps55
 go_wp2_with (first | ((with_reducible refine zgd (N := 0) rfl ?_); refine box_event ?hg (N := 0) ?hd (cs := #[.slice none 0 0, .int .i64 0, .int .i64 0]) (t := 26) ?hr ?_; (case hd => rfl); (case hg => rfl); (case hr => first | (go_simp; done) | (go_simp; rfl)); intro gb101 hg w4 hbox hb; have n0_ := zam (zbt (by repeat (first | (with_reducible first | exact HB.out | apply zba | apply zbn | apply zb1) | exact HB.out)) hb); have n1_ := zam (hbox); have n2_ := zam ((by rw [hg]; exact (zbz (by repeat (first | (with_reducible first | exact HB.out | apply zba | apply zbn | apply zb1) | exact HB.out))) : w.heap.size ≤ gb101)); have n3_ := zam ((by rw [hg]; exact (zbz (by repeat (first | (with_reducible first | exact HB.out | apply zba | apply zbn | apply zb1) | exact HB.out))) : w.heap.size ≤ gb101)); clear HB; have HB := n0_; have BK101 := n1_; have GW101 := n2_; have GE101 := n3_; clear n0_ n1_ n2_ n3_; clear hb hbox hg) | ((with_reducible refine zgc (f := 56) rfl ?_); refine goesL_ (some 2) rfl rfl Try.func56 (by kernel_rfl) rfl #[.int .i64 0, .int .i64 0] rfl (by (try simp only [zmt, List.map_cons, List.map_nil]); first | done | rfl | (simp only [zld, zlt]; rfl)) ?_; (with_reducible refine (isobathlaw07_point.calls 0 0 t102 t103 t104 t105 _ A1.out).mono ?_); rintro e w5 ⟨rfl, hb⟩; refine ⟨_, rfl, ?_⟩; have n0_ := zam (zkb (g := gb101) (o := .cells #[.slice none 0 0, .int .i64 0, .int .i64 0] 26 (0, 0)) (by (with_reducible repeat (first | refine zkn ?_ _ | refine zkd ?_ | refine zka ?_ _)); exact BK101.out) hb); have n1_ := zam (zbt (by repeat (first | (with_reducible first | exact HB.out | apply zba | apply zbn | apply zb1 | refine zbs ?_ GE101.out) | exact HB.out)) hb); clear BK101; clear HB; have BK101 := n0_; have HB := n1_; clear n0_ n1_; (try clear hb); (try clear hb2); (try clear hk); (try clear hi)) | ((with_reducible refine zgc (f := 56) rfl ?_); refine goesL_ (some 3) rfl rfl Try.func56 (by kernel_rfl) rfl #[.int .i64 3000, .int .i64 0] rfl (by (try simp only [zmt, List.map_cons, List.map_nil]); first | done | rfl | (simp only [zld, zlt]; rfl)) ?_; (with_reducible refine (isobathlaw07_point.calls 3000 0 t106 t107 t108 t109 _ A2.out).mono ?_); rintro e w6 ⟨rfl, hb⟩; refine ⟨_, rfl, ?_⟩; have n0_ := zam (zkb (g := gb101) (o := .cells #[.slice none 0 0, .int .i64 0, .int .i64 0] 26 (0, 0)) (by (with_reducible repeat (first | refine zkn ?_ _ | refine zkd ?_ | refine zka ?_ _)); exact BK101.out) hb); have n1_ := zam (zbt (by repeat (first | (with_reducible first | exact HB.out | apply zba | apply zbn | apply zb1 | refine zbs ?_ GE101.out) | exact HB.out)) hb); clear BK101; clear HB; have BK101 := n0_; have HB := n1_; clear n0_ n1_; (try clear hb); (try clear hb2); (try clear hk); (try clear hi)) | ((with_reducible refine zgc (f := 56) rfl ?_); refine goesL_ (some 4) rfl rfl Try.func56 (by kernel_rfl) rfl #[.int .i64 0, .int .i64 4000] rfl (by (try simp only [zmt, List.map_cons, List.map_nil]); first | done | rfl | (simp only [zld, zlt]; rfl)) ?_; (with_reducible refine (isobathlaw07_point.calls 0 4000 t110 t111 t112 t113 _ A3.out).mono ?_); rintro e w7 ⟨rfl, hb⟩; refine ⟨_, rfl, ?_⟩; have n0_ := zam (zkb (g := gb101) (o := .cells #[.slice none 0 0, .int .i64 0, .int .i64 0] 26 (0, 0)) (by (with_reducible repeat (first | refine zkn ?_ _ | refine zkd ?_ | refine zka ?_ _)); exact BK101.out) hb); have n1_ := zam (zbt (by repeat (first | (with_reducible first | exact HB.out | apply zba | apply zbn | apply zb1 | refine zbs ?_ GE101.out) | exact HB.out)) hb); clear BK101; clear HB; have BK101 := n0_; have HB := n1_; clear n0_ n1_; (try clear hb); (try clear hb2); (try clear hk); (try clear hi)) | ((with_reducible refine zgd (N := 5) rfl ?_); refine Kd.R_lit k29 _ 29 ?hg (N := 5) ?hd (xs := ([(⟨(⟨t102, t103⟩ : S24), (⟨t104, t105⟩ : S24)⟩ : S29), (⟨(⟨t106, t107⟩ : S24), (⟨t108, t109⟩ : S24)⟩ : S29), (⟨(⟨t110, t111⟩ : S24), (⟨t112, t113⟩ : S24)⟩ : S29)] : List (S29))) (inner := [.int .i64 t102, .int .i64 t103, .int .i64 t104, .int .i64 t105, .int .i64 t106, .int .i64 t107, .int .i64 t108, .int .i64 t109, .int .i64 t110, .int .i64 t111, .int .i64 t112, .int .i64 t113]) (ok := fun _ => True) (okp := fun _ => True) ?hr ?hp (fun _ hk => hk) trivial (Below.refl _ _) (Nat.le_refl _) (by simp) ?_; (case hd => rfl); (case hg => rfl); (case hr => first | (go_simp; done) | (go_simp; rfl)); (case hp => exact (Reps.c4 (show Kd.M k29 _ _ _ (⟨(⟨t102, t103⟩ : S24), (⟨t104, t105⟩ : S24)⟩ : S29) [.int .i64 t102, .int .i64 t103, .int .i64 t104, .int .i64 t105] from (k29_mkM _ _ _ (⟨(⟨t102, t103⟩ : S24), (⟨t104, t105⟩ : S24)⟩ : S29) )) (Reps.c4 (show Kd.M k29 _ _ _ (⟨(⟨t106, t107⟩ : S24), (⟨t108, t109⟩ : S24)⟩ : S29) [.int .i64 t106, .int .i64 t107, .int .i64 t108, .int .i64 t109] from (k29_mkM _ _ _ (⟨(⟨t106, t107⟩ : S24), (⟨t108, t109⟩ : S24)⟩ : S29) )) (Reps.c4 (show Kd.M k29 _ _ _ (⟨(⟨t110, t111⟩ : S24), (⟨t112, t113⟩ : S24)⟩ : S29) [.int .i64 t110, .int .i64 t111, .int .i64 t112, .int .i64 t113] from (k29_mkM _ _ _ (⟨(⟨t110, t111⟩ : S24), (⟨t112, t113⟩ : S24)⟩ : S29) )) (Reps.none _ _))))); intro v115 w8 ho9 hb hg_ hnew_; clear hg_ hnew_; (first | rw [← Ny114.out] at ho9 | (simp only [Int.reduceToNat] at ho9; rw [← Ny114.out] at ho9)); have n0_ := zam (Kd.R_lower ho9 (zbz (by repeat (first | (with_reducible first | exact HB.out | apply zba | apply zbn | apply zb1 | refine zbs ?_ GE101.out) | exact HB.out)))); have n1_ := zam (zkb (g := gb101) (o := .cells #[.slice none 0 0, .int .i64 0, .int .i64 0] 26 (0, 0)) (by (with_reducible repeat (first | refine zkn ?_ _ | refine zkd ?_ | refine zka ?_ _)); exact BK101.out) hb); have n2_ := zam (zbt (by repeat (first | (with_reducible first | exact HB.out | apply zba | apply zbn | apply zb1 | refine zbs ?_ GE101.out) | exact HB.out)) hb); clear BK101; clear HB; have HO116 := n0_; have BK101 := n1_; have HB := n2_; clear n0_ n1_ n2_; clear hb ho9; obtain ⟨Ao10, co10, eo10⟩ := Kd.R_slice HO116.out; subst eo10) | ((with_reducible refine zgd (N := 11) rfl ?_); refine Kd.R_lit k24 _ 24 ?hg (N := 11) ?hd (xs := ([(⟨100, 100⟩ : S24), (⟨2100, 2100⟩ : S24), (⟨2767, 2767⟩ : S24)] : List (S24))) (inner := [.int .i64 100, .int .i64 100, .int .i64 2100, .int .i64 2100, .int .i64 2767, .int .i64 2767]) (ok := fun _ => True) (okp := fun _ => True) ?hr ?hp (fun _ hk => hk) trivial (Below.refl _ _) (Nat.le_refl _) (by simp) ?_; (case hd => rfl); (case hg => rfl); (case hr => first | (go_simp; done) | (go_simp; rfl)); (case hp => exact (Reps.c2 (show Kd.M k24 _ _ _ (⟨100, 100⟩ : S24) [.int .i64 100, .int .i64 100] from (k24_mkM _ _ _ (⟨100, 100⟩ : S24) )) (Reps.c2 (show Kd.M k24 _ _ _ (⟨2100, 2100⟩ : S24) [.int .i64 2100, .int .i64 2100] from (k24_mkM _ _ _ (⟨2100, 2100⟩ : S24) )) (Reps.c2 (show Kd.M k24 _ _ _ (⟨2767, 2767⟩ : S24) [.int .i64 2767, .int .i64 2767] from (k24_mkM _ _ _ (⟨2767, 2767⟩ : S24) )) (Reps.none _ _))))); intro v118 w11 ho12 hb hg_ hnew_; clear hg_ hnew_; (first | rw [← Ny117.out] at ho12 | (simp only [Int.reduceToNat] at ho12; rw [← Ny117.out] at ho12)); have n0_ := zam (Kd.R_below (by (with_reducible repeat (first | apply zRa | apply zRn | apply zRd)); exact HO116.out) hb); have n1_ := zam (Kd.R_lower ho12 (zbz (by repeat (first | (with_reducible first | exact HB.out | apply zba | apply zbn | apply zb1 | refine zbs ?_ GE101.out) | exact HB.out)))); have n2_ := zam (zkb (g := gb101) (o := .cells #[.slice none 0 0, .int .i64 0, .int .i64 0] 26 (0, 0)) (by (with_reducible repeat (first | refine zkn ?_ _ | refine zkd ?_ | refine zka ?_ _)); exact BK101.out) hb); have n3_ := zam (zbt (by repeat (first | (with_reducible first | exact HB.out | apply zba | apply zbn | apply zb1 | refine zbs ?_ GE101.out) | exact HB.out)) hb); clear HO116; clear BK101; clear HB; have HO116 := n0_; have HO119 := n1_; have BK101 := n2_; have HB := n3_; clear n0_ n1_ n2_ n3_; clear hb ho12; have hcz13_0 : w11.cell? ⟨gb101, 0, none⟩ = some (.slice none 0 0) := (zkc BK101.out 0).trans rfl; have hcz13_1 : w11.cell? ⟨gb101, 1, none⟩ = some (.int .i64 0) := (zkc BK101.out 1).trans rfl; have hcz13_2 : w11.cell? ⟨gb101, 2, none⟩ = some (.int .i64 0) := (zkc BK101.out 2).trans rfl; have hfz13_0 := zkz BK101.out 0; have hfz13_1 := zkz BK101.out 1; have hfz13_2 := zkz BK101.out 2))
 refine bodyPost_ret (results_ct rfl _ _ gb101 26 #[.slice Ao10 y114.length co10, .int .i64 1500, .int .i64 1500] (0, 0) _ rfl (by (with_reducible repeat (first | refine zkn ?_ _ | refine zkd ?_ | refine zka ?_ _)); refine blk_put (cs := #[.slice Ao10 y114.length co10, .int .i64 1500, .int .i64 0]) ?_ 2 _ rfl; (with_reducible repeat (first | refine zkn ?_ _ | refine zkd ?_ | refine zka ?_ _)); refine blk_put (cs := #[.slice Ao10 y114.length co10, .int .i64 0, .int .i64 0]) ?_ 1 _ rfl; (with_reducible repeat (first | refine zkn ?_ _ | refine zkd ?_ | refine zka ?_ _)); refine blk_put (cs := #[.slice none 0 0, .int .i64 0, .int .i64 0]) ?_ 0 _ rfl; (with_reducible repeat (first | refine zkn ?_ _ | refine zkd ?_ | refine zka ?_ _)); exact BK101.out) Try.underlying26 rfl (by kernel_rfl)) rfl ?_
 exact ⟨_, _, by first | rfl | (simp [errW_none, errW_some] <;> rfl) | (simp [*, errW_none, errW_some] <;> rfl), by (with_reducible repeat (first | apply zRa | apply zRn | apply zRd)); exact Kd.R_mono (Kd.R_far (p := ⟨gb101, 2, none⟩) (Kd.R_far (p := ⟨gb101, 1, none⟩) (Kd.R_far (p := ⟨gb101, 0, none⟩) (Kd.R_types HO116.out BK101.out (by decide)) (fun _ hk => hk.2) (.slice Ao10 y114.length co10)) (fun _ hk => hk.2) (.int .i64 1500)) (fun _ hk => hk.2) (.int .i64 1500)) (fun _ hk => trivial), by (with_reducible repeat (first | apply zRa | apply zRn | apply zRd)); exact Kd.R_mono (Kd.R_far (p := ⟨gb101, 2, none⟩) (Kd.R_far (p := ⟨gb101, 1, none⟩) (Kd.R_far (p := ⟨gb101, 0, none⟩) (Kd.R_types HO119.out BK101.out (by decide)) (fun _ hk => hk.2) (.slice Ao10 y114.length co10)) (fun _ hk => hk.2) (.int .i64 1500)) (fun _ hk => hk.2) (.int .i64 1500)) (fun _ hk => trivial), by repeat (first | (with_reducible first | exact HB.out | apply zba | apply zbn | apply zb1 | refine zbs ?_ GE101.out) | exact HB.out)⟩
def isobathlaw07_Gauges.f  : Option ((List (S45)) × Int × Int × Int) := some ((([(⟨(([(⟨0, 1⟩ : S24), (⟨20, 30⟩ : S24), (⟨25, 40⟩ : S24)] : List (S24)))⟩ : S45), (⟨(([(⟨0, 5⟩ : S24), (⟨5, 25⟩ : S24), (⟨21, 22⟩ : S24)] : List (S24)))⟩ : S45)] : List (S45))), 20, 2, 1)
set_option maxHeartbeats 8000000 in
set_option maxRecDepth 100000 in
theorem isobathlaw07_Gauges.calls  (r1 : List (S45)) (r2 : Int) (r3 : Int) (r4 : Int) (w : World) (h : isobathlaw07_Gauges.f  = some (r1, r2, r3, r4)) :
  Calls Try.prog 57 #[] w fun e w' => ∃ v0_ : Value, e = .returned (.tuple #[v0_, .agg #[.int .i64 r2, .int .i64 r3, .int .i64 r4]]) ∧ Kd.N k45 45 w' w.heap.size (fun k_ => (w.heap.size ≤ k_)) v0_ r1 ∧ Below w.heap.size w w' := by
 have hu39 := Try.underlying39
 have hu24 := Try.underlying24
 have hu45 := Try.underlying45
 have HB := zam (Below.refl w.heap.size w)
 have H : (some ((([(⟨(([(⟨0, 1⟩ : S24), (⟨20, 30⟩ : S24), (⟨25, 40⟩ : S24)] : List (S24)))⟩ : S45), (⟨(([(⟨0, 5⟩ : S24), (⟨5, 25⟩ : S24), (⟨21, 22⟩ : S24)] : List (S24)))⟩ : S45)] : List (S45))), 20, 2, 1)) = some (r1, r2, r3, r4) := h
 clear h
 obtain ⟨y102, hy102⟩ : ∃ y_ : List (S24), y_ = (([(⟨0, 1⟩ : S24), (⟨20, 30⟩ : S24), (⟨25, 40⟩ : S24)] : List (S24))) := ⟨_, rfl⟩
 replace H : (some ((([(⟨y102⟩ : S45), (⟨(([(⟨0, 5⟩ : S24), (⟨5, 25⟩ : S24), (⟨21, 22⟩ : S24)] : List (S24)))⟩ : S45)] : List (S45))), 20, 2, 1)) = some (r1, r2, r3, r4) := by first | (rw [hy102]; with_reducible exact H) | (have H2_ := (Option.bind_some _ _).symm.trans H; rw [hy102]; with_reducible exact H2_) | (have H2_ := (Option.bind_some _ _).symm.trans H; with_reducible exact H2_) | with_reducible exact H | (rw [hy102]; exact H) | exact H
 have Ny102 := zam hy102
 clear hy102
 obtain ⟨y105, hy105⟩ : ∃ y_ : List (S24), y_ = (([(⟨0, 5⟩ : S24), (⟨5, 25⟩ : S24), (⟨21, 22⟩ : S24)] : List (S24))) := ⟨_, rfl⟩
 replace H : (some ((([(⟨y102⟩ : S45), (⟨y105⟩ : S45)] : List (S45))), 20, 2, 1)) = some (r1, r2, r3, r4) := by first | (rw [hy105]; with_reducible exact H) | (have H2_ := (Option.bind_some _ _).symm.trans H; rw [hy105]; with_reducible exact H2_) | (have H2_ := (Option.bind_some _ _).symm.trans H; with_reducible exact H2_) | with_reducible exact H | (rw [hy105]; exact H) | exact H
 have Ny105 := zam hy105
 clear hy105
 obtain ⟨y108, hy108⟩ : ∃ y_ : List (S45), y_ = (([(⟨y102⟩ : S45), (⟨y105⟩ : S45)] : List (S45))) := ⟨_, rfl⟩
 replace H : (some (y108, 20, 2, 1)) = some (r1, r2, r3, r4) := by first | (rw [hy108]; with_reducible exact H) | (have H2_ := (Option.bind_some _ _).symm.trans H; rw [hy108]; with_reducible exact H2_) | (have H2_ := (Option.bind_some _ _).symm.trans H; with_reducible exact H2_) | with_reducible exact H | (rw [hy108]; exact H) | exact H
 have Ny108 := zam hy108
 clear hy108
 simp only [Option.some.injEq, Prod.mk.injEq] at H
 obtain ⟨rfl, rfl, rfl, rfl⟩ := H
 go_enter Try.func57, Try.ntmps57
 go_wp2_with (first | ((with_reducible refine zgd (N := 1) rfl ?_); refine box_event ?hg (N := 1) ?hd (cs := #[.int .i64 0, .int .i64 0, .int .i64 0]) (t := 39) ?hr ?_; (case hd => rfl); (case hg => rfl); (case hr => first | (go_simp; done) | (go_simp; rfl)); intro gb101 hg w1 hbox hb; have n0_ := zam (zbt (by repeat (first | (with_reducible first | exact HB.out | apply zba | apply zbn | apply zb1) | exact HB.out)) hb); have n1_ := zam (hbox); have n2_ := zam ((by rw [hg]; exact (zbz (by repeat (first | (with_reducible first | exact HB.out | apply zba | apply zbn | apply zb1) | exact HB.out))) : w.heap.size ≤ gb101)); have n3_ := zam ((by rw [hg]; exact (zbz (by repeat (first | (with_reducible first | exact HB.out | apply zba | apply zbn | apply zb1) | exact HB.out))) : w.heap.size ≤ gb101)); clear HB; have HB := n0_; have BK101 := n1_; have GW101 := n2_; have GE101 := n3_; clear n0_ n1_ n2_ n3_; clear hb hbox hg) | ((with_reducible refine zgd (N := 5) rfl ?_); refine Kd.R_lit k24 _ 24 ?hg (N := 5) ?hd (xs := ([(⟨0, 1⟩ : S24), (⟨20, 30⟩ : S24), (⟨25, 40⟩ : S24)] : List (S24))) (inner := [.int .i64 0, .int .i64 1, .int .i64 20, .int .i64 30, .int .i64 25, .int .i64 40]) (ok := fun _ => True) (okp := fun _ => True) ?hr ?hp (fun _ hk => hk) trivial (Below.refl _ _) (Nat.le_refl _) (by simp) ?_; (case hd => rfl); (case hg => rfl); (case hr => first | (go_simp; done) | (go_simp; rfl)); (case hp => exact (Reps.c2 (show Kd.M k24 _ _ _ (⟨0, 1⟩ : S24) [.int .i64 0, .int .i64 1] from (k24_mkM _ _ _ (⟨0, 1⟩ : S24) )) (Reps.c2 (show Kd.M k24 _ _ _ (⟨20, 30⟩ : S24) [.int .i64 20, .int .i64 30] from (k24_mkM _ _ _ (⟨20, 30⟩ : S24) )) (Reps.c2 (show Kd.M k24 _ _ _ (⟨25, 40⟩ : S24) [.int .i64 25, .int .i64 40] from (k24_mkM _ _ _ (⟨25, 40⟩ : S24) )) (Reps.none _ _))))); intro v103 w2 ho3 hb hg_ hnew_; clear hg_ hnew_; (first | rw [← Ny102.out] at ho3 | (simp only [Int.reduceToNat] at ho3; rw [← Ny102.out] at ho3)); have n0_ := zam (Kd.R_lower (Kd.R_newM (M := fun k_ => (w.heap.size ≤ k_)) ho3 (zbz (by repeat (first | (with_reducible first | exact HB.out | apply zba | apply zbn | apply zb1 | refine zbs ?_ GE101.out) | exact HB.out))) (fun k_ h_ => h_)) (zbz (by repeat (first | (with_reducible first | exact HB.out | apply zba | apply zbn | apply zb1 | refine zbs ?_ GE101.out) | exact HB.out)))); have n1_ := zam (zkb (g := gb101) (o := .cells #[.int .i64 0, .int .i64 0, .int .i64 0] 39 (0, 0)) (by (with_reducible repeat (first | refine zkn ?_ _ | refine zkd ?_ | refine zka ?_ _)); exact BK101.out) hb); have n2_ := zam (zbt (by repeat (first | (with_reducible first | exact HB.out | apply zba | apply zbn | apply zb1 | refine zbs ?_ GE101.out) | exact HB.out)) hb); clear BK101; clear HB; have HO104 := n0_; have BK101 := n1_; have HB := n2_; clear n0_ n1_ n2_; clear hb ho3; obtain ⟨Ao4, co4, eo4⟩ := Kd.R_slice HO104.out; subst eo4) | ((with_reducible refine zgd (N := 10) rfl ?_); refine Kd.R_lit k24 _ 24 ?hg (N := 10) ?hd (xs := ([(⟨0, 5⟩ : S24), (⟨5, 25⟩ : S24), (⟨21, 22⟩ : S24)] : List (S24))) (inner := [.int .i64 0, .int .i64 5, .int .i64 5, .int .i64 25, .int .i64 21, .int .i64 22]) (ok := fun _ => True) (okp := fun _ => True) ?hr ?hp (fun _ hk => hk) trivial (Below.refl _ _) (Nat.le_refl _) (by simp) ?_; (case hd => rfl); (case hg => rfl); (case hr => first | (go_simp; done) | (go_simp; rfl)); (case hp => exact (Reps.c2 (show Kd.M k24 _ _ _ (⟨0, 5⟩ : S24) [.int .i64 0, .int .i64 5] from (k24_mkM _ _ _ (⟨0, 5⟩ : S24) )) (Reps.c2 (show Kd.M k24 _ _ _ (⟨5, 25⟩ : S24) [.int .i64 5, .int .i64 25] from (k24_mkM _ _ _ (⟨5, 25⟩ : S24) )) (Reps.c2 (show Kd.M k24 _ _ _ (⟨21, 22⟩ : S24) [.int .i64 21, .int .i64 22] from (k24_mkM _ _ _ (⟨21, 22⟩ : S24) )) (Reps.none _ _))))); intro v106 w5 ho6 hb hg_ hnew_; clear hg_ hnew_; (first | rw [← Ny105.out] at ho6 | (simp only [Int.reduceToNat] at ho6; rw [← Ny105.out] at ho6)); have n0_ := zam (Kd.R_elder' (by (with_reducible repeat (first | apply zRa | apply zRn | apply zRd)); exact HO104.out) (Kd.R_base ho6) hb); have n1_ := zam (Kd.R_lower (Kd.R_new' (Kd.R_newM (M := fun k_ => (w.heap.size ≤ k_)) ho6 (zbz (by repeat (first | (with_reducible first | exact HB.out | apply zba | apply zbn | apply zb1 | refine zbs ?_ GE101.out) | exact HB.out))) (fun k_ h_ => h_)) (Kd.R_lt (by (with_reducible repeat (first | apply zRa | apply zRn | apply zRd)); exact HO104.out))) (zbz (by repeat (first | (with_reducible first | exact HB.out | apply zba | apply zbn | apply zb1 | refine zbs ?_ GE101.out) | exact HB.out)))); have n2_ := zam (zkb (g := gb101) (o := .cells #[.int .i64 0, .int .i64 0, .int .i64 0] 39 (0, 0)) (by (with_reducible repeat (first | refine zkn ?_ _ | refine zkd ?_ | refine zka ?_ _)); exact BK101.out) hb); have n3_ := zam (zbt (by repeat (first | (with_reducible first | exact HB.out | apply zba | apply zbn | apply zb1 | refine zbs ?_ GE101.out) | exact HB.out)) hb); clear HO104; clear BK101; clear HB; have HO104 := n0_; have HO107 := n1_; have BK101 := n2_; have HB := n3_; clear n0_ n1_ n2_ n3_; clear hb ho6; obtain ⟨Ao7, co7, eo7⟩ := Kd.R_slice HO107.out; subst eo7) | ((with_reducible refine zgd (N := 12) rfl ?_); refine Kd.N_lit k45 _ 45 ?hg (N' := 12) ?hd (xs := ([(⟨y102⟩ : S45), (⟨y105⟩ : S45)] : List (S45))) (inner := [.slice Ao4 y102.length co4, .slice Ao7 y105.length co7]) (ok := (fun k_ => (w.heap.size ≤ k_) ∧ k_ ≠ gb101)) (okp := (fun k_ => (w.heap.size ≤ k_) ∧ k_ ≠ gb101)) ?hr ?hp (fun _ hk => hk) ((show ∀ k_, w5.heap.size ≤ k_ → (fun k_ => (w.heap.size ≤ k_) ∧ k_ ≠ gb101) k_ from fun k_ hk => ⟨(Nat.le_trans (zbz (by repeat (first | (with_reducible first | exact HB.out | apply zba | apply zbn | apply zb1 | refine zbs ?_ GE101.out) | exact HB.out))) hk), Kd.freshB (g := gb101) (o := .cells #[.int .i64 0, .int .i64 0, .int .i64 0] 39 (0, 0)) (by (with_reducible repeat (first | refine zkn ?_ _ | refine zkd ?_ | refine zka ?_ _)); exact BK101.out) k_ hk⟩) _ (Nat.le_refl _)) (Below.refl _ _) (Nat.le_refl _) (by simp) ?_; (case hd => rfl); (case hg => rfl); (case hr => first | (go_simp; done) | (go_simp; rfl)); (case hp => exact (Reps.one (show Kd.FK k45 _ _ (⟨y102⟩ : S45) [.slice Ao4 y102.length co4] from (k45_mkF _ _ (⟨y102⟩ : S45) (Kd.R_reads' (Kd.R_mono (ok' := (fun k_ => (w.heap.size ≤ k_) ∧ k_ ≠ gb101)) (Kd.R_types (HO104.out) BK101.out (by decide)) (fun k_ hk => ⟨hk.1.1.1, hk.2⟩))).2.1 (Kd.R_F (Kd.R_mono (ok' := (fun k_ => (w.heap.size ≤ k_) ∧ k_ ≠ gb101)) (Kd.R_types (HO104.out) BK101.out (by decide)) (fun k_ hk => ⟨hk.1.1.1, hk.2⟩))))) (Reps.one (show Kd.FK k45 _ _ (⟨y105⟩ : S45) [.slice Ao7 y105.length co7] from (k45_mkF _ _ (⟨y105⟩ : S45) (Kd.R_reads' (Kd.R_mono (ok' := (fun k_ => (w.heap.size ≤ k_) ∧ k_ ≠ gb101)) (Kd.R_types (HO107.out) BK101.out (by decide)) (fun k_ hk => ⟨hk.1.1.1, hk.2⟩))).2.1 (Kd.R_F (Kd.R_mono (ok' := (fun k_ => (w.heap.size ≤ k_) ∧ k_ ≠ gb101)) (Kd.R_types (HO107.out) BK101.out (by decide)) (fun k_ hk => ⟨hk.1.1.1, hk.2⟩))))) (Reps.none _ _)))); intro v109 w8 ho9 hb hg_ hnew_; clear hg_ hnew_; (first | rw [← Ny108.out] at ho9 | (simp only [Int.reduceToNat] at ho9; rw [← Ny108.out] at ho9)); have n0_ := zam (Kd.N_lower ho9 (zbz (by repeat (first | (with_reducible first | exact HB.out | apply zba | apply zbn | apply zb1 | refine zbs ?_ GE101.out) | exact HB.out)))); have n1_ := zam (zkb (g := gb101) (o := .cells #[.int .i64 0, .int .i64 0, .int .i64 0] 39 (0, 0)) (by (with_reducible repeat (first | refine zkn ?_ _ | refine zkd ?_ | refine zka ?_ _)); exact BK101.out) hb); have n2_ := zam (zbt (by repeat (first | (with_reducible first | exact HB.out | apply zba | apply zbn | apply zb1 | refine zbs ?_ GE101.out) | exact HB.out)) hb); clear BK101; clear HB; clear HO104; clear HO107; have HO110 := n0_; have BK101 := n1_; have HB := n2_; clear n0_ n1_ n2_; clear hb ho9; have hcz10_0 : w8.cell? ⟨gb101, 0, none⟩ = some (.int .i64 0) := (zkc BK101.out 0).trans rfl; have hcz10_1 : w8.cell? ⟨gb101, 1, none⟩ = some (.int .i64 0) := (zkc BK101.out 1).trans rfl; have hcz10_2 : w8.cell? ⟨gb101, 2, none⟩ = some (.int .i64 0) := (zkc BK101.out 2).trans rfl; have hfz10_0 := zkz BK101.out 0; have hfz10_1 := zkz BK101.out 1; have hfz10_2 := zkz BK101.out 2))
 refine bodyPost_ret (results_tc rfl _ _ gb101 39 #[.int .i64 20, .int .i64 2, .int .i64 1] (0, 0) _ rfl (by (with_reducible repeat (first | refine zkn ?_ _ | refine zkd ?_ | refine zka ?_ _)); refine blk_put (cs := #[.int .i64 20, .int .i64 2, .int .i64 0]) ?_ 2 _ rfl; (with_reducible repeat (first | refine zkn ?_ _ | refine zkd ?_ | refine zka ?_ _)); refine blk_put (cs := #[.int .i64 20, .int .i64 0, .int .i64 0]) ?_ 1 _ rfl; (with_reducible repeat (first | refine zkn ?_ _ | refine zkd ?_ | refine zka ?_ _)); refine blk_put (cs := #[.int .i64 0, .int .i64 0, .int .i64 0]) ?_ 0 _ rfl; (with_reducible repeat (first | refine zkn ?_ _ | refine zkd ?_ | refine zka ?_ _)); exact BK101.out) Try.underlying39 rfl (by kernel_rfl)) rfl ?_
 exact ⟨_, by first | rfl | (simp [errW_none, errW_some] <;> rfl) | (simp [*, errW_none, errW_some] <;> rfl), by (with_reducible repeat (first | apply Kd.N_alloc | apply Kd.N_drewN | apply Kd.N_drew)); exact Kd.N_mono (Kd.N_far (p := ⟨gb101, 2, none⟩) (Kd.N_far (p := ⟨gb101, 1, none⟩) (Kd.N_far (p := ⟨gb101, 0, none⟩) (Kd.N_mono HO110.out (fun k_ hk => (⟨hk, hk.2⟩ : _ ∧ k_ ≠ gb101))) (fun _ hk => hk.2) (.int .i64 20)) (fun _ hk => hk.2) (.int .i64 2)) (fun _ hk => hk.2) (.int .i64 1)) (fun _ hk => hk.1.1), by repeat (first | (with_reducible first | exact HB.out | apply zba | apply zbn | apply zb1 | refine zbs ?_ GE101.out) | exact HB.out)⟩
theorem wrap_id {n : Int} (h1 : -9223372036854775808 ≤ n) (h2 : n ≤ 9223372036854775807) : wrap64 n = n := by
 unfold wrap64
 omega
theorem wrap_succ {i n : Nat} (h : i < n) (hn : n ≤ 9223372036854775807) : wrap64 ((i : Int) + 1) = ((i + 1 : Nat) : Int) := by
 rw [wrap_id (by omega) (by omega)]
 omega
theorem rd_nat {xs : List Int} {i : Nat} (h : i < xs.length) : rd xs (i : Int) = xs[i] := by
 simp [rd, List.getD, h]
theorem LeO.up {α : Type} {f : Nat → Option α} (hm : ∀ k, LeO (f k) (f (k + 1))) {k k' : Nat} (hk : k ≤ k') {r : α} (h : f k = some r) : f k' = some r := by
 induction hk with
 | refl => exact h
 | step _ ih => exact hm _ _ ih
theorem drop_cons {α : Type} {xs : List α} {i : Nat} (h : i < xs.length) : xs.drop i = xs[i] :: xs.drop (i + 1) := List.drop_eq_getElem_cons h
theorem take_snoc {α : Type} {xs : List α} {i : Nat} (h : i < xs.length) : xs.take (i + 1) = xs.take i ++ [xs[i]] := by
 rw [List.take_succ_eq_append_getElem h]
theorem tdiv_pos {a b : Int} (ha : 0 ≤ a) : a.tdiv b = a / b := Int.tdiv_eq_ediv_of_nonneg ha
structure Bst.Step where
 calls : Int
 src : Int
 loud : Bool
 there : Bool
def Bst.zero : Bst.Step := ⟨0, 0, false, false⟩
def Bst.one : Bst.Step := ⟨0, 0, false, true⟩
def Bst.get (row : List Bst.Step) (i : Nat) : Bst.Step := row.getD i Bst.zero
def Bst.put (val : Int → Int) (row : List Bst.Step) (run : Nat) (s : Bst.Step) : List Bst.Step :=
 if (Bst.get row run).there = false then row.set run s else if val s.calls < val (Bst.get row run).calls then row.set run s else row
def Bst.loud (val : Int → Int) (n : Nat) (x : Int) (row : List Bst.Step) (r : Nat) (s : Bst.Step) : List Bst.Step :=
 if x = 0 then row else Bst.put val row (min (r + 1) n) ⟨if r + 1 = n then wrap64 (s.calls + 1) else s.calls, (r : Int), true, true⟩
def Bst.still (val : Int → Int) (x : Int) (row : List Bst.Step) (r : Nat) (s : Bst.Step) : List Bst.Step :=
 if x = 2 then row else Bst.put val row 0 ⟨s.calls, (r : Int), false, true⟩
def Bst.round (val : Int → Int) (n : Nat) (x : Int) (row : List Bst.Step) (r : Nat) (s : Bst.Step) : List Bst.Step :=
 if s.there = false then row else Bst.still val x (Bst.loud val n x row r s) r s
def Bst.upto (val : Int → Int) (n : Nat) (x : Int) (prev : List Bst.Step) : Nat → List Bst.Step
 | 0 => List.replicate (n + 1) Bst.zero
 | r + 1 => Bst.round val n x (Bst.upto val n x prev r) r (Bst.get prev r)
def Bst.tab (val : Int → Int) (n : Nat) (l : List Int) : Nat → List Bst.Step
 | 0 => (List.replicate (n + 1) Bst.zero).set 0 Bst.one
 | i + 1 => Bst.upto val n (l.getD i 0) (Bst.tab val n l i) (n + 1)
def Bst.last (val : Int → Int) (row : List Bst.Step) : Nat → Int
 | 0 => -1
 | r + 1 => if (Bst.get row r).there = false then Bst.last val row r else if Bst.last val row r < 0 then (r : Int) else if val (Bst.get row r).calls < val (Bst.get row (Bst.last val row r).toNat).calls then (r : Int) else Bst.last val row r
def Bst.back (tab : Nat → List Bst.Step) (n : Nat) : Nat → Int → Option (List Bool)
 | 0, _ => some []
 | i + 1, e => if 0 ≤ e ∧ e < (n : Int) + 1 then (Bst.back tab n i (Bst.get (tab (i + 1)) e.toNat).src).bind fun b => some (b ++ [(Bst.get (tab (i + 1)) e.toNat).loud]) else none
def Bst.best (val : Int → Int) (l : List Int) (n : Nat) : Option (List Bool × Int) :=
 if Bst.last val (Bst.tab val n l l.length) (n + 1) < 0 then none else
 (Bst.back (Bst.tab val n l) n l.length (Bst.last val (Bst.tab val n l l.length) (n + 1))).bind fun b => some (b, (Bst.get (Bst.tab val n l l.length) (Bst.last val (Bst.tab val n l l.length) (n + 1)).toNat).calls)
theorem Bst.back_len {tab : Nat → List Bst.Step} {n : Nat} : ∀ {m : Nat} {e : Int} {b : List Bool}, Bst.back tab n m e = some b → b.length = m
 | 0, e, b, h => by
  rw [Bst.back, Option.some.injEq] at h
  subst h
  rfl
 | m + 1, e, b, h => by
  rw [Bst.back] at h
  split at h
  ·obtain ⟨b', hb, h⟩ := Option.bind_eq_some_iff.mp h
   rw [Option.some.injEq] at h
   subst h
   rw [List.length_append, Bst.back_len hb]
   rfl
  cases h
theorem Bst.put_len (val : Int → Int) (row : List Bst.Step) (run : Nat) (s : Bst.Step) : (Bst.put val row run s).length = row.length := by
 unfold Bst.put
 split
 ·simp
 split <;> simp
theorem Bst.loud_len (val : Int → Int) (n : Nat) (x : Int) (row : List Bst.Step) (r : Nat) (s : Bst.Step) : (Bst.loud val n x row r s).length = row.length := by
 unfold Bst.loud
 split
 ·rfl
 exact Bst.put_len _ _ _ _
theorem Bst.still_len (val : Int → Int) (x : Int) (row : List Bst.Step) (r : Nat) (s : Bst.Step) : (Bst.still val x row r s).length = row.length := by
 unfold Bst.still
 split
 ·rfl
 exact Bst.put_len _ _ _ _
theorem Bst.round_len (val : Int → Int) (n : Nat) (x : Int) (row : List Bst.Step) (r : Nat) (s : Bst.Step) : (Bst.round val n x row r s).length = row.length := by
 unfold Bst.round
 split
 ·rfl
 rw [Bst.still_len, Bst.loud_len]
theorem Bst.upto_len (val : Int → Int) (n : Nat) (x : Int) (prev : List Bst.Step) : ∀ r, (Bst.upto val n x prev r).length = n + 1
 | 0 => by simp [Bst.upto]
 | r + 1 => by rw [Bst.upto, Bst.round_len, Bst.upto_len val n x prev r]
theorem Bst.tab_len (val : Int → Int) (n : Nat) (l : List Int) : ∀ i, (Bst.tab val n l i).length = n + 1
 | 0 => by simp [Bst.tab]
 | i + 1 => by rw [Bst.tab, Bst.upto_len]
theorem Bst.last_lt (val : Int → Int) (row : List Bst.Step) : ∀ r : Nat, -1 ≤ Bst.last val row r ∧ Bst.last val row r < (r : Int)
 | 0 => by simp [Bst.last]
 | r + 1 => by
  have := Bst.last_lt val row r
  rw [Bst.last]
  split
  ·omega
  split
  ·omega
  split <;> omega
def Bst.cells (s : Bst.Step) : List Value := [.int .i64 s.calls, .int .i64 s.src, .bool s.loud, .bool s.there]
def Bst.val (s : Bst.Step) : Value := .agg #[.int .i64 s.calls, .int .i64 s.src, .bool s.loud, .bool s.there]
def Bst.flat : List Bst.Step → List Value
 | [] => []
 | x :: xs => .int .i64 x.calls :: .int .i64 x.src :: .bool x.loud :: .bool x.there :: Bst.flat xs
theorem Bst.flat_length : ∀ xs : List Bst.Step, (Bst.flat xs).length = xs.length * 4
 | [] => rfl
 | x :: xs => by
  simp only [Bst.flat, List.length_cons, Bst.flat_length xs]
  omega
theorem Bst.flat_get : ∀ (xs : List Bst.Step) (i : Nat), i < xs.length → (Bst.flat xs)[i * 4]? = some (.int .i64 (Bst.get xs i).calls) ∧ (Bst.flat xs)[i * 4 + 1]? = some (.int .i64 (Bst.get xs i).src) ∧ (Bst.flat xs)[i * 4 + 2]? = some (.bool (Bst.get xs i).loud) ∧ (Bst.flat xs)[i * 4 + 3]? = some (.bool (Bst.get xs i).there)
 | [], i, h => by cases h
 | x :: xs, 0, _ => ⟨rfl, rfl, rfl, rfl⟩
 | x :: xs, i + 1, h => by
  have := Bst.flat_get xs i (by simpa using h)
  rw [show (i + 1) * 4 = i * 4 + 1 + 1 + 1 + 1 by omega, show i * 4 + 1 + 1 + 1 + 1 + 1 = (i * 4 + 1) + 1 + 1 + 1 + 1 by omega, show i * 4 + 1 + 1 + 1 + 1 + 2 = (i * 4 + 2) + 1 + 1 + 1 + 1 by omega, show i * 4 + 1 + 1 + 1 + 1 + 3 = (i * 4 + 3) + 1 + 1 + 1 + 1 by omega]
  simp only [Bst.flat, List.getElem?_cons_succ]
  exact this
theorem Bst.flat_set : ∀ (xs : List Bst.Step) (i : Nat) (s : Bst.Step), i < xs.length → Bst.flat (xs.set i s) = ((((Bst.flat xs).set (i * 4) (.int .i64 s.calls)).set (i * 4 + 1) (.int .i64 s.src)).set (i * 4 + 2) (.bool s.loud)).set (i * 4 + 3) (.bool s.there)
 | [], i, s, h => by cases h
 | x :: xs, 0, s, _ => rfl
 | x :: xs, i + 1, s, h => by
  have := Bst.flat_set xs i s (by simpa using h)
  rw [show (i + 1) * 4 = i * 4 + 1 + 1 + 1 + 1 by omega, show i * 4 + 1 + 1 + 1 + 1 + 1 = (i * 4 + 1) + 1 + 1 + 1 + 1 by omega, show i * 4 + 1 + 1 + 1 + 1 + 2 = (i * 4 + 2) + 1 + 1 + 1 + 1 by omega, show i * 4 + 1 + 1 + 1 + 1 + 3 = (i * 4 + 3) + 1 + 1 + 1 + 1 by omega]
  simp only [Bst.flat, zss, this]
theorem Bst.flat_zeros : ∀ n : Nat, Bst.flat (List.replicate n Bst.zero) = (List.replicate n [Value.int .i64 0, .int .i64 0, .bool false, .bool false]).flatten
 | 0 => rfl
 | n + 1 => by
  rw [List.replicate_succ, List.replicate_succ, Bst.flat, Bst.flat_zeros n]
  rfl
theorem bst_run_copy {P : Program} (w : World) (dT sT ty elem : TypeId) (sz g dLen dCap : Nat) (a : Addr) (sLen sCap : Nat) (cur : Array Value) (t : TypeId) (cs : List Value)
  (hu : P.underlying dT = some (.slice elem)) (hs : (P.info? elem).map (·.size) = some sz)
  (hg : w.heap[g]? = some (.cells cur t (0, 0))) (hn : cs.length = Nat.min sLen dLen * sz)
  (hsrc : ∀ j v, cs[j]? = some v → w.cell? (a.add j) = some v) (hfit : cs.length = cur.size) (h1 : ∀ v ∈ cs, v.oneCell' = true) :
  (Builtin.copy_ #[dT, sT] ty #[.slice (some ⟨g, 0, none⟩) dLen dCap, .slice (some a) sLen sCap]).run P w = .ok (goInt (Nat.min sLen dLen)) (w.setRow g cs.toArray) := by
 have hl := run_loadCells_list (P := P) w a cs hsrc
 have hst := run_storeCells_at P g 0 t cs 0 cur w hg (by omega) h1
 have e : cur.toList.drop (0 + 0 + cs.length) = [] := List.drop_eq_nil_of_le (by simp; omega)
 rw [e] at hst
 simp only [Nat.add_zero, List.take_zero, List.nil_append, List.append_nil] at hst
 cases hq : P.info? elem with
 | none => simp [hq] at hs
 | some i =>
  have hi : i.size = sz := by simpa [hq] using hs
  simp [Builtin.copy_, run_underlying hu, Builtin.lenOf, Builtin.firstCells, sizeOf, typeInfo, hq, hi, ← hn, hl, hst]
theorem bst_copy {P : Program} {w : World} {ops : Array Oper} {rest : List Oper} {o : Oper} {a : Act} {Q : Exit → Act → World → Prop} (hgd : o.guard = none) (d s : Operand) (dT sT : TypeId)
  (ho : o.op = .call { callee := .builtin .copy, args := #[d, s], argTypes := #[dT, sT] }) (elem : TypeId) (hu : P.underlying dT = some (.slice elem)) (sz : Nat) (hsz : (P.info? elem).map (·.size) = some sz)
  (g dLen dCap : Nat) (ad : Addr) (sLen sCap : Nat) (hd : a.eval d = .slice (some ⟨g, 0, none⟩) dLen dCap) (hs : a.eval s = .slice (some ad) sLen sCap)
  (cur : Array Value) (t : TypeId) (hg : w.heap[g]? = some (.cells cur t (0, 0))) (cs : List Value) (hn : cs.length = Nat.min sLen dLen * sz)
  (hsrc : ∀ j v, cs[j]? = some v → w.cell? (ad.add j) = some v) (hfit : cs.length = cur.size) (h1 : ∀ v ∈ cs, v.oneCell' = true)
  (h : wpList P ops Q rest (a.put o.dst (goInt (Nat.min sLen dLen))) (w.setRow g cs.toArray)) : wpList P ops Q (o :: rest) a w := by
 refine wpList_plain hgd fun K hK => ?_
 have hrun := bst_run_copy (P := P) w dT sT o.type elem sz g dLen dCap ad sLen sCap cur t cs hu hsz hg hn hsrc hfit h1
 unfold Oper.wp
 simp [execOp, ho, resolve, invoke, builtin, hd, hs, hrun, Result.andThen]
 exact hK _ _ h
theorem Bst.flat_one : ∀ (xs : List Bst.Step) (v : Value), v ∈ Bst.flat xs → v.oneCell' = true
 | [], v, h => by cases h
 | x :: xs, v, h => by
  simp only [Bst.flat, List.mem_cons] at h
  rcases h with rfl | rfl | rfl | rfl | h
  ·rfl
  ·rfl
  ·rfl
  ·rfl
  exact Bst.flat_one xs v h
def Bst.sl (n g : Nat) : Value := .slice (some ⟨g, 0, none⟩) (n + 1) (n + 1)
def Bst.tc (n m : Nat) (gs : List Nat) : List Value := gs.map (Bst.sl n) ++ List.replicate (m - gs.length) (.slice none 0 0)
theorem Bst.tc_length (n m : Nat) (gs : List Nat) (h : gs.length ≤ m) : (Bst.tc n m gs).length = m := by
 unfold Bst.tc
 simp
 omega
theorem Bst.tc_get (n m : Nat) (gs : List Nat) (j : Nat) (h : j < gs.length) : (Bst.tc n m gs)[j]? = some (Bst.sl n gs[j]) := by
 unfold Bst.tc
 rw [List.getElem?_append_left (by simpa using h)]
 simp [h]
theorem Bst.tc_set (n m : Nat) (gs : List Nat) (g : Nat) (h : gs.length < m) : (Bst.tc n m gs).set gs.length (Bst.sl n g) = Bst.tc n m (gs ++ [g]) := by
 unfold Bst.tc
 rw [List.set_append_right _ _ (by simp)]
 obtain ⟨d, hd⟩ : ∃ d, m - gs.length = d + 1 := ⟨m - gs.length - 1, by omega⟩
 have e : m - (gs ++ [g]).length = d := by simp; omega
 rw [hd, e]
 simp [List.replicate_succ]
structure Bst.Tab (fv : Nat) (val : Int → Int) (n : Nat) (l : List Int) (w0 : World) (bv bb bt : Nat) (gs : List Nat) (W : World) : Prop where
 below : Below w0.heap.size w0 W
 hv : W.heap[bv]? = some (.cells #[.func (.func fv) #[] #[]] 149 (0, 0))
 hb : W.heap[bb]? = some (.cells #[.func (.func 114) #[] #[]] 150 (0, 0))
 ht : W.heap[bt]? = some (.cells (Bst.tc n (l.length + 1) gs).toArray 166 (0, 0))
 low : w0.heap.size ≤ bt
 rows : ∀ (j : Nat) (g : Nat), gs[j]? = some g → w0.heap.size ≤ g ∧ W.heap[g]? = some (.cells (Bst.flat (Bst.tab val n l j)).toArray 168 (0, 0))
theorem Bst.Tab.grown {fv : Nat} {val : Int → Int} {n : Nat} {l : List Int} {w0 : World} {bv bb bt : Nat} {gs : List Nat} {W W' : World} (h : Bst.Tab fv val n l w0 bv bb bt gs W) (G : Nat) (hG : w0.heap.size ≤ G) (hgs : ∀ g ∈ gs, g ≠ G) (hr : ∀ (cs : Array Value) (t : TypeId), W.heap[G]? = some (.cells cs t (0, 0)) → t = 168) (hg : W.grownBy W' (some G)) : Bst.Tab fv val n l w0 bv bb bt gs W' := by
 have ne : ∀ {b : Nat} {cs : Array Value} {t : TypeId}, t ≠ 168 → W.heap[b]? = some (.cells cs t (0, 0)) → some b ≠ some G := fun {b cs t} ht hb e => by
  cases e
  exact ht (hr _ _ hb)
 refine ⟨Below.grown h.below hg h.below.size (fun k e => by cases e; exact hG), blk_grown h.hv hg (ne (by decide) h.hv), blk_grown h.hb hg (ne (by decide) h.hb), blk_grown h.ht hg (ne (by decide) h.ht), h.low, fun j g hj => ?_⟩
 obtain ⟨h1, h2⟩ := h.rows j g hj
 exact ⟨h1, blk_grown h2 hg (fun e => hgs g (List.mem_of_getElem? hj) (by cases e; rfl))⟩
theorem Bst.Tab.step {fv : Nat} {val : Int → Int} {n : Nat} {l : List Int} {w0 : World} {bv bb bt : Nat} {gs : List Nat} {W W' : World} (h : Bst.Tab fv val n l w0 bv bb bt gs W) (hb : Below W.heap.size W W') : Bst.Tab fv val n l w0 bv bb bt gs W' :=
 ⟨zbt h.below hb, zkb h.hv hb, zkb h.hb hb, zkb h.ht hb, h.low, fun j g hj => ⟨(h.rows j g hj).1, zkb (h.rows j g hj).2 hb⟩⟩
structure Bst.Row (fv : Nat) (val : Int → Int) (n : Nat) (l : List Int) (w0 : World) (bv bb bt : Nat) (gs : List Nat) (R G : Nat) (row : List Bst.Step) (W : World) : Prop where
 tab : Bst.Tab fv val n l w0 bv bb bt gs W
 hR : W.heap[R]? = some (.cells #[.slice (some ⟨G, 0, none⟩) (n + 1) (n + 1)] 166 (0, 0))
 hr : W.heap[G]? = some (.cells (Bst.flat row).toArray 168 (0, 0))
 low : w0.heap.size ≤ G
 ne : ∀ g ∈ gs, g ≠ G
theorem Bst.Row.step {fv : Nat} {val : Int → Int} {n : Nat} {l : List Int} {w0 : World} {bv bb bt : Nat} {gs : List Nat} {R G : Nat} {row : List Bst.Step} {W W' : World} (h : Bst.Row fv val n l w0 bv bb bt gs R G row W) (hb : Below W.heap.size W W') : Bst.Row fv val n l w0 bv bb bt gs R G row W' :=
 ⟨h.tab.step hb, zkb h.hR hb, zkb h.hr hb, h.low, h.ne⟩
theorem Bst.Row.put {fv : Nat} {val : Int → Int} {n : Nat} {l : List Int} {w0 : World} {bv bb bt : Nat} {gs : List Nat} {R G : Nat} {row row' : List Bst.Step} {W W' : World} (h : Bst.Row fv val n l w0 bv bb bt gs R G row W) (hg : W.grownBy W' (some G)) (hr : W'.heap[G]? = some (.cells (Bst.flat row').toArray 168 (0, 0))) : Bst.Row fv val n l w0 bv bb bt gs R G row' W' :=
 ⟨h.tab.grown G h.low h.ne (fun cs t e => by rw [h.hr] at e; cases e; rfl) hg, blk_grown h.hR hg (fun e => blk_ne h.hR h.hr (by decide) (zsi e)), hr, h.low, h.ne⟩
theorem bst_make {P : Program} {ops : Array Oper} {rest : List Oper} {o : Oper} {a : Act} {Q : Exit → Act → World → Prop} {W : World} (hgd : o.guard = none) {N : Tmp} (_hd : o.dst = some N) (t e : TypeId) (x y : Operand) (ho : o.op = .makeSlice t x y) (m : Nat) (c : Int) (hx : a.eval x = .int .i64 c) (hy : a.eval y = .int .i64 c) (hc : c = (m : Int))
  (ht : P.underlying t = some (.slice e)) (z : Value) (sz bytes : Nat) (hinfo : (P.info? e).map (fun i => (i.zero, i.size, i.bytes)) = some (some z, sz, bytes)) (hm : m ≤ 100000) (hb : bytes ≤ 1000) (cs : List Value) (hcs : (madeCells z.cells (m * sz)).toList = cs)
  (h : ∀ g, g = W.heap.size → ∀ w1, w1.heap[g]? = some (.cells cs.toArray e (0, 0)) → Below W.heap.size W w1 → wpList P ops Q rest (a.put o.dst (.slice (some ⟨g, 0, none⟩) m m)) w1) : wpList P ops Q (o :: rest) a W := by
 subst hc
 obtain ⟨i0, hi, hzz⟩ := Option.map_eq_some_iff.1 hinfo
 simp only [Prod.mk.injEq] at hzz
 obtain ⟨hz0, hz1, hz2⟩ := hzz
 have hb2 : i0.bytes * m ≤ 1000 * 100000 := Nat.mul_le_mul (by omega) hm
 have hr := run_make (P := P) W t e i0 z ht hi hz0 .i64 .i64 (m : Int) (m : Int) (by omega) (by omega)
  (by
   have h3 : ((i0.bytes * m : Nat) : Int) ≤ 281474976710656 := by omega
   rwa [Int.natCast_mul] at h3) (by omega)
 simp only [Int.toNat_natCast] at hr
 rw [hz1] at hr
 have e2 : madeCells z.cells (m * sz) = cs.toArray := by rw [← hcs]
 rw [e2] at hr
 exact Kd.event_run hgd (by simp [execOp, ho, hx, hy, hr]) (h _ rfl _ (blk_new W _) (zba (Below.refl _ _) _))
theorem bst_made4 (a b c d : Value) : ∀ m : Nat, (madeCells #[a, b, c, d] (m * 4)).toList = (List.replicate m [a, b, c, d]).flatten
 | 0 => by simp [madeCells]
 | m + 1 => by
  have ih := bst_made4 a b c d m
  unfold madeCells at ih ⊢
  rw [show (m + 1) * 4 = m * 4 + 1 + 1 + 1 + 1 by omega]
  simp only [Array.toList_map, Array.toList_range] at ih ⊢
  rw [List.range_succ, List.range_succ, List.range_succ, List.range_succ]
  simp only [List.map_append, ih, List.replicate_succ', List.flatten_append, List.append_assoc]
  congr 1
  have e0 : m * 4 % 4 = 0 := by omega
  have e1 : (m * 4 + 1) % 4 = 1 := by omega
  have e2 : (m * 4 + 1 + 1) % 4 = 2 := by omega
  have e3 : (m * 4 + 1 + 1 + 1) % 4 = 3 := by omega
  simp [e0, e1, e2, e3]
theorem bst_made_row (m : Nat) : (madeCells (Value.cells (.agg #[.int .i64 0, .int .i64 0, .bool false, .bool false])) (m * 4)).toList = Bst.flat (List.replicate m Bst.zero) := by
 rw [Bst.flat_zeros]
 exact bst_made4 _ _ _ _ m
theorem bst_made_tab (n m : Nat) : (madeCells (Value.cells (.slice none 0 0)) (m * 1)).toList = Bst.tc n m [] := by
 rw [Nat.mul_one]
 show (madeCells #[Value.slice none 0 0] m).toList = _
 rw [toList_madeCells_one]
 simp [Bst.tc]
theorem bst_made_bools (m : Nat) : (madeCells (Value.cells (.bool false)) (m * 1)).toList = (List.replicate m false).map Value.bool := by
 rw [Nat.mul_one]
 show (madeCells #[Value.bool false] m).toList = _
 rw [toList_madeCells_one]
 simp
theorem bst_info_step : (Try.prog.info? 168).map (fun i => (i.zero, i.size, i.bytes)) = some (some (.agg #[.int .i64 0, .int .i64 0, .bool false, .bool false]), 4, 24) := by kernel_rfl
theorem bst_info_row : (Try.prog.info? 166).map (fun i => (i.zero, i.size, i.bytes)) = some (some (.slice none 0 0), 1, 24) := by kernel_rfl
theorem bst_info_bool : (Try.prog.info? 4).map (fun i => (i.zero, i.size, i.bytes)) = some (some (.bool false), 1, 1) := by kernel_rfl
def Bst.Val (f : Nat) (val : Int → Int) : Prop := (f = 113 ∨ f = 115) ∧ ∀ (c : Int) (w : World), Calls Try.prog f #[.int .i64 c] w fun e w' => e = .returned (.int .i64 (val c)) ∧ w' = w
theorem bst_less (a b : Int) (w : World) : Calls Try.prog 114 #[.int .i64 a, .int .i64 b] w fun e w' => e = .returned (.bool (decide (a < b))) ∧ w' = w := by
 go_enter Try.func114, Try.ntmps114
 go_wp2
 go_ret
 exact ⟨rfl, rfl⟩
theorem bst_val_few : Bst.Val 113 (fun c => c) := by
 refine ⟨.inl rfl, ?_⟩
 intro c w
 go_enter Try.func113, Try.ntmps113
 go_wp2
 go_ret
 exact ⟨rfl, rfl⟩
theorem bst_val_most : Bst.Val 115 (fun c => wrap64 (-c)) := by
 refine ⟨.inr rfl, ?_⟩
 intro c w
 go_enter Try.func115, Try.ntmps115
 go_wp2
 go_ret
 exact ⟨rfl, rfl⟩
theorem bst_grown4 {w w1 : World} {r p : Nat} {a b c d : Value} {nq : Nat} (hb : Below w.heap.size w w1) : w.grownBy (((((w1.drewN nq).setCell ⟨r, p, none⟩ a).setCell ⟨r, p + 1, none⟩ b).setCell ⟨r, p + 2, none⟩ c).setCell ⟨r, p + 3, none⟩ d) (some r) := by
 refine ⟨hb.os, hb.tape, hb.output, by simpa using hb.size, fun k hk hne => ?_⟩
 have hne' : k ≠ r := fun e => hne (by rw [e])
 exact (Below.heap_setCell _ _ _ k hne').trans ((Below.heap_setCell _ _ _ k hne').trans ((Below.heap_setCell _ _ _ k hne').trans ((Below.heap_setCell _ _ _ k hne').trans (hb.block k hk))))
theorem bst_grown_drew {w w1 : World} {r : Option Nat} {nq : Nat} (hb : Below w.heap.size w w1) : w.grownBy (w1.drewN nq) r := ⟨hb.os, hb.tape, hb.output, hb.size, fun k hk _ => hb.block k hk⟩
def Bst.Puts (w : World) (r : Nat) (row : List Bst.Step) (e : Ending) (w' : World) : Prop := ∃ v, e = .returned v ∧ w.grownBy w' (some r) ∧ w'.heap[r]? = some (.cells (Bst.flat row).toArray 168 (0, 0))
set_option maxRecDepth 100000 in
set_option maxHeartbeats 4000000 in
theorem bst_put (val : Int → Int) (fv : Nat) (HV : Bst.Val fv val) (row : List Bst.Step) (run : Nat) (s : Bst.Step) (n R r Bb Bv : Nat) (w : World) (hlen : row.length = n + 1) (hrun : run < n + 1) (hn : n ≤ 256)
  (hR : w.heap[R]? = some (.cells #[.slice (some ⟨r, 0, none⟩) (n + 1) (n + 1)] 166 (0, 0)))
  (hr : w.heap[r]? = some (.cells (Bst.flat row).toArray 168 (0, 0)))
  (hb : w.heap[Bb]? = some (.cells #[.func (.func 114) #[] #[]] 150 (0, 0)))
  (hv : w.heap[Bv]? = some (.cells #[.func (.func fv) #[] #[]] 149 (0, 0))) :
  Calls Try.prog 130 #[.int .i64 (run : Int), Bst.val s, .pointer (some ⟨R, 0, none⟩), .pointer (some ⟨Bb, 0, none⟩), .pointer (some ⟨Bv, 0, none⟩)] w (Bst.Puts w r (Bst.put val row run s)) := by
 have hu := Try.underlying168
 obtain ⟨g0, g1, g2, g3⟩ := Bst.flat_get row run (by omega)
 have G0 : Aside0 ((Bst.flat row).toArray[run * 4]? = some (.int .i64 (Bst.get row run).calls)) := ⟨by simpa using g0⟩
 have G1 : Aside0 ((Bst.flat row).toArray[run * 4 + 1]? = some (.int .i64 (Bst.get row run).src)) := ⟨by simpa using g1⟩
 have G2 : Aside0 ((Bst.flat row).toArray[run * 4 + 2]? = some (.bool (Bst.get row run).loud)) := ⟨by simpa using g2⟩
 have H0 := zam hr
 have H1 := zam hlen
 have HR := zam hR
 have HBb := zam hb
 have HBv := zam hv
 have HVV := zam HV
 clear hr hlen g0 g1 g2 hR hb hv HV
 have p1 : (run < n + 1) = True := eq_true hrun
 have p2 : ((run : Int) < (n : Int) + 1) = True := eq_true (by omega)
 have H2 := zam hrun
 clear hrun
 have FIN : ∀ (w1 : World) (hb0 : Below w.heap.size w w1) (nq : Nat) (u : Value), Bst.Puts w r (row.set run s) (.returned u) (((((w1.drewN nq).setCell ⟨r, run * 4, none⟩ (.int .i64 s.calls)).setCell ⟨r, run * 4 + 1, none⟩ (.int .i64 s.src)).setCell ⟨r, run * 4 + 2, none⟩ (.bool s.loud)).setCell ⟨r, run * 4 + 3, none⟩ (.bool s.there)) := fun w1 hb0 nq u => by
  refine ⟨_, rfl, bst_grown4 hb0, ?_⟩
  have h0 := blk_set (blk_set (blk_set (blk_set (zkn (zkb H0.out hb0) nq) (run * 4) (.int .i64 s.calls)) (run * 4 + 1) (.int .i64 s.src)) (run * 4 + 2) (.bool s.loud)) (run * 4 + 3) (.bool s.there)
  rw [Bst.flat_set row run s (by have := H1.out; have := H2.out; omega)]
  simpa using h0
 have FIN := zam FIN
 unfold Bst.val
 by_cases c1 : (Bst.get row run).there = false
 ·have e : Bst.put val row run s = row.set run s := by unfold Bst.put; rw [if_pos c1]
  rw [e]
  rw [c1] at g3
  have G3 : Aside0 ((Bst.flat row).toArray[run * 4 + 3]? = some (.bool false)) := ⟨by simpa using g3⟩
  clear c1 e g3
  go_enter Try.func130, Try.ntmps130
  go_wp2_with ((with_reducible refine zgd (N := 6) rfl ?_); refine box_event ?hg (N := 6) ?hd (cs := #[.int .i64 s.calls, .int .i64 s.src, .bool s.loud, .bool s.there]) (t := 168) ?hr ?_; (case hd => rfl); (case hg => rfl); (case hr => first | (go_simp; done) | (go_simp; rfl)); intro gm hgm w1 hbk hb0; have HB := zam hb0; have FI := zam (FIN.out w1 hb0); clear FIN; have hm : w1.cell? ⟨gm, 0, none⟩ = some (.int .i64 s.calls) := zkc hbk 0; have hm1 : w1.cell? ⟨gm, 1, none⟩ = some (.int .i64 s.src) := zkc hbk 1; have hm2 : w1.cell? ⟨gm, 2, none⟩ = some (.bool s.loud) := zkc hbk 2; have hm3 : w1.cell? ⟨gm, 3, none⟩ = some (.bool s.there) := zkc hbk 3; have hz : w1.cell? ⟨R, 0, none⟩ = some (.slice (some ⟨r, 0, none⟩) (n + 1) (n + 1)) := zkc (zkb HR.out hb0) 0; have hy : w1.cell? ⟨Bb, 0, none⟩ = some (.func (.func 114) #[] #[]) := zkc (zkb HBb.out hb0) 0; have hx : w1.cell? ⟨Bv, 0, none⟩ = some (.func (.func _) #[] #[]) := zkc (zkb HBv.out hb0) 0; have hc0 : w1.cell? ⟨r, run * 4, none⟩ = some (.int .i64 (Bst.get row run).calls) := (zkc (zkb H0.out hb0) (run * 4)).trans G0.out; have hc1 : w1.cell? ⟨r, run * 4 + 1, none⟩ = some (.int .i64 (Bst.get row run).src) := (zkc (zkb H0.out hb0) (run * 4 + 1)).trans G1.out; have hc2 : w1.cell? ⟨r, run * 4 + 2, none⟩ = some (.bool (Bst.get row run).loud) := (zkc (zkb H0.out hb0) (run * 4 + 2)).trans G2.out; have hc3 : w1.cell? ⟨r, run * 4 + 3, none⟩ = some (.bool false) := (zkc (zkb H0.out hb0) (run * 4 + 3)).trans G3.out; have hf0 := zkz (zkb H0.out hb0) (run * 4); have hf1 := zkz (zkb H0.out hb0) (run * 4 + 1); have hf2 := zkz (zkb H0.out hb0) (run * 4 + 2); have hf3 := zkz (zkb H0.out hb0) (run * 4 + 3); clear hbk hb0 hgm)
  try simp only [Act.put, zsa, zsz, zss]
  go_quiet (fail)
  go_wp2
  exact ⟨rfl, _, results_none rfl _ _ _, FI.out _ _⟩
 have c1 : (Bst.get row run).there = true := by simpa using c1
 rw [c1] at g3
 have G3 : Aside0 ((Bst.flat row).toArray[run * 4 + 3]? = some (.bool true)) := ⟨by simpa using g3⟩
 clear g3
 by_cases c2 : val s.calls < val (Bst.get row run).calls
 ·have e : Bst.put val row run s = row.set run s := by unfold Bst.put; rw [if_neg (by rw [c1]; decide), if_pos c2]
  have d2 : decide (val s.calls < val (Bst.get row run).calls) = true := zdt c2
  rw [e]
  clear c1 c2 e
  rcases HVV.out.1 with rfl | rfl
  all_goals
   go_enter Try.func130, Try.ntmps130
   go_wp2_with ((with_reducible refine zgd (N := 6) rfl ?_); refine box_event ?hg (N := 6) ?hd (cs := #[.int .i64 s.calls, .int .i64 s.src, .bool s.loud, .bool s.there]) (t := 168) ?hr ?_; (case hd => rfl); (case hg => rfl); (case hr => first | (go_simp; done) | (go_simp; rfl)); intro gm hgm w1 hbk hb0; have HB := zam hb0; have FI := zam (FIN.out w1 hb0); clear FIN; have hm : w1.cell? ⟨gm, 0, none⟩ = some (.int .i64 s.calls) := zkc hbk 0; have hm1 : w1.cell? ⟨gm, 1, none⟩ = some (.int .i64 s.src) := zkc hbk 1; have hm2 : w1.cell? ⟨gm, 2, none⟩ = some (.bool s.loud) := zkc hbk 2; have hm3 : w1.cell? ⟨gm, 3, none⟩ = some (.bool s.there) := zkc hbk 3; have hz : w1.cell? ⟨R, 0, none⟩ = some (.slice (some ⟨r, 0, none⟩) (n + 1) (n + 1)) := zkc (zkb HR.out hb0) 0; have hy : w1.cell? ⟨Bb, 0, none⟩ = some (.func (.func 114) #[] #[]) := zkc (zkb HBb.out hb0) 0; have hx : w1.cell? ⟨Bv, 0, none⟩ = some (.func (.func _) #[] #[]) := zkc (zkb HBv.out hb0) 0; have hc0 : w1.cell? ⟨r, run * 4, none⟩ = some (.int .i64 (Bst.get row run).calls) := (zkc (zkb H0.out hb0) (run * 4)).trans G0.out; have hc1 : w1.cell? ⟨r, run * 4 + 1, none⟩ = some (.int .i64 (Bst.get row run).src) := (zkc (zkb H0.out hb0) (run * 4 + 1)).trans G1.out; have hc2 : w1.cell? ⟨r, run * 4 + 2, none⟩ = some (.bool (Bst.get row run).loud) := (zkc (zkb H0.out hb0) (run * 4 + 2)).trans G2.out; have hc3 : w1.cell? ⟨r, run * 4 + 3, none⟩ = some (.bool true) := (zkc (zkb H0.out hb0) (run * 4 + 3)).trans G3.out; have hf0 := zkz (zkb H0.out hb0) (run * 4); have hf1 := zkz (zkb H0.out hb0) (run * 4 + 1); have hf2 := zkz (zkb H0.out hb0) (run * 4 + 2); have hf3 := zkz (zkb H0.out hb0) (run * 4 + 3); clear hbk hb0 hgm)
   try simp only [Act.put, zsa, zsz, zss]
   go_quiet (first | (go_at_call 114; exact Calls.quiet_of_same (bst_less _ _ _)) | exact Calls.quiet_of_same (HVV.out.2 _ _))
   go_wp2
   exact ⟨rfl, _, results_none rfl _ _ _, FI.out _ _⟩
 have e : Bst.put val row run s = row := by unfold Bst.put; rw [if_neg (by rw [c1]; decide), if_neg c2]
 have d2 : decide (val s.calls < val (Bst.get row run).calls) = false := zdf c2
 rw [e]
 clear c1 c2 e FIN
 have FIN : Aside0 (∀ (w1 : World) (hb0 : Below w.heap.size w w1) (nq : Nat) (u : Value), Bst.Puts w r row (.returned u) (w1.drewN nq)) := ⟨fun w1 hb0 nq u => ⟨_, rfl, bst_grown_drew hb0, zkn (zkb H0.out hb0) nq⟩⟩
 rcases HVV.out.1 with rfl | rfl
 all_goals
  go_enter Try.func130, Try.ntmps130
  go_wp2_with ((with_reducible refine zgd (N := 6) rfl ?_); refine box_event ?hg (N := 6) ?hd (cs := #[.int .i64 s.calls, .int .i64 s.src, .bool s.loud, .bool s.there]) (t := 168) ?hr ?_; (case hd => rfl); (case hg => rfl); (case hr => first | (go_simp; done) | (go_simp; rfl)); intro gm hgm w1 hbk hb0; have HB := zam hb0; have FI := zam (FIN.out w1 hb0); clear FIN; have hm : w1.cell? ⟨gm, 0, none⟩ = some (.int .i64 s.calls) := zkc hbk 0; have hm1 : w1.cell? ⟨gm, 1, none⟩ = some (.int .i64 s.src) := zkc hbk 1; have hm2 : w1.cell? ⟨gm, 2, none⟩ = some (.bool s.loud) := zkc hbk 2; have hm3 : w1.cell? ⟨gm, 3, none⟩ = some (.bool s.there) := zkc hbk 3; have hz : w1.cell? ⟨R, 0, none⟩ = some (.slice (some ⟨r, 0, none⟩) (n + 1) (n + 1)) := zkc (zkb HR.out hb0) 0; have hy : w1.cell? ⟨Bb, 0, none⟩ = some (.func (.func 114) #[] #[]) := zkc (zkb HBb.out hb0) 0; have hx : w1.cell? ⟨Bv, 0, none⟩ = some (.func (.func _) #[] #[]) := zkc (zkb HBv.out hb0) 0; have hc0 : w1.cell? ⟨r, run * 4, none⟩ = some (.int .i64 (Bst.get row run).calls) := (zkc (zkb H0.out hb0) (run * 4)).trans G0.out; have hc1 : w1.cell? ⟨r, run * 4 + 1, none⟩ = some (.int .i64 (Bst.get row run).src) := (zkc (zkb H0.out hb0) (run * 4 + 1)).trans G1.out; have hc2 : w1.cell? ⟨r, run * 4 + 2, none⟩ = some (.bool (Bst.get row run).loud) := (zkc (zkb H0.out hb0) (run * 4 + 2)).trans G2.out; have hc3 : w1.cell? ⟨r, run * 4 + 3, none⟩ = some (.bool true) := (zkc (zkb H0.out hb0) (run * 4 + 3)).trans G3.out; have hf0 := zkz (zkb H0.out hb0) (run * 4); have hf1 := zkz (zkb H0.out hb0) (run * 4 + 1); have hf2 := zkz (zkb H0.out hb0) (run * 4 + 2); have hf3 := zkz (zkb H0.out hb0) (run * 4 + 3); clear hbk hb0 hgm)
  try simp only [Act.put, zsa, zsz, zss]
  go_quiet (first | (go_at_call 114; exact Calls.quiet_of_same (bst_less _ _ _)) | exact Calls.quiet_of_same (HVV.out.2 _ _))
  go_wp2
  exact ⟨rfl, _, results_none rfl _ _ _, FI.out _ _⟩
def Bst.Out (w : World) (b : List Bool) (r : Int) (e : Ending) (w' : World) : Prop := ∃ v, e = .returned (.tuple #[v, .int .i64 r]) ∧ Kd.R Kd.bool 4 w' w.heap.size (fun _ => True) v b ∧ Below w.heap.size w w'
theorem Bst.Tab.far {fv : Nat} {val : Int → Int} {n : Nat} {l : List Int} {w0 : World} {bv bb bt : Nat} {gs : List Nat} {W : World} (h : Bst.Tab fv val n l w0 bv bb bt gs W) {R : Nat} (hR : w0.heap.size ≤ R) (h1 : bv ≠ R) (h2 : bb ≠ R) (h3 : bt ≠ R) (h4 : ∀ g ∈ gs, g ≠ R) (j : Nat) (v : Value) : Bst.Tab fv val n l w0 bv bb bt gs (W.setCell ⟨R, j, none⟩ v) :=
 ⟨zbs h.below hR, zkf h.hv h1 _, zkf h.hb h2 _, zkf h.ht h3 _, h.low, fun j g hj => ⟨(h.rows j g hj).1, zkf (h.rows j g hj).2 (h4 g (List.mem_of_getElem? hj)) _⟩⟩
theorem bst_put' (val : Int → Int) (fv : Nat) (HV : Bst.Val fv val) (run : Nat) (rI cI fI : Int) (lo th : Bool) {n : Nat} {l : List Int} {w0 : World} {bv bb bt : Nat} {gs : List Nat} {R G : Nat} {row : List Bst.Step} {w : World} (hrI : rI = (run : Int)) (hrun : run < n + 1) (hn : n ≤ 256) (hlen : row.length = n + 1) (h : Bst.Row fv val n l w0 bv bb bt gs R G row w) :
  Calls Try.prog 130 #[.int .i64 rI, .agg #[.int .i64 cI, .int .i64 fI, .bool lo, .bool th], .pointer (some ⟨R, 0, none⟩), .pointer (some ⟨bb, 0, none⟩), .pointer (some ⟨bv, 0, none⟩)] w (Bst.Puts w G (Bst.put val row run ⟨cI, fI, lo, th⟩)) := by
 subst hrI
 exact bst_put val fv HV row run ⟨cI, fI, lo, th⟩ n R G bb bv w hlen hrun hn h.hR h.hr h.tab.hb h.tab.hv
set_option maxRecDepth 100000 in
set_option maxHeartbeats 16000000 in
theorem sound_best_calls (val : Int → Int) (fv : Nat) (HV : Bst.Val fv val) (A : Option Addr) (c : Nat) (l : List Int) (n : Nat) (b : List Bool) (r : Int) (w : World) (hl : Kd.C (Kd.int .i64) w A l.length l) (hc : l.length ≤ c) (hlen : l.length ≤ 256) (hn : n ≤ 256) (h : Bst.best val l n = some (b, r)) :
  Calls Try.prog 112 #[.slice A l.length c, .int .i64 (n : Int), .func (.func fv) #[] #[], .func (.func 114) #[] #[]] w (Bst.Out w b r) := by
 have HL := zam hl
 have HC := zam hc
 have H := zam h
 have HVV := zam HV
 have HLEN := zam hlen
 have HN := zam hn
 clear hl hc h HV
 have hu168 := Try.underlying168
 have hu166 := Try.underlying166
 go_enter Try.func112, Try.ntmps112
 go_wp2_with (first | ((with_reducible refine zgd (N := 6) rfl ?_); refine box_event ?hg (N := 6) ?hd (cs := #[.func (.func fv) #[] #[]]) (t := 149) ?hr ?_; (case hd => rfl); (case hg => rfl); (case hr => first | (go_simp; done) | (go_simp; rfl)); intro bv hbv w1 k6 hb; have HB := zam hb; have K6 := zam k6; have LV : Aside0 (w.heap.size ≤ bv) := ⟨by rw [hbv]; exact Nat.le_refl _⟩; clear hbv k6 hb) | ((with_reducible refine zgd (N := 7) rfl ?_); refine box_event ?hg (N := 7) ?hd (cs := #[.func (.func 114) #[] #[]]) (t := 150) ?hr ?_; (case hd => rfl); (case hg => rfl); (case hr => first | (go_simp; done) | (go_simp; rfl)); intro bb hbb w2 k7 hb; have n0_ := zam (zbt HB.out hb); have n1_ := zam (zkb K6.out hb); have K7 := zam k7; clear HB K6 hbb k7 hb; have HB := n0_; have K6 := n1_; clear n0_ n1_) | ((with_reducible refine zgd (N := 28) rfl ?_); refine bst_make (N := 28) ?hg ?hd 165 166 _ _ rfl (l.length + 1) _ rfl rfl (by first | rfl | (push_cast; rfl) | omega) Try.underlying165 (.slice none 0 0) 1 24 bst_info_row (by omega) (by omega) (Bst.tc n (l.length + 1) []) (bst_made_tab n _) ?_; (case hd => rfl); (case hg => rfl); intro bt hbt w3 k28 hb; have LT : Aside0 (w.heap.size ≤ bt) := ⟨by rw [hbt]; exact HB.out.size⟩; have n0_ := zam (zbt HB.out hb); have n1_ := zam (zkb K6.out hb); have n2_ := zam (zkb K7.out hb); have KT := zam k28; clear HB K6 K7 hbt k28 hb; have HB := n0_; have K6 := n1_; have K7 := n2_; clear n0_ n1_ n2_) | ((with_reducible refine zgd (N := 32) rfl ?_); refine bst_make (N := 32) ?hg ?hd 166 168 _ _ rfl (n + 1) _ rfl rfl (by first | rfl | (push_cast; rfl) | omega) Try.underlying166 (.agg #[.int .i64 0, .int .i64 0, .bool false, .bool false]) 4 24 bst_info_step (by omega) (by omega) (Bst.flat (List.replicate (n + 1) Bst.zero)) (bst_made_row _) ?_; (case hd => rfl); (case hg => rfl); intro g0 hg0 w4 k32 hb; have L0 : Aside0 (w.heap.size ≤ g0) := ⟨by rw [hg0]; exact HB.out.size⟩; have n0_ := zam (zbt HB.out hb); have n1_ := zam (zkb K6.out hb); have n2_ := zam (zkb K7.out hb); have n3_ := zam (zkb KT.out hb); have K0 := zam k32; clear HB K6 K7 KT hg0 k32 hb; have HB := n0_; have K6 := n1_; have K7 := n2_; have KT := n3_; clear n0_ n1_ n2_ n3_; have ht0 : w4.cell? ⟨bt, 0, none⟩ = some (.slice none 0 0) := (zkc KT.out 0).trans (by simp [Bst.tc, List.replicate_succ]); have hf0 := zkz KT.out 0; have hc3 : w4.cell? ⟨g0, 3, none⟩ = some (.bool (Bst.get (List.replicate (n + 1) Bst.zero) 0).there) := (zkc K0.out 3).trans (by have e_ := (Bst.flat_get (List.replicate (n + 1) Bst.zero) 0 (by simp)).2.2.2; simpa using e_); have hg3 := zkz K0.out 3; have hne : bt ≠ g0 := blk_ne KT.out K0.out (by decide); have hne2 := Ne.symm hne))
 have T0 : Bst.Tab fv val n l w bv bb bt [g0] ((w4.setCell ⟨bt, 0, none⟩ (.slice (some ⟨g0, 0, none⟩) (n + 1) (n + 1))).setCell ⟨g0, 3, none⟩ (.bool true)) := by
  have far : ∀ {g : Nat} {cs : Array Value} {t : TypeId}, w4.heap[g]? = some (.cells cs t (0, 0)) → g ≠ bt → g ≠ g0 → ((w4.setCell ⟨bt, 0, none⟩ (.slice (some ⟨g0, 0, none⟩) (n + 1) (n + 1))).setCell ⟨g0, 3, none⟩ (.bool true)).heap[g]? = some (.cells cs t (0, 0)) := fun h1 h2 h3 => zkf (zkf h1 h2 _) h3 _
  refine ⟨zbs (zbs HB.out LT.out) L0.out, far K6.out (blk_ne K6.out KT.out (by decide)) (blk_ne K6.out K0.out (by decide)), far K7.out (blk_ne K7.out KT.out (by decide)) (blk_ne K7.out K0.out (by decide)), ?_, LT.out, fun j g hj => ?_⟩
  ·refine zkf (blk_put KT.out 0 _ ?_) hne _
   have e := Bst.tc_set n (l.length + 1) [] g0 (by simp)
   simp only [List.nil_append, List.length_nil] at e
   rw [← e]
   simp [Bst.sl]
  cases j with
  | succ j => simp at hj
  | zero =>
   obtain rfl : g0 = g := by simpa using hj
   refine ⟨L0.out, blk_put (zkf K0.out hne2 _) 3 _ ?_⟩
   rw [Bst.tab, Bst.flat_set _ 0 _ (by simp)]
   simp [Bst.one, Bst.zero, List.replicate_succ, Bst.flat]
 clear ht0 hf0 hc3 hg3
 have T0 := zam T0
 clear HB K6 K7 KT K0 L0 hne hne2
 generalize ((w4.setCell _ _).setCell _ _) = W0 at *
 go_loopw [41] (fun v wr => ∃ (i : Nat) (gs : List Nat), v = .int .i64 (i : Int) ∧ Aside0 (i ≤ l.length) ∧ Aside0 (gs.length = i + 1) ∧ Aside0 (Bst.Tab fv val n l w bv bb bt gs wr)) (fun v _ => l.length - (intOf v).toNat)
 case atStart => exact ⟨0, [g0], rfl, ⟨Nat.zero_le _⟩, ⟨rfl⟩, T0⟩
 case round =>
  clear T0
  obtain ⟨i, gs, rfl, HI, HG, HT⟩ := hrel
  have hi := HI.out
  by_cases hlt : i < l.length
  ·have d1 : decide ((i : Int) < (l.length : Int)) = true := zdt (by omega)
   have GI : Aside0 (i < gs.length) := ⟨by have := HG.out; omega⟩
   obtain ⟨ad, eA, hx⟩ := Kd.at_int (Kd.C_below HL.out HT.out.below) (i : Int) (by omega) (by omega)
   subst eA
   rw [Int.toNat_natCast] at hx
   have p1 : ((i : Int) < (l.length : Int)) = True := eq_true (by omega)
   have p2 : (i < l.length) = True := eq_true hlt
   have p3 : (i < l.length + 1) = True := eq_true (by omega)
   have p4 : ((i : Int) < (l.length : Int) + 1) = True := eq_true (by omega)
   have HLT := zam hlt
   clear hlt hi
   go_wp2_with (first | ((with_reducible refine zgd (N := 48) rfl ?_); refine bst_make (N := 48) ?hg ?hd 166 168 _ _ rfl (n + 1) _ rfl rfl (by first | rfl | (push_cast; rfl) | omega) Try.underlying166 (.agg #[.int .i64 0, .int .i64 0, .bool false, .bool false]) 4 24 bst_info_step (by omega) (by omega) (Bst.flat (List.replicate (n + 1) Bst.zero)) (bst_made_row _) ?_; (case hd => rfl); (case hg => rfl); intro G hG w5 k48 hb; have LG : Aside0 (w.heap.size ≤ G ∧ ∀ g ∈ gs, g ≠ G) := ⟨by rw [hG]; exact ⟨HT.out.below.size, fun g hg => by obtain ⟨j, hj⟩ := List.getElem?_of_mem hg; exact Nat.ne_of_lt (blk_lt (HT.out.rows j g hj).2)⟩⟩; have n0_ := zam (HT.out.step hb); have KG := zam k48; clear HT hG k48 hb; have HT := n0_; clear n0_) | ((with_reducible refine zgd (N := 13) rfl ?_); refine box_event ?hg (N := 13) ?hd (cs := #[.slice none 0 0]) (t := 166) ?hr ?_; (case hd => rfl); (case hg => rfl); (case hr => first | (go_simp; done) | (go_simp; rfl)); intro R hR w6 k13 hb; have hbR : bt ≠ R := (by rw [hR]; exact Nat.ne_of_lt (blk_lt HT.out.ht)); have hbR2 := Ne.symm hbR; have LRR : Aside0 (bv ≠ R ∧ bb ≠ R ∧ (∀ g ∈ gs, g ≠ R) ∧ G ≠ R) := ⟨by rw [hR]; exact ⟨Nat.ne_of_lt (blk_lt HT.out.hv), Nat.ne_of_lt (blk_lt HT.out.hb), fun g hg => (by obtain ⟨j, hj⟩ := List.getElem?_of_mem hg; exact Nat.ne_of_lt (blk_lt (HT.out.rows j g hj).2)), Nat.ne_of_lt (blk_lt KG.out)⟩⟩; have n0_ := zam (HT.out.step hb); have n1_ := zam (zkb KG.out hb); have LR : Aside0 (w.heap.size ≤ R) := ⟨by rw [hR]; exact HT.out.below.size⟩; have KR := zam k13; clear HT KG hR k13 hb; have HT := n0_; have KG := n1_; clear n0_ n1_; have hr0 : w6.cell? ⟨R, 0, none⟩ = some (.slice none 0 0) := zkc KR.out 0; have hrf := zkz KR.out 0; have hti : w6.cell? ⟨bt, i, none⟩ = some (.slice (some ⟨gs[i]'GI.out, 0, none⟩) (n + 1) (n + 1)) := (zkc HT.out.ht i).trans (by have e_ := Bst.tc_get n (l.length + 1) gs i GI.out; unfold Bst.sl at e_; simpa using e_)))
   clear hx p1 p2 p3 p4 hti hr0 hrf d1
   have R0 : Aside0 (Bst.Row fv val n l w bv bb bt gs R G (Bst.upto val n (rd l (i : Int)) (Bst.tab val n l i) 0) (w6.setCell ⟨R, 0, none⟩ (.slice (some ⟨G, 0, none⟩) (n + 1) (n + 1)))) :=
    ⟨⟨HT.out.far LR.out LRR.out.1 LRR.out.2.1 hbR LRR.out.2.2.1 _ _, blk_put KR.out 0 _ rfl, zkf KG.out LRR.out.2.2.2 _, LG.out.1, LG.out.2⟩⟩
   have NBR := zam hbR
   clear HT KR KG LR LRR LG hbR hbR2
   generalize hxi : rd l (i : Int) = xi at *
   have HXI := zam hxi
   clear hxi
   generalize (w6.setCell _ _) = W1 at *
   go_loopw [55] (fun v wr => ∃ k : Nat, v = .int .i64 (k : Int) ∧ Aside0 (k ≤ n + 1) ∧ Aside0 (Bst.Row fv val n l w bv bb bt gs R G (Bst.upto val n xi (Bst.tab val n l i) k) wr)) (fun v _ => n + 1 - (intOf v).toNat)
   case atStart => exact ⟨0, rfl, ⟨Nat.zero_le _⟩, R0⟩
   case round =>
    clear R0
    obtain ⟨k, rfl, HK, HR⟩ := hrel
    by_cases hlt : k < n + 1
    ·have d1 : decide ((k : Int) < (n : Int) + 1) = true := zdt (by omega)
     have p1 : ((k : Int) < (n : Int) + 1) = True := eq_true (by omega)
     have p2 : (k < n + 1) = True := eq_true hlt
     have HLT2 := zam hlt
     have hkn : (k : Int) ≤ 256 := by omega
     have hul := zam (Bst.upto_len val n xi (Bst.tab val n l i) k)
     have hrow := (HR.out.tab.rows i (gs[i]'GI.out) (List.getElem?_eq_getElem GI.out)).2
     obtain ⟨c0, c1, c2, c3⟩ := Bst.flat_get (Bst.tab val n l i) k (by rw [Bst.tab_len]; exact hlt)
     have UP : Aside0 (Bst.upto val n xi (Bst.tab val n l i) (k + 1) = Bst.round val n xi (Bst.upto val n xi (Bst.tab val n l i) k) k (Bst.get (Bst.tab val n l i) k)) := ⟨rfl⟩
     have hs0 := (zkc hrow (k * 4)).trans ((List.getElem?_toArray).trans c0)
     have hs1 := (zkc hrow (k * 4 + 1)).trans ((List.getElem?_toArray).trans c1)
     have hs2 := (zkc hrow (k * 4 + 2)).trans ((List.getElem?_toArray).trans c2)
     have hs3 := (zkc hrow (k * 4 + 3)).trans ((List.getElem?_toArray).trans c3)
     generalize Bst.get (Bst.tab val n l i) k = s at *
     obtain ⟨sc, sf, slo, sth⟩ := s
     dsimp only at hs0 hs1 hs2 hs3
     clear c0 c1 c2 c3 hrow hlt
     cases sth
     ·go_wp2_with (first | ((with_reducible refine zgd (N := 16) rfl ?_); refine box_event ?hg (N := 16) ?hd (cs := #[.int .i64 0, .int .i64 0, .bool false, .bool false]) (t := 168) ?hr ?_; (case hd => rfl); (case hg => rfl); (case hr => first | (go_simp; done) | (go_simp; rfl)); intro q hq w7 k16 hb; have LQ : Aside0 (q ≠ G) := ⟨by rw [hq]; exact Ne.symm (Nat.ne_of_lt (blk_lt HR.out.hr))⟩; have hqb := zbs (j := 3) (v := .bool false) (zbs (j := 2) (v := .bool slo) (zbs (j := 1) (v := .int .i64 sf) (zbs (j := 0) (v := .int .i64 sc) hb (Nat.le_of_eq hq.symm)) (Nat.le_of_eq hq.symm)) (Nat.le_of_eq hq.symm)) (Nat.le_of_eq hq.symm); have R8 := zam (HR.out.step hqb); have KQ := zam (blk_set (blk_set (blk_set (blk_set k16 0 (.int .i64 sc)) 1 (.int .i64 sf)) 2 (.bool slo)) 3 (.bool false)); have hq0 : w7.cell? ⟨q, 0, none⟩ = some (.int .i64 0) := zkc k16 0; have hq1 : w7.cell? ⟨q, 1, none⟩ = some (.int .i64 0) := zkc k16 1; have hq2 : w7.cell? ⟨q, 2, none⟩ = some (.bool false) := zkc k16 2; have hq3 : w7.cell? ⟨q, 3, none⟩ = some (.bool false) := zkc k16 3; have hqf0 := zkz k16 0; have hqf1 := zkz k16 1; have hqf2 := zkz k16 2; have hqf3 := zkz k16 3; clear hq k16 hb hqb hs0 hs1 hs2 hs3))
      go_roundw
      case rel => exact ⟨k + 1, by first | rfl | go_num, ⟨HLT2.out⟩, ⟨by rw [UP.out]; first | exact R8.out | (have e_ := R8.out; simpa [Bst.round, Bst.loud, Bst.still] using e_)⟩⟩
      case measure => (have a2 := HLT2.out; simp only [intOf]; omega)
     by_cases x0 : xi = 0
     ·subst x0
      have t0 : ((0 : Int) != 0) = false := rfl
      go_wp2_with (first | ((with_reducible refine zgd (N := 16) rfl ?_); refine box_event ?hg (N := 16) ?hd (cs := #[.int .i64 0, .int .i64 0, .bool false, .bool false]) (t := 168) ?hr ?_; (case hd => rfl); (case hg => rfl); (case hr => first | (go_simp; done) | (go_simp; rfl)); intro q hq w7 k16 hb; have LQ : Aside0 (q ≠ G) := ⟨by rw [hq]; exact Ne.symm (Nat.ne_of_lt (blk_lt HR.out.hr))⟩; have hqb := zbs (j := 3) (v := .bool true) (zbs (j := 2) (v := .bool slo) (zbs (j := 1) (v := .int .i64 sf) (zbs (j := 0) (v := .int .i64 sc) hb (Nat.le_of_eq hq.symm)) (Nat.le_of_eq hq.symm)) (Nat.le_of_eq hq.symm)) (Nat.le_of_eq hq.symm); have R8 := zam (HR.out.step hqb); have KQ := zam (blk_set (blk_set (blk_set (blk_set k16 0 (.int .i64 sc)) 1 (.int .i64 sf)) 2 (.bool slo)) 3 (.bool true)); have hq0 : w7.cell? ⟨q, 0, none⟩ = some (.int .i64 0) := zkc k16 0; have hq1 : w7.cell? ⟨q, 1, none⟩ = some (.int .i64 0) := zkc k16 1; have hq2 : w7.cell? ⟨q, 2, none⟩ = some (.bool false) := zkc k16 2; have hq3 : w7.cell? ⟨q, 3, none⟩ = some (.bool false) := zkc k16 3; have hqf0 := zkz k16 0; have hqf1 := zkz k16 1; have hqf2 := zkz k16 2; have hqf3 := zkz k16 3; clear hq k16 hb hqb hs0 hs1 hs2 hs3) | (go_at_call 130; (with_reducible refine (bst_put' val fv HVV.out (0) _ _ _ _ _ (by omega) (by omega) HN.out (by first | exact hul.out | (rw [Bst.put_len]; exact hul.out)) R8.out).mono ?_); rintro e w9 ⟨v, rfl, hg, hr⟩; have R9 := zam (R8.out.put hg hr); have KQ9 := zam (blk_grown KQ.out hg (fun e => LQ.out (zsi e))); clear R8 KQ hg hr; have R8 := R9; have KQ := KQ9; clear R9 KQ9; have hq0 : w9.cell? ⟨q, 0, none⟩ = some (.int .i64 sc) := zkc KQ.out 0))
      go_roundw
      case rel => exact ⟨k + 1, by first | rfl | go_num, ⟨HLT2.out⟩, ⟨by rw [UP.out]; first | exact R8.out | (have e_ := R8.out; simpa [Bst.round, Bst.loud, Bst.still] using e_)⟩⟩
      case measure => (have a2 := HLT2.out; simp only [intOf]; omega)
     have z1 : (xi != 0) = true := bne_iff_ne.mpr x0
     have z2 : (xi == 0) = false := beq_eq_false_iff_ne.mpr x0
     obtain ⟨cw, hcw⟩ : ∃ cw, IntKind.i64.wrap (sc + 1) = cw := ⟨_, rfl⟩
     have HCW := zam ((i64_w _).symm.trans hcw)
     by_cases x2 : xi = 2
     ·subst x2
      rcases Nat.lt_trichotomy (k + 1) n with kk | kk | kk
      ·skip
       have e1 : (((k : Int) + 1) == (n : Int)) = false := beq_eq_false_iff_ne.mpr (by omega)
       have m1 : ((n : Int) < (k : Int) + 1) = False := eq_false (by omega)
       have m2 : (n ≤ k) = False := eq_false (by omega)
       have m3 : ((n : Int) ≤ (k : Int)) = False := eq_false (by omega)
       have KM : Aside0 (min (k + 1) n = if n < k + 1 then n else k + 1) := ⟨by split <;> omega⟩
       have kl : k + 1 ≤ n := by omega
       have KE : Aside0 ((k + 1 = n) = False) := ⟨by simp; omega⟩
       have KL : Aside0 ((n < k + 1) = False) := ⟨by simp; omega⟩
       clear kk
       go_wp2_with (first | ((with_reducible refine zgd (N := 16) rfl ?_); refine box_event ?hg (N := 16) ?hd (cs := #[.int .i64 0, .int .i64 0, .bool false, .bool false]) (t := 168) ?hr ?_; (case hd => rfl); (case hg => rfl); (case hr => first | (go_simp; done) | (go_simp; rfl)); intro q hq w7 k16 hb; have LQ : Aside0 (q ≠ G) := ⟨by rw [hq]; exact Ne.symm (Nat.ne_of_lt (blk_lt HR.out.hr))⟩; have hqb := zbs (j := 3) (v := .bool true) (zbs (j := 2) (v := .bool slo) (zbs (j := 1) (v := .int .i64 sf) (zbs (j := 0) (v := .int .i64 sc) hb (Nat.le_of_eq hq.symm)) (Nat.le_of_eq hq.symm)) (Nat.le_of_eq hq.symm)) (Nat.le_of_eq hq.symm); have R8 := zam (HR.out.step hqb); have KQ := zam (blk_set (blk_set (blk_set (blk_set k16 0 (.int .i64 sc)) 1 (.int .i64 sf)) 2 (.bool slo)) 3 (.bool true)); have hq0 : w7.cell? ⟨q, 0, none⟩ = some (.int .i64 0) := zkc k16 0; have hq1 : w7.cell? ⟨q, 1, none⟩ = some (.int .i64 0) := zkc k16 1; have hq2 : w7.cell? ⟨q, 2, none⟩ = some (.bool false) := zkc k16 2; have hq3 : w7.cell? ⟨q, 3, none⟩ = some (.bool false) := zkc k16 3; have hqf0 := zkz k16 0; have hqf1 := zkz k16 1; have hqf2 := zkz k16 2; have hqf3 := zkz k16 3; clear hq k16 hb hqb hs0 hs1 hs2 hs3) | (go_at_call 130; (with_reducible refine (bst_put' val fv HVV.out (k + 1) _ _ _ _ _ (by omega) (by omega) HN.out (by first | exact hul.out | (rw [Bst.put_len]; exact hul.out)) R8.out).mono ?_); rintro e w9 ⟨v, rfl, hg, hr⟩; have R9 := zam (R8.out.put hg hr); have KQ9 := zam (blk_grown KQ.out hg (fun e => LQ.out (zsi e))); clear R8 KQ hg hr; have R8 := R9; have KQ := KQ9; clear R9 KQ9; have hq0 : w9.cell? ⟨q, 0, none⟩ = some (.int .i64 sc) := zkc KQ.out 0))
       go_roundw
       case rel => exact ⟨k + 1, by first | rfl | go_num, ⟨HLT2.out⟩, ⟨by rw [UP.out]; first | exact R8.out | (have e_ := R8.out; simpa [Bst.round, Bst.loud, Bst.still, KM.out, KE.out, KL.out, HCW.out] using e_)⟩⟩
       case measure => (have a2 := HLT2.out; simp only [intOf]; omega)
      ·skip
       have e1 : (((k : Int) + 1) == (n : Int)) = true := beq_iff_eq.mpr (by omega)
       have m1 : ((n : Int) < (k : Int) + 1) = False := eq_false (by omega)
       have m2 : (n ≤ k) = False := eq_false (by omega)
       have m3 : ((n : Int) ≤ (k : Int)) = False := eq_false (by omega)
       have KM : Aside0 (min (k + 1) n = if n < k + 1 then n else k + 1) := ⟨by split <;> omega⟩
       have kl : k + 1 ≤ n := by omega
       have KE : Aside0 ((k + 1 = n) = True) := ⟨by simp; omega⟩
       have KL : Aside0 ((n < k + 1) = False) := ⟨by simp; omega⟩
       clear kk
       go_wp2_with (first | ((with_reducible refine zgd (N := 16) rfl ?_); refine box_event ?hg (N := 16) ?hd (cs := #[.int .i64 0, .int .i64 0, .bool false, .bool false]) (t := 168) ?hr ?_; (case hd => rfl); (case hg => rfl); (case hr => first | (go_simp; done) | (go_simp; rfl)); intro q hq w7 k16 hb; have LQ : Aside0 (q ≠ G) := ⟨by rw [hq]; exact Ne.symm (Nat.ne_of_lt (blk_lt HR.out.hr))⟩; have hqb := zbs (j := 3) (v := .bool true) (zbs (j := 2) (v := .bool slo) (zbs (j := 1) (v := .int .i64 sf) (zbs (j := 0) (v := .int .i64 sc) hb (Nat.le_of_eq hq.symm)) (Nat.le_of_eq hq.symm)) (Nat.le_of_eq hq.symm)) (Nat.le_of_eq hq.symm); have R8 := zam (HR.out.step hqb); have KQ := zam (blk_set (blk_set (blk_set (blk_set k16 0 (.int .i64 sc)) 1 (.int .i64 sf)) 2 (.bool slo)) 3 (.bool true)); have hq0 : w7.cell? ⟨q, 0, none⟩ = some (.int .i64 0) := zkc k16 0; have hq1 : w7.cell? ⟨q, 1, none⟩ = some (.int .i64 0) := zkc k16 1; have hq2 : w7.cell? ⟨q, 2, none⟩ = some (.bool false) := zkc k16 2; have hq3 : w7.cell? ⟨q, 3, none⟩ = some (.bool false) := zkc k16 3; have hqf0 := zkz k16 0; have hqf1 := zkz k16 1; have hqf2 := zkz k16 2; have hqf3 := zkz k16 3; clear hq k16 hb hqb hs0 hs1 hs2 hs3) | (go_at_call 130; (with_reducible refine (bst_put' val fv HVV.out (k + 1) _ _ _ _ _ (by omega) (by omega) HN.out (by first | exact hul.out | (rw [Bst.put_len]; exact hul.out)) R8.out).mono ?_); rintro e w9 ⟨v, rfl, hg, hr⟩; have R9 := zam (R8.out.put hg hr); have KQ9 := zam (blk_grown KQ.out hg (fun e => LQ.out (zsi e))); clear R8 KQ hg hr; have R8 := R9; have KQ := KQ9; clear R9 KQ9; have hq0 : w9.cell? ⟨q, 0, none⟩ = some (.int .i64 sc) := zkc KQ.out 0))
       go_roundw
       case rel => exact ⟨k + 1, by first | rfl | go_num, ⟨HLT2.out⟩, ⟨by rw [UP.out]; first | exact R8.out | (have e_ := R8.out; simpa [Bst.round, Bst.loud, Bst.still, KM.out, KE.out, KL.out, HCW.out] using e_)⟩⟩
       case measure => (have a2 := HLT2.out; simp only [intOf]; omega)
      skip
      have e1 : (((k : Int) + 1) == (n : Int)) = false := beq_eq_false_iff_ne.mpr (by omega)
      have m1 : ((n : Int) < (k : Int) + 1) = True := eq_true (by omega)
      have m2 : (n ≤ k) = True := eq_true (by omega)
      have m3 : ((n : Int) ≤ (k : Int)) = True := eq_true (by omega)
      have KM : Aside0 (min (k + 1) n = if n < k + 1 then n else k + 1) := ⟨by split <;> omega⟩
      have KE : Aside0 ((k + 1 = n) = False) := ⟨by simp; omega⟩
      have KL : Aside0 ((n < k + 1) = True) := ⟨by simp; omega⟩
      clear kk
      go_wp2_with (first | ((with_reducible refine zgd (N := 16) rfl ?_); refine box_event ?hg (N := 16) ?hd (cs := #[.int .i64 0, .int .i64 0, .bool false, .bool false]) (t := 168) ?hr ?_; (case hd => rfl); (case hg => rfl); (case hr => first | (go_simp; done) | (go_simp; rfl)); intro q hq w7 k16 hb; have LQ : Aside0 (q ≠ G) := ⟨by rw [hq]; exact Ne.symm (Nat.ne_of_lt (blk_lt HR.out.hr))⟩; have hqb := zbs (j := 3) (v := .bool true) (zbs (j := 2) (v := .bool slo) (zbs (j := 1) (v := .int .i64 sf) (zbs (j := 0) (v := .int .i64 sc) hb (Nat.le_of_eq hq.symm)) (Nat.le_of_eq hq.symm)) (Nat.le_of_eq hq.symm)) (Nat.le_of_eq hq.symm); have R8 := zam (HR.out.step hqb); have KQ := zam (blk_set (blk_set (blk_set (blk_set k16 0 (.int .i64 sc)) 1 (.int .i64 sf)) 2 (.bool slo)) 3 (.bool true)); have hq0 : w7.cell? ⟨q, 0, none⟩ = some (.int .i64 0) := zkc k16 0; have hq1 : w7.cell? ⟨q, 1, none⟩ = some (.int .i64 0) := zkc k16 1; have hq2 : w7.cell? ⟨q, 2, none⟩ = some (.bool false) := zkc k16 2; have hq3 : w7.cell? ⟨q, 3, none⟩ = some (.bool false) := zkc k16 3; have hqf0 := zkz k16 0; have hqf1 := zkz k16 1; have hqf2 := zkz k16 2; have hqf3 := zkz k16 3; clear hq k16 hb hqb hs0 hs1 hs2 hs3) | (go_at_call 130; (with_reducible refine (bst_put' val fv HVV.out (n) _ _ _ _ _ (by omega) (by omega) HN.out (by first | exact hul.out | (rw [Bst.put_len]; exact hul.out)) R8.out).mono ?_); rintro e w9 ⟨v, rfl, hg, hr⟩; have R9 := zam (R8.out.put hg hr); have KQ9 := zam (blk_grown KQ.out hg (fun e => LQ.out (zsi e))); clear R8 KQ hg hr; have R8 := R9; have KQ := KQ9; clear R9 KQ9; have hq0 : w9.cell? ⟨q, 0, none⟩ = some (.int .i64 sc) := zkc KQ.out 0))
      go_roundw
      case rel => exact ⟨k + 1, by first | rfl | go_num, ⟨HLT2.out⟩, ⟨by rw [UP.out]; first | exact R8.out | (have e_ := R8.out; simpa [Bst.round, Bst.loud, Bst.still, KM.out, KE.out, KL.out, HCW.out] using e_)⟩⟩
      case measure => (have a2 := HLT2.out; simp only [intOf]; omega)
     have z3 : (xi != 2) = true := bne_iff_ne.mpr x2
     have z4 : (xi == 2) = false := beq_eq_false_iff_ne.mpr x2
     rcases Nat.lt_trichotomy (k + 1) n with kk | kk | kk
     ·skip
      have e1 : (((k : Int) + 1) == (n : Int)) = false := beq_eq_false_iff_ne.mpr (by omega)
      have m1 : ((n : Int) < (k : Int) + 1) = False := eq_false (by omega)
      have m2 : (n ≤ k) = False := eq_false (by omega)
      have m3 : ((n : Int) ≤ (k : Int)) = False := eq_false (by omega)
      have KM : Aside0 (min (k + 1) n = if n < k + 1 then n else k + 1) := ⟨by split <;> omega⟩
      have kl : k + 1 ≤ n := by omega
      have KE : Aside0 ((k + 1 = n) = False) := ⟨by simp; omega⟩
      have KL : Aside0 ((n < k + 1) = False) := ⟨by simp; omega⟩
      clear kk
      go_wp2_with (first | ((with_reducible refine zgd (N := 16) rfl ?_); refine box_event ?hg (N := 16) ?hd (cs := #[.int .i64 0, .int .i64 0, .bool false, .bool false]) (t := 168) ?hr ?_; (case hd => rfl); (case hg => rfl); (case hr => first | (go_simp; done) | (go_simp; rfl)); intro q hq w7 k16 hb; have LQ : Aside0 (q ≠ G) := ⟨by rw [hq]; exact Ne.symm (Nat.ne_of_lt (blk_lt HR.out.hr))⟩; have hqb := zbs (j := 3) (v := .bool true) (zbs (j := 2) (v := .bool slo) (zbs (j := 1) (v := .int .i64 sf) (zbs (j := 0) (v := .int .i64 sc) hb (Nat.le_of_eq hq.symm)) (Nat.le_of_eq hq.symm)) (Nat.le_of_eq hq.symm)) (Nat.le_of_eq hq.symm); have R8 := zam (HR.out.step hqb); have KQ := zam (blk_set (blk_set (blk_set (blk_set k16 0 (.int .i64 sc)) 1 (.int .i64 sf)) 2 (.bool slo)) 3 (.bool true)); have hq0 : w7.cell? ⟨q, 0, none⟩ = some (.int .i64 0) := zkc k16 0; have hq1 : w7.cell? ⟨q, 1, none⟩ = some (.int .i64 0) := zkc k16 1; have hq2 : w7.cell? ⟨q, 2, none⟩ = some (.bool false) := zkc k16 2; have hq3 : w7.cell? ⟨q, 3, none⟩ = some (.bool false) := zkc k16 3; have hqf0 := zkz k16 0; have hqf1 := zkz k16 1; have hqf2 := zkz k16 2; have hqf3 := zkz k16 3; clear hq k16 hb hqb hs0 hs1 hs2 hs3) | (go_at_call 130; (with_reducible refine (bst_put' val fv HVV.out (k + 1) _ _ _ _ _ (by omega) (by omega) HN.out (by first | exact hul.out | (rw [Bst.put_len]; exact hul.out)) R8.out).mono ?_); rintro e w9 ⟨v, rfl, hg, hr⟩; have R9 := zam (R8.out.put hg hr); have KQ9 := zam (blk_grown KQ.out hg (fun e => LQ.out (zsi e))); clear R8 KQ hg hr; have R8 := R9; have KQ := KQ9; clear R9 KQ9; have hq0 : w9.cell? ⟨q, 0, none⟩ = some (.int .i64 sc) := zkc KQ.out 0) | (go_at_call 130; (with_reducible refine (bst_put' val fv HVV.out (0) _ _ _ _ _ (by omega) (by omega) HN.out (by first | exact hul.out | (rw [Bst.put_len]; exact hul.out)) R8.out).mono ?_); rintro e w9 ⟨v, rfl, hg, hr⟩; have R9 := zam (R8.out.put hg hr); have KQ9 := zam (blk_grown KQ.out hg (fun e => LQ.out (zsi e))); clear R8 KQ hg hr; have R8 := R9; have KQ := KQ9; clear R9 KQ9; have hq0 : w9.cell? ⟨q, 0, none⟩ = some (.int .i64 sc) := zkc KQ.out 0))
      go_roundw
      case rel => exact ⟨k + 1, by first | rfl | go_num, ⟨HLT2.out⟩, ⟨by rw [UP.out]; first | exact R8.out | (have e_ := R8.out; simpa [Bst.round, Bst.loud, Bst.still, KM.out, KE.out, KL.out, HCW.out, x0, x2] using e_)⟩⟩
      case measure => (have a2 := HLT2.out; simp only [intOf]; omega)
     ·skip
      have e1 : (((k : Int) + 1) == (n : Int)) = true := beq_iff_eq.mpr (by omega)
      have m1 : ((n : Int) < (k : Int) + 1) = False := eq_false (by omega)
      have m2 : (n ≤ k) = False := eq_false (by omega)
      have m3 : ((n : Int) ≤ (k : Int)) = False := eq_false (by omega)
      have KM : Aside0 (min (k + 1) n = if n < k + 1 then n else k + 1) := ⟨by split <;> omega⟩
      have kl : k + 1 ≤ n := by omega
      have KE : Aside0 ((k + 1 = n) = True) := ⟨by simp; omega⟩
      have KL : Aside0 ((n < k + 1) = False) := ⟨by simp; omega⟩
      clear kk
      go_wp2_with (first | ((with_reducible refine zgd (N := 16) rfl ?_); refine box_event ?hg (N := 16) ?hd (cs := #[.int .i64 0, .int .i64 0, .bool false, .bool false]) (t := 168) ?hr ?_; (case hd => rfl); (case hg => rfl); (case hr => first | (go_simp; done) | (go_simp; rfl)); intro q hq w7 k16 hb; have LQ : Aside0 (q ≠ G) := ⟨by rw [hq]; exact Ne.symm (Nat.ne_of_lt (blk_lt HR.out.hr))⟩; have hqb := zbs (j := 3) (v := .bool true) (zbs (j := 2) (v := .bool slo) (zbs (j := 1) (v := .int .i64 sf) (zbs (j := 0) (v := .int .i64 sc) hb (Nat.le_of_eq hq.symm)) (Nat.le_of_eq hq.symm)) (Nat.le_of_eq hq.symm)) (Nat.le_of_eq hq.symm); have R8 := zam (HR.out.step hqb); have KQ := zam (blk_set (blk_set (blk_set (blk_set k16 0 (.int .i64 sc)) 1 (.int .i64 sf)) 2 (.bool slo)) 3 (.bool true)); have hq0 : w7.cell? ⟨q, 0, none⟩ = some (.int .i64 0) := zkc k16 0; have hq1 : w7.cell? ⟨q, 1, none⟩ = some (.int .i64 0) := zkc k16 1; have hq2 : w7.cell? ⟨q, 2, none⟩ = some (.bool false) := zkc k16 2; have hq3 : w7.cell? ⟨q, 3, none⟩ = some (.bool false) := zkc k16 3; have hqf0 := zkz k16 0; have hqf1 := zkz k16 1; have hqf2 := zkz k16 2; have hqf3 := zkz k16 3; clear hq k16 hb hqb hs0 hs1 hs2 hs3) | (go_at_call 130; (with_reducible refine (bst_put' val fv HVV.out (k + 1) _ _ _ _ _ (by omega) (by omega) HN.out (by first | exact hul.out | (rw [Bst.put_len]; exact hul.out)) R8.out).mono ?_); rintro e w9 ⟨v, rfl, hg, hr⟩; have R9 := zam (R8.out.put hg hr); have KQ9 := zam (blk_grown KQ.out hg (fun e => LQ.out (zsi e))); clear R8 KQ hg hr; have R8 := R9; have KQ := KQ9; clear R9 KQ9; have hq0 : w9.cell? ⟨q, 0, none⟩ = some (.int .i64 sc) := zkc KQ.out 0) | (go_at_call 130; (with_reducible refine (bst_put' val fv HVV.out (0) _ _ _ _ _ (by omega) (by omega) HN.out (by first | exact hul.out | (rw [Bst.put_len]; exact hul.out)) R8.out).mono ?_); rintro e w9 ⟨v, rfl, hg, hr⟩; have R9 := zam (R8.out.put hg hr); have KQ9 := zam (blk_grown KQ.out hg (fun e => LQ.out (zsi e))); clear R8 KQ hg hr; have R8 := R9; have KQ := KQ9; clear R9 KQ9; have hq0 : w9.cell? ⟨q, 0, none⟩ = some (.int .i64 sc) := zkc KQ.out 0))
      go_roundw
      case rel => exact ⟨k + 1, by first | rfl | go_num, ⟨HLT2.out⟩, ⟨by rw [UP.out]; first | exact R8.out | (have e_ := R8.out; simpa [Bst.round, Bst.loud, Bst.still, KM.out, KE.out, KL.out, HCW.out, x0, x2] using e_)⟩⟩
      case measure => (have a2 := HLT2.out; simp only [intOf]; omega)
     skip
     have e1 : (((k : Int) + 1) == (n : Int)) = false := beq_eq_false_iff_ne.mpr (by omega)
     have m1 : ((n : Int) < (k : Int) + 1) = True := eq_true (by omega)
     have m2 : (n ≤ k) = True := eq_true (by omega)
     have m3 : ((n : Int) ≤ (k : Int)) = True := eq_true (by omega)
     have KM : Aside0 (min (k + 1) n = if n < k + 1 then n else k + 1) := ⟨by split <;> omega⟩
     have KE : Aside0 ((k + 1 = n) = False) := ⟨by simp; omega⟩
     have KL : Aside0 ((n < k + 1) = True) := ⟨by simp; omega⟩
     clear kk
     go_wp2_with (first | ((with_reducible refine zgd (N := 16) rfl ?_); refine box_event ?hg (N := 16) ?hd (cs := #[.int .i64 0, .int .i64 0, .bool false, .bool false]) (t := 168) ?hr ?_; (case hd => rfl); (case hg => rfl); (case hr => first | (go_simp; done) | (go_simp; rfl)); intro q hq w7 k16 hb; have LQ : Aside0 (q ≠ G) := ⟨by rw [hq]; exact Ne.symm (Nat.ne_of_lt (blk_lt HR.out.hr))⟩; have hqb := zbs (j := 3) (v := .bool true) (zbs (j := 2) (v := .bool slo) (zbs (j := 1) (v := .int .i64 sf) (zbs (j := 0) (v := .int .i64 sc) hb (Nat.le_of_eq hq.symm)) (Nat.le_of_eq hq.symm)) (Nat.le_of_eq hq.symm)) (Nat.le_of_eq hq.symm); have R8 := zam (HR.out.step hqb); have KQ := zam (blk_set (blk_set (blk_set (blk_set k16 0 (.int .i64 sc)) 1 (.int .i64 sf)) 2 (.bool slo)) 3 (.bool true)); have hq0 : w7.cell? ⟨q, 0, none⟩ = some (.int .i64 0) := zkc k16 0; have hq1 : w7.cell? ⟨q, 1, none⟩ = some (.int .i64 0) := zkc k16 1; have hq2 : w7.cell? ⟨q, 2, none⟩ = some (.bool false) := zkc k16 2; have hq3 : w7.cell? ⟨q, 3, none⟩ = some (.bool false) := zkc k16 3; have hqf0 := zkz k16 0; have hqf1 := zkz k16 1; have hqf2 := zkz k16 2; have hqf3 := zkz k16 3; clear hq k16 hb hqb hs0 hs1 hs2 hs3) | (go_at_call 130; (with_reducible refine (bst_put' val fv HVV.out (n) _ _ _ _ _ (by omega) (by omega) HN.out (by first | exact hul.out | (rw [Bst.put_len]; exact hul.out)) R8.out).mono ?_); rintro e w9 ⟨v, rfl, hg, hr⟩; have R9 := zam (R8.out.put hg hr); have KQ9 := zam (blk_grown KQ.out hg (fun e => LQ.out (zsi e))); clear R8 KQ hg hr; have R8 := R9; have KQ := KQ9; clear R9 KQ9; have hq0 : w9.cell? ⟨q, 0, none⟩ = some (.int .i64 sc) := zkc KQ.out 0) | (go_at_call 130; (with_reducible refine (bst_put' val fv HVV.out (0) _ _ _ _ _ (by omega) (by omega) HN.out (by first | exact hul.out | (rw [Bst.put_len]; exact hul.out)) R8.out).mono ?_); rintro e w9 ⟨v, rfl, hg, hr⟩; have R9 := zam (R8.out.put hg hr); have KQ9 := zam (blk_grown KQ.out hg (fun e => LQ.out (zsi e))); clear R8 KQ hg hr; have R8 := R9; have KQ := KQ9; clear R9 KQ9; have hq0 : w9.cell? ⟨q, 0, none⟩ = some (.int .i64 sc) := zkc KQ.out 0))
     go_roundw
     case rel => exact ⟨k + 1, by first | rfl | go_num, ⟨HLT2.out⟩, ⟨by rw [UP.out]; first | exact R8.out | (have e_ := R8.out; simpa [Bst.round, Bst.loud, Bst.still, KM.out, KE.out, KL.out, HCW.out, x0, x2] using e_)⟩⟩
     case measure => (have a2 := HLT2.out; simp only [intOf]; omega)
    have hk : k = n + 1 := by have := HK.out; omega
    subst hk
    clear HK hlt
    have d1 : decide (((n + 1 : Nat) : Int) < (n : Int) + 1) = false := zdf (by omega)
    have p0 : ((i : Int) + 1 < (l.length : Int) + 1) = True := eq_true (by have := HLT.out; omega)
    have p5 : ((i : Int) < (l.length : Int)) = True := eq_true (by have := HLT.out; omega)
    have p6 : (i < l.length) = True := eq_true HLT.out
    have p7 : (i + 1 < l.length + 1) = True := eq_true (by have := HLT.out; omega)
    have hib : (i : Int) ≤ 256 := by have := HLT.out; omega
    have TN : Aside0 ((Bst.tc n (l.length + 1) gs).toArray[i + 1]? = some (.slice none 0 0)) := ⟨by
     have hg := HG.out
     have hl := HLT.out
     unfold Bst.tc
     simp only [List.getElem?_toArray]
     rw [List.getElem?_append_right (by simp; omega)]
     obtain ⟨d, hd⟩ : ∃ d, l.length + 1 - gs.length = d + 1 := ⟨l.length - gs.length, by omega⟩
     rw [hd, List.length_map, hg, Nat.sub_self]
     rfl⟩
    go_wp2_with (first | ((with_reducible refine zgd (N := 96) rfl ?_); refine bst_make (N := 96) ?hg ?hd 166 168 _ _ rfl (n + 1) _ rfl rfl (by first | rfl | (push_cast; rfl) | omega) Try.underlying166 (.agg #[.int .i64 0, .int .i64 0, .bool false, .bool false]) 4 24 bst_info_step (by omega) (by omega) (Bst.flat (List.replicate (n + 1) Bst.zero)) (bst_made_row _) ?_; (case hd => rfl); (case hg => rfl); intro N hN w8 k96 hb; have LN : Aside0 (w.heap.size ≤ N ∧ bt ≠ N ∧ bv ≠ N ∧ bb ≠ N ∧ R ≠ N ∧ G ≠ N ∧ ∀ g ∈ gs, g ≠ N) := ⟨by rw [hN]; exact ⟨HR.out.tab.below.size, Nat.ne_of_lt (blk_lt HR.out.tab.ht), Nat.ne_of_lt (blk_lt HR.out.tab.hv), Nat.ne_of_lt (blk_lt HR.out.tab.hb), Nat.ne_of_lt (blk_lt HR.out.hR), Nat.ne_of_lt (blk_lt HR.out.hr), fun g hg => (by obtain ⟨j, hj⟩ := List.getElem?_of_mem hg; exact Nat.ne_of_lt (blk_lt (HR.out.tab.rows j g hj).2))⟩⟩; have n0_ := zam (HR.out.step hb); have KN := zam k96; clear HR hN k96 hb; have HR := n0_; clear n0_; have hti : w8.cell? ⟨bt, i + 1, none⟩ = some (.slice none 0 0) := (zkc HR.out.tab.ht (i + 1)).trans TN.out; have htf := zkz HR.out.tab.ht (i + 1)))
    clear hti htf p0 p5 p6 p7 d1
    have far8 : ∀ {g : Nat} {cs : Array Value} {t : TypeId}, w8.heap[g]? = some (.cells cs t (0, 0)) → g ≠ bt → (w8.setCell ⟨bt, i + 1, none⟩ (.slice (some ⟨N, 0, none⟩) (n + 1) (n + 1))).heap[g]? = some (.cells cs t (0, 0)) := fun h1 h2 => zkf h1 h2 _
    have KV8 := zam (far8 HR.out.tab.hv (blk_ne HR.out.tab.hv HR.out.tab.ht (by decide)))
    have KB8 := zam (far8 HR.out.tab.hb (blk_ne HR.out.tab.hb HR.out.tab.ht (by decide)))
    have KT8 := zam (blk_put HR.out.tab.ht (i + 1) (.slice (some ⟨N, 0, none⟩) (n + 1) (n + 1)) rfl)
    have KR8 := zam (far8 HR.out.hR (Ne.symm NBR.out))
    have KG8 := zam (far8 HR.out.hr (blk_ne HR.out.hr HR.out.tab.ht (by decide)))
    have KN8 := zam (far8 KN.out (Ne.symm LN.out.2.1))
    have ROWS8 : Aside0 (∀ (j : Nat) (g : Nat), gs[j]? = some g → w.heap.size ≤ g ∧ g ≠ N ∧ (w8.setCell ⟨bt, i + 1, none⟩ (.slice (some ⟨N, 0, none⟩) (n + 1) (n + 1))).heap[g]? = some (.cells (Bst.flat (Bst.tab val n l j)).toArray 168 (0, 0))) := ⟨fun j g hj => ⟨(HR.out.tab.rows j g hj).1, LN.out.2.2.2.2.2.2 g (List.mem_of_getElem? hj), far8 (HR.out.tab.rows j g hj).2 (blk_ne (HR.out.tab.rows j g hj).2 HR.out.tab.ht (by decide))⟩⟩
    have HB8 := zam (zbs (j := i + 1) (v := .slice (some ⟨N, 0, none⟩) (n + 1) (n + 1)) HR.out.tab.below LT.out)
    have hA := (zkc KT8.out (i + 1)).trans (show _ = some (Value.slice (some ⟨N, 0, none⟩) (n + 1) (n + 1)) by rw [Array.getElem?_setIfInBounds_self]; have hg := HG.out; have e_ := Bst.tc_length n (l.length + 1) gs (by have := HLT.out; omega); have hl_ := HLT.out; rw [if_pos (by rw [List.size_toArray, e_]; omega)])
    have hB : (w8.setCell ⟨bt, i + 1, none⟩ (.slice (some ⟨N, 0, none⟩) (n + 1) (n + 1))).cell? ⟨R, 0, none⟩ = some (.slice (some ⟨G, 0, none⟩) (n + 1) (n + 1)) := zkc KR8.out 0
    clear far8 HR KN
    generalize (w8.setCell _ _) = W8 at *
    refine wp_region_still_tail 6 (by kernel_rfl) (by kernel_rfl) ?_
    simp only [List.take_succ_cons, List.take_zero, List.drop_succ_cons, List.drop_zero]
    have KV9 : Aside0 (W8.drew.heap[bv]? = some (.cells #[.func (.func fv) #[] #[]] 149 (0, 0))) := KV8
    have KB9 : Aside0 (W8.drew.heap[bb]? = some (.cells #[.func (.func 114) #[] #[]] 150 (0, 0))) := KB8
    have KT9 : Aside0 (W8.drew.heap[bt]? = some (.cells ((Bst.tc n (l.length + 1) gs).toArray.setIfInBounds (i + 1) (.slice (some ⟨N, 0, none⟩) (n + 1) (n + 1))) 166 (0, 0))) := KT8
    have KG9 : Aside0 (W8.drew.heap[G]? = some (.cells (Bst.flat (Bst.upto val n xi (Bst.tab val n l i) (n + 1))).toArray 168 (0, 0))) := KG8
    have KN9 : Aside0 (W8.drew.heap[N]? = some (.cells (Bst.flat (List.replicate (n + 1) Bst.zero)).toArray 168 (0, 0))) := KN8
    have ROWS9 : Aside0 (∀ (j : Nat) (g : Nat), gs[j]? = some g → w.heap.size ≤ g ∧ g ≠ N ∧ W8.drew.heap[g]? = some (.cells (Bst.flat (Bst.tab val n l j)).toArray 168 (0, 0))) := ROWS8
    have HB9 : Aside0 (Below w.heap.size w W8.drew) := ⟨⟨HB8.out.os, HB8.out.tape, HB8.out.output, HB8.out.size, HB8.out.block⟩⟩
    have hA9 : W8.drew.cell? ⟨bt, i + 1, none⟩ = some (.slice (some ⟨N, 0, none⟩) (n + 1) (n + 1)) := hA
    have hB9 : W8.drew.cell? ⟨R, 0, none⟩ = some (.slice (some ⟨G, 0, none⟩) (n + 1) (n + 1)) := hB
    clear KV8 KB8 KT8 KR8 KG8 KN8 ROWS8 HB8 hA hB
    have e9 : ({ heap := W8.heap, tape := W8.tape, drawn := W8.drawn + 1, os := W8.os, output := W8.output } : World) = W8.drew := rfl
    rw [e9]
    clear e9
    generalize W8.drew = W9 at *
    have p0 : ((i : Int) + 1 < (l.length : Int) + 1) = True := eq_true (by have := HLT.out; omega)
    have p5 : ((i : Int) < (l.length : Int)) = True := eq_true (by have := HLT.out; omega)
    have p6 : (i < l.length) = True := eq_true HLT.out
    have p7 : (i + 1 < l.length + 1) = True := eq_true (by have := HLT.out; omega)
    have hw1 : IntKind.i64.wrap ((i : Int) + 1) = (i : Int) + 1 := by rw [i64_w, wrap_id (by omega) (by omega)]
    have hw2 : (0 ≤ (i : Int) + 1) = True := eq_true (by omega)
    have hw3 : ((i : Int) + 1).toNat = i + 1 := by omega
    repeat still_step
    refine wpStill_nil ?_
    have CS1 := zam (Bst.flat_one (Bst.upto val n xi (Bst.tab val n l i) (n + 1)))
    have CS2 := zam (Bst.flat_length (Bst.upto val n xi (Bst.tab val n l i) (n + 1)))
    have CS3 := zam (Bst.upto_len val n xi (Bst.tab val n l i) (n + 1))
    refine bst_copy rfl (.tmp 102) (.tmp 103) 166 166 rfl 168 Try.underlying166 4 ?hinfo N (n + 1) (n + 1) ⟨G, 0, none⟩ (n + 1) (n + 1) rfl rfl _ _ KN9.out (Bst.flat (Bst.upto val n xi (Bst.tab val n l i) (n + 1))) ?hn ?hsrc ?hfit CS1.out ?_
    case hinfo => have e_ := bst_info_step; revert e_; cases Try.prog.info? 168 <;> simp; intro a b c; exact b
    case hn => rw [CS2.out, CS3.out]; simp
    case hsrc =>
     intro j v hj
     have hadd : (⟨G, 0, none⟩ : Addr).add j = ⟨G, 0 + j, none⟩ := by unfold Addr.add; split <;> simp_all
     rw [hadd, Nat.zero_add]
     exact (zkc KG9.out j).trans (by simpa using hj)
    case hfit => simp [CS2.out, CS3.out, Bst.flat_length]
    have T2 : Aside0 (Bst.Tab fv val n l w bv bb bt (gs ++ [N]) (W9.setRow N (Bst.flat (Bst.upto val n xi (Bst.tab val n l i) (n + 1))).toArray)) := by
     refine ⟨⟨below_setRow HB9.out LN.out.1 _, (setRow_other _ _ _ _ LN.out.2.2.1).trans KV9.out, (setRow_other _ _ _ _ LN.out.2.2.2.1).trans KB9.out, ((setRow_other _ _ _ _ LN.out.2.1).trans KT9.out).trans ?_, LT.out, fun j g hj => ?_⟩⟩
     ·have e_ := Bst.tc_set n (l.length + 1) gs N (by have := HG.out; have := HLT.out; omega)
      rw [HG.out] at e_
      rw [← e_]
      simp [Bst.sl]
     by_cases hjl : j < gs.length
     ·rw [List.getElem?_append_left hjl] at hj
      obtain ⟨a1, a2, a3⟩ := ROWS9.out j g hj
      exact ⟨a1, (setRow_other _ _ _ _ a2).trans a3⟩
     rw [List.getElem?_append_right (by omega)] at hj
     have hj2 : j - gs.length = 0 := by
      apply Decidable.byContradiction
      intro hne
      rw [List.getElem?_eq_none (by simp; omega)] at hj
      cases hj
     rw [hj2] at hj
     obtain rfl : N = g := by simpa using hj
     have hji : j = i + 1 := by have := HG.out; omega
     subst hji
     refine ⟨LN.out.1, (setRow_heap _ _ _ _ _ _ KN9.out).trans ?_⟩
     rw [Bst.tab, ← HXI.out]
     rfl
    clear KV9 KB9 KT9 KG9 KN9 ROWS9 HB9 hA9 hB9
    generalize (W9.setRow N _) = W10 at *
    go_wp2
    go_roundw
    case rel => exact ⟨i + 1, gs ++ [N], by first | rfl | go_num, ⟨HLT.out⟩, ⟨by rw [List.length_append, HG.out]; rfl⟩, T2⟩
    case measure => (have a2 := HLT.out; simp only [intOf]; omega)
  have hil : i = l.length := by have := HI.out; omega
  subst hil
  have d1 : decide ((l.length : Int) < (l.length : Int)) = false := zdf (by omega)
  clear HI hi hlt
  have GL : Aside0 (l.length < gs.length) := ⟨by have := HG.out; omega⟩
  have hti : wr.cell? ⟨bt, l.length, none⟩ = some (.slice (some ⟨gs[l.length]'GL.out, 0, none⟩) (n + 1) (n + 1)) := (zkc HT.out.ht l.length).trans (by have e_ := Bst.tc_get n (l.length + 1) gs l.length GL.out; unfold Bst.sl at e_; simpa using e_)
  go_wp2
  clear hti
  obtain ⟨gl, hgl⟩ : ∃ gl, gl = gs[l.length]'GL.out := ⟨_, rfl⟩
  have HGL : Aside0 (gs[l.length]? = some gl) := ⟨by rw [hgl]; exact List.getElem?_eq_getElem GL.out⟩
  rw [← hgl]
  clear hgl
  have T1 := HT
  go_loopw [18, 112] (fun v18 v wr => ∃ k : Nat, v = .int .i64 (k : Int) ∧ v18 = .int .i64 (Bst.last val (Bst.tab val n l l.length) k) ∧ Aside0 (k ≤ n + 1) ∧ Aside0 (Bst.Tab fv val n l w bv bb bt gs wr)) (fun _ v _ => n + 1 - (intOf v).toNat)
  case atStart => exact ⟨0, rfl, rfl, ⟨Nat.zero_le _⟩, HT⟩
  case round =>
   clear HT T1
   obtain ⟨k, rfl, rfl, HK, HT⟩ := hrel
   by_cases hlt : k < n + 1
   ·have d1 : decide ((k : Int) < (n : Int) + 1) = true := zdt (by omega)
    have p1 : ((k : Int) < (n : Int) + 1) = True := eq_true (by omega)
    have p2 : (k < n + 1) = True := eq_true hlt
    have HLT2 := zam hlt
    have hkn : (k : Int) ≤ 256 := by omega
    have hrow := (HT.out.rows l.length gl HGL.out).2
    obtain ⟨c0, c1, c2, c3⟩ := Bst.flat_get (Bst.tab val n l l.length) k (by rw [Bst.tab_len]; exact hlt)
    have hs0 := (zkc hrow (k * 4)).trans ((List.getElem?_toArray).trans c0)
    have hs1 := (zkc hrow (k * 4 + 1)).trans ((List.getElem?_toArray).trans c1)
    have hs2 := (zkc hrow (k * 4 + 2)).trans ((List.getElem?_toArray).trans c2)
    have hs3 := (zkc hrow (k * 4 + 3)).trans ((List.getElem?_toArray).trans c3)
    have UP : Aside0 (Bst.last val (Bst.tab val n l l.length) (k + 1) = if (Bst.get (Bst.tab val n l l.length) k).there = false then Bst.last val (Bst.tab val n l l.length) k else if Bst.last val (Bst.tab val n l l.length) k < 0 then (k : Int) else if val (Bst.get (Bst.tab val n l l.length) k).calls < val (Bst.get (Bst.tab val n l l.length) (Bst.last val (Bst.tab val n l l.length) k).toNat).calls then (k : Int) else Bst.last val (Bst.tab val n l l.length) k) := ⟨rfl⟩
    have hll := Bst.last_lt val (Bst.tab val n l l.length) k
    have hel : ∀ e : Nat, e < n + 1 → Aside0 (∃ ec, Bst.get (Bst.tab val n l l.length) e = ec) := fun e _ => ⟨_, rfl⟩
    generalize Bst.last val (Bst.tab val n l l.length) k = e at *
    generalize hgk : Bst.get (Bst.tab val n l l.length) k = s at *
    have HGK := zam hgk
    obtain ⟨sc, sf, slo, sth⟩ := s
    dsimp only at hs0 hs1 hs2 hs3
    clear c0 c1 c2 c3 hrow hlt hgk hel
    cases sth
    ·clear hll
     go_wp2_with (first | ((with_reducible refine zgd (N := 20) rfl ?_); refine box_event ?hg (N := 20) ?hd (cs := #[.int .i64 0, .int .i64 0, .bool false, .bool false]) (t := 168) ?hr ?_; (case hd => rfl); (case hg => rfl); (case hr => first | (go_simp; done) | (go_simp; rfl)); intro q hq w7 k16 hb; have hqb := zbs (j := 3) (v := .bool false) (zbs (j := 2) (v := .bool slo) (zbs (j := 1) (v := .int .i64 sf) (zbs (j := 0) (v := .int .i64 sc) hb (Nat.le_of_eq hq.symm)) (Nat.le_of_eq hq.symm)) (Nat.le_of_eq hq.symm)) (Nat.le_of_eq hq.symm); have T8 := zam (HT.out.step hqb); have KQ := zam (blk_set (blk_set (blk_set (blk_set k16 0 (.int .i64 sc)) 1 (.int .i64 sf)) 2 (.bool slo)) 3 (.bool false)); have hq0 : w7.cell? ⟨q, 0, none⟩ = some (.int .i64 0) := zkc k16 0; have hq1 : w7.cell? ⟨q, 1, none⟩ = some (.int .i64 0) := zkc k16 1; have hq2 : w7.cell? ⟨q, 2, none⟩ = some (.bool false) := zkc k16 2; have hq3 : w7.cell? ⟨q, 3, none⟩ = some (.bool false) := zkc k16 3; have hqf0 := zkz k16 0; have hqf1 := zkz k16 1; have hqf2 := zkz k16 2; have hqf3 := zkz k16 3; clear hq k16 hb hqb))
     clear hq0 hq1 hq2 hq3 hqf0 hqf1 hqf2 hqf3 hs0 hs1 hs2 hs3
     have hq0 := (zkc KQ.out 0).trans (show _ = some (Value.int .i64 sc) from rfl)
     have hq1 := (zkc KQ.out 1).trans (show _ = some (Value.int .i64 sf) from rfl)
     have hq2 := (zkc KQ.out 2).trans (show _ = some (Value.bool slo) from rfl)
     have hq3 := (zkc KQ.out 3).trans (show _ = some (Value.bool false) from rfl)
     clear KQ
     generalize (((w7.setCell _ _).setCell _ _).setCell _ _).setCell _ _ = W8 at *
     go_quiet (fail)
     go_wp2
     go_roundw
     case rel => exact ⟨k + 1, by first | rfl | go_num, by rw [UP.out]; first | rw [if_pos trivial] | rw [if_pos rfl], ⟨HLT2.out⟩, ⟨T8.out.step ⟨rfl, rfl, rfl, Nat.le_refl _, fun _ _ => rfl⟩⟩⟩
     case measure => (have a2 := HLT2.out; simp only [intOf]; omega)
    by_cases he : e < 0
    ·have HE := zam he
     have z1 : decide (e < 0) = true := zdt he
     clear hll he
     go_wp2_with (first | ((with_reducible refine zgd (N := 20) rfl ?_); refine box_event ?hg (N := 20) ?hd (cs := #[.int .i64 0, .int .i64 0, .bool false, .bool false]) (t := 168) ?hr ?_; (case hd => rfl); (case hg => rfl); (case hr => first | (go_simp; done) | (go_simp; rfl)); intro q hq w7 k16 hb; have hqb := zbs (j := 3) (v := .bool true) (zbs (j := 2) (v := .bool slo) (zbs (j := 1) (v := .int .i64 sf) (zbs (j := 0) (v := .int .i64 sc) hb (Nat.le_of_eq hq.symm)) (Nat.le_of_eq hq.symm)) (Nat.le_of_eq hq.symm)) (Nat.le_of_eq hq.symm); have T8 := zam (HT.out.step hqb); have KQ := zam (blk_set (blk_set (blk_set (blk_set k16 0 (.int .i64 sc)) 1 (.int .i64 sf)) 2 (.bool slo)) 3 (.bool true)); have hq0 : w7.cell? ⟨q, 0, none⟩ = some (.int .i64 0) := zkc k16 0; have hq1 : w7.cell? ⟨q, 1, none⟩ = some (.int .i64 0) := zkc k16 1; have hq2 : w7.cell? ⟨q, 2, none⟩ = some (.bool false) := zkc k16 2; have hq3 : w7.cell? ⟨q, 3, none⟩ = some (.bool false) := zkc k16 3; have hqf0 := zkz k16 0; have hqf1 := zkz k16 1; have hqf2 := zkz k16 2; have hqf3 := zkz k16 3; clear hq k16 hb hqb))
     clear hq0 hq1 hq2 hq3 hqf0 hqf1 hqf2 hqf3 hs0 hs1 hs2 hs3
     have hq0 := (zkc KQ.out 0).trans (show _ = some (Value.int .i64 sc) from rfl)
     have hq1 := (zkc KQ.out 1).trans (show _ = some (Value.int .i64 sf) from rfl)
     have hq2 := (zkc KQ.out 2).trans (show _ = some (Value.bool slo) from rfl)
     have hq3 := (zkc KQ.out 3).trans (show _ = some (Value.bool true) from rfl)
     clear KQ
     generalize (((w7.setCell _ _).setCell _ _).setCell _ _).setCell _ _ = W8 at *
     go_quiet (fail)
     go_wp2
     go_roundw
     case rel => exact ⟨k + 1, by first | rfl | go_num, by rw [UP.out, if_neg (show ¬ (true = false) by decide), if_pos HE.out], ⟨HLT2.out⟩, ⟨T8.out.step ⟨rfl, rfl, rfl, Nat.le_refl _, fun _ _ => rfl⟩⟩⟩
     case measure => (have a2 := HLT2.out; simp only [intOf]; omega)
    obtain ⟨eN, rfl⟩ : ∃ eN : Nat, e = (eN : Int) := ⟨e.toNat, by omega⟩
    have hen : eN < n + 1 := by have := HLT2.out; omega
    have z1 : decide ((eN : Int) < 0) = false := zdf he
    have z2 : ((eN : Int) < 0) = False := eq_false he
    have z3 : ((eN : Int) < (n : Int) + 1) = True := eq_true (by omega)
    have z4 : (eN < n + 1) = True := eq_true hen
    have hrow := (HT.out.rows l.length gl HGL.out).2
    have HEC := zam ((Bst.flat_get (Bst.tab val n l l.length) eN (by rw [Bst.tab_len]; exact hen)).1)
    have UP2 : Aside0 (Bst.last val (Bst.tab val n l l.length) (k + 1) = if val sc < val (Bst.get (Bst.tab val n l l.length) eN).calls then (k : Int) else (eN : Int)) := ⟨by rw [UP.out, if_neg (show ¬ (true = false) by decide), if_neg he, Int.toNat_natCast]⟩
    generalize (Bst.get (Bst.tab val n l l.length) eN).calls = ec at *
    clear hll he UP hrow hen
    by_cases hb : val sc < val ec
    ·have d2 : decide (val sc < val ec) = true := zdt hb
     have UP : Aside0 (Bst.last val (Bst.tab val n l l.length) (k + 1) = (k : Int)) := ⟨by rw [UP2.out, if_pos hb]⟩
     clear hb UP2
     rcases HVV.out.1 with rfl | rfl
     all_goals
      go_wp2_with (first | ((with_reducible refine zgd (N := 20) rfl ?_); refine box_event ?hg (N := 20) ?hd (cs := #[.int .i64 0, .int .i64 0, .bool false, .bool false]) (t := 168) ?hr ?_; (case hd => rfl); (case hg => rfl); (case hr => first | (go_simp; done) | (go_simp; rfl)); intro q hq w7 k16 hb; have hqb := zbs (j := 3) (v := .bool true) (zbs (j := 2) (v := .bool slo) (zbs (j := 1) (v := .int .i64 sf) (zbs (j := 0) (v := .int .i64 sc) hb (Nat.le_of_eq hq.symm)) (Nat.le_of_eq hq.symm)) (Nat.le_of_eq hq.symm)) (Nat.le_of_eq hq.symm); have T8 := zam (HT.out.step hqb); have KQ := zam (blk_set (blk_set (blk_set (blk_set k16 0 (.int .i64 sc)) 1 (.int .i64 sf)) 2 (.bool slo)) 3 (.bool true)); have hq0 : w7.cell? ⟨q, 0, none⟩ = some (.int .i64 0) := zkc k16 0; have hq1 : w7.cell? ⟨q, 1, none⟩ = some (.int .i64 0) := zkc k16 1; have hq2 : w7.cell? ⟨q, 2, none⟩ = some (.bool false) := zkc k16 2; have hq3 : w7.cell? ⟨q, 3, none⟩ = some (.bool false) := zkc k16 3; have hqf0 := zkz k16 0; have hqf1 := zkz k16 1; have hqf2 := zkz k16 2; have hqf3 := zkz k16 3; clear hq k16 hb hqb))
      clear hq0 hq1 hq2 hq3 hqf0 hqf1 hqf2 hqf3 hs0 hs1 hs2 hs3
      have hq0 := (zkc KQ.out 0).trans (show _ = some (Value.int .i64 sc) from rfl)
      have hq1 := (zkc KQ.out 1).trans (show _ = some (Value.int .i64 sf) from rfl)
      have hq2 := (zkc KQ.out 2).trans (show _ = some (Value.bool slo) from rfl)
      have hq3 := (zkc KQ.out 3).trans (show _ = some (Value.bool true) from rfl)
      clear KQ
      generalize (((w7.setCell _ _).setCell _ _).setCell _ _).setCell _ _ = W8 at *
      have hti : W8.cell? ⟨bt, l.length, none⟩ = some (.slice (some ⟨gl, 0, none⟩) (n + 1) (n + 1)) := (zkc T8.out.ht l.length).trans (by have e_ := Bst.tc_get n (l.length + 1) gs l.length GL.out; unfold Bst.sl at e_; rw [List.getElem?_toArray, e_]; have e2_ := HGL.out; rw [List.getElem?_eq_getElem GL.out] at e2_; rw [zsi e2_])
      have hec : W8.cell? ⟨gl, eN * 4, none⟩ = some (.int .i64 ec) := (zkc (T8.out.rows l.length gl HGL.out).2 (eN * 4)).trans ((List.getElem?_toArray).trans HEC.out)
      have hvb : W8.cell? ⟨bv, 0, none⟩ = some (.func (.func _) #[] #[]) := zkc T8.out.hv 0
      have hbb : W8.cell? ⟨bb, 0, none⟩ = some (.func (.func _) #[] #[]) := zkc T8.out.hb 0
      have p5 : ((l.length : Int) < (l.length : Int) + 1) = True := eq_true (by omega)
      have p6 : (l.length < l.length + 1) = True := eq_true (by omega)
      go_quiet (first | (go_at_call 114; exact Calls.quiet_of_same (bst_less _ _ _)) | exact Calls.quiet_of_same (HVV.out.2 _ _))
      go_wp2
      go_roundw
      case rel => exact ⟨k + 1, by first | rfl | go_num, by rw [UP.out], ⟨HLT2.out⟩, ⟨T8.out.step ⟨rfl, rfl, rfl, Nat.le_refl _, fun _ _ => rfl⟩⟩⟩
      case measure => (have a2 := HLT2.out; simp only [intOf]; omega)
    have d2 : decide (val sc < val ec) = false := zdf hb
    have UP : Aside0 (Bst.last val (Bst.tab val n l l.length) (k + 1) = (eN : Int)) := ⟨by rw [UP2.out, if_neg hb]⟩
    clear hb UP2
    rcases HVV.out.1 with rfl | rfl
    all_goals
     go_wp2_with (first | ((with_reducible refine zgd (N := 20) rfl ?_); refine box_event ?hg (N := 20) ?hd (cs := #[.int .i64 0, .int .i64 0, .bool false, .bool false]) (t := 168) ?hr ?_; (case hd => rfl); (case hg => rfl); (case hr => first | (go_simp; done) | (go_simp; rfl)); intro q hq w7 k16 hb; have hqb := zbs (j := 3) (v := .bool true) (zbs (j := 2) (v := .bool slo) (zbs (j := 1) (v := .int .i64 sf) (zbs (j := 0) (v := .int .i64 sc) hb (Nat.le_of_eq hq.symm)) (Nat.le_of_eq hq.symm)) (Nat.le_of_eq hq.symm)) (Nat.le_of_eq hq.symm); have T8 := zam (HT.out.step hqb); have KQ := zam (blk_set (blk_set (blk_set (blk_set k16 0 (.int .i64 sc)) 1 (.int .i64 sf)) 2 (.bool slo)) 3 (.bool true)); have hq0 : w7.cell? ⟨q, 0, none⟩ = some (.int .i64 0) := zkc k16 0; have hq1 : w7.cell? ⟨q, 1, none⟩ = some (.int .i64 0) := zkc k16 1; have hq2 : w7.cell? ⟨q, 2, none⟩ = some (.bool false) := zkc k16 2; have hq3 : w7.cell? ⟨q, 3, none⟩ = some (.bool false) := zkc k16 3; have hqf0 := zkz k16 0; have hqf1 := zkz k16 1; have hqf2 := zkz k16 2; have hqf3 := zkz k16 3; clear hq k16 hb hqb))
     clear hq0 hq1 hq2 hq3 hqf0 hqf1 hqf2 hqf3 hs0 hs1 hs2 hs3
     have hq0 := (zkc KQ.out 0).trans (show _ = some (Value.int .i64 sc) from rfl)
     have hq1 := (zkc KQ.out 1).trans (show _ = some (Value.int .i64 sf) from rfl)
     have hq2 := (zkc KQ.out 2).trans (show _ = some (Value.bool slo) from rfl)
     have hq3 := (zkc KQ.out 3).trans (show _ = some (Value.bool true) from rfl)
     clear KQ
     generalize (((w7.setCell _ _).setCell _ _).setCell _ _).setCell _ _ = W8 at *
     have hti : W8.cell? ⟨bt, l.length, none⟩ = some (.slice (some ⟨gl, 0, none⟩) (n + 1) (n + 1)) := (zkc T8.out.ht l.length).trans (by have e_ := Bst.tc_get n (l.length + 1) gs l.length GL.out; unfold Bst.sl at e_; rw [List.getElem?_toArray, e_]; have e2_ := HGL.out; rw [List.getElem?_eq_getElem GL.out] at e2_; rw [zsi e2_])
     have hec : W8.cell? ⟨gl, eN * 4, none⟩ = some (.int .i64 ec) := (zkc (T8.out.rows l.length gl HGL.out).2 (eN * 4)).trans ((List.getElem?_toArray).trans HEC.out)
     have hvb : W8.cell? ⟨bv, 0, none⟩ = some (.func (.func _) #[] #[]) := zkc T8.out.hv 0
     have hbb : W8.cell? ⟨bb, 0, none⟩ = some (.func (.func _) #[] #[]) := zkc T8.out.hb 0
     have p5 : ((l.length : Int) < (l.length : Int) + 1) = True := eq_true (by omega)
     have p6 : (l.length < l.length + 1) = True := eq_true (by omega)
     go_quiet (first | (go_at_call 114; exact Calls.quiet_of_same (bst_less _ _ _)) | exact Calls.quiet_of_same (HVV.out.2 _ _))
     go_wp2
     go_roundw
     case rel => exact ⟨k + 1, by first | rfl | go_num, by rw [UP.out], ⟨HLT2.out⟩, ⟨T8.out.step ⟨rfl, rfl, rfl, Nat.le_refl _, fun _ _ => rfl⟩⟩⟩
     case measure => (have a2 := HLT2.out; simp only [intOf]; omega)
   have hk : k = n + 1 := by have := HK.out; omega
   subst hk
   clear HK hlt
   have d1 : decide (((n + 1 : Nat) : Int) < (n : Int) + 1) = false := zdf (by omega)
   have h := H.out
   unfold Bst.best at h
   have hll := Bst.last_lt val (Bst.tab val n l l.length) (n + 1)
   generalize Bst.last val (Bst.tab val n l l.length) (n + 1) = e at *
   by_cases he : e < 0
   ·rw [if_pos he] at h
    cases h
   rw [if_neg he] at h
   obtain ⟨b1, hb1, h⟩ := Option.bind_eq_some_iff.mp h
   simp only [Option.some.injEq, Prod.mk.injEq] at h
   obtain ⟨rfl, hr⟩ := h
   obtain ⟨eN, rfl⟩ : ∃ eN : Nat, e = (eN : Int) := ⟨e.toNat, by omega⟩
   have hen : eN < n + 1 := by omega
   rw [Int.toNat_natCast] at hr
   have hrow := (HT.out.rows l.length gl HGL.out).2
   have hec := (zkc hrow (eN * 4)).trans ((List.getElem?_toArray).trans (Bst.flat_get (Bst.tab val n l l.length) eN (by rw [Bst.tab_len]; exact hen)).1)
   rw [hr] at hec
   have hti : wr.cell? ⟨bt, l.length, none⟩ = some (.slice (some ⟨gl, 0, none⟩) (n + 1) (n + 1)) := (zkc HT.out.ht l.length).trans (by have e_ := Bst.tc_get n (l.length + 1) gs l.length GL.out; unfold Bst.sl at e_; rw [List.getElem?_toArray, e_]; have e2_ := HGL.out; rw [List.getElem?_eq_getElem GL.out] at e2_; rw [zsi e2_])
   have p1 : ((eN : Int) < (n : Int) + 1) = True := eq_true (by omega)
   have p2 : (eN < n + 1) = True := eq_true hen
   have p5 : ((l.length : Int) < (l.length : Int) + 1) = True := eq_true (by omega)
   have p6 : (l.length < l.length + 1) = True := eq_true (by omega)
   have HB1 := zam hb1
   clear hb1 hr hrow hll he hen H
   go_wp2_with (first | ((with_reducible refine zgd (N := 155) rfl ?_); refine bst_make (N := 155) ?hg ?hd 71 4 _ _ rfl (l.length) _ rfl rfl (by first | rfl | (push_cast; rfl) | omega) Try.underlying71 (.bool false) 1 1 bst_info_bool (by omega) (by omega) ((List.replicate l.length false).map Value.bool) (bst_made_bools _) ?_; (case hd => rfl); (case hg => rfl); intro C hC w9 k155 hb; have LC : Aside0 (w.heap.size ≤ C) := ⟨by rw [hC]; exact HT.out.below.size⟩; have n0_ := zam (HT.out.step hb); have KC := zam k155; clear HT hC k155 hb; have HT := n0_; clear n0_))
   clear hec hti p1 p2 p5 p6 d1
   have H0 : Aside0 (b1.length = l.length) := ⟨Bst.back_len HB1.out⟩
   go_loopw [18, 23] (fun v18 v wr => ∃ (m : Nat) (e : Int) (c1 c2 : List Bool), v = .int .i64 (m : Int) ∧ v18 = .int .i64 e ∧ Aside0 (m ≤ l.length) ∧ Aside0 (Bst.back (Bst.tab val n l) n m e = some c1) ∧ Aside0 (b1 = c1 ++ c2 ∧ c1.length = m) ∧ Aside0 (wr.heap[C]? = some (.cells ((List.replicate m false ++ c2).map Value.bool).toArray 4 (0, 0))) ∧ Aside0 (Bst.Tab fv val n l w bv bb bt gs wr)) (fun _ v _ => (intOf v).toNat)
   case atStart => exact ⟨l.length, (eN : Int), b1, [], rfl, rfl, ⟨Nat.le_refl _⟩, HB1, ⟨by simp, Bst.back_len HB1.out⟩, ⟨by rw [List.append_nil]; exact KC.out⟩, HT⟩
   case round =>
    clear HB1 KC HT
    obtain ⟨m, e, c1, c2, rfl, rfl, HM, HBK, HC12, KC, HT⟩ := hrel
    by_cases hm0 : m = 0
    ·subst hm0
     have hbk := HBK.out
     rw [Bst.back, Option.some.injEq] at hbk
     subst hbk
     obtain ⟨rfl, -⟩ := HC12.out
     rw [List.nil_append] at HC12
     clear HBK HC12 HM
     go_wp2
     go_ret2
     refine ⟨.slice (some ⟨C, 0, none⟩) l.length l.length, rfl, Kd.R_of_own ?_ (fun _ _ => trivial), HT.out.below⟩
     have hbl : b1.length = l.length := by
      have h := H0.out
      exact h
     refine ⟨by simp [encs], .inr ⟨C, l.length, (b1.map Value.bool).toArray, by rw [hbl], LC.out, by simpa using KC.out, Nat.le_of_eq hbl, ?_, by simp [hbl], ?_⟩⟩
     ·have := HLEN.out
      simp [maxLen]
      omega
     simp [encs, List.take_of_length_le]
    obtain ⟨p, rfl⟩ : ∃ p, m = p + 1 := ⟨m - 1, by omega⟩
    have hbk := HBK.out
    rw [Bst.back] at hbk
    by_cases hc : 0 ≤ e ∧ e < (n : Int) + 1
    ·rw [if_pos hc] at hbk
     obtain ⟨eN, rfl⟩ : ∃ eN : Nat, e = (eN : Int) := ⟨e.toNat, by omega⟩
     have hen : eN < n + 1 := by omega
     rw [Int.toNat_natCast] at hbk
     obtain ⟨b0, hb0, hbk⟩ := Option.bind_eq_some_iff.mp hbk
     rw [Option.some.injEq] at hbk
     have HM1 : Aside0 (p + 1 < gs.length) := ⟨by have := HG.out; have := HM.out; omega⟩
     have hrow := (HT.out.rows (p + 1) (gs[p + 1]'HM1.out) (List.getElem?_eq_getElem HM1.out)).2
     obtain ⟨c0, c1_, c2_, c3⟩ := Bst.flat_get (Bst.tab val n l (p + 1)) eN (by rw [Bst.tab_len]; exact hen)
     have hs0 := (zkc hrow (eN * 4)).trans ((List.getElem?_toArray).trans c0)
     have hs1 := (zkc hrow (eN * 4 + 1)).trans ((List.getElem?_toArray).trans c1_)
     have hs2 := (zkc hrow (eN * 4 + 2)).trans ((List.getElem?_toArray).trans c2_)
     have hs3 := (zkc hrow (eN * 4 + 3)).trans ((List.getElem?_toArray).trans c3)
     have hti := (zkc HT.out.ht (p + 1)).trans (show _ = some (Value.slice (some ⟨gs[p + 1]'HM1.out, 0, none⟩) (n + 1) (n + 1)) by have e_ := Bst.tc_get n (l.length + 1) gs (p + 1) HM1.out; unfold Bst.sl at e_; rw [List.getElem?_toArray, e_])
     generalize hgm : gs[p + 1]'HM1.out = gm at *
     generalize hgk : Bst.get (Bst.tab val n l (p + 1)) eN = s at *
     obtain ⟨sc, sf, slo, sth⟩ := s
     dsimp only at hs0 hs1 hs2 hs3 hb0 hbk
     have HB0 := zam hb0
     have HBQ := zam hbk
     clear hb0 hbk c0 c1_ c2_ c3 hrow hgk hgm hc HBK
     obtain ⟨m, hm⟩ : ∃ m : Nat, m = p + 1 := ⟨_, rfl⟩
     have HMP := zam hm
     rw [← hm] at hti ⊢
     have hml : m ≤ l.length := by have := HM.out; omega
     have wm : IntKind.i64.wrap ((m : Int) - 1) = (p : Int) := by rw [i64_w, wrap_id (by omega) (by omega)]; omega
     have q1 : decide (0 < (m : Int)) = true := zdt (by omega)
     have q2 : (0 < m) = True := eq_true (by omega)
     have q3 : ((m : Int) < (l.length : Int) + 1) = True := eq_true (by omega)
     have q4 : (m < l.length + 1) = True := eq_true (by omega)
     have q5 : ((p : Int) < (l.length : Int)) = True := eq_true (by omega)
     have q6 : (p < l.length) = True := eq_true (by omega)
     have q7 : ((eN : Int) < (n : Int) + 1) = True := eq_true (by omega)
     have q8 : (eN < n + 1) = True := eq_true hen
     clear hm hml hen hm0 d1
     go_wp2_with (first | ((with_reducible refine zgd (N := 24) rfl ?_); refine box_event ?hg (N := 24) ?hd (cs := #[.int .i64 0, .int .i64 0, .bool false, .bool false]) (t := 168) ?hr ?_; (case hd => rfl); (case hg => rfl); (case hr => first | (go_simp; done) | (go_simp; rfl)); intro q hq w7 k16 hb; have hqb := zbs (j := 3) (v := .bool sth) (zbs (j := 2) (v := .bool slo) (zbs (j := 1) (v := .int .i64 sf) (zbs (j := 0) (v := .int .i64 sc) hb (Nat.le_of_eq hq.symm)) (Nat.le_of_eq hq.symm)) (Nat.le_of_eq hq.symm)) (Nat.le_of_eq hq.symm); have T8 := zam (HT.out.step hqb); have KC8 := zam (zkb KC.out hqb); have KQ := zam (blk_set (blk_set (blk_set (blk_set k16 0 (.int .i64 sc)) 1 (.int .i64 sf)) 2 (.bool slo)) 3 (.bool sth)); have hq0 : w7.cell? ⟨q, 0, none⟩ = some (.int .i64 0) := zkc k16 0; have hq1 : w7.cell? ⟨q, 1, none⟩ = some (.int .i64 0) := zkc k16 1; have hq2 : w7.cell? ⟨q, 2, none⟩ = some (.bool false) := zkc k16 2; have hq3 : w7.cell? ⟨q, 3, none⟩ = some (.bool false) := zkc k16 3; have hqf0 := zkz k16 0; have hqf1 := zkz k16 1; have hqf2 := zkz k16 2; have hqf3 := zkz k16 3; clear hq k16 hb hqb))
     clear hq0 hq1 hq2 hq3 hqf0 hqf1 hqf2 hqf3 hs0 hs1 hs2 hs3 hti q2 q3 q4 q7 q8
     have hq1 := (zkc KQ.out 1).trans (show _ = some (Value.int .i64 sf) from rfl)
     have hq2 := (zkc KQ.out 2).trans (show _ = some (Value.bool slo) from rfl)
     have hcq : C ≠ q := blk_ne KC8.out KQ.out (by decide)
     have hqc := Ne.symm hcq
     have hcp := (zkc KC8.out p).trans (show _ = some (Value.bool false) by simp [List.getElem?_append_left])
     have hcf := zkz KC8.out p
     clear KQ
     generalize (((w7.setCell _ _).setCell _ _).setCell _ _).setCell _ _ = W8 at *
     try simp only [Act.put, zsa, zsz, zss]
     go_region
     go_wp2
     have T9 : Aside0 (Bst.Tab fv val n l w bv bb bt gs (W8.drew.setCell ⟨C, p, none⟩ (.bool slo))) := ⟨(T8.out.step (W' := W8.drew) ⟨rfl, rfl, rfl, Nat.le_refl _, fun _ _ => rfl⟩).far LC.out (blk_ne T8.out.hv KC8.out (by decide)) (blk_ne T8.out.hb KC8.out (by decide)) (blk_ne T8.out.ht KC8.out (by decide)) (fun g hg => by obtain ⟨j, hj⟩ := List.getElem?_of_mem hg; exact blk_ne (T8.out.rows j g hj).2 KC8.out (by decide)) _ _⟩
     have KC9 : Aside0 ((W8.drew.setCell ⟨C, p, none⟩ (.bool slo)).heap[C]? = some (.cells ((List.replicate p false ++ slo :: c2).map Value.bool).toArray 4 (0, 0))) := ⟨blk_put (w := W8.drew) KC8.out p (.bool slo) (by
      rw [List.replicate_succ', List.append_assoc, List.map_append, List.map_append, List.map_append]
      simp [List.set_append_right])⟩
     go_roundw
     case rel => exact ⟨p, sf, b0, slo :: c2, rfl, rfl, ⟨by have := HM.out; omega⟩, HB0, ⟨by have h := HC12.out; rw [← HBQ.out] at h; rw [h.1]; simp, Bst.back_len HB0.out⟩, KC9, T9⟩
     case measure => (have := HMP.out; simp only [intOf]; omega)
    rw [if_neg hc] at hbk
    cases hbk
def sound_fewest.f (_k : Nat) (l : List Int) (n : Int) : Option (List Bool × Int) := if 0 ≤ n ∧ n ≤ 256 ∧ l.length ≤ 256 then Bst.best (fun c => c) l n.toNat else none
def sound_most.f (_k : Nat) (l : List Int) (n : Int) : Option (List Bool × Int) := if 0 ≤ n ∧ n ≤ 256 ∧ l.length ≤ 256 then Bst.best (fun c => wrap64 (-c)) l n.toNat else none
end Go.Proofs.Ytaheamdoldiojaa.P
