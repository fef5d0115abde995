/- The root of the program. Part 1 of 1. -/
-- Put together by wip/tools/shake.py, a program of this work: out of the words that the kit's print tool (print.sh) writes for a claim and what wip/tools/xprint.py prints, those that this claim reaches, and this work's own texts.
import Derived.Below
import Derived.Deep.Draws
import Derived.Deep.AppendLies
import Derived.Maps.AppendAt
import Derived.OwnWalk
import Derived.Laws.BytesArg
import Derived.Laws.MakeOwn
import Derived.Laws.OwnMore
import Derived.Deep.OwnRows
import Derived.Tactics
import Derived.Lib.ConvBytes
import Derived.Laws.Slices
import Derived.WalkKit
import Derived.KernelRfl
import Derived.RowKit3
import Derived.Deep.LoopGhost
import Derived.Deep.QuietTactic
import Derived.BigQuiet
import Derived.WideLaws
import Derived.Deep.DeepCutAuto
import Derived.Deep.CutBlock
import Derived.Deep.RegionHeld3
import Derived.Laws.Rows
import Derived.Lib.AppendStr
import Derived.ArgAppend
import Derived.Laws.IdiomCopy
import Derived.RowKit
import Derived.OrdersHeld
import Derived.Laws.BitsLemmas
import Derived.Laws.StructEq
import Derived.Test.YtaheamdoldiojaaProg
import Derived.Laws.CopyRow
import Derived.Laws.CopyOwn
import Derived.Outline
import Derived.StillTailTactics
import Derived.RegionTactic
import Derived.BigRegion
import Derived.Laws.EntriesVeiled
import Derived.Laws.Externs
set_option linter.unusedVariables false
set_option linter.unusedSimpArgs false
namespace Go.Proofs.YtaheamdoldiojaaW.PrintWords
open Go.RowKit
structure Aside0 (p : Prop) : Prop where mk :: (out : p)
structure Drawn0 (w w' : World) : Prop where mk :: (out : ∃ n, w' = w.drewN n)
theorem Drawn0.refl (w : World) : Drawn0 w w := ⟨⟨0, rfl⟩⟩
theorem Drawn0.step {w w' : World} (h : Drawn0 w w') (n : Nat) : Drawn0 w (w'.drewN n) := by
 obtain ⟨m, rfl⟩ := h
 exact ⟨⟨m + n, World.drewN_drewN ..⟩⟩
theorem Drawn0.grown {w w' : World} (h : Drawn0 w w') : Grown w w' := by
 obtain ⟨n, rfl⟩ := h
 induction n with
 | zero => exact Grown.refl _
 | succ n ih => rw [← World.drew_drewN]; exact Grown.drew ih
theorem Drawn0.below {w w' : World} (h : Drawn0 w w') : Below w.heap.size w w' := by
 obtain ⟨n, rfl⟩ := h
 induction n with
 | zero => exact Below.refl _ _
 | succ n ih => rw [← World.drew_drewN]; exact ih.drew
def rd (xs : List Int) (i : Int) : Int := xs.getD i.toNat 0
def bt (s : ByteArray) (i : Int) : Int := if h : i.toNat < s.size then ((s[i.toNat]'h).toNat : Int) else 0
theorem below_alloc {w W : World} (h : Below w.heap.size w W) (o : Obj) : Below w.heap.size w (W.alloc o) := h.alloc h.size o
theorem below_then {B : Nat} {w w1 w2 : World} (h : Below B w w1) (hB : B ≤ w1.heap.size) (k : Below w1.heap.size w1 w2) : Below B w w2 :=
 h.trans ⟨k.os, k.tape, k.output, k.size, fun i hi => k.block i (Nat.lt_of_lt_of_le hi hB)⟩
theorem grown_of_below {w w1 : World} (h : Below w.heap.size w w1) (row : Option Nat) : w.grownBy w1 row := ⟨h.os, h.tape, h.output, h.size, fun i hi _ => h.block i hi⟩
theorem pw_cell_below {w w1 : World} (h : Below w.heap.size w w1) {a : Addr} {v : Value} (hc : w.cell? a = some v) : w1.cell? a = some v := (h.cell (World.block_lt_of_cell? w a hc)).trans hc
def ReadsInt (w : World) (k : IntKind) (A : Option Addr) (n : Nat) (xs : List Int) : Prop :=
 xs.length = n ∧ n ≤ 9223372036854775807 ∧ (0 < n → ∃ ad, A = some ad ∧ ∀ j, j < n → w.cell? (ad.add j) = some (.int k (xs.getD j 0)))
theorem ReadsInt.below {w w1 : World} {k : IntKind} {A : Option Addr} {n : Nat} {xs : List Int} (h : ReadsInt w k A n xs) (hb : Below w.heap.size w w1) : ReadsInt w1 k A n xs :=
 ⟨h.1, h.2.1, fun hn => by
  obtain ⟨ad, e, hc⟩ := h.2.2 hn
  exact ⟨ad, e, fun j hj => pw_cell_below hb (hc j hj)⟩⟩
theorem own_base {w : World} {base : Nat} {e : TypeId} {size n : Nat} {v : Value} {xs : List Value} (h : w.ownsRow base e size v n xs) (k : Nat) (hk : v.ownBlock = some k) : base ≤ k := by
 rcases h.2 with ⟨rfl, _⟩ | ⟨g, cap, cur, rfl, hb, _⟩
 ·simp [Value.ownBlock] at hk
 have : g = k := by simpa [Value.ownBlock] using hk
 omega
theorem own_lt {w : World} {base : Nat} {e : TypeId} {size n : Nat} {v : Value} {xs : List Value} (h : w.ownsRow base e size v n xs) (k : Nat) (hk : v.ownBlock = some k) : k < w.heap.size := by
 rcases h.2 with ⟨rfl, _⟩ | ⟨g, cap, cur, rfl, hb, hh, _⟩
 ·simp [Value.ownBlock] at hk
 have : g = k := by simpa [Value.ownBlock] using hk
 subst this
 exact (Array.getElem?_eq_some_iff.1 hh).1
theorem pw_own_below {w w1 : World} {base : Nat} {e : TypeId} {size n : Nat} {v : Value} {xs : List Value} (h : w.ownsRow base e size v n xs) (hb : Below w.heap.size w w1) : w1.ownsRow base e size v n xs :=
 h.kept (grown_of_below hb none) (by cases v.ownBlock <;> simp)
def LeO {α : Type} (a b : Option α) : Prop := ∀ r, a = some r → b = some r
theorem LeO.refl {α : Type} (a : Option α) : LeO a a := fun _ h => h
theorem LeO.none {α : Type} (b : Option α) : LeO Option.none b := fun _ h => by cases h
theorem LeO.trans {α : Type} {a b c : Option α} (h : LeO a b) (k : LeO b c) : LeO a c := fun r hr => k r (h r hr)
theorem LeO.bind {α β : Type} {a a' : Option α} {f f' : α → Option β} (h : LeO a a') (k : ∀ x, LeO (f x) (f' x)) : LeO (a.bind f) (a'.bind f') := by
 intro r hr
 obtain ⟨x, hx, hf⟩ := Option.bind_eq_some_iff.1 hr
 exact Option.bind_eq_some_iff.2 ⟨x, h x hx, k x r hf⟩
theorem LeO.map {α β : Type} {a a' : Option α} (f : α → β) (h : LeO a a') : LeO (a.map f) (a'.map f) := by
 intro r hr
 obtain ⟨x, hx, hf⟩ := Option.map_eq_some_iff.1 hr
 exact Option.map_eq_some_iff.2 ⟨x, h x hx, hf⟩
def Reps {α : Type} (R : α → List Value → Prop) (size : Nat) (ps : List α) (cs : List Value) : Prop :=
 cs.length = ps.length * size ∧ ∀ j p, ps[j]? = some p → R p ((cs.drop (j * size)).take size)
theorem Reps.none {α : Type} (R : α → List Value → Prop) (size : Nat) : Reps R size [] [] := ⟨by simp, fun j p h => by simp at h⟩
theorem Reps.imp_ {α : Type} {R R' : α → List Value → Prop} {size : Nat} {ps : List α} {cs : List Value} (h : Reps R size ps cs) (hR : ∀ p c, R p c → R' p c) : Reps R' size ps cs := ⟨h.1, fun j p hj => hR _ _ (h.2 j p hj)⟩
def ReadsRow {α : Type} (R : α → List Value → Prop) (size : Nat) (w : World) (A : Option Addr) (n : Nat) (ps : List α) : Prop :=
 ps.length = n ∧ n ≤ 9223372036854775807 ∧ (0 < n → ∃ ad, A = some ad ∧ ∀ j p, ps[j]? = some p → ∃ c, c.length = size ∧ R p c ∧ ∀ i u, c[i]? = some u → w.cell? (ad.add (j * size + i)) = some u)
theorem ReadsRow.imp_ {α : Type} {R R' : α → List Value → Prop} {size : Nat} {w w1 : World} {A : Option Addr} {n : Nat} {ps : List α} (h : ReadsRow R size w A n ps) (hb : Below w.heap.size w w1) (hR : ∀ p c, R p c → R' p c) : ReadsRow R' size w1 A n ps :=
 ⟨h.1, h.2.1, fun hn => by
  obtain ⟨ad, e, hc⟩ := h.2.2 hn
  refine ⟨ad, e, fun j p hj => ?_⟩
  obtain ⟨c, hs, hr, hcell⟩ := hc j p hj
  exact ⟨c, hs, hR _ _ hr, fun i u hu => pw_cell_below hb (hcell i u hu)⟩⟩
theorem own_reads_row {α : Type} {R : α → List Value → Prop} {w : World} {base n size : Nat} {e : TypeId} {v : Value} {ps : List α} {cs : List Value} (h : w.ownsRow base e size v n cs) (hR : Reps R size ps cs) (hn : ps.length = n) :
  ∃ A c, v = .slice A n c ∧ ReadsRow R size w A n ps := by
 rcases Nat.eq_zero_or_pos n with h0 | h0
 ·rcases h.2 with ⟨rfl, rfl⟩ | ⟨g, cap, cur, rfl, _⟩
  ·exact ⟨none, 0, rfl, hn, by omega, fun hp => absurd hp (by omega)⟩
  exact ⟨_, cap, rfl, hn, by omega, fun hp => absurd hp (by omega)⟩
 obtain ⟨g, cap, rfl, _, _⟩ := h.form h0
 have hm : n ≤ 9223372036854775807 := by
  rcases h.2 with ⟨_, h1⟩ | ⟨g', cap', cur, he, _, _, h1, h2, _⟩
  ·omega
  simp only [maxLen] at h2
  omega
 refine ⟨_, cap, rfl, hn, hm, fun _ => ⟨_, rfl, fun j p hj => ⟨(cs.drop (j * size)).take size, ?_, hR.2 j p hj, fun i u hu => ?_⟩⟩⟩
 ·have hjl := (List.getElem?_eq_some_iff.1 hj).1
  have h1 : j * size + size ≤ cs.length := by rw [hR.1, ← Nat.succ_mul]; exact Nat.mul_le_mul_right _ hjl
  rw [List.length_take, List.length_drop]
  omega
 refine h.cells (g := g) rfl _ u ?_
 rw [List.getElem?_take] at hu
 split at hu
 ·rw [List.getElem?_drop] at hu
  exact hu
 cases hu
theorem blk_lt {w : World} {g : Nat} {o : Obj} (h : w.heap[g]? = some o) : g < w.heap.size := (Array.getElem?_eq_some_iff.1 h).1
theorem blk_cell {w : World} {g : Nat} {t : TypeId} {cs : Array Value} (h : w.heap[g]? = some (.cells cs t (0, 0))) (i : Nat) : w.cell? ⟨g, i, none⟩ = cs[i]? := cell_of_row w g i cs t (0, 0) h
theorem blk_grown {w w1 : World} {g : Nat} {o : Obj} {row : Option Nat} (h : w.heap[g]? = some o) (hg : w.grownBy w1 row) (hne : some g ≠ row) : w1.heap[g]? = some o := (hg.block g (blk_lt h) hne).trans h
theorem blk_ne {w : World} {g g' : Nat} {t t' : TypeId} {cs cs' : Array Value} (h : w.heap[g]? = some (.cells cs t (0, 0))) (h' : w.heap[g']? = some (.cells cs' t' (0, 0))) (hne : t ≠ t') : g ≠ g' := by
 rintro rfl
 rw [h] at h'
 injection h' with h'
 injection h' with _ ht
 exact hne ht
def KeepBut (w w' : World) (g : Nat) (row : Option Nat) : Prop := w.heap.size ≤ w'.heap.size ∧ ∀ i, i < w.heap.size → i ≠ g → some i ≠ row → w'.heap[i]? = w.heap[i]?
theorem KeepBut.refl (w : World) (g : Nat) (row : Option Nat) : KeepBut w w g row := ⟨Nat.le_refl _, fun _ _ _ _ => rfl⟩
theorem KeepBut.of_below {w w1 : World} (h : Below w.heap.size w w1) (g : Nat) (row : Option Nat) : KeepBut w w1 g row := ⟨h.size, fun i hi _ _ => h.block i hi⟩
theorem KeepBut.trans {w w1 w2 : World} {g : Nat} {row row1 : Option Nat} (h : KeepBut w w1 g row) (k : KeepBut w1 w2 g row1) (hr : row1 = row ∨ ∃ b, row1 = some b ∧ w.heap.size ≤ b) : KeepBut w w2 g row :=
 ⟨Nat.le_trans h.1 k.1, fun i hi hg hn => by
  refine (k.2 i (Nat.lt_of_lt_of_le hi h.1) hg ?_).trans (h.2 i hi hg hn)
  rcases hr with rfl | ⟨b, rfl, hb⟩
  ·exact hn
  intro e
  injection e with e
  omega⟩
def Ev {α : Type} (g : Nat → Option α) (r : α) : Prop := ∃ K, ∀ k, K ≤ k → g k = some r
theorem Ev.bind {α β : Type} {g : Nat → Option α} {f : Nat → α → Option β} {a : α} {r : β} (h : Ev g a) (k : Ev (fun n => f n a) r) : Ev (fun n => (g n).bind (f n)) r := by
 obtain ⟨K, h⟩ := h
 obtain ⟨K', k⟩ := k
 refine ⟨max K K', fun n hn => ?_⟩
 have h1 := h n (by omega)
 have h2 := k n (by omega)
 simp only [h1, Option.bind_some]
 exact h2
theorem Ev.step {α : Type} {g f : Nat → Option α} {r : α} (h : ∀ k, g (k + 1) = f k) (k : Ev f r) : Ev g r := by
 obtain ⟨K, k⟩ := k
 refine ⟨K + 1, fun n hn => ?_⟩
 obtain ⟨m, rfl⟩ : ∃ m, n = m + 1 := ⟨n - 1, by omega⟩
 rw [h]
 exact k m (by omega)
theorem own_weaken {w : World} {base base' : Nat} {e : TypeId} {size n : Nat} {v : Value} {xs : List Value} (h : w.ownsRow base e size v n xs) (hb : base' ≤ base) : w.ownsRow base' e size v n xs := by
 obtain ⟨h1, h2⟩ := h
 refine ⟨h1, ?_⟩
 rcases h2 with h2 | ⟨g, cap, cur, rfl, hg, r⟩
 ·exact .inl h2
 exact .inr ⟨g, cap, cur, rfl, Nat.le_trans hb hg, r⟩
section
variable {α : Type} {enc : α → Value} {d : α}
def ReadsOf (enc : α → Value) (d : α) (w : World) (A : Option Addr) (n : Nat) (xs : List α) : Prop :=
 xs.length = n ∧ n ≤ 9223372036854775807 ∧ (0 < n → ∃ ad, A = some ad ∧ ∀ j, j < n → w.cell? (ad.add j) = some (enc (xs.getD j d)))
theorem ReadsOf.below {w w1 : World} {A : Option Addr} {n : Nat} {xs : List α} (h : ReadsOf enc d w A n xs) (hb : Below w.heap.size w w1) : ReadsOf enc d w1 A n xs :=
 ⟨h.1, h.2.1, fun hn => by
  obtain ⟨ad, e, hc⟩ := h.2.2 hn
  exact ⟨ad, e, fun j hj => pw_cell_below hb (hc j hj)⟩⟩
end
theorem blk_below {w w1 : World} {g : Nat} {o : Obj} (h : w.heap[g]? = some o) (hb : Below w.heap.size w w1) : w1.heap[g]? = some o := (hb.block g (blk_lt h)).trans h
theorem blk_new (w : World) (o : Obj) : (w.alloc o).heap[w.heap.size]? = some o := heap_alloc_new w o
theorem own_le {w : World} {base n m c size : Nat} {e : TypeId} {A : Option Addr} {xs : List Value} (h : w.ownsRow base e size (.slice A m c) n xs) : m ≤ c := by
 rcases h.2 with ⟨he, _⟩ | ⟨g, cap, cur, he, _, _, hnc, _⟩
 ·injection he with _ h2 h3
  omega
 injection he with _ h2 h3
 omega
def OwnRow {α : Type} (R : α → List Value → Prop) (e : TypeId) (size : Nat) (w : World) (base : Nat) (v : Value) (ps : List α) : Prop :=
 ∃ inner, w.ownsRow base e size v ps.length inner ∧ Reps R size ps inner
section
variable {α : Type} {R R' : α → List Value → Prop} {e : TypeId} {size : Nat} {w w1 : World} {base : Nat} {v : Value} {ps : List α}
theorem OwnRow.imp_ (h : OwnRow R e size w base v ps) (hR : ∀ p c, R p c → R' p c) : OwnRow R' e size w base v ps := by
 obtain ⟨inner, ho, hr⟩ := h
 exact ⟨inner, ho, hr.imp_ hR⟩
theorem OwnRow.below (h : OwnRow R e size w base v ps) (hb : Below w.heap.size w w1) : OwnRow R e size w1 base v ps := by
 obtain ⟨inner, ho, hr⟩ := h
 exact ⟨inner, pw_own_below ho hb, hr⟩
theorem OwnRow.reads (h : OwnRow R e size w base v ps) : ∃ A c, v = .slice A ps.length c ∧ ps.length ≤ c ∧ ReadsRow R size w A ps.length ps := by
 obtain ⟨inner, ho, hr⟩ := h
 obtain ⟨A, c, rfl, hrow⟩ := own_reads_row ho hr rfl
 exact ⟨A, c, rfl, own_le ho, hrow⟩
end
structure Kd (α : Type) where
 sz : Nat
 E : List Nat
 K : World → α → List Value → Prop
 M : World → Nat → (Nat → Prop) → α → List Value → Prop
 K_len : ∀ {w x cs}, K w x cs → cs.length = sz
 K_one : ∀ {w x cs}, K w x cs → ∀ u ∈ cs, u.oneCell' = true
 K_below : ∀ {w w1 : World} {x cs}, Below w.heap.size w w1 → K w x cs → K w1 x cs
 K_of_M : ∀ {w base ok x cs}, M w base ok x cs → K w x cs
 M_mono : ∀ {w base ok ok' x cs}, (∀ k, ok k → ok' k) → M w base ok x cs → M w base ok' x cs
 M_bound : ∀ {w : World} {base ok x cs}, M w base ok x cs → M w base (fun k => ok k ∧ base ≤ k ∧ k < w.heap.size ∧ ∃ q, q ∈ E ∧ ∃ cells, w.heap[k]? = some (.cells cells q (0, 0))) x cs
 M_move : ∀ {w w1 : World} {base ok x cs}, (∀ k, ok k → w1.heap[k]? = w.heap[k]?) → M w base ok x cs → M w1 base ok x cs
 M_lower : ∀ {w base base' ok x cs}, base' ≤ base → M w base ok x cs → M w base' ok x cs
theorem own_move {w w1 : World} {base : Nat} {e : TypeId} {size n : Nat} {v : Value} {xs : List Value} (h : w.ownsRow base e size v n xs) (hm : ∀ k, v.ownBlock = some k → w1.heap[k]? = w.heap[k]?) : w1.ownsRow base e size v n xs := by
 obtain ⟨h1, h2⟩ := h
 refine ⟨h1, ?_⟩
 rcases h2 with h2 | ⟨g, cap, cur, rfl, hg, hh, r⟩
 ·exact .inl h2
 exact .inr ⟨g, cap, cur, rfl, hg, (hm g (by simp [Value.ownBlock])).trans hh, r⟩
theorem own_typed {w : World} {base : Nat} {e : TypeId} {size n : Nat} {v : Value} {xs : List Value} (h : w.ownsRow base e size v n xs) (k : Nat) (hk : v.ownBlock = some k) : ∃ cells, w.heap[k]? = some (.cells cells e (0, 0)) := by
 rcases h.2 with ⟨rfl, _⟩ | ⟨g, cap, cur, rfl, hg, hh, r⟩
 ·simp [Value.ownBlock] at hk
 have : g = k := by simpa [Value.ownBlock] using hk
 subst this
 exact ⟨cur, hh⟩
namespace Kd
def C {α : Type} (d : Kd α) (w : World) (A : Option Addr) (n : Nat) (xs : List α) : Prop := ReadsRow (d.K w) d.sz w A n xs
def R {α : Type} (d : Kd α) (e : Nat) (w : World) (base : Nat) (ok : Nat → Prop) (v : Value) (xs : List α) : Prop :=
 (∀ k, v.ownBlock = some k → ok k) ∧ OwnRow (d.M w base (fun k => ok k ∧ some k ≠ v.ownBlock)) e d.sz w base v xs
section
variable {α : Type} {d : Kd α} {e : Nat} {w w1 : World} {base : Nat} {ok ok' : Nat → Prop} {v : Value} {xs : List α}
theorem C_below {A : Option Addr} {n : Nat} (h : d.C w A n xs) (hb : Below w.heap.size w w1) : d.C w1 A n xs := ReadsRow.imp_ h hb (fun _ _ hp => d.K_below hb hp)
theorem R_mono (h : d.R e w base ok v xs) (hok : ∀ k, ok k → ok' k) : d.R e w base ok' v xs := ⟨fun k hk => hok k (h.1 k hk), h.2.imp_ (fun _ _ hp => d.M_mono (fun k hk => ⟨hok k hk.1, hk.2⟩) hp)⟩
theorem R_bound (h : d.R e w base ok v xs) : d.R e w base (fun k => ok k ∧ base ≤ k ∧ k < w.heap.size ∧ ∃ q, q ∈ e :: d.E ∧ ∃ cells, w.heap[k]? = some (.cells cells q (0, 0))) v xs := by
 obtain ⟨h0, inner, ho, hr⟩ := h
 refine ⟨fun k hk => ?_, inner, ho, hr.imp_ (fun _ _ hp => d.M_mono (fun k hk => ?_) (d.M_bound hp))⟩
 ·obtain ⟨cells, hc⟩ := own_typed ho k hk
  exact ⟨h0 k hk, own_base ho k hk, own_lt ho k hk, e, List.mem_cons_self, cells, hc⟩
 obtain ⟨⟨h1, h2⟩, h3, h4, q, hq, hc⟩ := hk
 exact ⟨⟨h1, h3, h4, q, List.mem_cons_of_mem _ hq, hc⟩, h2⟩
theorem R_move (h : d.R e w base ok v xs) (hm : ∀ k, ok k → w1.heap[k]? = w.heap[k]?) : d.R e w1 base ok v xs := by
 obtain ⟨h0, inner, ho, hr⟩ := h
 exact ⟨h0, inner, own_move ho (fun k hk => hm k (h0 k hk)), hr.imp_ (fun _ _ hp => d.M_move (fun k hk => hm k hk.1) hp)⟩
theorem R_lower {base' : Nat} (h : d.R e w base ok v xs) (hb : base' ≤ base) : d.R e w base' ok v xs := by
 obtain ⟨h0, inner, ho, hr⟩ := h
 exact ⟨h0, inner, own_weaken ho hb, hr.imp_ (fun _ _ hp => d.M_lower hb hp)⟩
theorem R_reads (h : d.R e w base ok v xs) : ∃ A c, v = .slice A xs.length c ∧ xs.length ≤ c ∧ d.C w A xs.length xs := by
 obtain ⟨A, c, he, hl, hr⟩ := OwnRow.reads h.2
 exact ⟨A, c, he, hl, hr.imp_ (Below.refl _ _) (fun _ _ hp => d.K_of_M hp)⟩
end
def scalar {α : Type} (enc : α → Value) (h1 : ∀ x, (enc x).oneCell' = true) : Kd α where
 sz := 1
 E := []
 K := fun _ x cs => cs = [enc x]
 M := fun _ _ _ x cs => cs = [enc x]
 K_len := fun h => by rw [h]; rfl
 K_one := fun h u hu => by
  rw [h] at hu
  rw [List.mem_singleton.1 hu]
  exact h1 _
 K_below := fun _ h => h
 K_of_M := fun h => h
 M_mono := fun _ h => h
 M_bound := fun h => h
 M_move := fun _ h => h
 M_lower := fun _ h => h
def int (k : IntKind) : Kd Int := scalar (Value.int k) (fun _ => rfl)
def bool : Kd Bool := scalar Value.bool (fun _ => rfl)
def slice {α : Type} (e : Nat) (d : Kd α) : Kd (List α) where
 sz := 1
 E := e :: d.E
 K := fun w xs cs => ∃ A c, cs = [.slice A xs.length c] ∧ xs.length ≤ c ∧ d.C w A xs.length xs
 M := fun w base ok xs cs => ∃ v, cs = [v] ∧ d.R e w base ok v xs
 K_len := by
  rintro w x cs ⟨A, c, rfl, _⟩
  rfl
 K_one := by
  rintro w x cs ⟨A, c, rfl, _⟩ u hu
  rw [List.mem_singleton.1 hu]
  rfl
 K_below := by
  rintro w w1 x cs hb ⟨A, c, rfl, hl, hr⟩
  exact ⟨A, c, rfl, hl, C_below hr hb⟩
 K_of_M := by
  rintro w base ok x cs ⟨v, rfl, h⟩
  obtain ⟨A, c, rfl, hl, hr⟩ := R_reads h
  exact ⟨A, c, rfl, hl, hr⟩
 M_mono := by
  rintro w base ok ok' x cs hok ⟨v, rfl, h⟩
  exact ⟨v, rfl, R_mono h hok⟩
 M_bound := by
  rintro w base ok x cs ⟨v, rfl, h⟩
  exact ⟨v, rfl, R_bound h⟩
 M_move := by
  rintro w w1 base ok x cs hm ⟨v, rfl, h⟩
  exact ⟨v, rfl, R_move h hm⟩
 M_lower := by
  rintro w base base' ok x cs hb ⟨v, rfl, h⟩
  exact ⟨v, rfl, R_lower h hb⟩
def pair {α β : Type} (a : Kd α) (b : Kd β) : Kd (α × β) where
 sz := a.sz + b.sz
 E := a.E ++ b.E
 K := fun w x cs => ∃ c0 c1, cs = c0 ++ c1 ∧ a.K w x.1 c0 ∧ b.K w x.2 c1
 M := fun w base ok x cs => ∃ c0 c1, cs = c0 ++ c1 ∧ a.M w base ok x.1 c0 ∧ b.M w base ok x.2 c1
 K_len := by
  rintro w x cs ⟨c0, c1, rfl, h0, h1⟩
  rw [List.length_append, a.K_len h0, b.K_len h1]
 K_one := by
  rintro w x cs ⟨c0, c1, rfl, h0, h1⟩ u hu
  rcases List.mem_append.1 hu with hu | hu
  ·exact a.K_one h0 u hu
  exact b.K_one h1 u hu
 K_below := by
  rintro w w1 x cs hb ⟨c0, c1, rfl, h0, h1⟩
  exact ⟨c0, c1, rfl, a.K_below hb h0, b.K_below hb h1⟩
 K_of_M := by
  rintro w base ok x cs ⟨c0, c1, rfl, h0, h1⟩
  exact ⟨c0, c1, rfl, a.K_of_M h0, b.K_of_M h1⟩
 M_mono := by
  rintro w base ok ok' x cs hok ⟨c0, c1, rfl, h0, h1⟩
  exact ⟨c0, c1, rfl, a.M_mono hok h0, b.M_mono hok h1⟩
 M_bound := by
  rintro w base ok x cs ⟨c0, c1, rfl, h0, h1⟩
  refine ⟨c0, c1, rfl, a.M_mono ?_ (a.M_bound h0), b.M_mono ?_ (b.M_bound h1)⟩
  ·rintro k ⟨h2, h3, h4, q, hq, hc⟩
   exact ⟨h2, h3, h4, q, List.mem_append_left _ hq, hc⟩
  rintro k ⟨h2, h3, h4, q, hq, hc⟩
  exact ⟨h2, h3, h4, q, List.mem_append_right _ hq, hc⟩
 M_move := by
  rintro w w1 base ok x cs hm ⟨c0, c1, rfl, h0, h1⟩
  exact ⟨c0, c1, rfl, a.M_move hm h0, b.M_move hm h1⟩
 M_lower := by
  rintro w base base' ok x cs hb ⟨c0, c1, rfl, h0, h1⟩
  exact ⟨c0, c1, rfl, a.M_lower hb h0, b.M_lower hb h1⟩
def iso {α β : Type} (d : Kd α) (f : β → α) : Kd β where
 sz := d.sz
 E := d.E
 K := fun w x cs => d.K w (f x) cs
 M := fun w base ok x cs => d.M w base ok (f x) cs
 K_len := d.K_len
 K_one := d.K_one
 K_below := d.K_below
 K_of_M := d.K_of_M
 M_mono := d.M_mono
 M_bound := d.M_bound
 M_move := d.M_move
 M_lower := d.M_lower
def bot {α : Type} (sz : Nat) (E : List Nat) : Kd α where
 sz := sz
 E := E
 K := fun _ _ _ => False
 M := fun _ _ _ _ _ => False
 K_len := fun h => h.elim
 K_one := fun h => h.elim
 K_below := fun _ h => h
 K_of_M := fun h => h
 M_mono := fun _ h => h
 M_bound := fun h => h
 M_move := fun _ h => h
 M_lower := fun _ h => h
def upto {α : Type} (F : Kd α → Kd α) (sz : Nat) (E : List Nat) : Nat → Kd α
 | 0 => bot sz E
 | n + 1 => F (upto F sz E n)
end Kd
namespace Kd
section
variable {P : Program} {ops : Array Oper} {rest : List Oper} {o : Oper} {a : Act} {Q : Exit → Act → World → Prop}
theorem event_run {W w1 : World} {v : Value} (hgd : o.guard = none) (hrun : (execOp a.eval o).run P W = .ok (.value v) w1) (h : wpList P ops Q rest (a.put o.dst v) w1) : wpList P ops Q (o :: rest) a W := by
 refine wpList_plain hgd fun K hK => ?_
 unfold Oper.wp
 rw [hrun]
 exact hK _ _ h
variable {α : Type}
end
end Kd
def QRow (w : World) (base : Nat) (e : TypeId) (size : Nat) (v : Value) (n : Nat) (xs : List Value) : Prop :=
 xs.length = n * size ∧
 ((n = 0 ∧ ∃ A, v = .slice A 0 0 ∧ ∀ a, A = some a → base ≤ a.block ∧ ∃ cur, w.heap[a.block]? = some (.cells cur e (0, 0))) ∨
  ∃ g off cap cur, v = .slice (some ⟨g, off * size, none⟩) n cap ∧ base ≤ g ∧ w.heap[g]? = some (.cells cur e (0, 0)) ∧ n ≤ cap ∧ off + cap ≤ maxLen ∧ cur.size = (off + cap) * size ∧ (cur.toList.drop (off * size)).take (n * size) = xs)
namespace Kd
def Q {α : Type} (d : Kd α) (e : Nat) (w : World) (base : Nat) (ok : Nat → Prop) (v : Value) (xs : List α) : Prop :=
 (∀ k, v.ownBlock = some k → ok k) ∧ ∃ inner, QRow w base e d.sz v xs.length inner ∧ Reps (d.M w base (fun k => ok k ∧ some k ≠ v.ownBlock)) d.sz xs inner
end Kd
theorem below_step {w W w2 : World} (h : Below w.heap.size w W) (k : Below W.heap.size W w2) : Below w.heap.size w w2 := below_then h h.size k
theorem ReadsInt.drewN {W : World} {k : IntKind} {A : Option Addr} {n : Nat} {xs : List Int} (h : ReadsInt W k A n xs) (m : Nat) : ReadsInt (W.drewN m) k A n xs := h
theorem ReadsOf.drewN {α : Type} {enc : α → Value} {d : α} {W : World} {A : Option Addr} {n : Nat} {xs : List α} (h : ReadsOf enc d W A n xs) (m : Nat) : ReadsOf enc d (W.drewN m) A n xs := h
section
variable {P : Program} {ops : Array Oper} {rest : List Oper} {o : Oper} {a : Act} {Q : Exit → Act → World → Prop}
theorem box_event {W : World} (hgd : o.guard = none) {N : Tmp} (_hd : o.dst = some N) {cs : Array Value} {t : TypeId}
  (hrun : (execOp a.eval o).run P W = .ok (.value (.pointer (some ⟨W.heap.size, 0, none⟩))) (W.alloc (.cells cs t (0, 0))))
  (h : ∀ g, g = W.heap.size → ∀ w1, w1.heap[g]? = some (.cells cs t (0, 0)) → Below W.heap.size W w1 → wpList P ops Q rest (a.put o.dst (.pointer (some ⟨g, 0, none⟩))) w1) : wpList P ops Q (o :: rest) a W :=
 Kd.event_run hgd hrun (h _ rfl _ (blk_new W _) (below_alloc (Below.refl _ _) _))
end
section
variable {P : Program} {ops : Array Oper} {rest : List Oper} {o : Oper} {a : Act} {Q : Exit → Act → World → Prop} {W : World}
theorem gate_dst {N : Tmp} (_hN : o.dst = some N) (h : wpList P ops Q (o :: rest) a W) : wpList P ops Q (o :: rest) a W := h
end
end Go.Proofs.YtaheamdoldiojaaW.PrintWords
namespace Go.Proofs.YtaheamdoldiojaaW.PrintLast
section
variable {P : Program} {ops : Array Oper} {Q : Exit → Act → World → Prop} {md : Region.Mode} {S : World → Prop} {ds : List Nat}
def ListedClosed (md : Region.Mode) (ops : Array Oper) (listed : Array Bool) : Prop :=
 ∀ j oj, ops[j]? = some oj → listed.getD j false = true → ∀ e ∈ oj.after, Region.binds md e = true → listed.getD e.on false = true
theorem ListedClosed.set {listed : Array Bool} {i : Nat} (h : ListedClosed md ops listed) (hi : i ∈ Region.ready md ops listed) : ListedClosed md ops (listed.setIfInBounds i true) := by
 obtain ⟨_, oi, hoi, hall⟩ := mem_ready.1 hi
 intro j oj hj hl e he hb
 by_cases hij : i = j
 ·subst hij
  have : oj = oi := Option.some.inj (hj.symm.trans hoi)
  subst this
  exact getD_set_true (hall e he hb)
 rw [getD_set_ne false hij] at hl
 exact getD_set_true (h j oj hj hl e he hb)
end
end Go.Proofs.YtaheamdoldiojaaW.PrintLast
namespace Go.Proofs.YtaheamdoldiojaaW.PrintWords
open Go.RowKit
namespace Kd
def tag {α : Type} (f : Nat → Nat) (d : Kd α) : Kd (α × Nat) where
 sz := d.sz
 E := d.E
 K := fun w x cs => d.K w x.1 cs
 M := fun w base ok x cs => d.M w base (fun k => ok k ∧ f k = x.2) x.1 cs
 K_len := fun h => d.K_len h
 K_one := fun h => d.K_one h
 K_below := fun hb h => d.K_below hb h
 K_of_M := fun h => d.K_of_M h
 M_mono := fun hok h => d.M_mono (fun k hk => ⟨hok k hk.1, hk.2⟩) h
 M_bound := fun h => d.M_mono (fun _ hk => ⟨⟨hk.1.1, hk.2⟩, hk.1.2⟩) (d.M_bound h)
 M_move := fun hm h => d.M_move (fun k hk => hm k hk.1) h
 M_lower := fun hb h => d.M_lower hb h
def raw (sz : Nat) : Kd (List Value) where
 sz := sz
 E := []
 K := fun _ x cs => cs = x ∧ cs.length = sz ∧ ∀ u ∈ cs, u.oneCell' = true
 M := fun _ _ _ x cs => cs = x ∧ cs.length = sz ∧ ∀ u ∈ cs, u.oneCell' = true
 K_len := fun h => h.2.1
 K_one := fun h => h.2.2
 K_below := fun _ h => h
 K_of_M := fun h => h
 M_mono := fun _ h => h
 M_bound := fun h => h
 M_move := fun _ h => h
 M_lower := fun _ h => h
def S {α : Type} (d : Kd α) (e : Nat) (w : World) (base : Nat) (ok : Nat → Prop) (v : Value) (xs : List α) : Prop := ∃ f, (tag f d).R e w base ok v xs.zipIdx
end Kd
end Go.Proofs.YtaheamdoldiojaaW.PrintWords
namespace Go.Proofs.YtaheamdoldiojaaW.PrintWords
open Go.RowKit
namespace Kd
structure Heap {α : Type} (d : Kd α) : Prop where
 K : ∀ {w w1 : World} {x : α} {cs : List Value}, (∀ k, k < w.heap.size → w1.heap[k]? = w.heap[k]?) → d.K w x cs → d.K w1 x cs
theorem cell_heap {w w1 : World} (hb : ∀ k, k < w.heap.size → w1.heap[k]? = w.heap[k]?) {a : Addr} {v : Value} (h : w.cell? a = some v) : w1.cell? a = some v := by
 have := hb a.block (World.block_lt_of_cell? w a h)
 simpa [World.cell?, this] using h
theorem Heap.C {α : Type} {d : Kd α} (hd : Heap d) {w w1 : World} {A : Option Addr} {n : Nat} {xs : List α} (hb : ∀ k, k < w.heap.size → w1.heap[k]? = w.heap[k]?) (h : d.C w A n xs) : d.C w1 A n xs :=
 ⟨h.1, h.2.1, fun hn => by
  obtain ⟨ad, e, hc⟩ := h.2.2 hn
  refine ⟨ad, e, fun j p hj => ?_⟩
  obtain ⟨c, hs, hr, hcell⟩ := hc j p hj
  exact ⟨c, hs, hd.K hb hr, fun i u hu => cell_heap hb (hcell i u hu)⟩⟩
end Kd
end Go.Proofs.YtaheamdoldiojaaW.PrintWords
namespace Go.Proofs.YtaheamdoldiojaaW.PrintWords
open Go.RowKit
def Kept (w W : World) (S : Nat → Prop) : Prop := w.heap.size ≤ W.heap.size ∧ ∀ i, i < w.heap.size → ¬ S i → W.heap[i]? = w.heap[i]?
section
variable {w W W2 : World} {S S2 S' : Nat → Prop}
theorem Kept.refl (w : World) (S : Nat → Prop) : Kept w w S := ⟨Nat.le_refl _, fun _ _ _ => rfl⟩
theorem Kept.of_below (h : Below w.heap.size w W) (S : Nat → Prop) : Kept w W S := ⟨h.size, fun i hi _ => h.block i hi⟩
theorem Kept.mono (h : Kept w W S) (hs : ∀ k, S k → S' k) : Kept w W S' := ⟨h.1, fun i hi hn => h.2 i hi (fun hk => hn (hs i hk))⟩
theorem Kept.then_ (h : Kept w W S) (k : Kept W W2 S2) (hs : ∀ k, S2 k → S k ∨ w.heap.size ≤ k) : Kept w W2 S :=
 ⟨Nat.le_trans h.1 k.1, fun i hi hn => (k.2 i (Nat.lt_of_lt_of_le hi h.1) (fun h2 => (hs i h2).elim hn (fun h3 => by omega))).trans (h.2 i hi hn)⟩
theorem Kept.below (h : Kept w W S) (hb : Below W.heap.size W W2) : Kept w W2 S := h.then_ (Kept.of_below hb (fun _ => False)) (fun _ hk => hk.elim)
theorem Kept.alloc (h : Kept w W S) (o : Obj) : Kept w (W.alloc o) S := h.below (below_alloc (Below.refl _ _) o)
theorem Kept.drew (h : Kept w W S) : Kept w W.drew S := h
theorem Kept.drewN (h : Kept w W S) (m : Nat) : Kept w (W.drewN m) S := h
theorem blk_kept {g : Nat} {o : Obj} (hb : W.heap[g]? = some o) (hk : Kept W W2 S) (hne : ¬ S g) : W2.heap[g]? = some o := (hk.2 g (blk_lt hb) hne).trans hb
end
end Go.Proofs.YtaheamdoldiojaaW.PrintWords
namespace Go.Proofs.YtaheamdoldiojaaW.PrintWords
open Go.RowKit
def Foot (P : World → Prop) (W : World) (ok : Nat → Prop) : Prop := ∀ W' : World, (∀ k, ok k → k < W.heap.size → W'.heap[k]? = W.heap[k]?) → P W'
theorem heap_lt {W W1 : World} {k : Nat} (h : W1.heap[k]? = W.heap[k]?) (hlt : k < W.heap.size) : k < W1.heap.size := by
 rw [Array.getElem?_eq_getElem hlt] at h
 exact (Array.getElem?_eq_some_iff.1 h).1
namespace Foot
variable {P Q : World → Prop} {W W1 : World} {ok ok' : Nat → Prop}
theorem mono (h : Foot P W ok) (hok : ∀ k, ok k → ok' k) : Foot P W ok' := fun W' hW => h W' (fun k hk hlt => hW k (hok k hk) hlt)
theorem step (h : Foot P W ok) (hm : ∀ k, ok k → k < W.heap.size → W1.heap[k]? = W.heap[k]?) : Foot P W1 ok := fun W' hW => h W' (fun k hk hlt => (hW k hk (heap_lt (hm k hk hlt) hlt)).trans (hm k hk hlt))
end Foot
namespace Kd
def F {α : Type} (d : Kd α) (W : World) (ok : Nat → Prop) (A : Option Addr) (n : Nat) (xs : List α) : Prop := Foot (fun W => d.C W A n xs) W ok
def FK {α : Type} (d : Kd α) (W : World) (ok : Nat → Prop) (x : α) (c : List Value) : Prop := Foot (fun W => d.K W x c) W ok
end Kd
end Go.Proofs.YtaheamdoldiojaaW.PrintWords
namespace Go.Proofs.YtaheamdoldiojaaW.PrintWords
open Go.RowKit
namespace Kd
section
variable {α : Type} {d : Kd α} {e base n cc g : Nat} {ok ok' okp S : Nat → Prop} {w w1 W W1 : World} {A : Option Addr} {u v v1 : Value} {xs : List α} {x : α} {c : List Value}
def N {α : Type} (d : Kd α) (e : Nat) (w : World) (base : Nat) (ok : Nat → Prop) (v : Value) (xs : List α) : Prop :=
 (∀ k, v.ownBlock = some k → ok k) ∧ ∃ rows : List (List Value), rows.length = xs.length ∧ (raw d.sz).R e w base (fun k => some k = v.ownBlock) v rows ∧ ∀ (j : Nat) (x : α) (c : List Value), xs[j]? = some x → rows[j]? = some c → FK d w (fun k => ok k ∧ some k ≠ v.ownBlock) x c
end
end Kd
end Go.Proofs.YtaheamdoldiojaaW.PrintWords
namespace Go.Proofs.YtaheamdoldiojaaW.PrintWords
theorem Reps.one {α : Type} {R : α → List Value → Prop} {ps : List α} {cs : List Value} {p : α} {v : Value} (hp : R p [v]) (h : Reps R 1 ps cs) : Reps R 1 (p :: ps) (v :: cs) := by
 refine ⟨by simp [h.1], fun j q hq => ?_⟩
 cases j with
 | zero =>
  simp only [List.getElem?_cons_zero, Option.some.injEq] at hq
  subst hq
  simpa using hp
 | succ j =>
  simp only [List.getElem?_cons_succ] at hq
  have h1 := h.2 j q hq
  simpa [Nat.mul_one] using h1
theorem Reps.front {α : Type} {R : α → List Value → Prop} {size : Nat} {ps : List α} {cs c all : List Value} {p : α} (hp : R p c) (hc : c.length = size) (h : Reps R size ps cs) (ha : c ++ cs = all) : Reps R size (p :: ps) all := by
 subst ha
 refine ⟨by rw [List.length_append, hc, h.1, List.length_cons, Nat.succ_mul, Nat.add_comm], fun j q hq => ?_⟩
 cases j with
 | zero =>
  simp only [List.getElem?_cons_zero, Option.some.injEq] at hq
  subst hq
  rw [Nat.zero_mul, List.drop_zero, List.take_append_of_le_length (by omega), List.take_of_length_le (by omega)]
  exact hp
 | succ j =>
  simp only [List.getElem?_cons_succ] at hq
  have h1 := h.2 j q hq
  rw [Nat.succ_mul, List.drop_append, List.drop_of_length_le (by rw [hc]; exact Nat.le_add_left _ _), List.nil_append, hc, Nat.add_sub_cancel]
  exact h1
theorem Reps.c3 {α : Type} {R : α → List Value → Prop} {ps : List α} {cs : List Value} {p : α} {va vb vc : Value} (hp : R p [va, vb, vc]) (h : Reps R 3 ps cs) : Reps R 3 (p :: ps) (va :: vb :: vc :: cs) := Reps.front hp rfl h rfl
end Go.Proofs.YtaheamdoldiojaaW.PrintWords
namespace Go.Proofs.YtaheamdoldiojaaW.PrintLast
def up (b : Nat → Bool) (i : Nat) : Nat → Bool := fun j => if j = i then true else b j
end Go.Proofs.YtaheamdoldiojaaW.PrintLast
namespace Go.Proofs.YtaheamdoldiojaaW.PrintMore
open Go.RowKit Go.Proofs.YtaheamdoldiojaaW.PrintWords
theorem max2_int (k k' : IntKind) (x y : Int) : Builtin.max2 (.int k x) (.int k' y) = pure (.int k (if x < y then y else x)) := by simp only [Builtin.max2, gt_iff_lt]
theorem min2_int (k k' : IntKind) (x y : Int) : Builtin.min2 (.int k x) (.int k' y) = pure (.int k (if y < x then y else x)) := by simp only [Builtin.min2]
theorem max_two (ats : Array TypeId) (ty : TypeId) (a b : Value) : Builtin.max_ ats ty #[a, b] = (Builtin.max2 a b >>= fun s => pure s) := by simp only [Builtin.max_, List.foldlM_cons, List.foldlM_nil]
theorem min_two (ats : Array TypeId) (ty : TypeId) (a b : Value) : Builtin.min_ ats ty #[a, b] = (Builtin.min2 a b >>= fun s => pure s) := by simp only [Builtin.min_, List.foldlM_cons, List.foldlM_nil]
theorem max_three (ats : Array TypeId) (ty : TypeId) (a b c : Value) : Builtin.max_ ats ty #[a, b, c] = (Builtin.max2 a b >>= fun s => Builtin.max2 s c >>= fun s => pure s) := by simp only [Builtin.max_, List.foldlM_cons, List.foldlM_nil]
theorem min_three (ats : Array TypeId) (ty : TypeId) (a b c : Value) : Builtin.min_ ats ty #[a, b, c] = (Builtin.min2 a b >>= fun s => Builtin.min2 s c >>= fun s => pure s) := by simp only [Builtin.min_, List.foldlM_cons, List.foldlM_nil]
theorem max_four (ats : Array TypeId) (ty : TypeId) (a b c d : Value) : Builtin.max_ ats ty #[a, b, c, d] = (Builtin.max2 a b >>= fun s => Builtin.max2 s c >>= fun s => Builtin.max2 s d >>= fun s => pure s) := by simp only [Builtin.max_, List.foldlM_cons, List.foldlM_nil]
theorem min_four (ats : Array TypeId) (ty : TypeId) (a b c d : Value) : Builtin.min_ ats ty #[a, b, c, d] = (Builtin.min2 a b >>= fun s => Builtin.min2 s c >>= fun s => Builtin.min2 s d >>= fun s => pure s) := by simp only [Builtin.min_, List.foldlM_cons, List.foldlM_nil]
end Go.Proofs.YtaheamdoldiojaaW.PrintMore
namespace Go.Proofs.YtaheamdoldiojaaW.PrintWords
open Go.RowKit
def mx (a b : Int) : Int := if a < b then b else a
end Go.Proofs.YtaheamdoldiojaaW.PrintWords
namespace Go.Proofs.Ytaheamdoldiojaa.P
open Go.RowKit Go.Proofs.YtaheamdoldiojaaW.PrintWords Go.Proofs.YtaheamdoldiojaaW.PrintLast Go.Proofs.YtaheamdoldiojaaW.PrintMore
theorem zba : type_of% @below_alloc := @below_alloc
theorem zkc : type_of% @blk_cell := @blk_cell
theorem zkb : type_of% @blk_below := @blk_below
theorem zbt : type_of% @below_step := @below_step
theorem zdt : type_of% @decide_eq_true := @decide_eq_true
theorem zdf : type_of% @decide_eq_false := @decide_eq_false
theorem zgd : type_of% @gate_dst := @gate_dst
theorem zam : type_of% @Aside0.mk := @Aside0.mk
theorem zsi : type_of% @Option.some.inj := @Option.some.inj
end Go.Proofs.Ytaheamdoldiojaa.P
namespace Go.Proofs.Ytaheamdoldiojaa.P
open Go.RowKit Go.Proofs.YtaheamdoldiojaaW.PrintWords Go.Proofs.YtaheamdoldiojaaW.PrintLast Go.Proofs.YtaheamdoldiojaaW.PrintMore
attribute [local go_sem] max2_int min2_int max_two min_two max_three min_three max_four min_four   -- for this text's walks alone
set_option linter.unusedVariables false
set_option linter.unusedSimpArgs false
structure S24 where
 f0 : Int
 f1 : Int
def z24 : S24 := ⟨(0 : Int), (0 : Int)⟩
def k24 : Kd S24 := Kd.iso (Kd.pair (Kd.int .i64) (Kd.int .i64)) (fun x : S24 => (x.f0, x.f1))
def rd_T24 (xs : List S24) (i : Int) : S24 := xs.getD i.toNat z24
def rd_L4 (xs : List (List Int)) (i : Int) : (List Int) := xs.getD i.toNat ([] : List Int)
structure S29 where
 f0 : S24
 f1 : S24
def k29 : Kd S29 := Kd.iso (Kd.pair k24 k24) (fun x : S29 => (x.f0, x.f1))
structure S45 where
 f0 : (List S24)
def z45 : S45 := ⟨([] : List S24)⟩
def rd_T45 (xs : List S45) (i : Int) : S45 := xs.getD i.toNat z45
theorem wrap_id {n : Int} (h1 : -9223372036854775808 ≤ n) (h2 : n ≤ 9223372036854775807) : wrap64 n = n := by
 unfold wrap64
 omega
theorem LeO.up {α : Type} {f : Nat → Option α} (hm : ∀ k, LeO (f k) (f (k + 1))) {k k' : Nat} (hk : k ≤ k') {r : α} (h : f k = some r) : f k' = some r := by
 induction hk with
 | refl => exact h
 | step _ ih => exact hm _ _ ih
structure Bst.Step where
 calls : Int
 src : Int
 loud : Bool
 there : Bool
def Bst.zero : Bst.Step := ⟨0, 0, false, false⟩
def Bst.one : Bst.Step := ⟨0, 0, false, true⟩
def Bst.get (row : List Bst.Step) (i : Nat) : Bst.Step := row.getD i Bst.zero
def Bst.put (val : Int → Int) (row : List Bst.Step) (run : Nat) (s : Bst.Step) : List Bst.Step :=
 if (Bst.get row run).there = false then row.set run s else if val s.calls < val (Bst.get row run).calls then row.set run s else row
def Bst.loud (val : Int → Int) (n : Nat) (x : Int) (row : List Bst.Step) (r : Nat) (s : Bst.Step) : List Bst.Step :=
 if x = 0 then row else Bst.put val row (min (r + 1) n) ⟨if r + 1 = n then wrap64 (s.calls + 1) else s.calls, (r : Int), true, true⟩
def Bst.still (val : Int → Int) (x : Int) (row : List Bst.Step) (r : Nat) (s : Bst.Step) : List Bst.Step :=
 if x = 2 then row else Bst.put val row 0 ⟨s.calls, (r : Int), false, true⟩
def Bst.round (val : Int → Int) (n : Nat) (x : Int) (row : List Bst.Step) (r : Nat) (s : Bst.Step) : List Bst.Step :=
 if s.there = false then row else Bst.still val x (Bst.loud val n x row r s) r s
def Bst.upto (val : Int → Int) (n : Nat) (x : Int) (prev : List Bst.Step) : Nat → List Bst.Step
 | 0 => List.replicate (n + 1) Bst.zero
 | r + 1 => Bst.round val n x (Bst.upto val n x prev r) r (Bst.get prev r)
def Bst.tab (val : Int → Int) (n : Nat) (l : List Int) : Nat → List Bst.Step
 | 0 => (List.replicate (n + 1) Bst.zero).set 0 Bst.one
 | i + 1 => Bst.upto val n (l.getD i 0) (Bst.tab val n l i) (n + 1)
def Bst.last (val : Int → Int) (row : List Bst.Step) : Nat → Int
 | 0 => -1
 | r + 1 => if (Bst.get row r).there = false then Bst.last val row r else if Bst.last val row r < 0 then (r : Int) else if val (Bst.get row r).calls < val (Bst.get row (Bst.last val row r).toNat).calls then (r : Int) else Bst.last val row r
def Bst.cells (s : Bst.Step) : List Value := [.int .i64 s.calls, .int .i64 s.src, .bool s.loud, .bool s.there]
def Bst.val (s : Bst.Step) : Value := .agg #[.int .i64 s.calls, .int .i64 s.src, .bool s.loud, .bool s.there]
def Bst.flat : List Bst.Step → List Value
 | [] => []
 | x :: xs => .int .i64 x.calls :: .int .i64 x.src :: .bool x.loud :: .bool x.there :: Bst.flat xs
def Bst.sl (n g : Nat) : Value := .slice (some ⟨g, 0, none⟩) (n + 1) (n + 1)
def Bst.tc (n m : Nat) (gs : List Nat) : List Value := gs.map (Bst.sl n) ++ List.replicate (m - gs.length) (.slice none 0 0)
structure Bst.Tab (fv : Nat) (val : Int → Int) (n : Nat) (l : List Int) (w0 : World) (bv bb bt : Nat) (gs : List Nat) (W : World) : Prop where
 below : Below w0.heap.size w0 W
 hv : W.heap[bv]? = some (.cells #[.func (.func fv) #[] #[]] 149 (0, 0))
 hb : W.heap[bb]? = some (.cells #[.func (.func 114) #[] #[]] 150 (0, 0))
 ht : W.heap[bt]? = some (.cells (Bst.tc n (l.length + 1) gs).toArray 166 (0, 0))
 low : w0.heap.size ≤ bt
 rows : ∀ (j : Nat) (g : Nat), gs[j]? = some g → w0.heap.size ≤ g ∧ W.heap[g]? = some (.cells (Bst.flat (Bst.tab val n l j)).toArray 168 (0, 0))
theorem Bst.Tab.grown {fv : Nat} {val : Int → Int} {n : Nat} {l : List Int} {w0 : World} {bv bb bt : Nat} {gs : List Nat} {W W' : World} (h : Bst.Tab fv val n l w0 bv bb bt gs W) (G : Nat) (hG : w0.heap.size ≤ G) (hgs : ∀ g ∈ gs, g ≠ G) (hr : ∀ (cs : Array Value) (t : TypeId), W.heap[G]? = some (.cells cs t (0, 0)) → t = 168) (hg : W.grownBy W' (some G)) : Bst.Tab fv val n l w0 bv bb bt gs W' := by
 have ne : ∀ {b : Nat} {cs : Array Value} {t : TypeId}, t ≠ 168 → W.heap[b]? = some (.cells cs t (0, 0)) → some b ≠ some G := fun {b cs t} ht hb e => by
  cases e
  exact ht (hr _ _ hb)
 refine ⟨Below.grown h.below hg h.below.size (fun k e => by cases e; exact hG), blk_grown h.hv hg (ne (by decide) h.hv), blk_grown h.hb hg (ne (by decide) h.hb), blk_grown h.ht hg (ne (by decide) h.ht), h.low, fun j g hj => ?_⟩
 obtain ⟨h1, h2⟩ := h.rows j g hj
 exact ⟨h1, blk_grown h2 hg (fun e => hgs g (List.mem_of_getElem? hj) (by cases e; rfl))⟩
theorem Bst.Tab.step {fv : Nat} {val : Int → Int} {n : Nat} {l : List Int} {w0 : World} {bv bb bt : Nat} {gs : List Nat} {W W' : World} (h : Bst.Tab fv val n l w0 bv bb bt gs W) (hb : Below W.heap.size W W') : Bst.Tab fv val n l w0 bv bb bt gs W' :=
 ⟨zbt h.below hb, zkb h.hv hb, zkb h.hb hb, zkb h.ht hb, h.low, fun j g hj => ⟨(h.rows j g hj).1, zkb (h.rows j g hj).2 hb⟩⟩
structure Bst.Row (fv : Nat) (val : Int → Int) (n : Nat) (l : List Int) (w0 : World) (bv bb bt : Nat) (gs : List Nat) (R G : Nat) (row : List Bst.Step) (W : World) : Prop where
 tab : Bst.Tab fv val n l w0 bv bb bt gs W
 hR : W.heap[R]? = some (.cells #[.slice (some ⟨G, 0, none⟩) (n + 1) (n + 1)] 166 (0, 0))
 hr : W.heap[G]? = some (.cells (Bst.flat row).toArray 168 (0, 0))
 low : w0.heap.size ≤ G
 ne : ∀ g ∈ gs, g ≠ G
theorem Bst.Row.step {fv : Nat} {val : Int → Int} {n : Nat} {l : List Int} {w0 : World} {bv bb bt : Nat} {gs : List Nat} {R G : Nat} {row : List Bst.Step} {W W' : World} (h : Bst.Row fv val n l w0 bv bb bt gs R G row W) (hb : Below W.heap.size W W') : Bst.Row fv val n l w0 bv bb bt gs R G row W' :=
 ⟨h.tab.step hb, zkb h.hR hb, zkb h.hr hb, h.low, h.ne⟩
theorem Bst.Row.put {fv : Nat} {val : Int → Int} {n : Nat} {l : List Int} {w0 : World} {bv bb bt : Nat} {gs : List Nat} {R G : Nat} {row row' : List Bst.Step} {W W' : World} (h : Bst.Row fv val n l w0 bv bb bt gs R G row W) (hg : W.grownBy W' (some G)) (hr : W'.heap[G]? = some (.cells (Bst.flat row').toArray 168 (0, 0))) : Bst.Row fv val n l w0 bv bb bt gs R G row' W' :=
 ⟨h.tab.grown G h.low h.ne (fun cs t e => by rw [h.hr] at e; cases e; rfl) hg, blk_grown h.hR hg (fun e => blk_ne h.hR h.hr (by decide) (zsi e)), hr, h.low, h.ne⟩
end Go.Proofs.Ytaheamdoldiojaa.P
namespace Go.Proofs.Ytaheamdoldiojaa.P
open Go.RowKit Go.Proofs.YtaheamdoldiojaaW.PrintWords Go.Proofs.YtaheamdoldiojaaW.PrintLast Go.Proofs.YtaheamdoldiojaaW.PrintMore
attribute [local go_sem] max2_int min2_int max_two min_two max_three min_three max_four min_four   -- for this text's walks alone
set_option linter.unusedVariables false
set_option linter.unusedSimpArgs false
def sound_enough.l0 : Nat → Int → Int → Int → List Int → Int → Int → Option (Int)
 | 0, _, _, _, _, _, _ => none
 | k + 1, x0, x5, x6, x9, x10, x11 => if x11 < x10 then (if 0 ≤ x11 then (if x11 < (x9.length : Int) then (if (rd x9 x11) = 2 then (if (rd x9 x11) = 0 then (sound_enough.l0 k x0 (wrap64 (x5 + 1)) x6 x9 x10 (wrap64 (x11 + 1))) else (sound_enough.l0 k x0 (wrap64 (x5 + 1)) (wrap64 (x6 + 1)) x9 x10 (wrap64 (x11 + 1)))) else (if (rd x9 x11) = 0 then (sound_enough.l0 k x0 x5 x6 x9 x10 (wrap64 (x11 + 1))) else (sound_enough.l0 k x0 x5 (wrap64 (x6 + 1)) x9 x10 (wrap64 (x11 + 1))))) else (none)) else (none)) else (if x5 ≥ x0 then (some 2) else (if x6 < x0 then (some 0) else (some 1)))
def sound_enough.f (k : Nat) (a0 : Int) (l1 : List Int) : Option (Int) := sound_enough.l0 k a0 0 0 l1 (l1.length : Int) 0
def sound_high.j0 : Nat → Int → Bool → Int → Int → Option (Int)
 | 0, _, _, _, _ => none
 | k + 1, x1, x5, x102000, x102001 => if x5 = true then (some 2) else (if x102000 > (wrap64 (-x1)) then (if x102001 < x1 then (some 0) else (some 1)) else (some 1))
def sound_high.f (k : Nat) (a0_0 : Int) (a0_1 : Int) (a1 : Int) : Option (Int) := if a0_0 ≥ a1 then (sound_high.j0 k a1 true a0_0 a0_1) else (sound_high.j0 k a1 (decide (a0_1 ≤ (wrap64 (-a1)))) a0_0 a0_1)
mutual
def sound_risen.l0 : Nat → List Int → Int → Int → Int → List (S24) → Int → Int → Int → Int → Int → Option (List Int)
 | 0, _, _, _, _, _, _, _, _, _, _ => none
 | k + 1, x5, x6, x7, x8, x17, x18, x19, x103000, x103001, x103002 => if x19 < x18 then (if 0 ≤ x19 then (if x19 < (x17.length : Int) then ((sound_high.f k ((rd_T24 x17 x19).f0) ((rd_T24 x17 x19).f1) x103000).bind fun t108 => (if t108 = 2 then (sound_risen.j1 k x5 (wrap64 (x6 + 1)) (wrap64 (x7 + 1)) x8 x19 t108 x17 x18 x19 x103000 x103001 x103002) else (sound_risen.j1 k x5 0 (wrap64 (x7 + 1)) x8 x19 t108 x17 x18 x19 x103000 x103001 x103002))) else (none)) else (none)) else (some x5)
def sound_risen.j1 : Nat → List Int → Int → Int → Int → Int → Int → List (S24) → Int → Int → Int → Int → Int → Option (List Int)
 | 0, _, _, _, _, _, _, _, _, _, _, _, _ => none
 | k + 1, x5, x6, x7, x8, x9, x11, x17, x18, x19, x103000, x103001, x103002 => if x11 = 0 then (sound_risen.j2 k x5 x6 0 x8 x9 x17 x18 x19 x103000 x103001 x103002) else (sound_risen.j2 k x5 x6 x7 x8 x9 x17 x18 x19 x103000 x103001 x103002)
def sound_risen.j2 : Nat → List Int → Int → Int → Int → Int → List (S24) → Int → Int → Int → Int → Int → Option (List Int)
 | 0, _, _, _, _, _, _, _, _, _, _, _ => none
 | k + 1, x5, x6, x7, x8, x9, x17, x18, x19, x103000, x103001, x103002 => if x6 ≥ x103001 then (if 0 ≤ x9 then (if x9 < (x5.length : Int) then (sound_risen.l0 k (x5.set (x9 : Int).toNat 2) x6 x7 2 x17 x18 (wrap64 (x19 + 1)) x103000 x103001 x103002) else (none)) else (none)) else (if x7 ≥ x103001 then (if 0 ≤ x9 then (if x9 < (x5.length : Int) then (sound_risen.l0 k (x5.set (x9 : Int).toNat (mx x8 1)) x6 x7 (mx x8 1) x17 x18 (wrap64 (x19 + 1)) x103000 x103001 x103002) else (none)) else (none)) else (if 0 ≤ x9 then (if x9 < (x5.length : Int) then (sound_risen.l0 k (x5.set (x9 : Int).toNat x8) x6 x7 x8 x17 x18 (wrap64 (x19 + 1)) x103000 x103001 x103002) else (none)) else (none)))
end
def sound_risen.f (k : Nat) (l0_0 : List (S24)) (a1_0 : Int) (a1_1 : Int) (a1_2 : Int) : Option (List Int) := if 0 ≤ (l0_0.length : Int) then (if ((l0_0.length : Int) : Int).toNat ≤ 35184372088832 then (sound_risen.l0 k (List.replicate ((l0_0.length : Int) : Int).toNat 0) 0 0 0 l0_0 (l0_0.length : Int) 0 a1_0 a1_1 a1_2) else (none)) else (none)
mutual
def sound_alarm.l0 : Nat → List (S45) → List (List Int) → List (S45) → Int → Int → Int → Int → Int → Option (List Int)
 | 0, _, _, _, _, _, _, _, _ => none
 | k + 1, x0, x5, x13, x14, x15, x102000, x102001, x102002 => if x15 < x14 then (if 0 ≤ x15 then (if x15 < (x13.length : Int) then ((sound_risen.f k ((rd_T45 x13 x15).f0) x102000 x102001 x102002).bind fun t104 => (if x5.length < 5864062014805 then (sound_alarm.l0 k x0 (x5 ++ [t104]) x13 x14 (wrap64 (x15 + 1)) x102000 x102001 x102002) else (none))) else (none)) else (none)) else (if 0 < (x0.length : Int) then (if 0 ≤ (((rd_T45 x0 0).f0).length : Int) then (if ((((rd_T45 x0 0).f0).length : Int) : Int).toNat ≤ 35184372088832 then ((some (List.replicate ((((rd_T45 x0 0).f0).length : Int) : Int).toNat 0 : List Int)).bind fun y111 => (sound_alarm.l1 k x5 y111 (y111.length : Int) 0 x102000 x102001 x102002)) else (none)) else (none)) else (none))
def sound_alarm.l1 : Nat → List (List Int) → List Int → Int → Int → Int → Int → Int → Option (List Int)
 | 0, _, _, _, _, _, _, _ => none
 | k + 1, x5, x8, x33, x34, x102000, x102001, x102002 => if x34 < x33 then (sound_alarm.l2 k x5 x8 x34 ([] : List Int) x33 x34 x5 (x5.length : Int) 0 x102000 x102001 x102002) else (some x8)
def sound_alarm.l2 : Nat → List (List Int) → List Int → Int → List Int → Int → Int → List (List Int) → Int → Int → Int → Int → Int → Option (List Int)
 | 0, _, _, _, _, _, _, _, _, _, _, _, _ => none
 | k + 1, x5, x8, x9, x10, x33, x34, x37, x38, x39, x102000, x102001, x102002 => if x39 < x38 then (if 0 ≤ x39 then (if x39 < (x37.length : Int) then (if 0 ≤ x9 then (if x9 < ((rd_L4 x37 x39).length : Int) then (if x10.length < 17592186044416 then (sound_alarm.l2 k x5 x8 x9 (x10 ++ [rd (rd_L4 x37 x39) x9]) x33 x34 x37 x38 (wrap64 (x39 + 1)) x102000 x102001 x102002) else (none)) else (none)) else (none)) else (none)) else (none)) else ((sound_enough.f k x102002 x10).bind fun t119 => (if 0 ≤ x9 then (if x9 < (x8.length : Int) then (sound_alarm.l1 k x5 (x8.set (x9 : Int).toNat t119) x33 (wrap64 (x34 + 1)) x102000 x102001 x102002) else (none)) else (none)))
end
end Go.Proofs.Ytaheamdoldiojaa.P
namespace Go.Proofs.Ytaheamdoldiojaa.P
open Go.RowKit Go.Proofs.YtaheamdoldiojaaW.PrintWords Go.Proofs.YtaheamdoldiojaaW.PrintLast Go.Proofs.YtaheamdoldiojaaW.PrintMore
attribute [local go_sem] max2_int min2_int max_two min_two max_three min_three max_four min_four   -- for this text's walks alone
set_option linter.unusedVariables false
set_option linter.unusedSimpArgs false
def IsS137 (w0 W : World) (g : Nat) (f0 : List (S29)) (f1 : Int) (f2 : Int) (f3 : List (S24)) : Prop := ∃ A0 c0, ∃ A3 c3, W.heap[g]? = some (.cells #[.slice A0 f0.length c0, .int .i64 f1, .int .i64 f2, .slice A3 f3.length c3] 137 (0, 0)) ∧ w0.heap.size ≤ g ∧ Kd.C k29 w0 A0 f0.length f0 ∧ Kd.C k24 w0 A3 f3.length f3
theorem IsS137.grown {w0 W : World} {g : Nat} {f0 : List (S29)} {f1 : Int} {f2 : Int} {f3 : List (S24)} {W1 : World} {row : Option Nat} (h : IsS137 w0 W g f0 f1 f2 f3) (hw : W.grownBy W1 row) (hne : some g ≠ row) : IsS137 w0 W1 g f0 f1 f2 f3 := by
 obtain ⟨A0, c0, A3, c3, hb, hg, hr0, hr3⟩ := h
 exact ⟨A0, c0, A3, c3, blk_grown hb hw hne, hg, hr0, hr3⟩
theorem IsS137.kept {w0 W : World} {g : Nat} {f0 : List (S29)} {f1 : Int} {f2 : Int} {f3 : List (S24)} {W1 : World} {S : Nat → Prop} (h : IsS137 w0 W g f0 f1 f2 f3) (hk : Kept W W1 S) (hne : ¬ S g) : IsS137 w0 W1 g f0 f1 f2 f3 := by
 obtain ⟨A0, c0, A3, c3, hb, hg, hr0, hr3⟩ := h
 exact ⟨A0, c0, A3, c3, blk_kept hb hk hne, hg, hr0, hr3⟩
theorem IsS137.below {w0 W : World} {g : Nat} {f0 : List (S29)} {f1 : Int} {f2 : Int} {f3 : List (S24)} {W1 : World} (h : IsS137 w0 W g f0 f1 f2 f3) (hw : Below W.heap.size W W1) : IsS137 w0 W1 g f0 f1 f2 f3 := h.grown (grown_of_below hw none) (by simp)
theorem IsS137.alloc {w0 W : World} {g : Nat} {f0 : List (S29)} {f1 : Int} {f2 : Int} {f3 : List (S24)} (h : IsS137 w0 W g f0 f1 f2 f3) (o : Obj) : IsS137 w0 (W.alloc o) g f0 f1 f2 f3 := h.below (zba (Below.refl _ _) o)
theorem IsS137.drewN {w0 W : World} {g : Nat} {f0 : List (S29)} {f1 : Int} {f2 : Int} {f3 : List (S24)} (h : IsS137 w0 W g f0 f1 f2 f3) (m : Nat) : IsS137 w0 (W.drewN m) g f0 f1 f2 f3 := h
theorem IsS137.drew {w0 W : World} {g : Nat} {f0 : List (S29)} {f1 : Int} {f2 : Int} {f3 : List (S24)} (h : IsS137 w0 W g f0 f1 f2 f3) : IsS137 w0 W.drew g f0 f1 f2 f3 := h
section
open Ieee
theorem rt_log2_le {m k : Nat} (h0 : m ≠ 0) (h : m < 2 ^ (k + 1)) : m.log2 ≤ k := by
 have := (Nat.log2_lt h0).2 h
 omega
theorem rt_bool_le (b : Bool) : b.toNat ≤ 1 := by cases b <;> decide
theorem kept_lt (m : Nat) (h0 : m ≠ 0) (up drop : Nat) (hd : m.log2 + up = 52 + drop) (hud : up = 0 ∨ drop = 0) : 2 ^ 52 ≤ Toward.even.cut false (m <<< up) drop ∧ Toward.even.cut false (m <<< up) drop ≤ 2 ^ 53 := by
 have hlo : 2 ^ m.log2 ≤ m := Nat.log2_self_le h0
 have hhi : m < 2 ^ (m.log2 + 1) := Nat.lt_log2_self
 unfold Toward.cut
 rcases hud with rfl | rfl
 ·rw [Nat.shiftLeft_zero]
  have e : m.log2 = 52 + drop := by omega
  have hmin : min drop (m.log2 + 2) = drop := by omega
  simp only [hmin, Nat.one_shiftLeft]
  rw [e, Nat.pow_add] at hlo
  rw [e, show 52 + drop + 1 = 53 + drop by omega, Nat.pow_add] at hhi
  have hp : 0 < 2 ^ drop := Nat.two_pow_pos _
  have h1 : 2 ^ 52 ≤ m / 2 ^ drop := (Nat.le_div_iff_mul_le hp).2 hlo
  have h2 : m / 2 ^ drop < 2 ^ 53 := (Nat.div_lt_iff_lt_mul hp).2 hhi
  generalize m / 2 ^ drop = q at h1 h2 ⊢
  have hb := fun b : Bool => rt_bool_le b
  refine ⟨Nat.le_trans h1 (Nat.le_add_right _ _), ?_⟩
  exact Nat.le_trans (Nat.add_le_add_left (hb _) q) h2
 have e : m.log2 + up = 52 := by omega
 have hmin : min 0 ((m <<< up).log2 + 2) = 0 := by omega
 simp only [hmin, Nat.shiftLeft_zero, Nat.div_one, Nat.mod_one, Nat.mul_zero]
 rw [Nat.shiftLeft_eq]
 have h1 : 2 ^ m.log2 * 2 ^ up ≤ m * 2 ^ up := Nat.mul_le_mul_right _ hlo
 rw [← Nat.pow_add, e] at h1
 have h2 : m * 2 ^ up < 2 ^ (m.log2 + 1) * 2 ^ up := Nat.mul_lt_mul_of_pos_right hhi (Nat.two_pow_pos _)
 rw [← Nat.pow_add, show m.log2 + 1 + up = 53 by omega] at h2
 refine ⟨Nat.le_trans h1 (Nat.le_add_right _ _), ?_⟩
 exact Nat.le_trans (Nat.add_le_add_left (rt_bool_le _) _) h2
theorem read_write (m : Nat) (p : Int) (h0 : m ≠ 0) (h1 : -1000 ≤ p + m.log2) (h2 : p + m.log2 ≤ 900) : ∃ (k : Nat) (i : Int), double.read (double.nearest false m p) = .number false k i ∧ 4503599627370496 ≤ k ∧ ((i = p + m.log2 - 52 ∧ k < 9007199254740992) ∨ (i = p + m.log2 - 51 ∧ k = 4503599627370496)) := by
 have e1 : ((double.fractionBits : Nat) : Int) = 52 := rfl
 have e2 : double.leastPlace = -1074 := by decide
 have e3 : double.binade = 4503599627370496 := by decide
 have e4 : double.infRung = 9218868437227405312 := by decide
 have e5 : double.signWeight = 9223372036854775808 := by decide
 obtain ⟨last, hl⟩ : ∃ last : Int, last = p + m.log2 - 52 := ⟨_, rfl⟩
 obtain ⟨c, hc⟩ : ∃ c, c = Toward.even.cut false (m <<< (p - last).toNat) (last - p).toNat := ⟨_, rfl⟩
 have hk := kept_lt m h0 (p - last).toNat (last - p).toNat (by omega) (by omega)
 rw [← hc, show (2 : Nat) ^ 52 = 4503599627370496 by decide, show (2 : Nat) ^ 53 = 9007199254740992 by decide] at hk
 have hlast : max (p + (m.log2 : Int) - (double.fractionBits : Nat)) double.leastPlace = last := by
  rw [e1, e2]
  omega
 obtain ⟨u, hu⟩ : ∃ u : Nat, (last + 1074).toNat = u := ⟨_, rfl⟩
 have hub : 20 ≤ u ∧ u ≤ 1930 := by omega
 have hue : last = (u : Int) - 1074 := by omega
 have hn : double.nearest false m p = u * 4503599627370496 + c := by
  unfold Format.nearest
  rw [if_neg h0]
  simp only [hlast]
  rw [← hc, e2, e3, e4]
  unfold Format.word
  have : (last - -1074).toNat = u := by omega
  rw [this, if_neg (by decide)]
  exact Nat.min_eq_left (by clear hu hl hc hlast hue; omega)
 rw [hn]
 clear hn hc
 unfold Format.read
 simp only [e2, e3, e4, e5]
 have r1 : (u * 4503599627370496 + c) / 9223372036854775808 % 2 = 0 := by omega
 have r2 : (u * 4503599627370496 + c) % 9223372036854775808 = u * 4503599627370496 + c := by omega
 rw [r1, r2]
 rw [if_neg (by omega), if_pos (by omega)]
 by_cases hc3 : c = 9007199254740992
 ·refine ⟨4503599627370496, last + 1, ?_, Nat.le_refl _, .inr ⟨by omega, rfl⟩⟩
  have a1 : (u * 4503599627370496 + c) % 4503599627370496 = 0 := by omega
  have a2 : (u * 4503599627370496 + c) / 4503599627370496 - 1 = u + 1 := by omega
  rw [a1, a2, hue]
  have a3 : (-1074 : Int) + ((u + 1 : Nat) : Int) = (u : Int) - 1074 + 1 := by omega
  rw [a3]
  rfl
 refine ⟨c, last, ?_, hk.1, .inl ⟨hl, by omega⟩⟩
 have a1 : 4503599627370496 + (u * 4503599627370496 + c) % 4503599627370496 = c := by omega
 have a2 : (u * 4503599627370496 + c) / 4503599627370496 - 1 = u := by omega
 rw [a1, a2, hue]
 have a3 : (-1074 : Int) + (u : Int) = (u : Int) - 1074 := by omega
 rw [a3]
 rfl
theorem rootFrom_lt (n : Nat) : ∀ (todo root : Nat), Datum.rootFrom n todo root < root + 2 ^ todo
 | 0, root => by simp [Datum.rootFrom]
 | todo + 1, root => by
  unfold Datum.rootFrom
  have h := rootFrom_lt n todo
  simp only [Nat.one_shiftLeft]
  have e : 2 ^ (todo + 1) = 2 ^ todo + 2 ^ todo := by rw [Nat.pow_succ]; omega
  have hp := Nat.two_pow_pos todo
  by_cases q : (root + 2 ^ todo) * (root + 2 ^ todo) ≤ n
  ·rw [if_pos q]
   have := h (root + 2 ^ todo)
   omega
  rw [if_neg q]
  have := h root
  omega
theorem root_start (n : Nat) (hn : n < 2 ^ 61) : ∃ (r : Nat) (q : Nat), double.sqrt (double.nearest false n 0) = some r ∧ (double.read r).toInt .zero = some (q : Int) ∧ q ≤ 2 ^ 31 := by
 by_cases h0 : n = 0
 ·subst h0
  exact ⟨0, 0, by decide, by decide, by decide⟩
 have hL : n.log2 ≤ 60 := rt_log2_le h0 hn
 obtain ⟨k, i, hr, hk, hki⟩ := read_write n 0 h0 (by omega) (by omega)
 have hk3 : k < 2 ^ 53 := by rw [show (2 : Nat) ^ 53 = 9007199254740992 by decide]; omega
 have hk0 : k ≠ 0 := by omega
 have hkl : k.log2 = 52 := by
  have a := rt_log2_le (k := 52) hk0 hk3
  have b := (Nat.le_log2 hk0 (k := 52)).2 (by rw [show (2 : Nat) ^ 52 = 4503599627370496 by decide]; exact hk)
  omega
 have hi : -52 ≤ i ∧ i ≤ 9 := by omega
 unfold Format.sqrt
 rw [hr]
 simp only [Datum.root, if_neg hk0]
 have e1 : double.fractionBits + 2 = 54 := rfl
 rw [e1, hkl]
 simp only [Bool.false_eq_true, if_false]
 obtain ⟨more, hm⟩ : ∃ more, 2 * 54 - 52 + ((i - ((2 * 54 - 52 : Nat) : Int)) % 2).toNat = more := ⟨_, rfl⟩
 rw [hm]
 have hmb : 56 ≤ more ∧ more ≤ 57 ∧ (i - (more : Int)) % 2 = 0 := by omega
 obtain ⟨N, hN⟩ : ∃ N, k <<< more = N := ⟨_, rfl⟩
 rw [hN]
 have hNb : N < 2 ^ 110 := by
  rw [← hN, Nat.shiftLeft_eq]
  calc k * 2 ^ more < 2 ^ 53 * 2 ^ more := Nat.mul_lt_mul_of_pos_right hk3 (Nat.two_pow_pos _)
   _ ≤ 2 ^ 53 * 2 ^ 57 := Nat.mul_le_mul_left _ (Nat.pow_le_pow_right (by decide) hmb.2.1)
   _ = 2 ^ 110 := by decide
 have hN0 : N ≠ 0 := by
  rw [← hN, Nat.shiftLeft_eq]
  have := Nat.mul_pos (show 0 < k by omega) (Nat.two_pow_pos more)
  omega
 have hNl : N.log2 ≤ 109 := rt_log2_le hN0 hNb
 have hwl := rootFrom_lt N (N.log2 / 2 + 1) 0
 obtain ⟨W, hW⟩ : ∃ W, Datum.rootFrom N (N.log2 / 2 + 1) 0 = W := ⟨_, rfl⟩
 rw [hW] at hwl ⊢
 have hWb : W < 2 ^ 55 := by
  refine Nat.lt_of_lt_of_le hwl ?_
  rw [Nat.zero_add]
  exact Nat.pow_le_pow_right (by decide) (by omega)
 obtain ⟨M, hM⟩ : ∃ M, 2 * W + (W * W != N).toNat = M := ⟨_, rfl⟩
 rw [hM]
 have hMb : M < 2 ^ 56 := by
  have := rt_bool_le (W * W != N)
  omega
 obtain ⟨p, hp⟩ : ∃ p, (i - (more : Int)) / 2 - 1 = p := ⟨_, rfl⟩
 rw [hp]
 have hpb : -60 ≤ p ∧ p ≤ -25 := by omega
 simp only [Option.map_some]
 refine ⟨double.write (.number false M p), ?_⟩
 by_cases hM0 : M = 0
 ·refine ⟨0, rfl, ?_, by decide⟩
  have : Format.write double (.number false M p) = 0 := by
   rw [hM0]
   simp only [Format.write, Format.nearest, if_true]
   rfl
  rw [this]
  decide
 have hML : M.log2 ≤ 55 := rt_log2_le hM0 hMb
 obtain ⟨k2, i2, hr2, hk2, hki2⟩ := read_write M p hM0 (by omega) (by omega)
 have hi2 : i2 ≤ -21 := by omega
 have hk20 : k2 ≠ 0 := by omega
 have hk23 : k2 < 2 ^ 53 := by rw [show (2 : Nat) ^ 53 = 9007199254740992 by decide]; omega
 refine ⟨k2 / 2 ^ (min (-i2).toNat 54), rfl, ?_, ?_⟩
 ·show (double.read (double.nearest false M p)).toInt .zero = _
  rw [hr2]
  unfold Datum.toInt Datum.integral Toward.cut
  have hkl2 : k2.log2 = 52 := by
   have a := rt_log2_le (k := 52) hk20 hk23
   have b := (Nat.le_log2 hk20 (k := 52)).2 (by rw [show (2 : Nat) ^ 52 = 4503599627370496 by decide]; exact hk2)
   omega
  have t0 : i2.toNat = 0 := by omega
  simp [t0, hkl2, signed, Nat.one_shiftLeft]
 by_cases h54 : 54 ≤ (-i2).toNat
 ·rw [Nat.min_eq_right h54, Nat.div_eq_of_lt (by omega)]
  decide
 rw [Nat.min_eq_left (by omega)]
 obtain ⟨d, hd⟩ : ∃ d, (-i2).toNat = d := ⟨_, rfl⟩
 rw [hd]
 by_cases hd22 : 22 ≤ d
 ·have : k2 / 2 ^ d ≤ k2 / 2 ^ 22 := Nat.div_le_div_left (Nat.pow_le_pow_right (by decide) hd22) (by decide)
  refine Nat.le_trans this ?_
  omega
 have hd21 : d = 21 := by omega
 have hk52 : k2 = 4503599627370496 := by omega
 rw [hd21, hk52]
 decide
end
def Rt.IsRoot (n r : Int) : Prop := 0 ≤ r ∧ r * r ≤ n ∧ n < (r + 1) * (r + 1)
theorem Rt.sq_le {a b : Int} (h : 0 ≤ a) (h1 : a ≤ b) : a * a ≤ b * b := Int.mul_le_mul h1 h1 h (by omega)
theorem Rt.lt_of_sq {a b : Int} (hb : 0 ≤ b) (h : a * a < b * b) : a < b := by
 rcases Int.lt_or_le a b with h1 | h1
 ·exact h1
 have := Rt.sq_le hb h1
 omega
theorem Rt.IsRoot.unique {n r s : Int} (h : Rt.IsRoot n r) (h' : Rt.IsRoot n s) : r = s := by
 have a : r < s + 1 := Rt.lt_of_sq (by have := h'.1; omega) (Int.lt_of_le_of_lt h.2.1 h'.2.2)
 have b : s < r + 1 := Rt.lt_of_sq (by have := h.1; omega) (Int.lt_of_le_of_lt h'.2.1 h.2.2)
 omega
def Rt.sq (n : Nat) : Nat → Nat
 | 0 => 0
 | m + 1 => if (m + 1) * (m + 1) ≤ n then m + 1 else Rt.sq n m
theorem Rt.sq_spec (n : Nat) : ∀ m : Nat, Rt.sq n m ≤ m ∧ Rt.sq n m * Rt.sq n m ≤ n ∧ (n < (m + 1) * (m + 1) → n < (Rt.sq n m + 1) * (Rt.sq n m + 1))
 | 0 => ⟨Nat.le_refl _, by simp [Rt.sq], id⟩
 | m + 1 => by
  unfold Rt.sq
  by_cases q : (m + 1) * (m + 1) ≤ n
  ·rw [if_pos q]
   exact ⟨Nat.le_refl _, q, id⟩
  rw [if_neg q]
  obtain ⟨a, b, c⟩ := Rt.sq_spec n m
  exact ⟨by omega, b, fun _ => c (by omega)⟩
def Rt.root (n : Int) : Int := (Rt.sq n.toNat n.toNat : Nat)
def Rt.rootUp (n : Int) : Int := if Rt.root n * Rt.root n < n then Rt.root n + 1 else Rt.root n
theorem Rt.root_is {n : Int} (h0 : 0 ≤ n) : Rt.IsRoot n (Rt.root n) := by
 obtain ⟨a, b, c⟩ := Rt.sq_spec n.toNat n.toNat
 have c := c (by
  have := Nat.mul_le_mul (show 1 ≤ n.toNat + 1 by omega) (Nat.le_refl (n.toNat + 1))
  omega)
 unfold Rt.root
 obtain ⟨r, hr⟩ : ∃ r, Rt.sq n.toNat n.toNat = r := ⟨_, rfl⟩
 rw [hr] at b c ⊢
 refine ⟨by omega, ?_, ?_⟩
 ·have : ((r * r : Nat) : Int) ≤ ((n.toNat : Nat) : Int) := by exact_mod_cast b
  rw [Int.natCast_mul] at this
  omega
 have : ((n.toNat : Nat) : Int) < (((r + 1) * (r + 1) : Nat) : Int) := by exact_mod_cast c
 rw [Int.natCast_mul] at this
 push_cast at this
 omega
theorem Rt.root_of {n r : Int} (h : Rt.IsRoot n r) (h0 : 0 ≤ n) : Rt.root n = r := (Rt.root_is h0).unique h
end Go.Proofs.Ytaheamdoldiojaa.P
namespace Go.Proofs.Ytaheamdoldiojaa.P
open Go.RowKit Go.Proofs.YtaheamdoldiojaaW.PrintWords Go.Proofs.YtaheamdoldiojaaW.PrintLast Go.Proofs.YtaheamdoldiojaaW.PrintMore
attribute [local go_sem] max2_int min2_int max_two min_two max_three min_three max_four min_four   -- for this text's walks alone
set_option linter.unusedVariables false
set_option linter.unusedSimpArgs false
theorem conv_float (n : Nat) (w : World) : (convert 2 177 (.int .i64 (n : Int))).run Try.prog w = .ok (.float .f64 (Ieee.double.nearest false n 0)) w := by
 have e : FloatKind.f64.nearest (n : Int) = Ieee.double.nearest false n 0 := by
  show Ieee.double.nearest (decide ((n : Int) < 0)) (n : Int).natAbs 0 = _
  rw [zdf (by omega), Int.natAbs_natCast]
 have h0 : ∀ (n : Int) (w : World), (convert 2 177 (.int .i64 n)).run Try.prog w = .ok (.float .f64 (FloatKind.f64.nearest n)) w := fun _ _ => by kernel_rfl
 rw [h0, e]
theorem conv_int (r q : Nat) (h : (Ieee.double.read r).toInt .zero = some (q : Int)) (hq : q ≤ 2147483648) (w : World) : (convert 177 2 (.float .f64 r)).run Try.prog w = .ok (.int .i64 (q : Int)) w := by
 have e : (Conv.floatToInt .f64 r .i64).run Try.prog w = .ok (.int .i64 (q : Int)) w := by
  unfold Conv.floatToInt
  have h2 : (FloatKind.f64.decode r).toInt .zero = some (q : Int) := h
  simp only [h2]
  have h3 : IntKind.i64.min ≤ (q : Int) ∧ (q : Int) ≤ IntKind.i64.max := by
   have e1 : IntKind.i64.min = -9223372036854775808 := by decide
   have e2 : IntKind.i64.max = 9223372036854775807 := by decide
   rw [e1, e2]
   omega
  rw [if_pos h3]
  rfl
 have h0 : ∀ (r : Nat) (w : World), (convert 177 2 (.float .f64 r)).run Try.prog w = (Conv.floatToInt .f64 r .i64).run Try.prog w := fun _ _ => by kernel_rfl
 rw [h0, e]
theorem call_sqrt (x r : Nat) (h : Ieee.double.sqrt x = some r) (w : World) : (callFunc 138 #[.float .f64 x]).run Try.prog w = .ok (.value (.float .f64 r)) w := by
 rw [run_callFunc_extern Try.func138 (by kernel_rfl) (by kernel_rfl) (by kernel_rfl) (e := Extern.MathSqrt.sqrt) (by kernel_rfl)]
 have e : (Extern.MathSqrt.sqrt #[.float .f64 x]).run Try.prog w = .ok (.float .f64 r) w := by
  have h2 : FloatKind.f64.format.sqrt x = some r := h
  have h0 : ∀ (x : Nat) (w : World), (Extern.MathSqrt.sqrt #[.float .f64 x]).run Try.prog w = ((match FloatKind.f64.format.sqrt x with | some r => pure (.float .f64 r) | none => do pure (.float .f64 (← choose (.nanBits .f64 x x)))) : Sem Value).run Try.prog w := fun _ _ => by kernel_rfl
  rw [h0, h2]
  rfl
 rw [e]
 rfl
theorem math_Sqrt.calls (x r : Nat) (h : Ieee.double.sqrt x = some r) (w : World) : Calls Try.prog 136 #[.float .f64 x] w fun e w' => e = .returned (.float .f64 r) ∧ w' = w := by
 have hs := fun w => call_sqrt x r h w
 go_enter Try.func136, Try.ntmps136
 go_wp2
 go_ret
 exact ⟨rfl, rfl⟩
theorem rt_measure (M s : Nat) (h2 : s < M) (x : Int) (hx : x = (s : Int) + 1) : M - (intOf (.int .i64 x)).toNat < M - (intOf (.int .i64 (s : Int))).toNat := by
 subst hx
 have h3 : ((s : Int) + 1).toNat = s + 1 := (by omega)
 simp only [intOf, h3, Int.toNat_natCast]
 omega
def bound_round_root.f (a0_0 : Bool) (a1 : Int) : Option Int := if 0 ≤ a1 ∧ a1 < 2305843009213693952 then some (if a0_0 = true then Rt.rootUp a1 else Rt.root a1) else none
set_option maxHeartbeats 8000000 in
set_option maxRecDepth 100000 in
theorem bound_round_root.calls (a0_0 : Bool) (a1 : Int) (r : Int) (w : World) (h : bound_round_root.f a0_0 a1 = some r) :
  Calls Try.prog 133 #[.agg #[.bool a0_0], .int .i64 a1] w fun e w' => e = .returned (.int .i64 r) ∧ Below w.heap.size w w' := by
 have hu110 := Try.underlying173
 unfold bound_round_root.f at h
 by_cases c : 0 ≤ a1 ∧ a1 < 2305843009213693952
 ·rw [if_pos c] at h
  obtain rfl := zsi h
  obtain ⟨n, rfl⟩ : ∃ n : Nat, a1 = (n : Int) := ⟨a1.toNat, by omega⟩
  obtain ⟨x, q, hx, hq, hql⟩ := root_start n (by omega)
  have hql2 : q ≤ 2147483648 := by simpa using hql
  have HC := zam c
  have HQL := zam hql2
  have hc1 := conv_float n
  have hc2 := conv_int x q hq hql2
  clear hq hql c h
  have SQ := zam (fun w => math_Sqrt.calls _ x hx w)
  clear hx hql2
  go_enter Try.func133, Try.ntmps133
  go_wp2_with (first | ((with_reducible refine zgd (N := 2) rfl ?_); refine box_event ?hg (N := 2) ?hd (cs := #[.bool a0_0]) (t := 173) ?hr ?_; (case hd => rfl); (case hg => rfl); (case hr => first | (go_simp; done) | (go_simp; rfl)); intro gm hgm w1 hbk hb0; have BM := zam hbk; have HB := zam hb0; clear hgm hbk hb0) | (go_at_call 136; (with_reducible refine (SQ.out _).mono ?_); rintro e w2 ⟨rfl, rfl⟩))
  clear hc1 hc2 SQ
  obtain ⟨M, hM⟩ : ∃ M : Nat, M = 2147483648 := ⟨_, rfl⟩
  have HM := zam hM
  clear hM
  go_loopw [5] (fun v wr => ∃ p : Nat, p ≤ 2147483648 ∧ v = .int .i64 (p : Int) ∧ wr.heap[gm]? = some (.cells #[.bool a0_0] 173 (0, 0)) ∧ Below w.heap.size w wr) (fun v _ => (intOf v).toNat)
  case atStart => exact ⟨q, HQL.out, rfl, BM.out, HB.out⟩
  case round =>
   clear BM HB
   obtain ⟨p, hp, rfl, hbm, hb⟩ := hrel
   have BM := zam hbm
   have HB := zam hb
   have pp := Nat.mul_le_mul hp hp
   have wm : wrap64 ((p : Int) * (p : Int)) = (p : Int) * (p : Int) := wrap_id (by rw [← Int.natCast_mul]; omega) (by rw [← Int.natCast_mul]; omega)
   by_cases hlt : (n : Int) < (p : Int) * (p : Int)
   ·have dl : decide ((n : Int) < (p : Int) * (p : Int)) = true := zdt hlt
    have hp0 : p ≠ 0 := fun e => by subst e; simp at hlt; omega
    have ws : wrap64 ((p : Int) - 1) = ((p - 1 : Nat) : Int) := by rw [wrap_id (by omega) (by omega)]; omega
    clear hbm hb
    go_wp2
    go_roundw
    case rel => exact ⟨p - 1, by omega, congrArg (Value.int .i64) (by omega), BM.out, HB.out⟩
    case measure => (simp only [intOf]; omega)
   have dl : decide ((n : Int) < (p : Int) * (p : Int)) = false := zdf hlt
   have HLE : Aside0 ((p : Int) * (p : Int) ≤ (n : Int)) := ⟨by omega⟩
   clear hbm hb hlt
   go_wp2
   clear dl wm pp
   have HP := zam hp
   clear hp
   go_loopw [5] (fun v wr => ∃ s : Nat, (s : Int) * (s : Int) ≤ (n : Int) ∧ v = .int .i64 (s : Int) ∧ wr.heap[gm]? = some (.cells #[.bool a0_0] 173 (0, 0)) ∧ Below w.heap.size w wr) (fun v _ => M - (intOf v).toNat)
   case atStart => exact ⟨p, HLE.out, rfl, BM.out, HB.out⟩
   case round =>
    clear BM HB
    obtain ⟨s, hs, rfl, hbm, hb⟩ := hrel
    have BM := zam hbm
    have HB := zam hb
    have s31 : (s : Int) < 2147483648 := Rt.lt_of_sq (by omega) (by have := HC.out; omega)
    have s32 : s + 1 ≤ 2147483648 := by omega
    have pp := Nat.mul_le_mul s32 s32
    have pq : ((s : Int) + 1) * ((s : Int) + 1) ≤ 2147483648 * 2147483648 := by
     have : (((s + 1) * (s + 1) : Nat) : Int) ≤ 2147483648 * 2147483648 := by omega
     rw [Int.natCast_mul] at this
     push_cast at this
     exact this
    have p0 : 0 ≤ ((s : Int) + 1) * ((s : Int) + 1) := Int.mul_nonneg (by omega) (by omega)
    have wm : wrap64 (((s : Int) + 1) * ((s : Int) + 1)) = ((s : Int) + 1) * ((s : Int) + 1) := wrap_id (by omega) (by omega)
    have ws : wrap64 ((s : Int) + 1) = (s : Int) + 1 := wrap_id (by omega) (by omega)
    have HS := zam hs
    have S31 := zam s31
    by_cases hlt : ((s : Int) + 1) * ((s : Int) + 1) ≤ (n : Int)
    ·have dl : decide (((s : Int) + 1) * ((s : Int) + 1) ≤ (n : Int)) = true := zdt hlt
     have HLT := zam hlt
     clear hbm hb hs s31 s32 pp pq p0 hlt
     go_wp2
     go_roundw
     case rel => exact ⟨s + 1, (by rw [show ((s + 1 : Nat) : Int) = (s : Int) + 1 by omega]; exact HLT.out), congrArg (Value.int .i64) (by omega), BM.out, HB.out⟩
     case measure => exact rt_measure M s (by have := S31.out; have := HM.out; omega) _ ws
    have dl : decide (((s : Int) + 1) * ((s : Int) + 1) ≤ (n : Int)) = false := zdf hlt
    have HR : Aside0 (Rt.root (n : Int) = (s : Int)) := ⟨Rt.root_of ⟨by omega, hs, by omega⟩ (by omega)⟩
    have hz0 := (zkc hbm 0).trans rfl
    have w0 : 0 ≤ (s : Int) * (s : Int) := Int.mul_nonneg (by omega) (by omega)
    have wm2 : wrap64 ((s : Int) * (s : Int)) = (s : Int) * (s : Int) := wrap_id (by omega) (by have := HC.out; omega)
    have EU : Aside0 (Rt.rootUp (n : Int) = if (s : Int) * (s : Int) < (n : Int) then (s : Int) + 1 else (s : Int)) := ⟨by unfold Rt.rootUp; rw [HR.out]⟩
    clear hbm hb hs s31 s32 pp pq p0 hlt w0
    cases a0_0 with
    | false =>
     go_wp2
     go_ret
     exact ⟨by (rw [HR.out]) <;> rfl, HB.out⟩
    | true =>
     by_cases hu : (s : Int) * (s : Int) < (n : Int)
     ·have du : decide ((s : Int) * (s : Int) < (n : Int)) = true := zdt hu
      have HU := zam hu
      clear hu
      go_wp2
      go_ret
      exact ⟨by (rw [EU.out, if_pos HU.out]) <;> rfl, HB.out⟩
     have du : decide ((s : Int) * (s : Int) < (n : Int)) = false := zdf hu
     have HU := zam hu
     clear hu
     go_wp2
     go_ret
     exact ⟨by (rw [EU.out, if_neg (by have := HU.out; omega)]) <;> rfl, HB.out⟩
 rw [if_neg c] at h
 cases h
end Go.Proofs.Ytaheamdoldiojaa.P
namespace Go.Proofs.Ytaheamdoldiojaa.P
theorem rootZ {n r : Int} (h : Rt.IsRoot n r) (h0 : 0 ≤ n) : Rt.root n = r ∧ (Rt.rootUp n = if Rt.root n * Rt.root n < n then Rt.root n + 1 else Rt.root n) ∧ ∀ (a0_0 : Bool) (a1 : Int) (r : Int) (w : World) (_ : bound_round_root.f a0_0 a1 = some r), Go.Calls Try.prog 133 #[.agg #[.bool a0_0], .int .i64 a1] w fun e w' => e = .returned (.int .i64 r) ∧ Go.RowKit.Below w.heap.size w w' := ⟨Rt.root_of h h0, rfl, fun a0_0 a1 r w h => bound_round_root.calls a0_0 a1 r w h⟩
end Go.Proofs.Ytaheamdoldiojaa.P
