/- The forces, tensions, offsets and rises of all moorings with pieces of a rig lie within the spans that the document tells. Part 6 of 6. -/
-- Put together by wip/tools/shake.py, a program of this work: out of the words that the kit's print tool (print.sh) writes for a claim and what wip/tools/xprint.py prints, those that this claim reaches, and this work's own texts.
import Derived.KernelRfl
import Derived.Laws.EntriesVeiled
import Derived.Outline
import Derived.Test.YtebcmhajbjkojaaKMooringEvery4
namespace Go.Proofs.Ytebcmhajbjkojaa.P
open Go.RowKit Go.Proofs.YtebcmhajbjkojaaW.PrintWords Go.Proofs.YtebcmhajbjkojaaW.PrintLast Go.Proofs.YtebcmhajbjkojaaW.PrintMore
attribute [local go_sem] max2_int min2_int max_two min_two max_three min_three max_four min_four   -- for this text's walks alone
set_option linter.unusedVariables false
set_option linter.unusedSimpArgs false
abbrev Rig.P := S69
structure Rig.Ok (p : Rig.P) : Prop where
 a0 : 0 ≤ p.f0 ∧ p.f0 ≤ 65535
 a1 : -32768 ≤ p.f1 ∧ p.f1 ≤ 32767
 a2 : 0 ≤ p.f2 ∧ p.f2 ≤ 255
 a3 : 0 ≤ p.f3 ∧ p.f3 ≤ 65535
 a4 : 0 ≤ p.f4 ∧ p.f4 ≤ 255
 a5 : 0 ≤ p.f5 ∧ p.f5 ≤ 255
 a6 : 0 ≤ p.f6 ∧ p.f6 ≤ 255
 a7 : 0 ≤ p.f7 ∧ p.f7 ≤ 255
 a8 : 0 ≤ p.f8 ∧ p.f8 ≤ 255
def Rig.lift (p : Rig.P) : Int := Int.tdiv p.f1 4
def Rig.el (p : Rig.P) : S46 := ⟨p.f0 % 4096, Rig.lift p, p.f2, 1 + p.f3⟩
def Rig.lo (p : Rig.P) : Int := min (p.f4 % 4) (p.f5 % 4)
def Rig.hi (p : Rig.P) : Int := max (p.f4 % 4) (p.f5 % 4)
def Rig.at (p : Rig.P) : Int := Rig.lo p + p.f6 % (Rig.hi p - Rig.lo p + 1)
def Rig.cur (p : Rig.P) : S57 := ⟨max 0 (1000 * Rig.lo p - p.f8 % 100), min 3000 (1000 * Rig.hi p + p.f8 % 100)⟩
def Rig.neg : List Rig.P → Int
 | [] => 0
 | p :: ps => max 0 (-Rig.lift p) + Rig.neg ps
theorem Rig.neg_app (a b : List Rig.P) : Rig.neg (a ++ b) = Rig.neg a + Rig.neg b := by
 induction a with
 | nil => simp [Rig.neg]
 | cons x xs ih => rw [List.cons_append, Rig.neg, Rig.neg, ih]; omega
theorem Rig.lift_range {p : Rig.P} (h : Rig.Ok p) : -8192 ≤ Rig.lift p ∧ Rig.lift p ≤ 8191 := by
 have a := h.a1
 unfold Rig.lift
 by_cases c : 0 ≤ p.f1
 ·rw [Int.tdiv_eq_ediv_of_nonneg c]; omega
 ·have e : p.f1 = -(-p.f1) := by omega
  rw [e, Int.neg_tdiv, Int.tdiv_eq_ediv_of_nonneg (by omega)]
  omega
theorem Rig.range {p : Rig.P} (h : Rig.Ok p) : 0 ≤ Rig.lo p ∧ Rig.lo p ≤ Rig.at p ∧ Rig.at p ≤ Rig.hi p ∧ Rig.hi p ≤ 3 := by
 have a4 := h.a4
 have a5 := h.a5
 have a6 := h.a6
 have e : 0 ≤ Rig.lo p ∧ Rig.lo p ≤ Rig.hi p ∧ Rig.hi p ≤ 3 := by unfold Rig.lo Rig.hi; omega
 have m1 := Int.emod_nonneg p.f6 (show Rig.hi p - Rig.lo p + 1 ≠ 0 by omega)
 have m2 := Int.emod_lt_of_pos p.f6 (show 0 < Rig.hi p - Rig.lo p + 1 by omega)
 unfold Rig.at
 omega
theorem Rig.cur_ok {p : Rig.P} (h : Rig.Ok p) : Moor.curB (Rig.cur p) = true ∧ (Rig.cur p).f0 ≤ 1000 * Rig.at p ∧ 1000 * Rig.at p ≤ (Rig.cur p).f1 ∧ 0 ≤ (Rig.cur p).f0 ∧ (Rig.cur p).f1 ≤ 3000 := by
 have r := Rig.range h
 have a8 := h.a8
 have e : (Rig.cur p).f0 = max 0 (1000 * Rig.lo p - p.f8 % 100) := rfl
 have e' : (Rig.cur p).f1 = min 3000 (1000 * Rig.hi p + p.f8 % 100) := rfl
 refine ⟨?_, by omega, by omega, by omega, by omega⟩
 unfold Moor.curB
 simp
 omega
def Rig.els (q : List Rig.P) : List S46 := match q.map Rig.el with
 | [] => []
 | e :: es => ⟨e.f0, e.f1 + (1 + Rig.neg q), e.f2, e.f3⟩ :: es
theorem Rig.els_length (q : List Rig.P) : (Rig.els q).length = q.length := by
 cases q <;> simp [Rig.els]
theorem Rig.neg_range {q : List Rig.P} (h : ∀ p ∈ q, Rig.Ok p) : 0 ≤ Rig.neg q ∧ -Rig.neg q ≤ Moor.sumL (q.map Rig.el) ∧ Moor.sumL (q.map Rig.el) + Rig.neg q ≤ 8192 * (q.length : Int) ∧ Rig.neg q ≤ 8192 * (q.length : Int) := by
 induction q with
 | nil => simp [Rig.neg, Moor.sumL]
 | cons p ps ih =>
  have a := ih (fun x hx => h x (List.mem_cons_of_mem _ hx))
  have b := Rig.lift_range (h p List.mem_cons_self)
  rw [Rig.neg, List.map_cons, Moor.sumL, List.length_cons]
  have e : (Rig.el p).f1 = Rig.lift p := rfl
  omega
theorem Rig.sum_range {q : List Rig.P} (h : ∀ p ∈ q, Rig.Ok p) (h8 : q.length ≤ 8) {i : Nat} (hi : i < q.length) : 1 ≤ Moor.sumL ((Rig.els q).take (i + 1)) ∧ Moor.sumL ((Rig.els q).take (i + 1)) ≤ 65537 := by
 have e : Moor.sumL ((Rig.els q).take (i + 1)) = 1 + Rig.neg q + Moor.sumL ((q.take (i + 1)).map Rig.el) := by
  cases q with
  | nil => cases hi
  | cons p ps =>
   simp only [Rig.els, List.map_cons, List.take_succ_cons, Moor.sumL, List.map_take]
   omega
 have a := Rig.neg_range (q := q.take (i + 1)) (fun p hp => h p (List.mem_of_mem_take hp))
 have b := Rig.neg_range (q := q.drop (i + 1)) (fun p hp => h p (List.mem_of_mem_drop hp))
 have c := Rig.neg_app (q.take (i + 1)) (q.drop (i + 1))
 rw [List.take_append_drop] at c
 have l1 : (q.take (i + 1)).length + (q.drop (i + 1)).length = q.length := by rw [← List.length_append, List.take_append_drop]
 omega
theorem Rig.el_ok {q : List Rig.P} (h : ∀ p ∈ q, Rig.Ok p) (h8 : q.length ≤ 8) : ∀ e ∈ Rig.els q, Moor.elB e = true := by
 intro e he
 rw [Moor.elB_iff]
 have n := Rig.neg_range h
 have one : ∀ p ∈ q, 0 ≤ (Rig.el p).f0 ∧ (Rig.el p).f0 ≤ 4095 ∧ -8192 ≤ (Rig.el p).f1 ∧ (Rig.el p).f1 ≤ 8191 ∧ 0 ≤ (Rig.el p).f2 ∧ (Rig.el p).f2 ≤ 255 ∧ 1 ≤ (Rig.el p).f3 ∧ (Rig.el p).f3 ≤ 65536 := by
  intro p hp
  have k := h p hp
  have a0 := k.a0
  have a2 := k.a2
  have a3 := k.a3
  have l := Rig.lift_range k
  unfold Rig.el
  simp only
  omega
 cases q with
 | nil => cases he
 | cons p ps =>
  simp only [Rig.els, List.map_cons] at he
  rcases List.mem_cons.1 he with rfl | he
  ·have o := one p List.mem_cons_self
   simp only
   simp only [List.length_cons] at n h8
   omega
  ·obtain ⟨p', hp', rfl⟩ := List.mem_map.1 he
   have o := one p' (List.mem_cons_of_mem _ hp')
   omega
theorem Rig.stands {q : List Rig.P} (h : ∀ p ∈ q, Rig.Ok p) (h8 : q.length ≤ 8) : Moor.stands (Rig.els q) = true := by
 unfold Moor.stands
 rw [List.all_eq_true]
 intro v hv
 obtain ⟨i, hi, rfl⟩ := List.mem_iff_getElem.1 hv
 have hi' : i < (Rig.els q).length := by rw [← Moor.lifts_length]; exact hi
 have e := Moor.lifts_rd hi'
 rw [rd_nat hi] at e
 rw [e, decide_eq_true_eq]
 exact (Rig.sum_range h h8 (by rw [← Rig.els_length]; exact hi')).1
theorem Rig.l0 {l : List Rig.P} (h : ∀ p ∈ l, Rig.Ok p) (d an : Int) (n : Nat) : ∀ (k i : Nat), i + n = (l.take 8).length → n < k →
  isobathlaw02_rig.l0 k l ((l.take i).map Rig.cur) ((l.take i).map Rig.at) (1 + Rig.neg (l.take i)) (i : Int) d ((l.take i).map Rig.el) an 600 = some (d, Rig.els (l.take 8), an, 600, (l.take 8).map Rig.cur, (l.take 8).map Rig.at) := by
 induction n with
 | zero =>
  intro k i hi hk
  obtain ⟨k, rfl⟩ : ∃ m, k = m + 1 := ⟨k - 1, by omega⟩
  have hl : (l.take 8).length = min 8 l.length := List.length_take
  have e : l.take i = l.take 8 := by
   by_cases c : l.length ≤ 8
   ·rw [List.take_of_length_le (by omega), List.take_of_length_le (by omega)]
   ·have : i = 8 := by omega
    rw [this]
  have hb := Rig.neg_range (q := l.take 8) (fun p hp => h p (List.mem_of_mem_take hp))
  have fin : (if ((((l.take 8).map Rig.el).length : Nat) : Int) > 0 then (if 0 < ((((l.take 8).map Rig.el).length : Nat) : Int) then (some (d, (((l.take 8).map Rig.el).set (0 : Int).toNat (⟨(rd_T46 ((l.take 8).map Rig.el) 0).f0, wrap64 (((rd_T46 ((l.take 8).map Rig.el) 0).f1) + (1 + Rig.neg (l.take 8))), (rd_T46 ((l.take 8).map Rig.el) 0).f2, (rd_T46 ((l.take 8).map Rig.el) 0).f3⟩ : S46)), an, 600, (l.take 8).map Rig.cur, (l.take 8).map Rig.at)) else (none)) else (some (d, (l.take 8).map Rig.el, an, 600, (l.take 8).map Rig.cur, (l.take 8).map Rig.at))) = some (d, Rig.els (l.take 8), an, (600 : Int), (l.take 8).map Rig.cur, (l.take 8).map Rig.at) := by
   have ok8 : ∀ p ∈ l.take 8, Rig.Ok p := fun p hp => h p (List.mem_of_mem_take hp)
   have l8 : (l.take 8).length ≤ 8 := by omega
   generalize l.take 8 = q at *
   cases q with
   | nil => rfl
   | cons p ps =>
    have r := Rig.lift_range (ok8 p List.mem_cons_self)
    have e1 : rd_T46 ((p :: ps).map Rig.el) 0 = Rig.el p := rfl
    have e2 : (Rig.el p).f1 = Rig.lift p := rfl
    simp only [List.length_cons] at hb l8
    rw [if_pos (by simp), if_pos (by simp), e1, wrap_id (by rw [e2]; omega) (by rw [e2]; omega)]
    rfl
  simp only [isobathlaw02_rig.l0]
  rw [e]
  by_cases c : (i : Int) < (l.length : Int)
  ·rw [if_pos c, if_neg (by omega)]
   exact fin
  ·rw [if_neg c]
   exact fin
 | succ n ih =>
  intro k i hi hk
  obtain ⟨k, rfl⟩ : ∃ m, k = m + 1 := ⟨k - 1, by omega⟩
  have hl : (l.take 8).length = min 8 l.length := List.length_take
  have hlt : i < l.length := by omega
  have ok := h _ (List.getElem_mem hlt)
  have hb := Rig.neg_range (q := l.take i) (fun p hp => h p (List.mem_of_mem_take hp))
  have hti : (l.take i).length = i := by rw [List.length_take]; omega
  have ih' := ih k (i + 1) (by omega) (by omega)
  rw [take_snoc hlt, List.map_append, List.map_append, List.map_append, Rig.neg_app] at ih'
  have hrd : rd_T69 l (i : Int) = l[i] := by simp [rd_T69, List.getD, hlt]
  simp only [isobathlaw02_rig.l0]
  rw [if_pos (by omega), if_pos (by omega), if_pos (by omega), hrd, if_pos (by rw [List.length_map]; omega)]
  generalize l[i] = p at *
  have R := Rig.range ok
  have L := Rig.lift_range ok
  have C := Rig.cur_ok ok
  obtain ⟨a0, a1, a2, a3, a4, a5, a6, a7, a8⟩ := ok
  rw [wrap_id (n := p.f4) (by omega) (by omega), wrap_id (n := p.f5) (by omega) (by omega), wrap_id (n := p.f6) (by omega) (by omega), wrap_id (n := p.f8) (by omega) (by omega), wrap_id (n := p.f0) (by omega) (by omega), wrap_id (n := p.f1) (by omega) (by omega), wrap_id (n := p.f2) (by omega) (by omega), wrap_id (n := p.f3) (by omega) (by omega)]
  rw [Int.tmod_eq_emod_of_nonneg (a := p.f4) (by omega), Int.tmod_eq_emod_of_nonneg (a := p.f5) (by omega), Int.tmod_eq_emod_of_nonneg (a := p.f8) (by omega), Int.tmod_eq_emod_of_nonneg (a := p.f0) (by omega), mx_max, mx_max, mn_min, mn_min]
  rw [show max (p.f4 % 4) (p.f5 % 4) = Rig.hi p from rfl, show min (p.f4 % 4) (p.f5 % 4) = Rig.lo p from rfl, show p.f1.tdiv 4 = Rig.lift p from rfl]
  rw [wrap_id (n := Rig.hi p - Rig.lo p) (by omega) (by omega), wrap_id (n := Rig.hi p - Rig.lo p + 1) (by omega) (by omega), if_neg (by omega), if_pos (by rw [List.length_map]; omega), if_pos (by rw [List.length_map]; omega)]
  rw [wrap_id (n := 1000 * Rig.lo p) (by omega) (by omega), wrap_id (n := 1000 * Rig.lo p - p.f8 % 100) (by omega) (by omega), wrap_id (n := 1000 * Rig.hi p) (by omega) (by omega), wrap_id (n := 1000 * Rig.hi p + p.f8 % 100) (by omega) (by omega)]
  rw [Int.tmod_eq_emod_of_nonneg (a := p.f6) (by omega), show Rig.lo p + p.f6 % (Rig.hi p - Rig.lo p + 1) = Rig.at p from rfl, wrap_id (n := Rig.at p) (by omega) (by omega), wrap_id (n := Rig.lift p) (by omega) (by omega), wrap_id (n := -Rig.lift p) (by omega) (by omega), mx_max]
  rw [wrap_id (n := 1 + Rig.neg (l.take i) + max 0 (-Rig.lift p)) (by omega) (by omega), wrap_id (n := 1 + p.f3) (by omega) (by omega), wrap_succ (i := i) (n := 8) (by omega) (by omega)]
  have e : 1 + Rig.neg (l.take i) + max 0 (-Rig.lift p) = 1 + (Rig.neg (l.take i) + Rig.neg [p]) := by
   simp only [Rig.neg]
   omega
  rw [e]
  exact ih'
theorem Rig.f {l : List Rig.P} (h : ∀ p ∈ l, Rig.Ok p) {a b : Int} (a0 : 0 ≤ a) (a1 : a ≤ 65535) (b0 : 0 ≤ b) (b1 : b ≤ 65535) {k : Nat} (hk : 9 ≤ k) : isobathlaw02_rig.f k l a b = some (1 + a, Rig.els (l.take 8), b * 4, 600, (l.take 8).map Rig.cur, (l.take 8).map Rig.at) := by
 unfold isobathlaw02_rig.f
 rw [wrap_id (n := a) (by omega) (by omega), wrap_id (n := b) (by omega) (by omega), wrap_id (n := 1 + a) (by omega) (by omega), wrap_id (n := b * 4) (by omega) (by omega)]
 have hl : (l.take 8).length = min 8 l.length := List.length_take
 exact Rig.l0 h (1 + a) (b * 4) (l.take 8).length k 0 (by omega) (by omega)
theorem Rig.moor {q : List Rig.P} (h : ∀ p ∈ q, Rig.Ok p) (h8 : q.length ≤ 8) (h0 : 0 < q.length) {a b : Int} (a0 : 0 ≤ a) (a1 : a ≤ 65535) (b0 : 0 ≤ b) (b1 : b ≤ 65535) : Moor.Ok (1 + a) (Rig.els q) (b * 4) 600 (q.map Rig.cur) := by
 have hl := Rig.els_length q
 refine ⟨by omega, by omega, Rig.el_ok h h8, by rw [List.length_map, hl], ?_, ?_⟩
 ·rw [List.all_eq_true]
  intro x hx
  obtain ⟨p, hp, rfl⟩ := List.mem_map.1 hx
  exact (Rig.cur_ok (h p hp)).1
 ·unfold Moor.chk
  rw [if_neg (by omega), if_neg (by omega), if_pos (List.all_eq_true.2 (Rig.el_ok h h8))]
theorem Rig.dirs : (List.range 256).all (fun a => match isobathlaw02_direction.f (a : Int) with | some p => decide (p.1 * p.1 + p.2 * p.2 = 25) && (decide (-5 ≤ p.1) && (decide (p.1 ≤ 5) && (decide (-5 ≤ p.2) && decide (p.2 ≤ 5)))) | none => false) = true := by kernel_rfl
theorem Rig.dir {a : Int} (h0 : 0 ≤ a) (h1 : a ≤ 255) : ∃ x y, isobathlaw02_direction.f a = some (x, y) ∧ x * x + y * y = 25 ∧ -5 ≤ x ∧ x ≤ 5 ∧ -5 ≤ y ∧ y ≤ 5 := by
 obtain ⟨n, rfl⟩ : ∃ n : Nat, a = (n : Int) := ⟨a.toNat, by omega⟩
 have h := List.all_eq_true.1 Rig.dirs n (List.mem_range.2 (by omega))
 revert h
 cases isobathlaw02_direction.f (n : Int) with
 | none => intro h; simp at h
 | some p =>
  obtain ⟨x, y⟩ := p
  intro h
  simp at h
  exact ⟨x, y, rfl, h.1, h.2.1, h.2.2.1, h.2.2.2.1, h.2.2.2.2⟩
end Go.Proofs.Ytebcmhajbjkojaa.P
namespace Go.Proofs.Ytebcmhajbjkojaa.P
open Go.RowKit Go.Proofs.YtebcmhajbjkojaaW.PrintWords Go.Proofs.YtebcmhajbjkojaaW.PrintLast Go.Proofs.YtebcmhajbjkojaaW.PrintMore
attribute [local go_sem] max2_int min2_int max_two min_two max_three min_three max_four min_four   -- for this text's walks alone
set_option linter.unusedVariables false
set_option linter.unusedSimpArgs false
theorem Law2.fine60 : isobathlaw02_fine.f 60 = some true := by kernel_rfl
theorem Law2.fine {k : Nat} (hk : 60 ≤ k) : isobathlaw02_fine.f k = some true := LeO.up (fun k => isobathlaw02_fine.mono k) hk Law2.fine60
end Go.Proofs.Ytebcmhajbjkojaa.P
namespace Go.Proofs.Ytebcmhajbjkojaa.P
open Go.RowKit Go.Proofs.YtebcmhajbjkojaaW.PrintWords Go.Proofs.YtebcmhajbjkojaaW.PrintLast Go.Proofs.YtebcmhajbjkojaaW.PrintMore
attribute [local go_sem] max2_int min2_int max_two min_two max_three min_three max_four min_four   -- for this text's walks alone
set_option linter.unusedVariables false
set_option linter.unusedSimpArgs false
def isobathlaw02_long.f (a0_0 : Int) (l0_1 : List (S46)) (a0_2 : Int) (a0_3 : Int) (l1 : List (S57)) : Option (Bool) := if (l0_1.length : Int) > 60 then (some true) else (some (decide ((l1.length : Int) > 60)))
end Go.Proofs.Ytebcmhajbjkojaa.P
namespace Go.Proofs.Ytebcmhajbjkojaa.P
open Go.RowKit Go.Proofs.YtebcmhajbjkojaaW.PrintWords Go.Proofs.YtebcmhajbjkojaaW.PrintLast Go.Proofs.YtebcmhajbjkojaaW.PrintMore
attribute [local go_sem] max2_int min2_int max_two min_two max_three min_three max_four min_four   -- for this text's walks alone
set_option linter.unusedVariables false
set_option linter.unusedSimpArgs false
theorem Law2.long (d : Int) (els : List S46) (an fr : Int) (cs : List S57) : isobathlaw02_long.f d els an fr cs = some (decide (60 < els.length ∨ 60 < cs.length)) := by
 unfold isobathlaw02_long.f
 by_cases h : 60 < els.length
 ·rw [if_pos (by omega), decide_eq_true (by omega)]
 ·rw [if_neg (by omega)]
  by_cases h2 : 60 < cs.length
  ·rw [decide_eq_true (by omega), decide_eq_true (by omega)]
  ·rw [decide_eq_false (by omega), decide_eq_false (by omega)]
end Go.Proofs.Ytebcmhajbjkojaa.P
namespace Go.Proofs.Ytebcmhajbjkojaa.P
open Go.RowKit Go.Proofs.YtebcmhajbjkojaaW.PrintWords Go.Proofs.YtebcmhajbjkojaaW.PrintLast Go.Proofs.YtebcmhajbjkojaaW.PrintMore
attribute [local go_sem] max2_int min2_int max_two min_two max_three min_three max_four min_four   -- for this text's walks alone
set_option linter.unusedVariables false
set_option linter.unusedSimpArgs false
theorem Moor.list_at {val : Nat → S57} {n : Nat} {i : Nat} (hi : i < n) : rd_T57 (Moor.list val n) (i : Int) = val i := by
 have h : i < (Moor.list val n).length := by rw [Moor.list_length]; exact hi
 rw [Moor.rdS h]
 simp [Moor.list]
end Go.Proofs.Ytebcmhajbjkojaa.P
namespace Go.Proofs.Ytebcmhajbjkojaa.P
open Go.RowKit Go.Proofs.YtebcmhajbjkojaaW.PrintWords Go.Proofs.YtebcmhajbjkojaaW.PrintLast Go.Proofs.YtebcmhajbjkojaaW.PrintMore
attribute [local go_sem] max2_int min2_int max_two min_two max_three min_three max_four min_four   -- for this text's walks alone
set_option linter.unusedVariables false
set_option linter.unusedSimpArgs false
theorem Moor.Ok.err0 {d an fr : Int} {els : List S46} {cs : List S57} (h : Moor.Ok d els an fr cs) (hs : Moor.stands els = true) (stand : Bool) : Moor.err d els an fr cs stand = 0 := by
 rw [Moor.err_both h.chk h.len]
 unfold Moor.err2
 rw [if_pos h.cur, hs, if_neg (by simp)]
theorem S57.ext' {a b : S57} (h0 : a.f0 = b.f0) (h1 : a.f1 = b.f1) : a = b := by
 cases a; cases b; simp only at h0 h1; rw [h0, h1]
end Go.Proofs.Ytebcmhajbjkojaa.P
namespace Go.Proofs.Ytebcmhajbjkojaa.P
open Go.RowKit Go.Proofs.YtebcmhajbjkojaaW.PrintWords Go.Proofs.YtebcmhajbjkojaaW.PrintLast Go.Proofs.YtebcmhajbjkojaaW.PrintMore
attribute [local go_sem] max2_int min2_int max_two min_two max_three min_three max_four min_four   -- for this text's walks alone
set_option linter.unusedVariables false
set_option linter.unusedSimpArgs false
theorem wrap_mul {a b : Int} (A B : Int) (a0 : 0 ≤ a) (a1 : a ≤ A) (b0 : 0 ≤ b) (b1 : b ≤ B) (h : A * B ≤ 9223372036854775807) : wrap64 (a * b) = a * b ∧ 0 ≤ a * b ∧ a * b ≤ A * B := by
 have e0 := Int.mul_nonneg a0 b0
 have e1 : a * b ≤ A * B := Int.mul_le_mul a1 b1 b0 (by omega)
 exact ⟨wrap_id (by omega) (by omega), e0, e1⟩
theorem Evr.j4 {l : List Rig.P} {free : Bool} {ats : List Int} {hs ts os rs : List S57} {vs : List Int} {n x y T long d an fr : Int} {els : List S46} {i : Nat} (k : Nat) (h1 : i < rs.length) (h2 : i < vs.length) (hT0 : 0 ≤ T) (hT : T ≤ 200000000000) (hl0 : 0 ≤ long) (hl : long ≤ 4095) (hv0 : 0 ≤ rd vs (i : Int)) (hv : rd vs (i : Int) ≤ 65537)
  (hr : (rd_T57 rs (i : Int)).f0 * (rd_T57 rs (i : Int)).f0 * T ≤ 25 * (long * long * (rd vs (i : Int) * rd vs (i : Int))) ∧ 25 * (long * long * (rd vs (i : Int) * rd vs (i : Int))) ≤ (rd_T57 rs (i : Int)).f1 * (rd_T57 rs (i : Int)).f1 * T ∧ 0 ≤ (rd_T57 rs (i : Int)).f0 ∧ (rd_T57 rs (i : Int)).f0 ≤ long ∧ 0 ≤ (rd_T57 rs (i : Int)).f1 ∧ (rd_T57 rs (i : Int)).f1 ≤ long) :
  isobathlaw02_MooringEvery.j7 (k + 1) l free ats hs ts os rs vs n x y (i : Int) T long false d els an fr = isobathlaw02_MooringEvery.l0 k l free ats hs ts os rs vs n x y (wrap64 ((i : Int) + 1)) d els an fr := by
 simp only [isobathlaw02_MooringEvery.j7]
 generalize rd_T57 rs (i : Int) = r at *
 generalize rd vs (i : Int) = v at *
 obtain ⟨c1, c2, c3, c4, c5, c6⟩ := hr
 obtain ⟨a1, a2, a3⟩ := wrap_mul (a := r.f0) (b := r.f0) 4095 4095 c3 (by omega) c3 (by omega) (by omega)
 obtain ⟨b1, b2, b3⟩ := wrap_mul (a := r.f0 * r.f0) (b := T) 16769025 200000000000 a2 (by omega) hT0 hT (by omega)
 obtain ⟨a4, a5, a6⟩ := wrap_mul (a := r.f1) (b := r.f1) 4095 4095 c5 (by omega) c5 (by omega) (by omega)
 obtain ⟨b4, b5, b6⟩ := wrap_mul (a := r.f1 * r.f1) (b := T) 16769025 200000000000 a5 (by omega) hT0 hT (by omega)
 obtain ⟨d1, d2, d3⟩ := wrap_mul (a := 25) (b := long) 25 4095 (by omega) (by omega) hl0 hl (by omega)
 obtain ⟨d4, d5, d6⟩ := wrap_mul (a := 25 * long) (b := long) 102375 4095 d2 (by omega) hl0 hl (by omega)
 obtain ⟨d7, d8, d9⟩ := wrap_mul (a := 25 * long * long) (b := v) 419225625 65537 d5 (by omega) hv0 hv (by omega)
 obtain ⟨f1, f2, f3⟩ := wrap_mul (a := 25 * long * long * v) (b := v) 27474789785625 65537 d8 (by omega) hv0 hv (by omega)
 have e : 25 * long * long * v * v = 25 * (long * long * (v * v)) := by grind
 rw [a1, b1, a4, b4, d1, d4, d7, f1, if_neg (by decide), if_pos (by omega), if_pos (by omega), if_pos (by omega), if_neg (by omega), if_neg (by omega)]
theorem Evr.j3 {l : List Rig.P} {free : Bool} {ats : List Int} {hs ts os rs : List S57} {vs : List Int} {n x y P T d an fr : Int} {els : List S46} {i : Nat} (k : Nat) (h0 : i < els.length) (h1 : i < os.length) (hT0 : 0 ≤ T) (hT : T ≤ 200000000000) (hP0 : 0 ≤ P) (hP : P ≤ 200000000000) (hl0 : 0 ≤ (rd_T46 els (i : Int)).f0) (hl : (rd_T46 els (i : Int)).f0 ≤ 4095)
  (hr : (rd_T57 os (i : Int)).f0 * (rd_T57 os (i : Int)).f0 * T ≤ (rd_T46 els (i : Int)).f0 * (rd_T46 els (i : Int)).f0 * P ∧ (rd_T46 els (i : Int)).f0 * (rd_T46 els (i : Int)).f0 * P ≤ (rd_T57 os (i : Int)).f1 * (rd_T57 os (i : Int)).f1 * T ∧ 0 ≤ (rd_T57 os (i : Int)).f0 ∧ (rd_T57 os (i : Int)).f0 ≤ (rd_T46 els (i : Int)).f0 ∧ 0 ≤ (rd_T57 os (i : Int)).f1 ∧ (rd_T57 os (i : Int)).f1 ≤ (rd_T46 els (i : Int)).f0) :
  isobathlaw02_MooringEvery.j6 (k + 1) l free ats hs ts os rs vs n x y (i : Int) P T false d els an fr = isobathlaw02_MooringEvery.j7 k l free ats hs ts os rs vs n x y (i : Int) T (rd_T46 els (i : Int)).f0 false d els an fr := by
 simp only [isobathlaw02_MooringEvery.j6]
 generalize rd_T57 os (i : Int) = r at *
 generalize (rd_T46 els (i : Int)).f0 = long at *
 obtain ⟨c1, c2, c3, c4, c5, c6⟩ := hr
 obtain ⟨a1, a2, a3⟩ := wrap_mul (a := r.f0) (b := r.f0) 4095 4095 c3 (by omega) c3 (by omega) (by omega)
 obtain ⟨b1, b2, b3⟩ := wrap_mul (a := r.f0 * r.f0) (b := T) 16769025 200000000000 a2 (by omega) hT0 hT (by omega)
 obtain ⟨a4, a5, a6⟩ := wrap_mul (a := r.f1) (b := r.f1) 4095 4095 c5 (by omega) c5 (by omega) (by omega)
 obtain ⟨b4, b5, b6⟩ := wrap_mul (a := r.f1 * r.f1) (b := T) 16769025 200000000000 a5 (by omega) hT0 hT (by omega)
 obtain ⟨d1, d2, d3⟩ := wrap_mul (a := long) (b := long) 4095 4095 hl0 hl hl0 hl (by omega)
 obtain ⟨d4, d5, d6⟩ := wrap_mul (a := long * long) (b := P) 16769025 200000000000 d2 (by omega) hP0 hP (by omega)
 rw [a1, b1, a4, b4, d1, d4, if_neg (by decide), if_pos (by omega), if_pos (by omega), if_pos (by omega), if_neg (by omega), decide_eq_false (by omega)]
theorem Evr.j2 {l : List Rig.P} {free : Bool} {ats : List Int} {hs ts os rs : List S57} {vs : List Int} {n x y u v D A d an fr : Int} {els : List S46} {i : Nat} (k : Nat) (h0 : i < els.length) (h1 : i < ats.length) (h2 : i < vs.length) (h3 : i < hs.length) (h4 : i < ts.length) (hD : (rd_T46 els (i : Int)).f2 = D) (hA : rd ats (i : Int) = A) (hD0 : 0 ≤ D) (hD1 : D ≤ 255) (hA0 : 0 ≤ A) (hA1 : A ≤ 3)
  (hu0 : -5 ≤ u) (hu1 : u ≤ 5) (hv0 : -5 ≤ v) (hv1 : v ≤ 5) (hx0 : -91800 ≤ x + u * (D * A * A)) (hx1 : x + u * (D * A * A) ≤ 91800) (hy0 : -91800 ≤ y + v * (D * A * A)) (hy1 : y + v * (D * A * A) ≤ 91800) (hl0 : 0 ≤ rd vs (i : Int)) (hl1 : rd vs (i : Int) ≤ 65537)
  (hp0 : 0 ≤ (rd_T57 hs (i : Int)).f0) (hp1 : (rd_T57 hs (i : Int)).f0 ≤ 24000000) (hp2 : 0 ≤ (rd_T57 hs (i : Int)).f1) (hp3 : (rd_T57 hs (i : Int)).f1 ≤ 24000000)
  (ht0 : 0 ≤ (rd_T57 ts (i : Int)).f0) (ht1 : (rd_T57 ts (i : Int)).f0 ≤ 30000000) (ht2 : 0 ≤ (rd_T57 ts (i : Int)).f1) (ht3 : (rd_T57 ts (i : Int)).f1 ≤ 30000000)
  (hp : Evr.In ((x + u * (D * A * A)) * (x + u * (D * A * A)) + (y + v * (D * A * A)) * (y + v * (D * A * A))) (rd_T57 hs (i : Int)))
  (ht : Evr.In ((x + u * (D * A * A)) * (x + u * (D * A * A)) + (y + v * (D * A * A)) * (y + v * (D * A * A)) + 25 * (rd vs (i : Int) * rd vs (i : Int))) (rd_T57 ts (i : Int))) :
  isobathlaw02_MooringEvery.j2 (k + 4) l free ats hs ts os rs vs n x y (i : Int) u v d els an fr = isobathlaw02_MooringEvery.j6 k l free ats hs ts os rs vs n (x + u * (D * A * A)) (y + v * (D * A * A)) (i : Int) ((x + u * (D * A * A)) * (x + u * (D * A * A)) + (y + v * (D * A * A)) * (y + v * (D * A * A))) ((x + u * (D * A * A)) * (x + u * (D * A * A)) + (y + v * (D * A * A)) * (y + v * (D * A * A)) + 25 * (rd vs (i : Int) * rd vs (i : Int))) false d els an fr := by
 simp only [isobathlaw02_MooringEvery.j2]
 rw [hD, hA]
 obtain ⟨p, hpp⟩ : ∃ p, rd_T57 hs (i : Int) = p := ⟨_, rfl⟩
 obtain ⟨t, htt⟩ : ∃ t, rd_T57 ts (i : Int) = t := ⟨_, rfl⟩
 obtain ⟨w, hww⟩ : ∃ w, rd vs (i : Int) = w := ⟨_, rfl⟩
 rw [hpp] at hp0 hp1 hp2 hp3 hp
 rw [htt] at ht0 ht1 ht2 ht3 ht
 rw [hww] at hl0 hl1 ht ⊢
 obtain ⟨a1, a2, a3⟩ := wrap_mul (a := D) (b := A) 255 3 hD0 hD1 hA0 hA1 (by omega)
 obtain ⟨b1, b2, b3⟩ := wrap_mul (a := D * A) (b := A) 765 3 a2 (by omega) hA0 hA1 (by omega)
 rw [a1, b1, if_pos (by omega), if_pos (by omega), if_pos (by omega)]
 simp only [isobathlaw02_MooringEvery.j3]
 generalize D * A * A = F at *
 have u1 : -11475 ≤ u * F ∧ u * F ≤ 11475 := by
  have m1 : u * F ≤ 5 * F := Int.mul_le_mul_of_nonneg_right hu1 b2
  have m2 : -5 * F ≤ u * F := Int.mul_le_mul_of_nonneg_right hu0 b2
  omega
 have v1 : -11475 ≤ v * F ∧ v * F ≤ 11475 := by
  have m1 : v * F ≤ 5 * F := Int.mul_le_mul_of_nonneg_right hv1 b2
  have m2 : -5 * F ≤ v * F := Int.mul_le_mul_of_nonneg_right hv0 b2
  omega
 rw [wrap_id (n := u * F) (by omega) (by omega), wrap_id (n := v * F) (by omega) (by omega), wrap_id (n := x + u * F) (by omega) (by omega), wrap_id (n := y + v * F) (by omega) (by omega)]
 generalize x + u * F = X at *
 generalize y + v * F = Y at *
 have xx : X * X ≤ 91800 * 91800 := by
  rcases Int.le_total 0 X with c | c
  ·exact sq_le_sq c hx1
  ·have := sq_le_sq (a := -X) (b := 91800) (by omega) (by omega)
   rw [Int.neg_mul_neg] at this
   exact this
 have yy : Y * Y ≤ 91800 * 91800 := by
  rcases Int.le_total 0 Y with c | c
  ·exact sq_le_sq c hy1
  ·have := sq_le_sq (a := -Y) (b := 91800) (by omega) (by omega)
   rw [Int.neg_mul_neg] at this
   exact this
 have x0 := sq_nonneg' X
 have y0 := sq_nonneg' Y
 simp only [isobathlaw02_MooringEvery.j4]
 rw [hww]
 generalize hP : X * X + Y * Y = P at *
 obtain ⟨c1, c2, c3⟩ := wrap_mul (a := 25) (b := p.f0) 25 24000000 (by omega) (by omega) hp0 hp1 (by omega)
 obtain ⟨c4, c5, c6⟩ := wrap_mul (a := 25 * p.f0) (b := p.f0) 600000000 24000000 c2 (by omega) hp0 hp1 (by omega)
 obtain ⟨d1, d2, d3⟩ := wrap_mul (a := 25) (b := p.f1) 25 24000000 (by omega) (by omega) hp2 hp3 (by omega)
 obtain ⟨d4, d5, d6⟩ := wrap_mul (a := 25 * p.f1) (b := p.f1) 600000000 24000000 d2 (by omega) hp2 hp3 (by omega)
 obtain ⟨e1, e2, e3⟩ := wrap_mul (a := 25) (b := w) 25 65537 (by omega) (by omega) hl0 hl1 (by omega)
 obtain ⟨e4, e5, e6⟩ := wrap_mul (a := 25 * w) (b := w) 1638425 65537 e2 (by omega) hl0 hl1 (by omega)
 obtain ⟨f1, f2, f3⟩ := wrap_mul (a := 25) (b := t.f0) 25 30000000 (by omega) (by omega) ht0 ht1 (by omega)
 obtain ⟨f4, f5, f6⟩ := wrap_mul (a := 25 * t.f0) (b := t.f0) 750000000 30000000 f2 (by omega) ht0 ht1 (by omega)
 obtain ⟨g1, g2, g3⟩ := wrap_mul (a := 25) (b := t.f1) 25 30000000 (by omega) (by omega) ht2 ht3 (by omega)
 obtain ⟨g4, g5, g6⟩ := wrap_mul (a := 25 * t.f1) (b := t.f1) 750000000 30000000 g2 (by omega) ht2 ht3 (by omega)
 have r1 : 25 * p.f0 * p.f0 = 25 * (p.f0 * p.f0) := Int.mul_assoc _ _ _
 have r2 : 25 * p.f1 * p.f1 = 25 * (p.f1 * p.f1) := Int.mul_assoc _ _ _
 have r3 : 25 * w * w = 25 * (w * w) := Int.mul_assoc _ _ _
 have r4 : 25 * t.f0 * t.f0 = 25 * (t.f0 * t.f0) := Int.mul_assoc _ _ _
 have r5 : 25 * t.f1 * t.f1 = 25 * (t.f1 * t.f1) := Int.mul_assoc _ _ _
 obtain ⟨q1, q2⟩ := hp
 obtain ⟨q3, q4⟩ := ht
 rw [wrap_id (n := X * X) (by omega) (by omega), wrap_id (n := Y * Y) (by omega) (by omega), hP, wrap_id (n := P) (by omega) (by omega), e1, e4, r3, wrap_id (n := P + 25 * (w * w)) (by omega) (by omega), if_pos (by omega), if_pos (by omega)]
 simp only [isobathlaw02_MooringEvery.j5]
 rw [hpp, htt]
 rw [c1, c4, d1, d4, f1, f4, g1, g4]
 rw [if_pos (by omega), if_pos (by omega), if_neg (by omega), if_neg (by omega), if_pos (by omega), if_neg (by omega), decide_eq_false (by omega)]
def Evr.frc (p : Rig.P) : Int := p.f2 * Rig.at p * Rig.at p
def Evr.s : List Rig.P → Int
 | [] => 0
 | p :: ps => Evr.frc p + Evr.s ps
def Evr.m : Int → List Rig.P → Int
 | a, [] => a
 | a, p :: ps => Evr.m (max a (2 * Evr.frc p)) ps
theorem Evr.s_app (a b : List Rig.P) : Evr.s (a ++ b) = Evr.s a + Evr.s b := by
 induction a with
 | nil => simp [Evr.s]
 | cons x xs ih => rw [List.cons_append, Evr.s, Evr.s, ih]; omega
theorem Evr.m_app (c : Int) (a b : List Rig.P) : Evr.m c (a ++ b) = Evr.m (Evr.m c a) b := by
 induction a generalizing c with
 | nil => rfl
 | cons x xs ih => rw [List.cons_append, Evr.m, Evr.m, ih]
theorem Evr.s_take {q : List Rig.P} {i : Nat} (h : i < q.length) : Evr.s (q.take (i + 1)) = Evr.s (q.take i) + Evr.frc q[i] := by
 rw [take_snoc h, Evr.s_app]
 simp [Evr.s]
theorem Evr.m_take {q : List Rig.P} {i : Nat} (h : i < q.length) : Evr.m 0 (q.take (i + 1)) = max (Evr.m 0 (q.take i)) (2 * Evr.frc q[i]) := by
 rw [take_snoc h, Evr.m_app]
 rfl
theorem Evr.frc_range {p : Rig.P} (h : Rig.Ok p) : 0 ≤ Evr.frc p ∧ Evr.frc p ≤ 2295 := by
 have r := Rig.range h
 obtain ⟨a1, a2, a3⟩ := wrap_mul (a := p.f2) (b := Rig.at p) 255 3 h.a2.1 h.a2.2 (by omega) (by omega) (by omega)
 obtain ⟨b1, b2, b3⟩ := wrap_mul (a := p.f2 * Rig.at p) (b := Rig.at p) 765 3 a2 (by omega) (by omega) (by omega) (by omega)
 unfold Evr.frc
 omega
theorem Evr.s_range {q : List Rig.P} (h : ∀ p ∈ q, Rig.Ok p) : 0 ≤ Evr.s q ∧ Evr.s q ≤ 2295 * (q.length : Int) := by
 induction q with
 | nil => simp [Evr.s]
 | cons p ps ih =>
  have a := ih (fun x hx => h x (List.mem_cons_of_mem _ hx))
  have b := Evr.frc_range (h p List.mem_cons_self)
  rw [Evr.s, List.length_cons]
  omega
theorem Rig.els_at {q : List Rig.P} {i : Nat} (h : i < q.length) : (rd_T46 (Rig.els q) (i : Int)).f2 = q[i].f2 ∧ (rd_T46 (Rig.els q) (i : Int)).f0 = q[i].f0 % 4096 := by
 have hl : i < (Rig.els q).length := by rw [Rig.els_length]; exact h
 rw [Moor.rdE hl]
 cases q with
 | nil => cases h
 | cons p ps =>
  cases i with
  | zero => exact ⟨rfl, rfl⟩
  | succ i =>
   simp only [Rig.els, List.map_cons, List.getElem_cons_succ, List.getElem_map]
   exact ⟨rfl, rfl⟩
theorem Evr.force_in {p : Rig.P} (h : Rig.Ok p) {e : S46} (he : e.f2 = p.f2) : (Moor.force e (Rig.cur p)).f0 ≤ Evr.frc p ∧ Evr.frc p ≤ (Moor.force e (Rig.cur p)).f1 := by
 have r := Rig.range h
 obtain ⟨-, c1, c2, c3, c4⟩ := Rig.cur_ok h
 have a2 := h.a2
 unfold Moor.force Evr.frc
 simp only
 rw [he]
 generalize (Rig.cur p).f0 = c at *
 generalize (Rig.cur p).f1 = g at *
 generalize Rig.at p = A at *
 have m1 : p.f2 * c * c ≤ p.f2 * (1000 * A) * (1000 * A) := Int.mul_le_mul (Int.mul_le_mul_of_nonneg_left c1 a2.1) c1 c3 (Int.mul_nonneg a2.1 (by omega))
 have m2 : p.f2 * (1000 * A) * (1000 * A) ≤ p.f2 * g * g := Int.mul_le_mul (Int.mul_le_mul_of_nonneg_left c2 a2.1) c2 (by omega) (Int.mul_nonneg a2.1 (by omega))
 have e1 : p.f2 * (1000 * A) * (1000 * A) = 1000000 * (p.f2 * A * A) := by grind
 omega
theorem Evr.bounds {q : List Rig.P} (h : ∀ p ∈ q, Rig.Ok p) (j : Nat) (hj : j ≤ q.length) : Moor.slo ((Moor.on (Rig.els q) (q.map Rig.cur)).take j) ≤ Evr.s (q.take j) ∧ Evr.s (q.take j) ≤ Moor.shi ((Moor.on (Rig.els q) (q.map Rig.cur)).take j) ∧ Moor.most 0 ((Moor.on (Rig.els q) (q.map Rig.cur)).take j) - Moor.shi ((Moor.on (Rig.els q) (q.map Rig.cur)).take j) ≤ Evr.m 0 (q.take j) - Evr.s (q.take j) := by
 induction j with
 | zero => simp [Moor.slo, Moor.shi, Moor.most, Evr.s, Evr.m]
 | succ j ih =>
  obtain ⟨a, b, c⟩ := ih (by omega)
  have hlt : j < q.length := by omega
  have he : j < (Rig.els q).length := by rw [Rig.els_length]; exact hlt
  have hc : j < (q.map Rig.cur).length := by rw [List.length_map]; exact hlt
  have ho : (Moor.on (Rig.els q) (q.map Rig.cur))[j]? = some (Moor.force (Rig.els q)[j] (Rig.cur q[j])) := by
   unfold Moor.on
   rw [List.getElem?_zipWith, List.getElem?_eq_getElem he, List.getElem?_eq_getElem hc, List.getElem_map]
  have f2 := (Rig.els_at hlt).1
  rw [Moor.rdE he] at f2
  obtain ⟨g1, g2⟩ := Evr.force_in (h _ (List.getElem_mem hlt)) f2
  rw [Moor.slo_take ho, Moor.shi_take ho, Moor.most_take ho, Evr.s_take hlt, Evr.m_take hlt]
  omega
theorem Law2.every_l0 {l : List Rig.P} (hl : ∀ p ∈ l, Rig.Ok p) (free : Bool) {d an fr : Int} (ho : Moor.Ok d (Rig.els (l.take 8)) an fr ((l.take 8).map Rig.cur)) (n : Nat) : ∀ (k i : Nat) (x y : Int), i + n = (l.take 8).length → 7 * n + 100 ≤ k → Evr.Sum free x y (Evr.s ((l.take 8).take i)) (Evr.m 0 ((l.take 8).take i)) →
  isobathlaw02_MooringEvery.l0 k l free ((l.take 8).map Rig.at) (Moor.pulls free (Moor.on (Rig.els (l.take 8)) ((l.take 8).map Rig.cur))) (Moor.list (Moor.tensAt (Moor.pulls free (Moor.on (Rig.els (l.take 8)) ((l.take 8).map Rig.cur))) (Moor.lifts (Rig.els (l.take 8)))) (Rig.els (l.take 8)).length) (Moor.list (Moor.offsAt (Rig.els (l.take 8)) (Moor.pulls free (Moor.on (Rig.els (l.take 8)) ((l.take 8).map Rig.cur))) (Moor.lifts (Rig.els (l.take 8)))) (Rig.els (l.take 8)).length) (Moor.list (Moor.riseAt (Rig.els (l.take 8)) (Moor.pulls free (Moor.on (Rig.els (l.take 8)) ((l.take 8).map Rig.cur))) (Moor.lifts (Rig.els (l.take 8)))) (Rig.els (l.take 8)).length) (Moor.lifts (Rig.els (l.take 8))) ((l.take 8).length : Int) x y (i : Int) d (Rig.els (l.take 8)) an fr = some true := by
 have hq : ∀ p ∈ l.take 8, Rig.Ok p := fun p hp => hl p (List.mem_of_mem_take hp)
 have h8 : (l.take 8).length ≤ 8 := by rw [List.length_take]; omega
 have h8' : (l.take 8).length ≤ l.length := by rw [List.length_take]; omega
 have hat : ∀ i, (hi : i < (l.take 8).length) → (l.take 8)[i] = l[i]'(by omega) := fun i hi => List.getElem_take
 have hst := Rig.stands hq h8
 have helen := Rig.els_length (l.take 8)
 have hll := Moor.lifts_length (Rig.els (l.take 8))
 have hpl := ho.pulllen free
 induction n with
 | zero =>
  intro k i x y hi hk _
  obtain ⟨k, rfl⟩ : ∃ m, k = m + 1 := ⟨k - 1, by omega⟩
  simp only [isobathlaw02_MooringEvery.l0]
  rw [if_neg (by omega), Law2.fine (by omega), Option.bind_some]
 | succ n ih =>
  intro k i x y hi hk hS
  obtain ⟨k, rfl⟩ : ∃ m, k = m + 7 := ⟨k - 7, by omega⟩
  have hlt : i < (l.take 8).length := by omega
  have hle : i < (Rig.els (l.take 8)).length := by omega
  have ok := hq _ (List.getElem_mem hlt)
  obtain ⟨-, gp, -, p4, p5, p6⟩ := ho.at hst free hle
  have hel := Rig.els_at hlt
  have hA : rd ((l.take 8).map Rig.at) (i : Int) = Rig.at (l.take 8)[i] := by
   rw [rd_nat (by rw [List.length_map]; exact hlt), List.getElem_map]
  have hrl : rd_T69 l (i : Int) = (l.take 8)[i] := by
   rw [hat i hlt]
   simp [rd_T69, List.getD, show i < l.length by omega]
  have hvs := Moor.lifts_rd hle
  have hvr := Rig.sum_range hq h8 hlt
  have fr_ := Evr.frc_range ok
  have sr := Evr.s_range (q := (l.take 8).take (i + 1)) (fun p hp => hq p (List.mem_of_mem_take hp))
  have sl : ((l.take 8).take (i + 1)).length ≤ 8 := by rw [List.length_take]; omega
  have bd := Evr.bounds hq (i + 1) (by omega)
  have tb := Moor.take_bound (on := Moor.on (Rig.els (l.take 8)) ((l.take 8).map Rig.cur)) (by rw [ho.onlen]; exact ho.n40) (Moor.on_onB ho.elok ho.cur) (i + 1)
  obtain ⟨pf1, pf0⟩ := Moor.pull_at free _ 0 0 0 i _ gp
  rw [Int.zero_add] at pf1
  rw [Int.zero_add, Int.zero_add] at pf0
  have a0 := ok.a0
  have a2 := ok.a2
  have rr := Rig.range ok
  -- one direction
  have main : ∀ u v : Int, u * u + v * v = 25 → -5 ≤ u → u ≤ 5 → -5 ≤ v → v ≤ 5 → (free = false → u = 5 ∧ v = 0) →
    isobathlaw02_MooringEvery.j2 (k + 6) l free ((l.take 8).map Rig.at) (Moor.pulls free (Moor.on (Rig.els (l.take 8)) ((l.take 8).map Rig.cur))) (Moor.list (Moor.tensAt (Moor.pulls free (Moor.on (Rig.els (l.take 8)) ((l.take 8).map Rig.cur))) (Moor.lifts (Rig.els (l.take 8)))) (Rig.els (l.take 8)).length) (Moor.list (Moor.offsAt (Rig.els (l.take 8)) (Moor.pulls free (Moor.on (Rig.els (l.take 8)) ((l.take 8).map Rig.cur))) (Moor.lifts (Rig.els (l.take 8)))) (Rig.els (l.take 8)).length) (Moor.list (Moor.riseAt (Rig.els (l.take 8)) (Moor.pulls free (Moor.on (Rig.els (l.take 8)) ((l.take 8).map Rig.cur))) (Moor.lifts (Rig.els (l.take 8)))) (Rig.els (l.take 8)).length) (Moor.lifts (Rig.els (l.take 8))) ((l.take 8).length : Int) x y (i : Int) u v d (Rig.els (l.take 8)) an fr = some true := by
   intro u v huv hu0 hu1 hv0 hv1 hsame
   have S' := hS.step (f := Evr.frc (l.take 8)[i]) huv hsame fr_.1
   rw [← Evr.s_take hlt, ← Evr.m_take hlt] at S'
   have up := S'.up
   have e25 : 5 * Evr.s ((l.take 8).take (i + 1)) * (5 * Evr.s ((l.take 8).take (i + 1))) = 25 * (Evr.s ((l.take 8).take (i + 1)) * Evr.s ((l.take 8).take (i + 1))) := by grind
   have xn := sq_nonneg' (x + u * Evr.frc (l.take 8)[i])
   have yn := sq_nonneg' (y + v * Evr.frc (l.take 8)[i])
   have xb := Evr.sq_abs (a := x + u * Evr.frc (l.take 8)[i]) (b := 5 * Evr.s ((l.take 8).take (i + 1))) (by omega) (by omega)
   have yb := Evr.sq_abs (a := y + v * Evr.frc (l.take 8)[i]) (b := 5 * Evr.s ((l.take 8).take (i + 1))) (by omega) (by omega)
   have hin : Evr.In ((x + u * Evr.frc (l.take 8)[i]) * (x + u * Evr.frc (l.take 8)[i]) + (y + v * Evr.frc (l.take 8)[i]) * (y + v * Evr.frc (l.take 8)[i])) (rd_T57 (Moor.pulls free (Moor.on (Rig.els (l.take 8)) ((l.take 8).map Rig.cur))) (i : Int)) := by
    constructor
    ·cases hfr : free with
     | true =>
      rw [hfr] at pf0
      rw [if_pos rfl] at pf0
      rw [pf0]
      by_cases c : Moor.most 0 ((Moor.on (Rig.els (l.take 8)) ((l.take 8).map Rig.cur)).take (i + 1)) - Moor.shi ((Moor.on (Rig.els (l.take 8)) ((l.take 8).map Rig.cur)).take (i + 1)) ≤ 0
      ·rw [Int.max_eq_left c]
       omega
      ·rw [Int.max_eq_right (by omega)]
       have dn := S'.down (by omega)
       have := sq_le_sq (a := Moor.most 0 ((Moor.on (Rig.els (l.take 8)) ((l.take 8).map Rig.cur)).take (i + 1)) - Moor.shi ((Moor.on (Rig.els (l.take 8)) ((l.take 8).map Rig.cur)).take (i + 1))) (by omega) bd.2.2
       omega
     | false =>
      rw [hfr] at pf0
      rw [if_neg (by decide)] at pf0
      rw [pf0]
      obtain ⟨z1, z2⟩ := S'.same hfr
      rw [z1, z2]
      have := sq_le_sq tb.1 bd.1
      omega
    ·rw [pf1]
     have := sq_le_sq sr.1 bd.2.1
     omega
   have P0 : 0 ≤ (x + u * Evr.frc (l.take 8)[i]) * (x + u * Evr.frc (l.take 8)[i]) + (y + v * Evr.frc (l.take 8)[i]) * (y + v * Evr.frc (l.take 8)[i]) := by omega
   have P1 : (x + u * Evr.frc (l.take 8)[i]) * (x + u * Evr.frc (l.take 8)[i]) + (y + v * Evr.frc (l.take 8)[i]) * (y + v * Evr.frc (l.take 8)[i]) ≤ 8427240000 := by
    have := sq_le_sq (a := Evr.s ((l.take 8).take (i + 1))) (b := 18360) sr.1 (by omega)
    omega
   have tn := Evr.tens p4 hin
   have of_ := Evr.offs p5 p4 hin
   have ri := Evr.rise p5 p4 hin
   have okb := p4
   unfold Moor.okB at okb
   have vv := sq_le_sq (a := rd (Moor.lifts (Rig.els (l.take 8))) (i : Int)) (b := 65537) (by omega) (by omega)
   have vn := sq_nonneg' (rd (Moor.lifts (Rig.els (l.take 8))) (i : Int))
   have sqr := Moor.sq_range p4
   have rl := Moor.root_is (n := Moor.sqL (rd_T57 (Moor.pulls free (Moor.on (Rig.els (l.take 8)) ((l.take 8).map Rig.cur))) (i : Int)) (rd (Moor.lifts (Rig.els (l.take 8))) (i : Int))) (by omega) (by omega)
   have p1b := sq_le_sq (a := (rd_T57 (Moor.pulls free (Moor.on (Rig.els (l.take 8)) ((l.take 8).map Rig.cur))) (i : Int)).f1) (b := 24000000) (by omega) (by omega)
   have p0b := sq_le_sq (a := (rd_T57 (Moor.pulls free (Moor.on (Rig.els (l.take 8)) ((l.take 8).map Rig.cur))) (i : Int)).f0) (b := 24000000) (by omega) (by omega)
   have ru := Moor.rootUp_le (n := Moor.sqH (rd_T57 (Moor.pulls free (Moor.on (Rig.els (l.take 8)) ((l.take 8).map Rig.cur))) (i : Int)) (rd (Moor.lifts (Rig.els (l.take 8))) (i : Int))) (s := 30000000) (by omega) (by omega) (by omega) (by unfold Moor.sqH; omega)
   have ru0 := Moor.rootUp_nonneg (n := Moor.sqH (rd_T57 (Moor.pulls free (Moor.on (Rig.els (l.take 8)) ((l.take 8).map Rig.cur))) (i : Int)) (rd (Moor.lifts (Rig.els (l.take 8))) (i : Int))) (by omega) (by omega)
   have rlb : Moor.root (Moor.sqL (rd_T57 (Moor.pulls free (Moor.on (Rig.els (l.take 8)) ((l.take 8).map Rig.cur))) (i : Int)) (rd (Moor.lifts (Rig.els (l.take 8))) (i : Int))) ≤ 30000000 := le_of_sq (by omega) (by
    have := rl.2.1
    unfold Moor.sqL at this ⊢
    omega)
   rw [Evr.j2 (D := (l.take 8)[i].f2) (A := Rig.at (l.take 8)[i]) (k + 2) hle (by rw [List.length_map]; exact hlt) (by omega) (by omega) (by rw [Moor.list_length]; exact hle) hel.1 hA a2.1 a2.2 (by omega) (by omega) hu0 hu1 hv0 hv1 (by unfold Evr.frc at xb; omega) (by unfold Evr.frc at xb; omega) (by unfold Evr.frc at yb; omega) (by unfold Evr.frc at yb; omega) (by omega) (by omega) (by omega) (by omega) (by omega) (by omega)
    (by rw [Moor.list_at hle]; exact rl.1) (by rw [Moor.list_at hle]; exact rlb) (by rw [Moor.list_at hle]; exact ru0) (by rw [Moor.list_at hle]; exact ru) hin (by rw [Moor.list_at hle]; exact tn)]
   rw [Evr.j3 (k + 1) hle (by rw [Moor.list_length]; exact hle) (by unfold Evr.frc at P0; omega) (by unfold Evr.frc at P1; omega) (by unfold Evr.frc at P0; omega) (by unfold Evr.frc at P1; omega) (by rw [hel.2]; omega) (by rw [hel.2]; omega) (by rw [Moor.list_at hle]; exact of_)]
   rw [Evr.j4 k (by rw [Moor.list_length]; exact hle) (by omega) (by unfold Evr.frc at P0; omega) (by unfold Evr.frc at P1; omega) (by rw [hel.2]; omega) (by rw [hel.2]; omega) (by omega) (by omega) (by rw [Moor.list_at hle]; exact ri), wrap_succ hlt (by omega)]
   exact ih k (i + 1) _ _ (by omega) (by omega) S'
  simp only [isobathlaw02_MooringEvery.l0]
  rw [if_pos (by omega)]
  cases hfr : free with
  | true =>
   rw [hfr] at main
   obtain ⟨u, v, e1, e2, e3, e4, e5, e6⟩ := Rig.dir ok.a7.1 ok.a7.2
   rw [if_pos rfl, if_pos (by omega), if_pos (by omega), hrl, e1, Option.bind_some]
   exact main u v e2 e3 e4 e5 e6 (fun h => by cases h)
  | false =>
   rw [hfr] at main
   rw [if_neg (by decide)]
   exact main 5 0 (by omega) (by omega) (by omega) (by omega) (by omega) (fun _ => ⟨rfl, rfl⟩)
theorem Law2.every {l : List Rig.P} (hl : ∀ p ∈ l, Rig.Ok p) {a b : Int} (free : Bool) (a0 : 0 ≤ a) (a1 : a ≤ 65535) (b0 : 0 ≤ b) (b1 : b ≤ 65535) : isobathlaw02_MooringEvery.f 3000 l a b free = some true := by
 have hq : ∀ p ∈ l.take 8, Rig.Ok p := fun p hp => hl p (List.mem_of_mem_take hp)
 have h8 : (l.take 8).length ≤ 8 := by rw [List.length_take]; omega
 have helen := Rig.els_length (l.take 8)
 unfold isobathlaw02_MooringEvery.f
 rw [Rig.f hl a0 a1 b0 b1 (by omega), Option.bind_some]
 simp only
 by_cases c : (l.take 8).length = 0
 ·rw [if_pos (by omega), Moor.check (by omega) (by omega), Option.bind_some]
  have e : Moor.chk (1 + a) (Rig.els (l.take 8)) (b * 4) 600 = 2 := by
   unfold Moor.chk
   rw [if_neg (by omega), if_pos (by omega)]
  rw [e, if_pos rfl, Law2.fine (by omega), Option.bind_some]
 ·have ho := Rig.moor hq h8 (by omega) a0 a1 b0 b1
  have hs := Rig.stands hq h8
  have e1 := Moor.Ok.err0 ho hs true
  have e0 := Moor.Ok.err0 ho hs false
  rw [if_neg (by omega)]
  unfold mooring_Pulls.f mooring_Tensions.f mooring_Shape.f mooring_Lifts.f
  rw [if_pos e0, if_pos e1, if_pos e1, if_pos (by omega), if_pos ho.chk]
  simp only [Option.bind_some, Moor.list_length, Moor.lifts_length, ho.pulllen, if_true, bne_self_eq_false]
  rw [if_pos (by decide +kernel)]
  simp only [isobathlaw02_MooringEvery.j0]
  rw [if_neg (by decide)]
  have r := Law2.every_l0 hl free ho (l.take 8).length 2999 0 0 0 (by omega) (by omega) (Evr.Sum.zero free)
  rw [← helen] at r
  rw [helen] at r
  rw [helen]
  exact r
theorem Rig.ok_of {p : Rig.P} (h : mooringEvery.B69 p) : Rig.Ok p := by
 obtain ⟨h0, h1, h2, h3, h4, h5, h6, h7, h8⟩ := h
 have u8 : ∀ n : Int, (Lit.int .u8 n).wf = true → 0 ≤ n ∧ n ≤ 255 := fun n h => by
  have e : (decide ((0 : Int) ≤ n) && decide (n ≤ 255)) = true := h
  simp at e
  omega
 have u16 : ∀ n : Int, (Lit.int .u16 n).wf = true → 0 ≤ n ∧ n ≤ 65535 := fun n h => by
  have e : (decide ((0 : Int) ≤ n) && decide (n ≤ 65535)) = true := h
  simp at e
  omega
 have i16 : ∀ n : Int, (Lit.int .i16 n).wf = true → -32768 ≤ n ∧ n ≤ 32767 := fun n h => by
  have e : (decide ((-32768 : Int) ≤ n) && decide (n ≤ 32767)) = true := h
  simp at e
  omega
 exact ⟨u16 _ h0, i16 _ h1, u8 _ h2, u16 _ h3, u8 _ h4, u8 _ h5, u8 _ h6, u8 _ h7, u8 _ h8⟩
theorem mooringEvery_holds : Rows.MooringEverySaid := mooringEvery.proved fun l a b free hl ha hb => by
 have u16 : ∀ n : Int, (Lit.int .u16 n).wf = true → 0 ≤ n ∧ n ≤ 65535 := fun n h => by
  have e : (decide ((0 : Int) ≤ n) && decide (n ≤ 65535)) = true := h
  simp at e
  omega
 exact ⟨3000, Law2.every (fun p hp => Rig.ok_of (hl.2 p hp)) free (u16 a ha).1 (u16 a ha).2 (u16 b hb).1 (u16 b hb).2⟩
#print axioms mooringEvery_holds
end Go.Proofs.Ytebcmhajbjkojaa.P
