/- whatever the true levels in the spans are, the alarm is raised by each sample for which Raised says Yes, and by none for which it says No; so it is by the sample that First returns first, and not before the second one; Raised does not become less. Part 2 of 2. -/
-- Put together by wip/tools/shake.py, a program of this work: out of the words that the kit's print tool (print.sh) writes for a claim and what wip/tools/xprint.py prints, those that this claim reaches, and this work's own texts.
import Derived.Test.YtaheamdoldiojaaKSoundSure0
namespace Go.Proofs.Ytaheamdoldiojaa.P
open Go.RowKit Go.Proofs.YtaheamdoldiojaaW.PrintWords Go.Proofs.YtaheamdoldiojaaW.PrintLast Go.Proofs.YtaheamdoldiojaaW.PrintMore
attribute [local go_sem] max2_int min2_int max_two min_two max_three min_three max_four min_four   -- for this text's walks alone
set_option linter.unusedVariables false
set_option linter.unusedSimpArgs false
theorem Sp.lin_snoc {s : S24} {v : Int} (h : s.f0 ≤ v ∧ v ≤ s.f1) : ∀ (xs : List S24) (vs : List Int), Sp.lin xs vs → Sp.lin (xs ++ [s]) (vs ++ [v])
 | [], [], _ => ⟨h, trivial⟩
 | [], _ :: _, q => q.elim
 | _ :: _, [], q => q.elim
 | _ :: t, _ :: u, q => ⟨q.1, Sp.lin_snoc h t u q.2⟩
theorem Sp.mat_snoc {x : S45} {r : List Int} (h : Sp.lin x.f0 r) : ∀ (l : List S45) (lv : List (List Int)), Sp.mat l lv → Sp.mat (l ++ [x]) (lv ++ [r])
 | [], [], _ => ⟨h, trivial⟩
 | [], _ :: _, q => q.elim
 | _ :: _, [], q => q.elim
 | _ :: t, _ :: u, q => ⟨q.1, Sp.mat_snoc h t u q.2⟩
theorem Sp.sure_part {a0 a1 p : Int} (h : Bo.v a0 a1) (h0 : 0 ≤ p) (h1 : p ≤ 65535) : ∃ x, isobathlaw01_Part.f a0 a1 p = some x ∧ a0 ≤ x ∧ x ≤ a1 := by
 obtain ⟨g1, g2, g3⟩ := h
 unfold isobathlaw01_Part.f
 have m0 : 0 ≤ (a1 - a0) * p := Int.mul_nonneg (by omega) h0
 have m1 : (a1 - a0) * p ≤ (a1 - a0) * 65535 := Int.mul_le_mul_of_nonneg_left h1 (by omega)
 have w0 : wrap64 (a1 - a0) = a1 - a0 := wrap_id (by omega) (by omega)
 have w1 : wrap64 p = p := wrap_id (by omega) (by omega)
 have w2 : wrap64 ((a1 - a0) * p) = (a1 - a0) * p := wrap_id (by omega) (by omega)
 rw [w0, w1, w2, tdiv_pos m0]
 have d0 : 0 ≤ (a1 - a0) * p / 65535 := by omega
 have d1 : (a1 - a0) * p / 65535 ≤ a1 - a0 := by omega
 rw [wrap_id (n := (a1 - a0) * p / 65535) (by omega) (by omega), wrap_id (by omega) (by omega)]
 exact ⟨_, rfl, by omega, by omega⟩
theorem Sp.sure_pick (ps : List Int) (hp : ∀ p ∈ ps, 0 ≤ p ∧ p ≤ 65535) {a : Int} (ha : 0 ≤ a) : ∃ p, isobathlaw07_pick.f ps a = some p ∧ 0 ≤ p ∧ p ≤ 65535 := by
 unfold isobathlaw07_pick.f
 by_cases c : a < (ps.length : Int)
 ·rw [if_pos c, if_pos ha]
  obtain ⟨n, rfl⟩ : ∃ n : Nat, a = (n : Int) := ⟨a.toNat, by omega⟩
  have hn : n < ps.length := by omega
  rw [rd_nat hn]
  exact ⟨_, rfl, hp _ (List.getElem_mem hn)⟩
 rw [if_neg c]
 exact ⟨0, rfl, by omega, by omega⟩
theorem Sp.huge (l : List S45) (hl : l.length ≤ 20) : ∀ (n k i : Nat), i + n = l.length → n < k → ∃ t, isobathlaw07_huge.l0 k l (i : Int) = some t ∧ (t = false → ∀ x ∈ l.drop i, x.f0.length ≤ 300)
 | 0, k, i, hi, hk => by
  obtain ⟨k, rfl⟩ : ∃ m, k = m + 1 := ⟨k - 1, by omega⟩
  rw [isobathlaw07_huge.l0, if_neg (by omega), List.drop_eq_nil_of_le (by omega)]
  exact ⟨_, rfl, by simp⟩
 | n + 1, k, i, hi, hk => by
  obtain ⟨k, rfl⟩ : ∃ m, k = m + 1 := ⟨k - 1, by omega⟩
  have hlt : i < l.length := by omega
  obtain ⟨t, e, h⟩ := Sp.huge l hl n k (i + 1) (by omega) (by omega)
  rw [isobathlaw07_huge.l0, if_pos (by omega), if_pos (by omega), Sp.rdG l i hlt, wrap_succ hlt (by omega), e, drop_cons hlt]
  have no : ∀ x : Bool, x = true → (x = false → ∀ y ∈ l[i] :: l.drop (i + 1), y.f0.length ≤ 300) := fun x h1 h2 => by rw [h1] at h2; cases h2
  split
  ·split
   ·exact ⟨_, rfl, no _ rfl⟩
   split
   ·exact ⟨_, rfl, no _ rfl⟩
   refine ⟨t, rfl, fun q y hy => ?_⟩
   rcases List.mem_cons.1 hy with rfl | hy
   ·omega
   exact h q y hy
  split
  ·exact ⟨_, rfl, no _ rfl⟩
  refine ⟨t, rfl, fun q y hy => ?_⟩
  rcases List.mem_cons.1 hy with rfl | hy
  ·omega
  exact h q y hy
def Sp.lvb (lv : List (List Int)) : Prop := ∀ r ∈ lv, r.length ≤ 300 ∧ ∀ v ∈ r, -1099511627776 ≤ v ∧ v ≤ 1099511627776
theorem Sp.mat_len : ∀ (l : List S45) (lv : List (List Int)), Sp.mat l lv → lv.length = l.length
 | [], [], _ => rfl
 | [], _ :: _, q => q.elim
 | _ :: _, [], q => q.elim
 | _ :: t, _ :: u, q => by simp [Sp.mat_len t u q.2]
theorem Sp.sure_end {h run g : Int} (l : List S45) (lv : List (List Int)) (hm : Sp.mat l lv) (hb : Sp.lvb lv) (h0 : 0 < l.length) (hl : l.length ≤ 16) (h1 : 1 ≤ h) (h2 : h ≤ 1073741824) (N : Nat) (hN : N ≤ 256) (hr : ∀ x ∈ l, x.f0.length = N) (hg : ∀ k, 2000 ≤ k → sound_checkGauges.f k l h run g = some 0) : ∀ (n k c : Nat) (last : Int), c + n = N → 100000 + n ≤ k → (c = 0 → last = 0) → (∀ d : Nat, c = d + 1 → last = rd (Sp.alarm l h run g) (d : Int)) → isobathlaw07_SoundSure.l2 k l lv last (c : Int) h run g = some true := by
 have hz : (rd_T45 l 0).f0.length = N := by
  have := Sp.rdG l 0 h0
  rw [show ((0 : Nat) : Int) = 0 from rfl] at this
  rw [this]
  exact hr _ (List.getElem_mem h0)
 have hA : ∀ k, 20000 ≤ k → sound_alarm.f k l h run g = some (Sp.alarm l h run g) := fun k hk => Sp.alarm_b run g h1 h2 l hl h0 N hN hr hk
 have hAl : (Sp.alarm l h run g).length = N := by
  unfold Sp.alarm
  rw [List.length_map, List.length_range, hz]
 have hT : ∀ (k K : Nat), 50000 ≤ k → isobathlaw07_alarm.f k lv h run g (K : Int) = some (decide (Sp.tn h run K lv ≥ g)) := fun k K hk => by
  have := Sp.tl0 h run g lv (by rw [Sp.mat_len _ _ hm]; omega) K (fun r hr => ⟨by have := (hb r hr).1; omega, (hb r hr).2⟩) lv.length k 0 0 (by omega) (by omega) (by omega) (by rw [Sp.mat_len _ _ hm]; omega)
  rw [show ((0 : Nat) : Int) = 0 from rfl, List.drop_zero, Int.zero_add] at this
  exact this
 have hE : ∀ K, K < N → rd (Sp.alarm l h run g) (K : Int) = Sp.enough g (Sp.column (Sp.rows l h run) K) := fun K hK => Sp.rd_alarm l h run g (by rw [hz]; exact hK)
 have hin : ∀ K, K < N → Sp.yes (Sp.column (Sp.rows l h run) K) ≤ Sp.tn h run K lv ∧ Sp.tn h run K lv ≤ Sp.may (Sp.column (Sp.rows l h run) K) := fun K hK => Sp.tn_in K l lv hm (fun x hx => by rw [hr x hx]; exact hK)
 have yesT : ∀ K, K < N → rd (Sp.alarm l h run g) (K : Int) = 2 → decide (Sp.tn h run K lv ≥ g) = true := fun K hK q => by
  rw [hE K hK] at q
  have := hin K hK
  unfold Sp.enough at q
  split at q
  ·simp; omega
  split at q <;> omega
 have noT : ∀ K, K < N → rd (Sp.alarm l h run g) (K : Int) = 0 → decide (Sp.tn h run K lv ≥ g) = false := fun K hK q => by
  rw [hE K hK] at q
  have := hin K hK
  unfold Sp.enough at q
  split at q
  ·omega
  split at q
  ·simp; omega
  omega
 have mono : ∀ K, K + 1 < N → rd (Sp.alarm l h run g) (K : Int) ≤ rd (Sp.alarm l h run g) ((K + 1 : Nat) : Int) := fun K hK => by
  rw [hE K (by omega), hE (K + 1) hK]
  have := Sp.tn_mono (h := h) (run := run) K l (fun x hx => by rw [hr x hx]; exact hK)
  unfold Sp.enough
  split
  ·rw [if_pos (by omega)]
   exact Int.le_refl _
  split
  ·split
   ·omega
   split <;> omega
  split
  ·omega
  rw [if_neg (by omega)]
  exact Int.le_refl _
 have nonneg : ∀ K, K < N → 0 ≤ rd (Sp.alarm l h run g) (K : Int) := fun K hK => by
  rw [hE K hK]
  unfold Sp.enough
  split
  ·omega
  split <;> omega
 intro n
 induction n with
 | zero =>
  intro k c last hc hk l0 l1
  obtain ⟨k, rfl⟩ : ∃ m, k = m + 1 := ⟨k - 1, by omega⟩
  have hW := Sp.works (k := k) (by omega)
  rw [isobathlaw07_SoundSure.l2, if_pos (by omega), hz, if_neg (by omega)]
  unfold sound_First.f
  rw [hg k (by omega), Option.bind_some, if_pos rfl, hA k (by omega), Option.bind_some]
  unfold api_Answer_63.f slices_IndexFunc_Answer_sound_First_1.f
  obtain ⟨t, e, ht⟩ := Sp.idx2 (Sp.alarm l h run g) (by omega) (Sp.alarm l h run g).length k 0 (by omega) (by omega)
  obtain ⟨u, e2, hu⟩ := Sp.idx1 (Sp.alarm l h run g) (by omega) (Sp.alarm l h run g).length k 0 (by omega) (by omega)
  rw [show ((0 : Nat) : Int) = 0 from rfl] at e e2
  rw [e, Option.bind_some, e2]
  rcases ht with ⟨rfl, hno⟩ | ⟨p, rfl, hp, hp2⟩
  ·rw [if_pos (by omega), Option.bind_some]
   dsimp only
   rw [if_neg (by omega), if_pos rfl]
   have : ¬ last = 2 := by
    intro q
    by_cases z : c = 0
    ·rw [l0 z] at q
     omega
    obtain ⟨d, hd⟩ : ∃ d, c = d + 1 := ⟨c - 1, by omega⟩
    rw [l1 d hd] at q
    exact hno d (by omega) (by omega) q
   rw [if_neg this, hW]
   rfl
  rcases hu with hu | ⟨q, rfl, _, hq, hq2⟩
  ·have := hu p (by omega) hp
   omega
  have qp : q ≤ p := by
   by_cases z : q ≤ p
   ·exact z
   have := hq2 p (by omega) (by omega)
   omega
  rw [if_neg (by omega), Option.bind_some, Option.bind_some]
  dsimp only
  rw [if_pos rfl, if_pos (by omega), if_pos (by omega), if_pos (by omega), hT k p (by omega), Option.bind_some, if_pos (yesT p (by omega) hp2)]
  by_cases z : q = 0
  ·rw [if_pos (by omega), hW]
   rfl
  obtain ⟨d, rfl⟩ : ∃ d, q = d + 1 := ⟨q - 1, by omega⟩
  rw [if_neg (by omega), wrap_id (n := ((d + 1 : Nat) : Int) - 1) (by omega) (by omega), show ((d + 1 : Nat) : Int) - 1 = (d : Int) by omega, hT k d (by omega), Option.bind_some, noT d (by omega) (hq2 d (by omega) (by omega)), if_neg (by decide), hW]
  rfl
 | succ n ih =>
  intro k c last hc hk l0 l1
  obtain ⟨k, rfl⟩ : ∃ m, k = m + 1 := ⟨k - 1, by omega⟩
  have next := ih k (c + 1) (rd (Sp.alarm l h run g) (c : Int)) (by omega) (by omega) (by omega) (fun d hd => by rw [show d = c by omega])
  have le : ¬ rd (Sp.alarm l h run g) (c : Int) < last := by
   by_cases z : c = 0
   ·rw [l0 z]
    have := nonneg c (by omega)
    omega
   obtain ⟨d, rfl⟩ : ∃ d, c = d + 1 := ⟨c - 1, by omega⟩
   rw [l1 d rfl]
   have := mono d (by omega)
   omega
  have hR : sound_Raised.f k l h run g (c : Int) = some (rd (Sp.alarm l h run g) (c : Int), 0) := by
   unfold sound_Raised.f
   rw [hg k (by omega), Option.bind_some, if_pos rfl, if_neg (by omega), if_pos (by omega), hz, if_neg (by omega), hA k (by omega), Option.bind_some, if_pos (by omega), if_pos (by omega)]
  rw [isobathlaw07_SoundSure.l2, if_pos (by omega), hz, if_pos (by omega), hR, Option.bind_some]
  dsimp only
  rw [if_pos rfl, hT k c (by omega), Option.bind_some, wrap_succ (n := N) (by omega) (by omega)]
  by_cases c2 : rd (Sp.alarm l h run g) (c : Int) = 2
  ·rw [if_pos c2, if_pos (yesT c (by omega) c2), if_neg (by omega), if_neg le]
   exact next
  rw [if_neg c2]
  by_cases c0 : rd (Sp.alarm l h run g) (c : Int) = 0
  ·rw [if_pos c0, noT c (by omega) c0, if_neg (by decide), if_neg le]
   exact next
  rw [if_neg c0, if_neg le]
  exact next
theorem Sp.sure_l2 {h run g : Int} (l : List S45) (lv : List (List Int)) (hm : Sp.mat l lv) (hb : Sp.lvb lv) (h0 : 0 < l.length) (hl : l.length ≤ 16) (hx : ∀ x ∈ l, x.f0.length ≤ 300) {k : Nat} (hk : 110000 ≤ k) : isobathlaw07_SoundSure.l2 k l lv 0 0 h run g = some true := by
 obtain ⟨e, he, h5, hok⟩ := Sp.gauges l h run g
 by_cases e0 : e = 0
 ·subst e0
  obtain ⟨_, _, h1, h2, _, _, N, hN, hr⟩ := hok rfl
  exact Sp.sure_end l lv hm hb h0 hl h1 h2 N hN hr he N k 0 0 (by omega) (by omega) (fun _ => rfl) (fun d hd => by omega)
 obtain ⟨k, rfl⟩ : ∃ m, k = m + 1 := ⟨k - 1, by omega⟩
 have hW := Sp.works (k := k) (by omega)
 rw [isobathlaw07_SoundSure.l2, if_pos (by omega)]
 by_cases c : (0 : Int) < ((rd_T45 l 0).f0.length : Int)
 ·rw [if_pos c]
  unfold sound_Raised.f
  rw [he k (by omega), Option.bind_some, if_neg e0, Option.bind_some]
  dsimp only
  rw [if_neg e0, hW]
  rfl
 rw [if_neg c]
 unfold sound_First.f
 rw [he k (by omega), Option.bind_some, if_neg e0, Option.bind_some]
 dsimp only
 rw [if_neg e0, if_neg (fun q => h5 q), hW]
 rfl
theorem Sp.sure_l1 {h run g : Int} (l : List S45) (hl : l.length ≤ 16) (ps : List Int) (hp : ∀ p ∈ ps, 0 ≤ p ∧ p ≤ 65535) (lv : List (List Int)) (hlv : lv.length ≤ 16) (i : Nat) (hi : i < l.length) (hx : l[i].f0.length ≤ 300) {K : Nat} (hK : 400 ≤ K) (M : Int) (hM : M ≤ 1000000)
  (next : ∀ (k : Nat) (at_ : Int) (row : List Int), K ≤ k → 0 ≤ at_ → at_ ≤ M → Sp.lin l[i].f0 row → row.length ≤ 300 → (∀ v ∈ row, -1099511627776 ≤ v ∧ v ≤ 1099511627776) → isobathlaw07_SoundSure.l0 k l ps (lv ++ [row]) at_ ((i + 1 : Nat) : Int) h run g = some true) : ∀ (n k j : Nat) (at_ : Int) (row : List Int), j + n = l[i].f0.length → K + n + 1 ≤ k → 0 ≤ at_ → at_ + n ≤ M → row.length = j → Sp.lin (l[i].f0.take j) row → (∀ v ∈ row, -1099511627776 ≤ v ∧ v ≤ 1099511627776) → isobathlaw07_SoundSure.l1 k l ps lv at_ (i : Int) row (j : Int) h run g = some true
 | 0, k, j, at_, row, hj, hk, a0, a1, hrow, hin, hb => by
  obtain ⟨k, rfl⟩ : ∃ m, k = m + 1 := ⟨k - 1, by omega⟩
  rw [List.take_of_length_le (by omega)] at hin
  rw [isobathlaw07_SoundSure.l1, if_pos (by omega), if_pos (by omega), Sp.rdG l i hi, if_neg (by omega), if_pos (by omega), wrap_succ hi (by omega)]
  exact next k at_ row (by omega) a0 (by omega) hin (by omega) hb
 | n + 1, k, j, at_, row, hj, hk, a0, a1, hrow, hin, hb => by
  obtain ⟨k, rfl⟩ : ∃ m, k = m + 1 := ⟨k - 1, by omega⟩
  have hlt : j < l[i].f0.length := by omega
  have hW := Sp.works (k := k) (by omega)
  rw [isobathlaw07_SoundSure.l1, if_pos (by omega), if_pos (by omega), Sp.rdG l i hi, if_pos (by omega), if_pos (by omega), Sp.rdT _ j hlt, Bo.valid, Option.bind_some]
  by_cases c : Bo.v l[i].f0[j].f0 l[i].f0[j].f1
  ·obtain ⟨p, ep, p0, p1⟩ := Sp.sure_pick ps hp a0
   obtain ⟨v, ev, v0, v1⟩ := Sp.sure_part c p0 p1
   obtain ⟨g1, g2, g3⟩ := c
   have c : Bo.v l[i].f0[j].f0 l[i].f0[j].f1 := ⟨g1, g2, g3⟩
   rw [if_pos (by simp [c]), ep, Option.bind_some, ev, Option.bind_some, if_pos (by omega), wrap_succ hlt (by omega), wrap_id (n := at_ + 1) (by omega) (by omega)]
   refine Sp.sure_l1 l hl ps hp lv hlv i hi hx hK M hM next n k (j + 1) (at_ + 1) (row ++ [v]) (by omega) (by omega) (by omega) (by omega) (by simp [hrow]) ?_ ?_
   ·rw [take_snoc hlt]
    exact Sp.lin_snoc ⟨v0, v1⟩ _ _ hin
   intro x hx'
   rcases List.mem_append.1 hx' with q | q
   ·exact hb x q
   rw [List.mem_singleton] at q
   subst q
   omega
  rw [if_neg (by simp [c]), hW]
  rfl
set_option maxRecDepth 100000 in
theorem Sp.sure_l0 {h run g : Int} (l : List S45) (h0 : 0 < l.length) (hl : l.length ≤ 16) (hx : ∀ x ∈ l, x.f0.length ≤ 300) (ps : List Int) (hp : ∀ p ∈ ps, 0 ≤ p ∧ p ≤ 65535) : ∀ (n k i : Nat) (at_ : Int) (lv : List (List Int)), i + n = l.length → 110001 + 400 * n ≤ k → 0 ≤ at_ → at_ ≤ 300 * (i : Int) → Sp.mat (l.take i) lv → Sp.lvb lv → isobathlaw07_SoundSure.l0 k l ps lv at_ (i : Int) h run g = some true
 | 0, k, i, at_, lv, hi, hk, a0, a1, hm, hb => by
  obtain ⟨k, rfl⟩ : ∃ m, k = m + 1 := ⟨k - 1, by omega⟩
  rw [List.take_of_length_le (by omega)] at hm
  rw [isobathlaw07_SoundSure.l0, if_neg (by omega)]
  exact Sp.sure_l2 l lv hm hb h0 hl hx (by omega)
 | n + 1, k, i, at_, lv, hi, hk, a0, a1, hm, hb => by
  obtain ⟨k, rfl⟩ : ∃ m, k = m + 1 := ⟨k - 1, by omega⟩
  have hlt : i < l.length := by omega
  have hxi := hx _ (List.getElem_mem hlt)
  have hlen := Sp.mat_len _ _ hm
  rw [zlt] at hlen
  rw [isobathlaw07_SoundSure.l0, if_pos (by omega)]
  have := Sp.sure_l1 (h := h) (run := run) (g := g) l hl ps hp lv (by omega) i hlt hxi (K := 110001 + 400 * n) (by omega) (300 * ((i : Int) + 1)) (by omega)
   (fun k' at' row hk' q0 q1 hin hlr hbr => Sp.sure_l0 l h0 hl hx ps hp n k' (i + 1) at' (lv ++ [row]) (by omega) hk' q0 (by omega)
    (by
     rw [take_snoc hlt]
     exact Sp.mat_snoc hin _ _ hm)
    (fun r hr => by
     rcases List.mem_append.1 hr with q | q
     ·exact hb r q
     rw [List.mem_singleton] at q
     subst q
     exact ⟨hlr, hbr⟩))
   l[i].f0.length k 0 at_ [] (by omega) (by omega) a0 (by omega) rfl trivial (by simp)
  exact this
theorem Sp.sure (l : List S45) (h run g : Int) (ps : List Int) (hp : ∀ p ∈ ps, 0 ≤ p ∧ p ≤ 65535) : ∃ k, isobathlaw07_SoundSure.f k l h run g ps = some true := by
 obtain ⟨k, hk⟩ : ∃ k : Nat, 200000 ≤ k := ⟨200000, Nat.le.refl⟩
 have hW := Sp.works (k := k) (by omega)
 have bad : isobathlaw07_SoundSure.j0 (k + 1) l ps true h run g = some true := by
  rw [isobathlaw07_SoundSure.j0, if_pos rfl, hW]
  rfl
 refine ⟨k + 1, ?_⟩
 unfold isobathlaw07_SoundSure.f isobathlaw07_huge.f
 by_cases c1 : (l.length : Int) > 20
 ·rw [if_pos c1, Option.bind_some, if_pos rfl, bad]
 rw [if_neg c1]
 obtain ⟨t, e, ht⟩ := Sp.huge l (by omega) l.length (k + 1) 0 (by omega) (by omega)
 rw [show ((0 : Nat) : Int) = 0 from rfl] at e
 rw [e, Option.bind_some]
 by_cases c2 : t = true
 ·rw [if_pos c2, bad]
 rw [if_neg c2]
 by_cases c3 : (l.length : Int) = 0
 ·rw [if_pos c3, bad]
 rw [if_neg c3]
 by_cases c4 : (l.length : Int) > 16
 ·rw [zdt c4, bad]
 rw [zdf c4, isobathlaw07_SoundSure.j0, if_neg (by decide)]
 have ht' := ht (by simpa using c2)
 rw [List.drop_zero] at ht'
 exact Sp.sure_l0 l (by omega) (by omega) ht' ps hp l.length k 0 0 [] (by omega) (by omega) (by omega) (by omega) trivial (fun r hr => by cases hr)
theorem soundSure_holds : Rows.SoundSureSaid := soundSure.proved fun l r ps _ _ hp => Sp.sure l r.f0 r.f1 r.f2 ps fun p h => Sp.u16 (hp.2 p h)
#print axioms soundSure_holds
end Go.Proofs.Ytaheamdoldiojaa.P
