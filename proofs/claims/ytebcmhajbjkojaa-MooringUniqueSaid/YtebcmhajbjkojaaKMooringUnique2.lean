/- MooringUnique returns true for every input and leaves it as it was: no condition beyond the row's own. Part 3 of 4. -/
import Derived.Laws.EntriesVeiled
import Derived.Outline
import Derived.Deep.Slices
import Derived.Test.YtebcmhajbjkojaaRows
import Derived.WalkKit
import Derived.ProofKit
import Derived.OpenShut
import Derived.ShutString
import Derived.ChangeOld
import Derived.Below
import Derived.SizedLaws
import Derived.Carry
import Derived.Test.YtebcmhajbjkojaaKMooringUnique0
import Derived.Test.YtebcmhajbjkojaaKMooringUnique1
namespace Go.Proofs.Ytebcmhajbjkojaa.P
open Go.RowKit Go.Proofs.YtebcmhajbjkojaaW.PrintWords Go.Proofs.YtebcmhajbjkojaaW.PrintLast Go.Proofs.YtebcmhajbjkojaaW.PrintMore
attribute [local go_sem] max2_int min2_int max_two min_two max_three min_three max_four min_four   -- for this text's walks alone
set_option linter.unusedVariables false
set_option linter.unusedSimpArgs false

-- LIB
-- IMPORT Derived.Laws.EntriesVeiled
-- IMPORT Derived.Outline
/-! ### mooring: the pulls below the elements: by hand -/
/-- The loop's relation: kq forces are still to come. -/
def PullRel (w : World) (gm : Nat) (free : Bool) (on : List S57) (kq : Nat) (v5 v7 v16 : Value) (w' : World) : Prop :=
  ∃ j : Nat, kq + j = on.length ∧ v7 = .int .i64 (Moor.most 0 (on.take j)) ∧ v16 = .int .i64 (j : Int) ∧
    w'.heap[gm]? = some (.cells #[.int .i64 (Moor.slo (on.take j)), .int .i64 (Moor.shi (on.take j))] 57 (0, 0)) ∧
    Kd.R k57 57 w' w.heap.size (fun k => k ≠ gm) v5 (Moor.pulls free (on.take j)) ∧ Below w.heap.size w w'
theorem PullRel.next {w w' : World} {gm : Nat} {free : Bool} {on : List S57} {kq j : Nat} {v5 : Value} {mo s0 s1 : Int} {p : S57} {i : Int}
    (hj : kq + (j + 1) = on.length) (hm : mo = Moor.most 0 (on.take (j + 1))) (hi : ((j + 1 : Nat) : Int) = i) (h0 : s0 = Moor.slo (on.take (j + 1))) (h1 : s1 = Moor.shi (on.take (j + 1)))
    (hb : w'.heap[gm]? = some (.cells #[.int .i64 s0, .int .i64 s1] 57 (0, 0)))
    (hp : Moor.pulls free (on.take (j + 1)) = Moor.pulls free (on.take j) ++ [p])
    (hr : Kd.R k57 57 w' w.heap.size (fun k => k ≠ gm) v5 (Moor.pulls free (on.take j) ++ [p])) (hB : Below w.heap.size w w') : PullRel w gm free on kq v5 (.int .i64 mo) (.int .i64 i) w' := by
  subst hm; subst hi; subst h0; subst h1
  rw [← hp] at hr
  exact ⟨j + 1, hj, rfl, rfl, hb, hr, hB⟩
theorem Moor.pulls_small {on : List S57} {free : Bool} {i : Nat} (h : on.length ≤ 40) : ((Moor.pulls free (on.take i)).length + 1) * 16 ≤ 140737488355328 := by
  rw [Moor.pulls_length, List.length_take]
  omega
theorem i64_fact {a b c : Int} (h : wrap64 a = c) : IntKind.i64.wrap a = c := by rw [i64_w]; exact h
set_option maxHeartbeats 16000000 in
set_option maxRecDepth 100000 in
theorem mooring_pulls.calls {d an fr : Int} {els : List S46} {on : List S57} {li : List Int} (A : Option Addr) (c : Nat) (g : Nat) (free : Bool) (w : World) (h : IsForces w g A c d an fr els on li) (h40 : on.length ≤ 40) (hon : ∀ x ∈ on, Moor.onB x) :
    Calls Try.prog 60 #[.pointer (some ⟨g, 0, none⟩), .bool free] w fun e w' => ∃ v, e = .returned v ∧ Kd.R k57 57 w' w.heap.size (fun _ => True) v (Moor.pulls free on) ∧ Below w.heap.size w w' := by
  have hu57 := Try.underlying57
  have hu98 := Try.underlying98
  obtain ⟨gh, A2, c2, A3, c3, h2, h3, h4, h5, h6, h7, h8⟩ := h
  have BF := Aside0.mk h2
  have HO := Aside0.mk h5
  have HON := Aside0.mk hon
  have hz8 := (blk_cell h2 8).trans rfl
  clear h2 h3 h4 h5 h6 h7 h8 hon
  go_enter Try.func60, Try.ntmps60
  go_wp2_with ((with_reducible refine gate_dst (N := 6) rfl ?_); refine box_event ?hg (N := 6) ?hd (cs := #[.int .i64 0, .int .i64 0]) (t := 57) ?hr ?_; (case hd => rfl); (case hg => rfl); (case hr => first | (go_simp; done) | (go_simp; rfl)); intro gm hgm w1 hbm hb0; have GE1 : Aside0 (w.heap.size ≤ gm) := ⟨Nat.le_of_eq hgm.symm⟩; have BM := Aside0.mk hbm; have HB := Aside0.mk hb0; have n1 := Aside0.mk (blk_below BF.out hb0); clear BF hgm hbm hb0 hz8; have BF := n1; clear n1; have hz8 := (blk_cell BF.out 8).trans rfl)
  go_loopg [5, 7, 16] on.length (fun kq v5 v7 v16 w' => PullRel w gm free on kq v5 v7 v16 w')
  case atStart => exact ⟨0, rfl, rfl, rfl, BM.out, Kd.R_nil _ _ _ _ _, HB.out⟩
  case round =>
    clear BM BF HB hz8
    obtain ⟨j, hj, rfl, rfl, BM0, RO0, HB0⟩ := hrel
    have BM := Aside0.mk BM0
    have RO := Aside0.mk RO0
    have HB := Aside0.mk HB0
    have HJ := Aside0.mk hj
    clear BM0 RO0 HB0 hj
    by_cases hlt : j < on.length
    · have HLT := Aside0.mk hlt
      have c3 : decide ((j : Int) < (on.length : Int)) = true := decide_eq_true (by omega)
      have c3n : decide (j < on.length) = true := decide_eq_true hlt
      have p1 : (0 : Int) ≤ (j : Int) := by omega
      have q1 : (j : Int) < (on.length : Int) := by omega
      obtain ⟨ad1, e1, hx0, hx1⟩ := at_T57 HO.out (j : Int) p1 q1
      cases e1
      replace hx0 := (HB.out.cell (World.block_lt_of_cell? w _ hx0)).trans hx0
      replace hx1 := (HB.out.cell (World.block_lt_of_cell? w _ hx1)).trans hx1
      rw [Moor.rdS hlt] at hx0 hx1
      obtain ⟨x, hx⟩ : ∃ x, on[j]? = some x := ⟨_, List.getElem?_eq_getElem hlt⟩
      have hx2 : on[j] = x := by rw [List.getElem?_eq_getElem hlt] at hx; exact Option.some.inj hx
      rw [hx2] at hx0 hx1
      simp only [Int.toNat_natCast] at hx0 hx1
      have hxb := HON.out x (by rw [← hx2]; exact List.getElem_mem hlt)
      have HX := Aside0.mk hx
      have b1 := Moor.slo_bound (on := on.take j) (fun y hy => HON.out y (List.mem_of_mem_take hy))
      have b2 := Moor.most_bound (on := on.take j) (fun y hy => HON.out y (List.mem_of_mem_take hy)) 0 (by omega) (by omega)
      have b3 : (on.take j).length ≤ 40 := by rw [List.length_take]; omega
      obtain ⟨b4, b5, b6⟩ := hxb
      have T0 := Moor.slo_take HX.out
      have T1 := Moor.shi_take HX.out
      have T2 := Moor.most_take HX.out
      have T3 := Moor.pulls_take free HX.out
      generalize hsl : Moor.slo (on.take j) = sl at *
      generalize hsh : Moor.shi (on.take j) = sh at *
      generalize hmm : Moor.most 0 (on.take j) = m at *
      obtain ⟨s0, hs0⟩ : ∃ s0, s0 = sl + x.f0 := ⟨_, rfl⟩
      obtain ⟨s1, hs1⟩ : ∃ s1, s1 = sh + x.f1 := ⟨_, rfl⟩
      obtain ⟨t, ht⟩ : ∃ t, t = x.f0 + x.f1 := ⟨_, rfl⟩
      obtain ⟨mo, hmo⟩ : ∃ mo, mo = max m t := ⟨_, rfl⟩
      obtain ⟨u, hu⟩ : ∃ u, u = mo - s1 := ⟨_, rfl⟩
      obtain ⟨z, hz⟩ : ∃ z, z = max 0 u := ⟨_, rfl⟩
      have d0 : IntKind.i64.wrap (sl + x.f0) = s0 := by rw [i64_w, wrap_id (by omega) (by omega), hs0]
      have d1 : IntKind.i64.wrap (sh + x.f1) = s1 := by rw [i64_w, wrap_id (by omega) (by omega), hs1]
      have d2 : IntKind.i64.wrap (x.f0 + x.f1) = t := by rw [i64_w, wrap_id (by omega) (by omega), ht]
      have d3 : (if m < t then t else m) = mo := by
        by_cases c : m < t
        · rw [if_pos c]; omega
        · rw [if_neg c]; omega
      have d4 : IntKind.i64.wrap (mo - s1) = u := by rw [i64_w, wrap_id (by omega) (by omega), hu]
      have d5 : (if 0 < u then u else 0) = z := by
        by_cases c : 0 < u
        · rw [if_pos c]; omega
        · rw [if_neg c]; omega
      have T0 := Aside0.mk T0
      have T1 := Aside0.mk T1
      have T2 := Aside0.mk T2
      have T3 := Aside0.mk T3
      have HS0 := Aside0.mk hs0
      have HS1 := Aside0.mk hs1
      have HT := Aside0.mk ht
      have HMO := Aside0.mk hmo
      have HU := Aside0.mk hu
      have HZ := Aside0.mk hz
      clear hlt hx hx2 b1 b2 b3 b4 b5 b6 hsl hsh hmm hs0 hs1 ht hmo hu hz
      cases free with
      | true =>
        go_wp2_with (first | ((with_reducible refine gate_dst (N := 9) rfl ?_); refine box_event ?hg (N := 9) ?hd (cs := #[.int .i64 0, .int .i64 0]) (t := 57) ?hr ?_; (case hd => rfl); (case hg => rfl); (case hr => first | (go_simp; done) | (go_simp; rfl)); intro gx hgx w2 hbx hb2; have n1 := Aside0.mk (blk_below BM.out hb2); have n2 := Aside0.mk (below_step HB.out hb2); have n3 := Aside0.mk (Kd.R_below (Kd.R_mono (ok' := fun k => k ≠ gm ∧ k ≠ gx) (Kd.R_bound RO.out) (fun k hk => ⟨hk.1, by have := hk.2.2.1; omega⟩)) hb2); have BX := Aside0.mk hbx; have GE2 : Aside0 (w.heap.size ≤ gx) := ⟨by rw [hgx]; exact below_size HB.out⟩; have NE1 : Aside0 (gm ≠ gx) := ⟨by rw [hgx]; exact Nat.ne_of_lt (blk_lt BM.out)⟩; have NE2 : Aside0 (gx ≠ gm) := ⟨Ne.symm NE1.out⟩; clear BM HB RO hgx hbx hb2 hx0 hx1; have BM := n1; have HB := n2; have RO := n3; clear n1 n2 n3; have hn1 := NE1.out; have hn2 := NE2.out; have hz0 := (blk_cell BM.out 0).trans rfl; have hz1 := (blk_cell BM.out 1).trans rfl; have hz2 := (blk_cell BX.out 0).trans rfl; have hz3 := (blk_cell BX.out 1).trans rfl; have hf0 := blk_frozen BM.out 0; have hf1 := blk_frozen BM.out 1; have hf2 := blk_frozen BX.out 0; have hf3 := blk_frozen BX.out 1) | ((with_reducible refine gate_dst (N := 10) rfl ?_); refine box_event ?hg (N := 10) ?hd (cs := #[.int .i64 0, .int .i64 0]) (t := 57) ?hr ?_; (case hd => rfl); (case hg => rfl); (case hr => first | (go_simp; done) | (go_simp; rfl)); intro gp hgp w3 hbp hb3; have m1 := (blk_put (cs' := #[.int .i64 s0, .int .i64 s1]) (blk_put (cs' := #[.int .i64 s0, .int .i64 sh]) (blk_far (p := ⟨gx, 1, none⟩) (blk_far (p := ⟨gx, 0, none⟩) BM.out NE1.out (.int .i64 x.f0)) NE1.out (.int .i64 x.f1)) 0 (.int .i64 s0) rfl) 1 (.int .i64 s1) rfl); have m2 := (below_set (j := 1) (v := .int .i64 s1) (below_set (j := 0) (v := .int .i64 s0) (below_set (j := 1) (v := .int .i64 x.f1) (below_set (j := 0) (v := .int .i64 x.f0) HB.out GE2.out) GE2.out) GE1.out) GE1.out); have m3 := (Kd.R_far (p := ⟨gm, 1, none⟩) (Kd.R_far (p := ⟨gm, 0, none⟩) (Kd.R_far (p := ⟨gx, 1, none⟩) (Kd.R_far (p := ⟨gx, 0, none⟩) RO.out (fun _ hk => hk.2) (.int .i64 x.f0)) (fun _ hk => hk.2) (.int .i64 x.f1)) (fun _ hk => hk.1) (.int .i64 s0)) (fun _ hk => hk.1) (.int .i64 s1)); have n1 := Aside0.mk (blk_below m1 hb3); have n2 := Aside0.mk (below_step m2 hb3); have n3 := Aside0.mk (Kd.R_below (Kd.R_mono (ok' := fun k => k ≠ gm ∧ k ≠ gp) (Kd.R_bound m3) (fun k hk => ⟨hk.1.1, by have := hk.2.2.1; omega⟩)) hb3); have BP := Aside0.mk hbp; have GE3 : Aside0 (w.heap.size ≤ gp) := ⟨by rw [hgp]; exact below_size m2⟩; have NE3 : Aside0 (gm ≠ gp) := ⟨by rw [hgp]; exact Nat.ne_of_lt (blk_lt m1)⟩; have NE4 : Aside0 (gp ≠ gm) := ⟨Ne.symm NE3.out⟩; clear m1 m2 m3 BM HB RO BX hgp hbp hb3 hz0 hz1 hz2 hz3 hf0 hf1 hf2 hf3 hn1 hn2; have BM := n1; have HB := n2; have RO := n3; clear n1 n2 n3; have hn3 := NE3.out; have hn4 := NE4.out; have hz0 := (blk_cell BM.out 0).trans rfl; have hz1 := (blk_cell BM.out 1).trans rfl; have hz2 := (blk_cell BP.out 0).trans rfl; have hz3 := (blk_cell BP.out 1).trans rfl; have hf2 := blk_frozen BP.out 0; have hf3 := blk_frozen BP.out 1) | ((with_reducible refine gate_builtin (b := .append) (xs := #[.tmp 47, .tmp 49]) rfl ?_); at_builtin; have n1 := Aside0.mk (blk_far (p := ⟨gp, 0, none⟩) (blk_far (p := ⟨gp, 1, none⟩) (blk_far (p := ⟨gp, 0, none⟩) BM.out NE3.out (.int .i64 s0)) NE3.out (.int .i64 s1)) NE3.out (.int .i64 z)); have n2 := Aside0.mk (below_set (j := 0) (v := .int .i64 z) (below_set (j := 1) (v := .int .i64 s1) (below_set (j := 0) (v := .int .i64 s0) HB.out GE3.out) GE3.out) GE3.out); have n3 := Aside0.mk (Kd.R_mono (ok' := fun k => k ≠ gm) (Kd.R_far (p := ⟨gp, 0, none⟩) (Kd.R_far (p := ⟨gp, 1, none⟩) (Kd.R_far (p := ⟨gp, 0, none⟩) RO.out (fun _ hk => hk.2) (.int .i64 s0)) (fun _ hk => hk.2) (.int .i64 s1)) (fun _ hk => hk.2) (.int .i64 z)) (fun k hk => hk.1)); clear BM HB RO BP hz0 hz1 hz2 hz3 hf2 hf3 hn3 hn4; have BM := n1; have HB := n2; have RO := n3; clear n1 n2 n3; refine Kd.R_append k57 (w0 := w) w.heap.size rfl (.tmp 47) (.tmp 49) 48 57 (.agg #[(.int .i64 0), (.int .i64 0)]) 16 rfl Try.underlying48 info57 rfl (by decide) (by omega) u5 (Moor.pulls true (on.take j)) ⟨z, s1⟩ [.int .i64 z, .int .i64 s1] (fun k => k ≠ gm) (fun _ => False) rfl (by first | rfl | (go_simp; done) | (go_simp; rfl)) ?aP (fun _ hk => hk.elim) ?aF ?aO ?aB ?aS ?aL ?_; (case aP => exact k57_mkM _ _ _ ⟨z, s1⟩); (case aF => exact fun k hk => Ne.symm (Nat.ne_of_lt (Nat.lt_of_lt_of_le (blk_lt BM.out) hk))); (case aO => exact RO.out); (case aB => exact HB.out); (case aS => exact below_size HB.out); (case aL => exact Moor.pulls_small h40); intro v2 w10 ho hb hg hat; have n1 := Aside0.mk (blk_grown BM.out hg (fun e => RO.out.1 gm e.symm rfl)); have n2 := Aside0.mk hb; have n3 := Aside0.mk ho; clear BM HB RO ho hb hg hat; have BM := n1; have HB := n2; have RO := n3; clear n1 n2 n3))
        obtain ⟨k1, rfl⟩ : ∃ k1, gk = k1 + 1 := ⟨gk - 1, by have := HJ.out; have := HLT.out; omega⟩
        go_roundg k1
        case measure => omega
        case rel => exact PullRel.next (by have := HJ.out; omega) (HMO.out.trans (by rw [T2.out, HT.out])) rfl (HS0.out.trans T0.out.symm) (HS1.out.trans T1.out.symm) BM.out (by rw [T3.out]; simp only [if_true, Bool.false_eq_true, if_false]; rw [HZ.out, HU.out, HMO.out, HT.out, HS1.out]) RO.out HB.out
      | false =>
        go_wp2_with (first | ((with_reducible refine gate_dst (N := 9) rfl ?_); refine box_event ?hg (N := 9) ?hd (cs := #[.int .i64 0, .int .i64 0]) (t := 57) ?hr ?_; (case hd => rfl); (case hg => rfl); (case hr => first | (go_simp; done) | (go_simp; rfl)); intro gx hgx w2 hbx hb2; have n1 := Aside0.mk (blk_below BM.out hb2); have n2 := Aside0.mk (below_step HB.out hb2); have n3 := Aside0.mk (Kd.R_below (Kd.R_mono (ok' := fun k => k ≠ gm ∧ k ≠ gx) (Kd.R_bound RO.out) (fun k hk => ⟨hk.1, by have := hk.2.2.1; omega⟩)) hb2); have BX := Aside0.mk hbx; have GE2 : Aside0 (w.heap.size ≤ gx) := ⟨by rw [hgx]; exact below_size HB.out⟩; have NE1 : Aside0 (gm ≠ gx) := ⟨by rw [hgx]; exact Nat.ne_of_lt (blk_lt BM.out)⟩; have NE2 : Aside0 (gx ≠ gm) := ⟨Ne.symm NE1.out⟩; clear BM HB RO hgx hbx hb2 hx0 hx1; have BM := n1; have HB := n2; have RO := n3; clear n1 n2 n3; have hn1 := NE1.out; have hn2 := NE2.out; have hz0 := (blk_cell BM.out 0).trans rfl; have hz1 := (blk_cell BM.out 1).trans rfl; have hz2 := (blk_cell BX.out 0).trans rfl; have hz3 := (blk_cell BX.out 1).trans rfl; have hf0 := blk_frozen BM.out 0; have hf1 := blk_frozen BM.out 1; have hf2 := blk_frozen BX.out 0; have hf3 := blk_frozen BX.out 1) | ((with_reducible refine gate_dst (N := 10) rfl ?_); refine box_event ?hg (N := 10) ?hd (cs := #[.int .i64 0, .int .i64 0]) (t := 57) ?hr ?_; (case hd => rfl); (case hg => rfl); (case hr => first | (go_simp; done) | (go_simp; rfl)); intro gp hgp w3 hbp hb3; have m1 := (blk_put (cs' := #[.int .i64 s0, .int .i64 s1]) (blk_put (cs' := #[.int .i64 s0, .int .i64 sh]) (blk_far (p := ⟨gx, 1, none⟩) (blk_far (p := ⟨gx, 0, none⟩) BM.out NE1.out (.int .i64 x.f0)) NE1.out (.int .i64 x.f1)) 0 (.int .i64 s0) rfl) 1 (.int .i64 s1) rfl); have m2 := (below_set (j := 1) (v := .int .i64 s1) (below_set (j := 0) (v := .int .i64 s0) (below_set (j := 1) (v := .int .i64 x.f1) (below_set (j := 0) (v := .int .i64 x.f0) HB.out GE2.out) GE2.out) GE1.out) GE1.out); have m3 := (Kd.R_far (p := ⟨gm, 1, none⟩) (Kd.R_far (p := ⟨gm, 0, none⟩) (Kd.R_far (p := ⟨gx, 1, none⟩) (Kd.R_far (p := ⟨gx, 0, none⟩) RO.out (fun _ hk => hk.2) (.int .i64 x.f0)) (fun _ hk => hk.2) (.int .i64 x.f1)) (fun _ hk => hk.1) (.int .i64 s0)) (fun _ hk => hk.1) (.int .i64 s1)); have n1 := Aside0.mk (blk_below m1 hb3); have n2 := Aside0.mk (below_step m2 hb3); have n3 := Aside0.mk (Kd.R_below (Kd.R_mono (ok' := fun k => k ≠ gm ∧ k ≠ gp) (Kd.R_bound m3) (fun k hk => ⟨hk.1.1, by have := hk.2.2.1; omega⟩)) hb3); have BP := Aside0.mk hbp; have GE3 : Aside0 (w.heap.size ≤ gp) := ⟨by rw [hgp]; exact below_size m2⟩; have NE3 : Aside0 (gm ≠ gp) := ⟨by rw [hgp]; exact Nat.ne_of_lt (blk_lt m1)⟩; have NE4 : Aside0 (gp ≠ gm) := ⟨Ne.symm NE3.out⟩; clear m1 m2 m3 BM HB RO BX hgp hbp hb3 hz0 hz1 hz2 hz3 hf0 hf1 hf2 hf3 hn1 hn2; have BM := n1; have HB := n2; have RO := n3; clear n1 n2 n3; have hn3 := NE3.out; have hn4 := NE4.out; have hz0 := (blk_cell BM.out 0).trans rfl; have hz1 := (blk_cell BM.out 1).trans rfl; have hz2 := (blk_cell BP.out 0).trans rfl; have hz3 := (blk_cell BP.out 1).trans rfl; have hf2 := blk_frozen BP.out 0; have hf3 := blk_frozen BP.out 1) | ((with_reducible refine gate_builtin (b := .append) (xs := #[.tmp 47, .tmp 49]) rfl ?_); at_builtin; have n1 := Aside0.mk (blk_far (p := ⟨gp, 1, none⟩) (blk_far (p := ⟨gp, 0, none⟩) BM.out NE3.out (.int .i64 s0)) NE3.out (.int .i64 s1)); have n2 := Aside0.mk (below_set (j := 1) (v := .int .i64 s1) (below_set (j := 0) (v := .int .i64 s0) HB.out GE3.out) GE3.out); have n3 := Aside0.mk (Kd.R_mono (ok' := fun k => k ≠ gm) (Kd.R_far (p := ⟨gp, 1, none⟩) (Kd.R_far (p := ⟨gp, 0, none⟩) RO.out (fun _ hk => hk.2) (.int .i64 s0)) (fun _ hk => hk.2) (.int .i64 s1)) (fun k hk => hk.1)); clear BM HB RO BP hz0 hz1 hz2 hz3 hf2 hf3 hn3 hn4; have BM := n1; have HB := n2; have RO := n3; clear n1 n2 n3; refine Kd.R_append k57 (w0 := w) w.heap.size rfl (.tmp 47) (.tmp 49) 48 57 (.agg #[(.int .i64 0), (.int .i64 0)]) 16 rfl Try.underlying48 info57 rfl (by decide) (by omega) u5 (Moor.pulls false (on.take j)) ⟨s0, s1⟩ [.int .i64 s0, .int .i64 s1] (fun k => k ≠ gm) (fun _ => False) rfl (by first | rfl | (go_simp; done) | (go_simp; rfl)) ?aP (fun _ hk => hk.elim) ?aF ?aO ?aB ?aS ?aL ?_; (case aP => exact k57_mkM _ _ _ ⟨s0, s1⟩); (case aF => exact fun k hk => Ne.symm (Nat.ne_of_lt (Nat.lt_of_lt_of_le (blk_lt BM.out) hk))); (case aO => exact RO.out); (case aB => exact HB.out); (case aS => exact below_size HB.out); (case aL => exact Moor.pulls_small h40); intro v2 w10 ho hb hg hat; have n1 := Aside0.mk (blk_grown BM.out hg (fun e => RO.out.1 gm e.symm rfl)); have n2 := Aside0.mk hb; have n3 := Aside0.mk ho; clear BM HB RO ho hb hg hat; have BM := n1; have HB := n2; have RO := n3; clear n1 n2 n3))
        obtain ⟨k1, rfl⟩ : ∃ k1, gk = k1 + 1 := ⟨gk - 1, by have := HJ.out; have := HLT.out; omega⟩
        go_roundg k1
        case measure => omega
        case rel => exact PullRel.next (by have := HJ.out; omega) (HMO.out.trans (by rw [T2.out, HT.out])) rfl (HS0.out.trans T0.out.symm) (HS1.out.trans T1.out.symm) BM.out (by rw [T3.out]; simp only [if_true, Bool.false_eq_true, if_false]; rw [HS0.out, HS1.out]) RO.out HB.out
    · have hje : j = on.length := by have := HJ.out; omega
      have c3 : decide ((j : Int) < (on.length : Int)) = false := decide_eq_false (by omega)
      have c3n : decide (j < on.length) = false := decide_eq_false hlt
      have HJE := Aside0.mk hje
      clear hlt hje
      obtain ⟨A5, n5, c5, rfl⟩ : ∃ A n c, u5 = .slice A n c := by
        obtain ⟨A, c, h⟩ := Kd.R_slice RO.out
        exact ⟨A, _, c, h⟩
      go_wp2
      go_ret
      refine ⟨_, rfl, ?_, HB.out⟩
      have h := Kd.R_mono (ok' := fun _ => True) RO.out (fun _ _ => trivial)
      rw [HJE.out, List.take_length] at h
      exact h

end Go.Proofs.Ytebcmhajbjkojaa.P

namespace Go.Proofs.Ytebcmhajbjkojaa.P
open Go.RowKit Go.Proofs.YtebcmhajbjkojaaW.PrintWords Go.Proofs.YtebcmhajbjkojaaW.PrintLast Go.Proofs.YtebcmhajbjkojaaW.PrintMore
attribute [local go_sem] max2_int min2_int max_two min_two max_three min_three max_four min_four   -- for this text's walks alone
set_option linter.unusedVariables false
set_option linter.unusedSimpArgs false

-- LIB
-- IMPORT Derived.Laws.EntriesVeiled
-- IMPORT Derived.Outline
/-! ### mooring.newShape: by hand -/
/-- What newShape leaves: an error r and no pointer; or the shape. -/
def NewShape (w : World) (A : Option Addr) (c : Nat) (d an fr : Int) (els : List S46) (cs : List S57) (free : Bool) (r : Int) (e : Ending) (w' : World) : Prop :=
  (r ≠ 0 ∧ e = .returned (.tuple #[.pointer none, .int .i64 r]) ∧ Below w.heap.size w w') ∨
  (r = 0 ∧ ∃ gs, e = .returned (.tuple #[.pointer (some ⟨gs, 0, none⟩), .int .i64 0]) ∧ IsShape w' gs A c d an fr els (Moor.on els cs) (Moor.lifts els) (Moor.pulls free (Moor.on els cs)) ∧ Below w.heap.size w w')
theorem NewForces.of_ne {w w' : World} {A : Option Addr} {c : Nat} {d an fr : Int} {els : List S46} {cs : List S57} {r : Int} {e : Ending} (h : NewForces w A c d an fr els cs r e w') (hr : r ≠ 0) : e = .returned (.tuple #[.pointer none, .int .i64 r]) ∧ Below w.heap.size w w' := by
  rcases h with ⟨_, h1, h2⟩ | ⟨h0, _⟩
  · exact ⟨h1, h2⟩
  · exact absurd h0 hr
theorem NewForces.of_zero {w w' : World} {A : Option Addr} {c : Nat} {d an fr : Int} {els : List S46} {cs : List S57} {e : Ending} (h : NewForces w A c d an fr els cs 0 e w') : ∃ g, e = .returned (.tuple #[.pointer (some ⟨g, 0, none⟩), .int .i64 0]) ∧ IsForces w' g A c d an fr els (Moor.on els cs) (Moor.lifts els) ∧ OwnForces w w' g (Moor.on els cs) (Moor.lifts els) ∧ Below w.heap.size w w' := by
  rcases h with ⟨h0, _⟩ | ⟨_, h1⟩
  · exact absurd rfl h0
  · exact h1
theorem NewShape.of_ne {w w' : World} {A : Option Addr} {c : Nat} {d an fr : Int} {els : List S46} {cs : List S57} {free : Bool} {r : Int} {e : Ending} (h : NewShape w A c d an fr els cs free r e w') (hr : r ≠ 0) : e = .returned (.tuple #[.pointer none, .int .i64 r]) ∧ Below w.heap.size w w' := by
  rcases h with ⟨_, h1, h2⟩ | ⟨h0, _⟩
  · exact ⟨h1, h2⟩
  · exact absurd h0 hr
theorem NewShape.of_zero {w w' : World} {A : Option Addr} {c : Nat} {d an fr : Int} {els : List S46} {cs : List S57} {free : Bool} {e : Ending} (h : NewShape w A c d an fr els cs free 0 e w') : ∃ gs, e = .returned (.tuple #[.pointer (some ⟨gs, 0, none⟩), .int .i64 0]) ∧ IsShape w' gs A c d an fr els (Moor.on els cs) (Moor.lifts els) (Moor.pulls free (Moor.on els cs)) ∧ Below w.heap.size w w' := by
  rcases h with ⟨h0, _⟩ | ⟨_, h1⟩
  · exact absurd rfl h0
  · exact h1
theorem NewShape.bad {w w' : World} {A : Option Addr} {c : Nat} {d an fr : Int} {els : List S46} {cs : List S57} {free : Bool} {r : Int} (h0 : r ≠ 0) (hb : Below w.heap.size w w') : NewShape w A c d an fr els cs free r (.returned (.tuple #[.pointer none, .int .i64 r])) w' := .inl ⟨h0, rfl, hb⟩
theorem NewShape.good {w w' : World} {A : Option Addr} {c : Nat} {d an fr : Int} {els : List S46} {cs : List S57} {free : Bool} {gs : Nat} (hs : IsShape w' gs A c d an fr els (Moor.on els cs) (Moor.lifts els) (Moor.pulls free (Moor.on els cs))) (hb : Below w.heap.size w w') : NewShape w A c d an fr els cs free 0 (.returned (.tuple #[.pointer (some ⟨gs, 0, none⟩), .int .i64 0])) w' := .inr ⟨rfl, gs, rfl, hs, hb⟩
set_option maxHeartbeats 8000000 in
set_option maxRecDepth 100000 in
theorem mooring_newShape.calls {d an fr : Int} {els : List S46} (A : Option Addr) (c : Nat) (A1 : Option Addr) (c1 : Nat) (cs : List S57) (free : Bool) (r : Int) (w : World) (hr0 : Kd.C k46 w A els.length els) (hc0 : els.length ≤ c) (hr1 : Kd.C k57 w A1 cs.length cs) (hc1 : cs.length ≤ c1) (hr : Moor.err d els an fr cs true = r) :
    Calls Try.prog 61 #[.agg #[.int .i64 d, .slice A els.length c, .int .i64 an, .int .i64 fr], .slice A1 cs.length c1, .bool free] w (NewShape w A c d an fr els cs free r) := by
  have hu37 := Try.underlying37
  have hu129 := Try.underlying129
  have NF := Aside0.mk (fun (w1 : World) (hb1 : Below w.heap.size w w1) => mooring_newForces.calls A c A1 c1 cs true r w1 (Kd.C_below hr0 hb1) hc0 (Kd.C_below hr1 hb1) hc1 hr)
  have HR := Aside0.mk hr
  clear hr0 hc0 hr1 hc1 hr
  by_cases c0 : r = 0
  · subst c0
    have OKM := Aside0.mk (Moor.err_ok HR.out).1
    go_enter Try.func61, Try.ntmps61
    go_wp2_with (first | ((with_reducible refine gate_dst (N := 3) rfl ?_); refine box_event ?hg (N := 3) ?hd (cs := #[.int .i64 d, .slice A els.length c, .int .i64 an, .int .i64 fr]) (t := 37) ?hr ?_; (case hd => rfl); (case hg => rfl); (case hr => first | (go_simp; done) | (go_simp; rfl)); intro gm hgm w1 hbk hb0; have BM := Aside0.mk hbk; have HB := Aside0.mk hb0; have hz0 := (blk_cell hbk 0).trans rfl; have hz1 := (blk_cell hbk 1).trans rfl; have hz2 := (blk_cell hbk 2).trans rfl; have hz3 := (blk_cell hbk 3).trans rfl; clear hgm hbk hb0) | (go_at_call 58; (with_reducible refine (NF.out _ HB.out).mono ?_); (intro e w2 hnf); (obtain ⟨g, he, hf, -, hb1⟩ := NewForces.of_zero hnf); subst he; clear hnf; have n1 := Aside0.mk (below_step HB.out hb1); have FO := Aside0.mk hf; clear HB BM hz0 hz1 hz2 hz3 hf hb1; have HB := n1; clear n1) | (go_at_call 60; (with_reducible refine (mooring_pulls.calls A c g free _ FO.out ?p1 ?p2).mono ?_); (case p1 => exact (by rw [Moor.on_length OKM.out.len]; exact OKM.out.n40)); (case p2 => exact Moor.on_onB OKM.out.elok OKM.out.cur); rintro e w3 ⟨v, rfl, hp, hb1⟩; have n1 := Aside0.mk (below_step HB.out hb1); have n2 := Aside0.mk (FO.out.below hb1); obtain ⟨A5, c5, rfl, hl5, hC5⟩ := Kd.R_reads hp; have HP := Aside0.mk hC5; have HL := Aside0.mk hl5; clear HB FO hp hb1 hl5 hC5; have HB := n1; have FO := n2; clear n1 n2) | ((with_reducible refine gate_dst (N := 24) rfl ?_); refine box_event ?hg (N := 24) ?hd (cs := #[.pointer (some ⟨g, 0, none⟩), .slice A5 (Moor.pulls free (Moor.on els cs)).length c5]) (t := 129) ?hr ?_; (case hd => rfl); (case hg => rfl); (case hr => first | (go_simp; done) | (go_simp; rfl)); intro gs hgs w4 hbk hb0; have BS := Aside0.mk hbk; have n1 := Aside0.mk (below_step HB.out hb0); have n2 := Aside0.mk (FO.out.below hb0); have n3 := Aside0.mk (Kd.C_below HP.out hb0); clear HB FO HP hgs hbk hb0; have HB := n1; have FO := n2; have HP := n3; clear n1 n2 n3))
    go_ret2
    exact NewShape.good ⟨g, A5, c5, BS.out, FO.out, HP.out, HL.out⟩ HB.out
  · have d1 : (r != 0) = true := bne_iff_ne.mpr c0
    have C0 := Aside0.mk c0
    clear c0
    go_enter Try.func61, Try.ntmps61
    go_wp2_with (first | ((with_reducible refine gate_dst (N := 3) rfl ?_); refine box_event ?hg (N := 3) ?hd (cs := #[.int .i64 d, .slice A els.length c, .int .i64 an, .int .i64 fr]) (t := 37) ?hr ?_; (case hd => rfl); (case hg => rfl); (case hr => first | (go_simp; done) | (go_simp; rfl)); intro gm hgm w1 hbk hb0; have BM := Aside0.mk hbk; have HB := Aside0.mk hb0; have hz0 := (blk_cell hbk 0).trans rfl; have hz1 := (blk_cell hbk 1).trans rfl; have hz2 := (blk_cell hbk 2).trans rfl; have hz3 := (blk_cell hbk 3).trans rfl; clear hgm hbk hb0) | (go_at_call 58; (with_reducible refine (NF.out _ HB.out).mono ?_); (intro e w2 hnf); (obtain ⟨he, hb1⟩ := NewForces.of_ne hnf C0.out); subst he; clear hnf; have n1 := Aside0.mk (below_step HB.out hb1); clear HB BM hz0 hz1 hz2 hz3 hb1; have HB := n1; clear n1))
    go_ret2
    exact NewShape.bad C0.out HB.out

end Go.Proofs.Ytebcmhajbjkojaa.P

namespace Go.Proofs.Ytebcmhajbjkojaa.P
open Go.RowKit Go.Proofs.YtebcmhajbjkojaaW.PrintWords Go.Proofs.YtebcmhajbjkojaaW.PrintLast Go.Proofs.YtebcmhajbjkojaaW.PrintMore
attribute [local go_sem] max2_int min2_int max_two min_two max_three min_three max_four min_four   -- for this text's walks alone
set_option linter.unusedVariables false
set_option linter.unusedSimpArgs false

-- LIB
-- IMPORT Derived.Laws.EntriesVeiled
-- IMPORT Derived.Outline
-- WANT isobath/bound.Check
/-! ### mooring: total: by hand -/
set_option maxHeartbeats 8000000 in
set_option maxRecDepth 100000 in
theorem mooring_total.calls {d an fr : Int} {els : List S46} {on : List S57} {li : List Int} {ps : List S57} (A : Option Addr) (c : Nat) (gs : Nat) (F : FuncId) (val : Nat → S57) (w : World) (h : IsShape w gs A c d an fr els on li ps) (h40 : els.length ≤ 40) (hg : Gives w F gs els.length val) (hval : ∀ x ∈ Moor.list val els.length, Moor.midB x) :
    Calls Try.prog 65 #[.pointer (some ⟨gs, 0, none⟩), .func (.func F) #[.pointer (some ⟨gs, 0, none⟩)] #[]] w fun e w' => e = .returned (.agg #[.int .i64 (Moor.slo (Moor.list val els.length)), .int .i64 (Moor.shi (Moor.list val els.length))]) ∧ Below w.heap.size w w' := by
  have hu57 := Try.underlying57
  have EC := Aside0.mk (fun (w1 : World) (hb1 : Below w.heap.size w w1) => mooring_each.calls A c gs F val w1 (h.below hb1) h40 (hg.below hb1))
  clear h hg
  have hxl := Moor.list_length val els.length
  generalize Moor.list val els.length = xs at *
  have HVAL := Aside0.mk hval
  have h40x : xs.length ≤ 40 := by omega
  clear hval hxl
  go_enter Try.func65, Try.ntmps65
  go_wp2_with (first | ((with_reducible refine gate_dst (N := 4) rfl ?_); refine box_event ?hg (N := 4) ?hd (cs := #[.int .i64 0, .int .i64 0]) (t := 57) ?hr ?_; (case hd => rfl); (case hg => rfl); (case hr => first | (go_simp; done) | (go_simp; rfl)); intro gt hgt w1 hbt hb0; have GE0 : Aside0 (w.heap.size ≤ gt) := ⟨Nat.le_of_eq hgt.symm⟩; have BT := Aside0.mk hbt; have HB := Aside0.mk hb0; clear hgt hbt hb0) | ((with_reducible refine gate_dst (N := 5) rfl ?_); refine box_event ?hg (N := 5) ?hd (cs := #[.int .i64 0, .int .i64 0]) (t := 57) ?hr ?_; (case hd => rfl); (case hg => rfl); (case hr => first | (go_simp; done) | (go_simp; rfl)); intro gm hgm w2 hbm hb0; have GE1 : Aside0 (w.heap.size ≤ gm) := ⟨by rw [hgm]; exact below_size HB.out⟩; have NEM : Aside0 (gt ≠ gm) := ⟨by rw [hgm]; exact Nat.ne_of_lt (blk_lt BT.out)⟩; have BM := Aside0.mk hbm; have n1 := Aside0.mk (below_step HB.out hb0); have n2 := Aside0.mk (blk_below BT.out hb0); clear HB BT hgm hbm hb0; have HB := n1; have BT := n2; clear n1 n2) | (go_at_call 62; (with_reducible refine (EC.out _ HB.out).mono ?_); rintro e w3 ⟨v, rfl, hp, hb1⟩; have n1 := Aside0.mk (below_step HB.out hb1); have n2 := Aside0.mk (blk_below BM.out hb1); have n3 := Aside0.mk (blk_below BT.out hb1); have hp2 := (Kd.R_mono (ok' := fun k => k ≠ gm) (Kd.R_bound hp) (fun k hk => Ne.symm (Nat.ne_of_lt (Nat.lt_of_lt_of_le (blk_lt BM.out) hk.2.1)))); have hp3 := (Kd.R_lower hp2 (below_size HB.out)); obtain ⟨A5, c5, rfl⟩ := Kd.R_slice hp3; have HP := Aside0.mk hp3; clear HB BM BT hp hb1 hp2 hp3; have HB := n1; have BM := n2; have BT := n3; clear n1 n2 n3))
  go_loopg [12] xs.length (fun kq v12 w' => TotRel w gm gt xs (.slice A5 xs.length c5) kq v12 w')
  case atStart => exact ⟨0, rfl, rfl, BM.out, BT.out, HP.out, HB.out⟩
  case round =>
    clear BM BT HP HB
    obtain ⟨j, hj, rfl, BM0, BT0, HP0, HB0⟩ := hrel
    have BM := Aside0.mk BM0
    have BT := Aside0.mk BT0
    have HP := Aside0.mk HP0
    have HB := Aside0.mk HB0
    have HJ := Aside0.mk hj
    clear BM0 BT0 HP0 HB0 hj
    by_cases hlt : j < xs.length
    · have HLT := Aside0.mk hlt
      have c3 : decide ((j : Int) < (xs.length : Int)) = true := decide_eq_true (by omega)
      have c3n : decide (j < xs.length) = true := decide_eq_true hlt
      have p1 : (0 : Int) ≤ (j : Int) := by omega
      have q1 : (j : Int) < (xs.length : Int) := by omega
      obtain ⟨ad1, e1, hx0, hx1⟩ := at_T57 (R_C HP.out) (j : Int) p1 q1
      cases e1
      rw [Moor.rdS hlt] at hx0 hx1
      obtain ⟨x, hx⟩ : ∃ x, xs[j]? = some x := ⟨_, List.getElem?_eq_getElem hlt⟩
      have hx2 : xs[j] = x := by rw [List.getElem?_eq_getElem hlt] at hx; exact Option.some.inj hx
      rw [hx2] at hx0 hx1
      simp only [Int.toNat_natCast] at hx0 hx1
      have hxb := HVAL.out x (by rw [← hx2]; exact List.getElem_mem hlt)
      have b1 := Moor.mid_bound (on := xs.take j) (fun y hy => HVAL.out y (List.mem_of_mem_take hy))
      have b3 : (xs.take j).length ≤ 40 := by rw [List.length_take]; omega
      obtain ⟨b4, b5, b6, b7⟩ := hxb
      have T0 := Moor.slo_take hx
      have T1 := Moor.shi_take hx
      generalize hsl : Moor.slo (xs.take j) = sl at *
      generalize hsh : Moor.shi (xs.take j) = sh at *
      obtain ⟨s0, hs0⟩ : ∃ s0, s0 = sl + x.f0 := ⟨_, rfl⟩
      obtain ⟨s1, hs1⟩ : ∃ s1, s1 = sh + x.f1 := ⟨_, rfl⟩
      have d0 : IntKind.i64.wrap (sl + x.f0) = s0 := by rw [i64_w, wrap_id (by omega) (by omega), hs0]
      have d1 : IntKind.i64.wrap (sh + x.f1) = s1 := by rw [i64_w, wrap_id (by omega) (by omega), hs1]
      have T0 := Aside0.mk T0
      have T1 := Aside0.mk T1
      have HS0 := Aside0.mk hs0
      have HS1 := Aside0.mk hs1
      clear hlt hx hx2 b1 b3 b4 b5 b6 b7 hsl hsh hs0 hs1
      go_wp2_with ((with_reducible refine gate_dst (N := 7) rfl ?_); refine box_event ?hg (N := 7) ?hd (cs := #[.int .i64 0, .int .i64 0]) (t := 57) ?hr ?_; (case hd => rfl); (case hg => rfl); (case hr => first | (go_simp; done) | (go_simp; rfl)); intro gx hgx w2 hbx hb2; have n1 := Aside0.mk (blk_below BM.out hb2); have n2 := Aside0.mk (blk_below BT.out hb2); have n3 := Aside0.mk (below_step HB.out hb2); have n4 := Aside0.mk (Kd.R_below (Kd.R_mono (ok' := fun k => k ≠ gm ∧ k ≠ gx) (Kd.R_bound HP.out) (fun k hk => ⟨hk.1, by have := hk.2.2.1; omega⟩)) hb2); have BX := Aside0.mk hbx; have GE2 : Aside0 (w.heap.size ≤ gx) := ⟨by rw [hgx]; exact below_size HB.out⟩; have NE1 : Aside0 (gm ≠ gx) := ⟨by rw [hgx]; exact Nat.ne_of_lt (blk_lt BM.out)⟩; have NE2 : Aside0 (gx ≠ gm) := ⟨Ne.symm NE1.out⟩; have NE3 : Aside0 (gt ≠ gx) := ⟨by rw [hgx]; exact Nat.ne_of_lt (blk_lt BT.out)⟩; clear BM BT HB HP hgx hbx hb2 hx0 hx1; have BM := n1; have BT := n2; have HB := n3; have HP := n4; clear n1 n2 n3 n4; have hn1 := NE1.out; have hn2 := NE2.out; have hz0 := (blk_cell BM.out 0).trans rfl; have hz1 := (blk_cell BM.out 1).trans rfl; have hz2 := (blk_cell BX.out 0).trans rfl; have hz3 := (blk_cell BX.out 1).trans rfl; have hf0 := blk_frozen BM.out 0; have hf1 := blk_frozen BM.out 1; have hf2 := blk_frozen BX.out 0; have hf3 := blk_frozen BX.out 1)
      obtain ⟨k1, rfl⟩ : ∃ k1, gk = k1 + 1 := ⟨gk - 1, by have := HJ.out; have := HLT.out; omega⟩
      go_roundg k1
      case measure => omega
      case rel => exact TotRel.next (by have := HJ.out; omega) rfl (HS0.out.trans T0.out.symm) (HS1.out.trans T1.out.symm) (blk_put (cs' := #[.int .i64 s0, .int .i64 s1]) (blk_put (cs' := #[.int .i64 s0, .int .i64 sh]) (blk_far (p := ⟨gx, 1, none⟩) (blk_far (p := ⟨gx, 0, none⟩) BM.out NE1.out (.int .i64 x.f0)) NE1.out (.int .i64 x.f1)) 0 (.int .i64 s0) rfl) 1 (.int .i64 s1) rfl) (blk_far (p := ⟨gm, 1, none⟩) (blk_far (p := ⟨gm, 0, none⟩) (blk_far (p := ⟨gx, 1, none⟩) (blk_far (p := ⟨gx, 0, none⟩) BT.out NE3.out (.int .i64 x.f0)) NE3.out (.int .i64 x.f1)) NEM.out (.int .i64 s0)) NEM.out (.int .i64 s1)) (Kd.R_mono (ok' := fun k => k ≠ gm) (Kd.R_far (p := ⟨gm, 1, none⟩) (Kd.R_far (p := ⟨gm, 0, none⟩) (Kd.R_far (p := ⟨gx, 1, none⟩) (Kd.R_far (p := ⟨gx, 0, none⟩) HP.out (fun _ hk => hk.2) (.int .i64 x.f0)) (fun _ hk => hk.2) (.int .i64 x.f1)) (fun _ hk => hk.1) (.int .i64 s0)) (fun _ hk => hk.1) (.int .i64 s1)) (fun k hk => hk.1)) (below_set (j := 1) (v := .int .i64 s1) (below_set (j := 0) (v := .int .i64 s0) (below_set (j := 1) (v := .int .i64 x.f1) (below_set (j := 0) (v := .int .i64 x.f0) HB.out GE2.out) GE2.out) GE1.out) GE1.out)
    · have hje : j = xs.length := by have := HJ.out; omega
      have c3 : decide ((j : Int) < (xs.length : Int)) = false := decide_eq_false (by omega)
      have c3n : decide (j < xs.length) = false := decide_eq_false hlt
      have HJE := Aside0.mk hje
      clear hlt hje
      have bm := BM.out
      rw [HJE.out, List.take_length] at bm
      have BMM := Aside0.mk bm
      have hz0 := (blk_cell bm 0).trans rfl
      have hz1 := (blk_cell bm 1).trans rfl
      have hz2 := (blk_cell BT.out 0).trans rfl
      have hz3 := (blk_cell BT.out 1).trans rfl
      have hf2 := blk_frozen BT.out 0
      have hf3 := blk_frozen BT.out 1
      clear BM bm HP
      go_wp2
      refine bodyPost_ret (results_cell_row rfl _ _ gt 57 _ (0, 0) _ rfl (blk_put (cs' := #[.int .i64 (Moor.slo xs), .int .i64 (Moor.shi xs)]) (blk_put (cs' := #[.int .i64 (Moor.slo xs), .int .i64 0]) BT.out 0 (.int .i64 (Moor.slo xs)) rfl) 1 (.int .i64 (Moor.shi xs)) rfl) hu57 rfl (by kernel_rfl)) rfl ?_
      exact ⟨rfl, below_set (below_set HB.out GE0.out) GE0.out⟩

end Go.Proofs.Ytebcmhajbjkojaa.P

namespace Go.Proofs.Ytebcmhajbjkojaa.P
open Go.RowKit Go.Proofs.YtebcmhajbjkojaaW.PrintWords Go.Proofs.YtebcmhajbjkojaaW.PrintLast Go.Proofs.YtebcmhajbjkojaaW.PrintMore
attribute [local go_sem] max2_int min2_int max_two min_two max_three min_three max_four min_four   -- for this text's walks alone
set_option linter.unusedVariables false
set_option linter.unusedSimpArgs false

-- LIB
-- IMPORT Derived.Laws.EntriesVeiled
-- IMPORT Derived.Outline
-- WANT isobath/mooring.from
-- GIVEN isobath/mooring.Top rounds=False making=True
/-! ### mooring.Top: by hand -/
def mooring_Top.f (d : Int) (els : List S46) (an fr : Int) (cs : List S57) (free : Bool) : Option (Int × Int × Int) := if Moor.err d els an fr cs true = 0 then some (wrap64 (d - Moor.shi (Moor.list (Moor.riseAt els (Moor.pulls free (Moor.on els cs)) (Moor.lifts els)) els.length)), wrap64 (d - Moor.slo (Moor.list (Moor.riseAt els (Moor.pulls free (Moor.on els cs)) (Moor.lifts els)) els.length)), 0) else some (0, 0, Moor.err d els an fr cs true)
def Top.T4 : Bool × List (List Nat × List Nat) := (true, [([], []), ([0], [0]), ([], []), ([], []), ([3], [3]), ([2, 4], [2, 4]), ([1, 5, 5], [1, 5]), ([6, 6, 0, 1, 2, 3, 4, 5, 6], [6]), ([7, 0, 1, 2, 3, 4, 5, 6, 7], [])])
def Top.B4 : List Nat := [0, 1, 0, 0, 8, 28, 63, 127, 255]
theorem Top.tab4 : rtab .any (opsOf Try.f32 4) = Top.T4 := by kernel_rfl
theorem Top.bits4 : waitsOk Top.T4.2 Top.B4 = true := by kernel_rfl
set_option maxHeartbeats 8000000 in
set_option maxRecDepth 100000 in
theorem mooring_Top.calls (d : Int) (A : Option Addr) (c : Nat) (els : List S46) (an fr : Int) (A1 : Option Addr) (c1 : Nat) (cs : List S57) (free : Bool) (r1 : Int) (r2 : Int) (r3 : Int) (w : World) (hr0 : Kd.C k46 w A els.length els) (hc0 : els.length ≤ c) (hr1 : Kd.C k57 w A1 cs.length cs) (hc1 : cs.length ≤ c1) (h : mooring_Top.f d els an fr cs free = some (r1, r2, r3)) :
    Calls Try.prog 32 #[.agg #[.int .i64 d, .slice A els.length c, .int .i64 an, .int .i64 fr], .slice A1 cs.length c1, .bool free] w fun e w' => e = .returned (.tuple #[.agg #[.int .i64 r1, .int .i64 r2], .int .i64 r3]) ∧ Below w.heap.size w w' := by
  have hu37 := Try.underlying37
  have hu57 := Try.underlying57
  have hu98 := Try.underlying98
  have hu129 := Try.underlying129
  obtain ⟨r, hr⟩ : ∃ r, Moor.err d els an fr cs true = r := ⟨_, rfl⟩
  have NS := Aside0.mk (fun (w1 : World) (hb1 : Below w.heap.size w w1) => mooring_newShape.calls A c A1 c1 cs free r w1 (Kd.C_below hr0 hb1) hc0 (Kd.C_below hr1 hb1) hc1 hr)
  have HR := Aside0.mk hr
  unfold mooring_Top.f at h
  rw [hr] at h
  have HR0 := Aside0.mk hr0
  clear hr0 hc0 hr1 hc1 hr
  by_cases c0 : r = 0
  · subst c0
    rw [if_pos rfl] at h
    have h := Option.some.inj h
    simp only [Prod.mk.injEq] at h
    obtain ⟨rfl, rfl, rfl⟩ := h
    have OKM := Aside0.mk (Moor.err_ok HR.out).1
    have STA := Aside0.mk ((Moor.err_ok HR.out).2 rfl)
    go_enter Try.func32, Try.ntmps32
    go_wp2_with (first | ((with_reducible refine gate_dst (N := 3) rfl ?_); refine box_event ?hg (N := 3) ?hd (cs := #[.int .i64 d, .slice A els.length c, .int .i64 an, .int .i64 fr]) (t := 37) ?hr ?_; (case hd => rfl); (case hg => rfl); (case hr => first | (go_simp; done) | (go_simp; rfl)); intro gm hgm w1 hbk hb0; have BM := Aside0.mk hbk; have HB := Aside0.mk hb0; have hz0 := (blk_cell hbk 0).trans rfl; have hz1 := (blk_cell hbk 1).trans rfl; have hz2 := (blk_cell hbk 2).trans rfl; have hz3 := (blk_cell hbk 3).trans rfl; clear hgm hbk hb0) | ((with_reducible refine gate_dst (N := 6) rfl ?_); refine box_event ?hg (N := 6) ?hd (cs := #[.int .i64 0, .int .i64 0]) (t := 57) ?hr ?_; (case hd => rfl); (case hg => rfl); (case hr => first | (go_simp; done) | (go_simp; rfl)); intro gt hgt w2 hbt hb0; have n1 := Aside0.mk (below_step HB.out hb0); have n2 := Aside0.mk (blk_below BM.out hb0); have BT := Aside0.mk hbt; have GE : Aside0 (w.heap.size ≤ gt) := ⟨by rw [hgt]; exact below_size HB.out⟩; have NEM : Aside0 (gm ≠ gt) := ⟨by rw [hgt]; exact Nat.ne_of_lt (blk_lt BM.out)⟩; clear HB BM hgt hbt hb0 hz0 hz1 hz2 hz3; have HB := n1; have BM := n2; clear n1 n2; have hz0 := (blk_cell BM.out 0).trans rfl; have hz1 := (blk_cell BM.out 1).trans rfl; have hz2 := (blk_cell BM.out 2).trans rfl; have hz3 := (blk_cell BM.out 3).trans rfl) | (go_at_call 61; (with_reducible refine (NS.out _ HB.out).mono ?_); intro e w3 hnf; obtain ⟨gs, he, hf, hb1⟩ := NewShape.of_zero hnf; subst he; have FO := Aside0.mk hf; have n1 := Aside0.mk (below_step HB.out hb1); have n3 := Aside0.mk (blk_below BM.out hb1); have n4 := Aside0.mk (blk_below BT.out hb1); clear HB BM BT hz0 hz1 hz2 hz3 hnf hb1 hf; have HB := n1; clear n1; have BM := n3; have BT := n4; clear n3 n4; ))
    have n1 := Aside0.mk (blk_drew BM.out)
    have n2 := Aside0.mk (blk_drew BT.out)
    have n3 := Aside0.mk (below_drew1 HB.out)
    have n4 := Aside0.mk (FO.out.below (below_drew1 (Below.refl _ _)))
    clear BM BT HB FO
    have BM := n1
    have BT := n2
    have HB := n3
    have FO := n4
    clear n1 n2 n3 n4
    have OFM := Aside0.mk (OKM.out.rises_mid STA.out free)
    generalize hs0 : Moor.slo (Moor.list (Moor.riseAt els (Moor.pulls free (Moor.on els cs)) (Moor.lifts els)) els.length) = s0 at *
    generalize hs1 : Moor.shi (Moor.list (Moor.riseAt els (Moor.pulls free (Moor.on els cs)) (Moor.lifts els)) els.length) = s1 at *
    have HS0 := Aside0.mk hs0
    have HS1 := Aside0.mk hs1
    clear hs0 hs1
    refine start_ (n := 9) (S := fun w' => w'.cell? ⟨gm, 0, none⟩ = some (.int .i64 d)) (ds := []) #[false, false, false, false, false, false, false, false, false] (by kernel_rfl) rfl rfl (((blk_cell BM.out 0).trans rfl)) (fun hHeld => ?_)
    refine with_tabW Top.tab4 Top.bits4 (fun HT_ HW_ => ?_)
    generalize World.drew _ = w4 at BM BT HB FO hHeld ⊢
    refine pure_ (i := 0) (N := some 21) (v := ?_) (a' := ?_) #[true, false, false, false, false, false, false, false, false] rfl rfl (any_of HT_.out (by kernel_rfl)) (fun _ _ _ h => h) (Or.inl ⟨by rfl, ?_⟩) ?_ ?_
    rotate_left
    · intro w'
      go_simp
      with_reducible rfl
    rotate_left
    · simp only [Act.put, List.setIfInBounds_toArray, List.set_cons_zero, List.set_cons_succ, i64_w, i32_w]
      rfl
    refine pure_ (i := 2) (N := some 23) (v := ?_) (a' := ?_) #[true, false, true, false, false, false, false, false, false] rfl rfl (any_of HT_.out (by kernel_rfl)) (fun _ _ _ h => h) (Or.inl ⟨by rfl, ?_⟩) ?_ ?_
    rotate_left
    · intro w'
      go_simp
      with_reducible rfl
    rotate_left
    · simp only [Act.put, List.setIfInBounds_toArray, List.set_cons_zero, List.set_cons_succ, i64_w, i32_w]
      rfl
    refine pure_ (i := 3) (N := some 24) (v := ?_) (a' := ?_) #[true, false, true, true, false, false, false, false, false] rfl rfl (any_of HT_.out (by kernel_rfl)) (fun _ _ _ h => h) (Or.inl ⟨by rfl, ?_⟩) ?_ ?_
    rotate_left
    · intro w'
      go_simp
      with_reducible rfl
    rotate_left
    · simp only [Act.put, List.setIfInBounds_toArray, List.set_cons_zero, List.set_cons_succ, i64_w, i32_w]
      rfl
    refine pure_ (i := 4) (N := some 25) (v := ?_) (a' := ?_) #[true, false, true, true, true, false, false, false, false] rfl rfl (any_of HT_.out (by kernel_rfl)) (fun _ _ _ h => h) (Or.inl ⟨by rfl, ?_⟩) ?_ ?_
    rotate_left
    · intro w'
      go_simp
      with_reducible rfl
    rotate_left
    · simp only [Act.put, List.setIfInBounds_toArray, List.set_cons_zero, List.set_cons_succ, i64_w, i32_w]
      rfl
    refine take_ (i := 1) (N := some 22) (v := ?_) (a' := ?_) #[true, true, true, true, true, false, false, false, false] rfl rfl (take_ofW HT_.out HW_.out (by kernel_rfl)) (fun _ _ _ h => h) (Or.inl ⟨by rfl, ?_⟩) hHeld ?_ ?_
    rotate_left
    · intro w' s0
      go_simp
      with_reducible rfl
    rotate_left
    · simp only [Act.put, List.setIfInBounds_toArray, List.set_cons_zero, List.set_cons_succ, i64_w, i32_w]
      rfl
    refine one_ (i := 5) (N := some 26) #[true, true, true, true, true, true, false, false, false] rfl rfl (one_of HT_.out (by kernel_rfl)) (by decide) (fun K hK => ?_)
    refine goes_ Try.func65 (by kernel_rfl) rfl #[.pointer (some ⟨gs, 0, none⟩), .func (.func 64) #[.pointer (some ⟨gs, 0, none⟩)] #[]] (by rfl) rfl rfl (by simp only [List.map_toArray, List.map_cons, List.map_nil]; rfl) ?_
    with_reducible refine (mooring_total.calls A c gs 64 (Moor.riseAt els (Moor.pulls free (Moor.on els cs)) (Moor.lifts els)) _ FO.out OKM.out.n40 (mooring_gives_rise FO.out OKM.out STA.out) OFM.out).mono ?_
    rintro e w5 ⟨rfl, hb1⟩
    refine ⟨_, rfl, ?_⟩
    rw [HS0.out, HS1.out]
    have n1 := Aside0.mk (below_step HB.out hb1)
    have n2 := Aside0.mk (blk_below BM.out hb1)
    have n3 := Aside0.mk (blk_below BT.out hb1)
    clear HB BM BT FO hb1
    have HB := n1
    have BM := n2
    have BT := n3
    clear n1 n2 n3
    refine hK.out _ _ (((blk_cell BM.out 0).trans rfl)) (fun hHeld => ?_)
    clear hK K
    refine norm_ (a' := ?_) ?_ ?_
    rotate_left
    · show Act.put _ (some 26) _ = _
      simp only [Act.put, List.setIfInBounds_toArray, List.set_cons_zero, List.set_cons_succ, i64_w, i32_w]
      rfl
    refine one_ (i := 6) (N := some 27) #[true, true, true, true, true, true, true, false, false] rfl rfl (one_of HT_.out (by kernel_rfl)) (by decide) (fun K hK => ?_)
    refine goes_ Try.func73 (by kernel_rfl) rfl #[.int .i64 d, .agg #[.int .i64 s0, .int .i64 s1]] (by rfl) rfl rfl (by simp only [List.map_toArray, List.map_cons, List.map_nil]; rfl) ?_
    with_reducible refine (mooring_from.calls d s0 s1 (wrap64 (d - s1)) (wrap64 (d - s0)) _ rfl).mono ?_
    rintro e w6 ⟨rfl, hb1⟩
    refine ⟨_, rfl, ?_⟩
    have n1 := Aside0.mk (below_step HB.out hb1)
    have n2 := Aside0.mk (blk_below BM.out hb1)
    have n3 := Aside0.mk (blk_below BT.out hb1)
    clear HB BM BT hb1
    have HB := n1
    have BM := n2
    have BT := n3
    clear n1 n2 n3
    refine hK.out _ _ (((blk_cell BM.out 0).trans rfl)) (fun hHeld => ?_)
    clear hK K
    refine norm_ (a' := ?_) ?_ ?_
    rotate_left
    · show Act.put _ (some 27) _ = _
      simp only [Act.put, List.setIfInBounds_toArray, List.set_cons_zero, List.set_cons_succ, i64_w, i32_w]
      rfl
    refine one_ (i := 7) (N := none) #[true, true, true, true, true, true, true, true, false] rfl rfl (one_of HT_.out (by kernel_rfl)) (by decide) (fun K hK => ?_)
    clear hHeld
    have hz0 := (blk_cell BT.out 0).trans rfl
    have hz1 := (blk_cell BT.out 1).trans rfl
    have hf0 := blk_frozen BT.out 0
    have hf1 := blk_frozen BT.out 1
    refine skip_ (w1 := ?_) (by rfl) rfl ?_ ?_
    rotate_left
    · go_simp
      rfl
    clear hz0 hz1 hf0 hf1
    have n1 := Aside0.mk (blk_far (p := ⟨gt, 1, none⟩) (blk_far (p := ⟨gt, 0, none⟩) BM.out NEM.out (.int .i64 (wrap64 (d - s1)))) NEM.out (.int .i64 (wrap64 (d - s0))))
    have n2 := Aside0.mk (blk_put (cs' := #[.int .i64 (wrap64 (d - s1)), .int .i64 (wrap64 (d - s0))]) (blk_put (cs' := #[.int .i64 (wrap64 (d - s1)), .int .i64 0]) BT.out 0 (.int .i64 (wrap64 (d - s1))) rfl) 1 (.int .i64 (wrap64 (d - s0))) rfl)
    have n3 := Aside0.mk (below_set (j := 1) (v := .int .i64 (wrap64 (d - s0))) (below_set (j := 0) (v := .int .i64 (wrap64 (d - s1))) HB.out GE.out) GE.out)
    clear HB BM BT
    have BM := n1
    have BT := n2
    have HB := n3
    clear n1 n2 n3
    refine hK.out _ _ (((blk_cell BM.out 0).trans rfl)) (fun hHeld => ?_)
    clear hK K
    refine pure_ (i := 8) (N := some 7) (v := ?_) (a' := ?_) #[true, true, true, true, true, true, true, true, true] rfl rfl (any_of HT_.out (by kernel_rfl)) (fun _ _ _ h => h) (Or.inl ⟨by rfl, ?_⟩) ?_ ?_
    rotate_left
    · intro w'
      go_simp
      with_reducible rfl
    rotate_left
    · simp only [Act.put, List.setIfInBounds_toArray, List.set_cons_zero, List.set_cons_succ, i64_w, i32_w]
      rfl
    refine done_ (done_of HT_.out (by kernel_rfl)) ?_
    clear hHeld BM
    go_wp2
    refine bodyPost_ret (results_ct rfl _ _ gt 57 #[.int .i64 (wrap64 (d - s1)), .int .i64 (wrap64 (d - s0))] (0, 0) _ rfl BT.out hu57 rfl (by kernel_rfl)) rfl ?_
    refine ⟨?_, HB.out⟩
    first | rfl | (rw [HS0.out, HS1.out]; rfl)
  · rw [if_neg c0] at h
    have h := Option.some.inj h
    simp only [Prod.mk.injEq] at h
    obtain ⟨rfl, rfl, rfl⟩ := h
    have d1 : (r != 0) = true := bne_iff_ne.mpr c0
    have C0 := Aside0.mk c0
    clear c0
    go_enter Try.func32, Try.ntmps32
    go_wp2_with (first | ((with_reducible refine gate_dst (N := 3) rfl ?_); refine box_event ?hg (N := 3) ?hd (cs := #[.int .i64 d, .slice A els.length c, .int .i64 an, .int .i64 fr]) (t := 37) ?hr ?_; (case hd => rfl); (case hg => rfl); (case hr => first | (go_simp; done) | (go_simp; rfl)); intro gm hgm w1 hbk hb0; have BM := Aside0.mk hbk; have HB := Aside0.mk hb0; have hz0 := (blk_cell hbk 0).trans rfl; have hz1 := (blk_cell hbk 1).trans rfl; have hz2 := (blk_cell hbk 2).trans rfl; have hz3 := (blk_cell hbk 3).trans rfl; clear hgm hbk hb0) | ((with_reducible refine gate_dst (N := 6) rfl ?_); refine box_event ?hg (N := 6) ?hd (cs := #[.int .i64 0, .int .i64 0]) (t := 57) ?hr ?_; (case hd => rfl); (case hg => rfl); (case hr => first | (go_simp; done) | (go_simp; rfl)); intro gt hgt w2 hbt hb0; have n1 := Aside0.mk (below_step HB.out hb0); have n2 := Aside0.mk (blk_below BM.out hb0); have BT := Aside0.mk hbt; have GE : Aside0 (w.heap.size ≤ gt) := ⟨by rw [hgt]; exact below_size HB.out⟩; have NEM : Aside0 (gm ≠ gt) := ⟨by rw [hgt]; exact Nat.ne_of_lt (blk_lt BM.out)⟩; clear HB BM hgt hbt hb0 hz0 hz1 hz2 hz3; have HB := n1; have BM := n2; clear n1 n2; have hz0 := (blk_cell BM.out 0).trans rfl; have hz1 := (blk_cell BM.out 1).trans rfl; have hz2 := (blk_cell BM.out 2).trans rfl; have hz3 := (blk_cell BM.out 3).trans rfl) | (go_at_call 61; (with_reducible refine (NS.out _ HB.out).mono ?_); intro e w3 hnf; obtain ⟨he, hb1⟩ := NewShape.of_ne hnf C0.out; subst he; have n1 := Aside0.mk (below_step HB.out hb1); have n3 := Aside0.mk (blk_below BM.out hb1); have n4 := Aside0.mk (blk_below BT.out hb1); clear HB BM BT hz0 hz1 hz2 hz3 hnf hb1; have HB := n1; clear n1; have BM := n3; have BT := n4; clear n3 n4; have hz2 := (blk_cell BT.out 0).trans rfl; have hz3 := (blk_cell BT.out 1).trans rfl; have hf2 := blk_frozen BT.out 0; have hf3 := blk_frozen BT.out 1; ))
    refine bodyPost_ret (results_ct rfl _ _ gt 57 #[.int .i64 0, .int .i64 0] (0, 0) _ rfl (blk_put (cs' := #[.int .i64 0, .int .i64 0]) (blk_put (cs' := #[.int .i64 0, .int .i64 0]) BT.out 0 (.int .i64 0) rfl) 1 (.int .i64 0) rfl) hu57 rfl (by kernel_rfl)) rfl ?_
    exact ⟨rfl, below_set (below_set HB.out GE.out) GE.out⟩

end Go.Proofs.Ytebcmhajbjkojaa.P

namespace Go.Proofs.Ytebcmhajbjkojaa.P
open Go.RowKit Go.Proofs.YtebcmhajbjkojaaW.PrintWords Go.Proofs.YtebcmhajbjkojaaW.PrintLast Go.Proofs.YtebcmhajbjkojaaW.PrintMore
attribute [local go_sem] max2_int min2_int max_two min_two max_three min_three max_four min_four   -- for this text's walks alone
set_option linter.unusedVariables false
set_option linter.unusedSimpArgs false

attribute [local go_sem high] eqA57
/-! ### isobathlaw02_fine: function 14 -/
def isobathlaw02_fine.f (k : Nat)  : Option (Bool) := (isobathlaw02_Example.f).bind fun bt101 => ((mooring_Top.f bt101.1 bt101.2.1 bt101.2.2.1 bt101.2.2.2.1 bt101.2.2.2.2 false).bind fun bt111 => ((mooring_Spacing.f k (([0, 7, 56] : List Int))).bind fun bt118 => (if (wrap64 (bt111.2.2 + bt118.2)) = 0 then (if (bt111.1 == 2000 && (bt111.2.1 == 2936)) = true then (some (bt118.1 == 3)) else (some false)) else (some false))))
theorem isobathlaw02_fine.mono : ∀ k, LeO (isobathlaw02_fine.f k ) (isobathlaw02_fine.f (k + 1) ) := by
  intro  k
  unfold isobathlaw02_fine.f
  repeat' first
      | (with_reducible exact mooring_Spacing.mono _ _)
      | (with_reducible exact LeO.refl _)
      | (with_reducible exact LeO.none _)
      | (with_reducible refine LeO.ite ?_ ?_)
      | (with_reducible refine LeO.bind ?_ (fun _ => ?_))
      | exact mooring_Spacing.mono _ _
      | exact LeO.none _
      | refine LeO.ite ?_ ?_
      | refine LeO.bind ?_ (fun _ => ?_)
set_option maxHeartbeats 8000000 in
set_option maxRecDepth 100000 in
theorem isobathlaw02_fine.calls (k : Nat)  (r : Bool) (w : World) (h : isobathlaw02_fine.f k  = some r) :
    Calls Try.prog 14 #[] w fun e w' => e = .returned (.bool r) ∧ Below w.heap.size w w' := by
  have hu37 := Try.underlying37
  have hu57 := Try.underlying57
  have HB := Aside0.mk (Below.refl w.heap.size w)
  have H : ((isobathlaw02_Example.f).bind fun bt101 => ((mooring_Top.f bt101.1 bt101.2.1 bt101.2.2.1 bt101.2.2.2.1 bt101.2.2.2.2 false).bind fun bt111 => ((mooring_Spacing.f k (([0, 7, 56] : List Int))).bind fun bt118 => (if (wrap64 (bt111.2.2 + bt118.2)) = 0 then (if (bt111.1 == 2000 && (bt111.2.1 == 2936)) = true then (some (bt118.1 == 3)) else (some false)) else (some false))))) = some r := h
  clear h
  replace H := Option.bind_eq_some_iff.mp H
  obtain ⟨⟨t101, t102, t105, t106, t107⟩, A10, H⟩ := H
  replace H : ((mooring_Top.f t101 t102 t105 t106 t107 false).bind fun bt111 => ((mooring_Spacing.f k (([0, 7, 56] : List Int))).bind fun bt118 => (if (wrap64 (bt111.2.2 + bt118.2)) = 0 then (if (bt111.1 == 2000 && (bt111.2.1 == 2936)) = true then (some (bt118.1 == 3)) else (some false)) else (some false)))) = some r := H
  have A1 := Aside0.mk A10
  clear A10
  replace H := Option.bind_eq_some_iff.mp H
  obtain ⟨⟨t111, t112, t113⟩, A20, H⟩ := H
  replace H : ((mooring_Spacing.f k (([0, 7, 56] : List Int))).bind fun bt118 => (if (wrap64 (t113 + bt118.2)) = 0 then (if (t111 == 2000 && (t112 == 2936)) = true then (some (bt118.1 == 3)) else (some false)) else (some false))) = some r := H
  have A2 := Aside0.mk A20
  clear A20
  obtain ⟨y115, hy115⟩ : ∃ y_ : List Int, y_ = (([0, 7, 56] : List Int)) := ⟨_, rfl⟩
  replace H : ((mooring_Spacing.f k y115).bind fun bt118 => (if (wrap64 (t113 + bt118.2)) = 0 then (if (t111 == 2000 && (t112 == 2936)) = true then (some (bt118.1 == 3)) else (some false)) else (some false))) = some r := by first | (rw [hy115]; with_reducible exact H) | (have H2_ := (Option.bind_some _ _).symm.trans H; rw [hy115]; with_reducible exact H2_) | (have H2_ := (Option.bind_some _ _).symm.trans H; with_reducible exact H2_) | with_reducible exact H | (rw [hy115]; exact H) | exact H
  have Ny115 := Aside0.mk hy115
  clear hy115
  replace H := Option.bind_eq_some_iff.mp H
  obtain ⟨⟨t118, t119⟩, A30, H⟩ := H
  replace H : (if (wrap64 (t113 + t119)) = 0 then (if (t111 == 2000 && (t112 == 2936)) = true then (some (t118 == 3)) else (some false)) else (some false)) = some r := H
  have A3 := Aside0.mk A30
  clear A30
  by_cases c4 : (wrap64 (t113 + t119)) = 0
  · rw [if_pos c4] at H
    have c4b0 : ((wrap64 (t113 + t119)) == 0) = true := beq_iff_eq.mpr c4
    have c4b1 : ((wrap64 (t113 + t119)) != 0) = false := bne_eq_false_iff_eq.mpr c4
    clear c4
    by_cases c5 : (t111 == 2000 && (t112 == 2936)) = true
    · rw [if_pos c5] at H
      have c5b0 : (t111 == 2000 && (t112 == 2936)) = true := c5
      (try (have c5b1 : decide (t111 = 2000 && (t112 == 2936)) = true := by simpa using c5))
      (try (have c5b2 : (t111 == 2000 && (t112 == 2936)) = true := by simpa using c5))
      clear c5
      obtain rfl := Option.some.inj H
      go_enter Try.func14, Try.ntmps14
      go_wp2_with (first | ((with_reducible refine gate_callee (f := 51) rfl ?_); refine goesL_ (some 8) rfl rfl Try.func51 (by kernel_rfl) rfl #[] rfl (by (try simp only [List.map_toArray, List.map_cons, List.map_nil]); first | done | rfl | (simp only [List.length_drop, List.length_take]; rfl)) ?_; (with_reducible refine (isobathlaw02_Example.calls  t101 t102 t105 t106 t107 _ A1.out).mono ?_); rintro e w6 ⟨v103, v108, rfl, ho0, ho1, hb⟩; refine ⟨_, rfl, ?_⟩; have n0_ := Aside0.mk (Kd.R_lower ho0 (below_size (by repeat (first | (with_reducible first | exact HB.out | apply below_alloc | apply pw_below_drewN | apply below_drew1) | exact HB.out)))); have n1_ := Aside0.mk (Kd.R_lower ho1 (below_size (by repeat (first | (with_reducible first | exact HB.out | apply below_alloc | apply pw_below_drewN | apply below_drew1) | exact HB.out)))); have n2_ := Aside0.mk (below_step (by repeat (first | (with_reducible first | exact HB.out | apply below_alloc | apply pw_below_drewN | apply below_drew1) | exact HB.out)) hb); clear HB; have HO104 := n0_; have HO109 := n1_; have HB := n2_; clear n0_ n1_ n2_; (try clear hb); (try clear hb2); (try clear hk); (try clear hi); (try clear ho0); (try clear ho1)) | ((with_reducible refine gate_dst (N := 1) rfl ?_); refine box_event ?hg (N := 1) ?hd (cs := #[.int .i64 0, .slice none 0 0, .int .i64 0, .int .i64 0]) (t := 37) ?hr ?_; (case hd => rfl); (case hg => rfl); (case hr => first | (go_simp; done) | (go_simp; rfl)); intro gb110 hg w7 hbox hb; have n0_ := Aside0.mk (Kd.R_below (by (with_reducible repeat (first | apply Kd.R_alloc | apply Kd.R_drewN | apply Kd.R_drew)); exact HO104.out) hb); have n1_ := Aside0.mk (Kd.R_below (by (with_reducible repeat (first | apply Kd.R_alloc | apply Kd.R_drewN | apply Kd.R_drew)); exact HO109.out) hb); have n2_ := Aside0.mk (below_step (by repeat (first | (with_reducible first | exact HB.out | apply below_alloc | apply pw_below_drewN | apply below_drew1) | exact HB.out)) hb); have n3_ := Aside0.mk (hbox); have n4_ := Aside0.mk ((by rw [hg]; exact (below_size (by repeat (first | (with_reducible first | exact HB.out | apply below_alloc | apply pw_below_drewN | apply below_drew1) | exact HB.out))) : w.heap.size ≤ gb110)); have n5_ := Aside0.mk ((by rw [hg]; exact (below_size (by repeat (first | (with_reducible first | exact HB.out | apply below_alloc | apply pw_below_drewN | apply below_drew1) | exact HB.out))) : w.heap.size ≤ gb110)); clear HO104; clear HO109; clear HB; have HO104 := n0_; have HO109 := n1_; have HB := n2_; have BK110 := n3_; have GW110 := n4_; have GE110 := n5_; clear n0_ n1_ n2_ n3_ n4_ n5_; clear hb hbox hg; have hcz8_0 : w7.cell? ⟨gb110, 0, none⟩ = some (.int .i64 0) := (blk_cell BK110.out 0).trans rfl; have hcz8_1 : w7.cell? ⟨gb110, 1, none⟩ = some (.slice none 0 0) := (blk_cell BK110.out 1).trans rfl; have hcz8_2 : w7.cell? ⟨gb110, 2, none⟩ = some (.int .i64 0) := (blk_cell BK110.out 2).trans rfl; have hcz8_3 : w7.cell? ⟨gb110, 3, none⟩ = some (.int .i64 0) := (blk_cell BK110.out 3).trans rfl; have hfz8_0 := blk_frozen BK110.out 0; have hfz8_1 := blk_frozen BK110.out 1; have hfz8_2 := blk_frozen BK110.out 2; have hfz8_3 := blk_frozen BK110.out 3; obtain ⟨Ao9, co9, eo9⟩ := Kd.R_slice HO104.out; subst eo9; obtain ⟨Ao10, co10, eo10⟩ := Kd.R_slice HO109.out; subst eo10) | ((with_reducible refine gate_callee (f := 32) rfl ?_); refine goesL_ (some 14) rfl rfl Try.func32 (by kernel_rfl) rfl #[.agg #[.int .i64 t101, .slice Ao9 t102.length co9, .int .i64 t105, .int .i64 t106], .slice Ao10 t107.length co10, .bool false] rfl (by (try simp only [List.map_toArray, List.map_cons, List.map_nil]); first | done | rfl | (simp only [List.length_drop, List.length_take]; rfl)) ?_; (with_reducible refine (mooring_Top.calls t101 _ _ t102 t105 t106 _ _ t107 false t111 t112 t113 _ ?side1 ?side2 ?side3 ?side4 A2.out).mono ?_); (case side1 => refine (Kd.R_reads' (e := 46) (base := w.heap.size) (ok := fun k_ => True) (n := t102.length) (c := co9) ?_).2.2; exact (by (with_reducible repeat (first | apply Kd.R_alloc | apply Kd.R_drewN | apply Kd.R_drew)); exact (Kd.R_mono (Kd.R_far (p := ⟨gb110, 3, none⟩) (Kd.R_far (p := ⟨gb110, 2, none⟩) (Kd.R_far (p := ⟨gb110, 1, none⟩) (Kd.R_far (p := ⟨gb110, 0, none⟩) (Kd.R_types HO104.out BK110.out (by decide)) (fun _ hk => hk.2) (.int .i64 t101)) (fun _ hk => hk.2) (.slice Ao9 t102.length co9)) (fun _ hk => hk.2) (.int .i64 t105)) (fun _ hk => hk.2) (.int .i64 t106)) (fun _ h_ => h_.1)))); (case side2 => exact (Kd.R_reads' HO104.out).2.1); (case side3 => refine (Kd.R_reads' (e := 57) (base := w.heap.size) (ok := fun k_ => True) (n := t107.length) (c := co10) ?_).2.2; exact (by (with_reducible repeat (first | apply Kd.R_alloc | apply Kd.R_drewN | apply Kd.R_drew)); exact (Kd.R_mono (Kd.R_far (p := ⟨gb110, 3, none⟩) (Kd.R_far (p := ⟨gb110, 2, none⟩) (Kd.R_far (p := ⟨gb110, 1, none⟩) (Kd.R_far (p := ⟨gb110, 0, none⟩) (Kd.R_types HO109.out BK110.out (by decide)) (fun _ hk => hk.2) (.int .i64 t101)) (fun _ hk => hk.2) (.slice Ao9 t102.length co9)) (fun _ hk => hk.2) (.int .i64 t105)) (fun _ hk => hk.2) (.int .i64 t106)) (fun _ h_ => h_.1)))); (case side4 => exact (Kd.R_reads' HO109.out).2.1); rintro e w11 ⟨rfl, hb⟩; refine ⟨_, rfl, ?_⟩; have n0_ := Aside0.mk (Kd.R_below (by (with_reducible repeat (first | apply Kd.R_alloc | apply Kd.R_drewN | apply Kd.R_drew)); exact (Kd.R_mono (Kd.R_far (p := ⟨gb110, 3, none⟩) (Kd.R_far (p := ⟨gb110, 2, none⟩) (Kd.R_far (p := ⟨gb110, 1, none⟩) (Kd.R_far (p := ⟨gb110, 0, none⟩) (Kd.R_types HO104.out BK110.out (by decide)) (fun _ hk => hk.2) (.int .i64 t101)) (fun _ hk => hk.2) (.slice Ao9 t102.length co9)) (fun _ hk => hk.2) (.int .i64 t105)) (fun _ hk => hk.2) (.int .i64 t106)) (fun _ h_ => h_.1))) hb); have n1_ := Aside0.mk (Kd.R_below (by (with_reducible repeat (first | apply Kd.R_alloc | apply Kd.R_drewN | apply Kd.R_drew)); exact (Kd.R_mono (Kd.R_far (p := ⟨gb110, 3, none⟩) (Kd.R_far (p := ⟨gb110, 2, none⟩) (Kd.R_far (p := ⟨gb110, 1, none⟩) (Kd.R_far (p := ⟨gb110, 0, none⟩) (Kd.R_types HO109.out BK110.out (by decide)) (fun _ hk => hk.2) (.int .i64 t101)) (fun _ hk => hk.2) (.slice Ao9 t102.length co9)) (fun _ hk => hk.2) (.int .i64 t105)) (fun _ hk => hk.2) (.int .i64 t106)) (fun _ h_ => h_.1))) hb); have n2_ := Aside0.mk (blk_below (g := gb110) (o := .cells #[.int .i64 t101, .slice Ao9 t102.length co9, .int .i64 t105, .int .i64 t106] 37 (0, 0)) (by (with_reducible repeat (first | refine blk_drewN ?_ _ | refine blk_drew ?_ | refine blk_alloc ?_ _)); refine blk_put (cs := #[.int .i64 t101, .slice Ao9 t102.length co9, .int .i64 t105, .int .i64 0]) ?_ 3 _ rfl; (with_reducible repeat (first | refine blk_drewN ?_ _ | refine blk_drew ?_ | refine blk_alloc ?_ _)); refine blk_put (cs := #[.int .i64 t101, .slice Ao9 t102.length co9, .int .i64 0, .int .i64 0]) ?_ 2 _ rfl; (with_reducible repeat (first | refine blk_drewN ?_ _ | refine blk_drew ?_ | refine blk_alloc ?_ _)); refine blk_put (cs := #[.int .i64 t101, .slice none 0 0, .int .i64 0, .int .i64 0]) ?_ 1 _ rfl; (with_reducible repeat (first | refine blk_drewN ?_ _ | refine blk_drew ?_ | refine blk_alloc ?_ _)); refine blk_put (cs := #[.int .i64 0, .slice none 0 0, .int .i64 0, .int .i64 0]) ?_ 0 _ rfl; (with_reducible repeat (first | refine blk_drewN ?_ _ | refine blk_drew ?_ | refine blk_alloc ?_ _)); exact BK110.out) hb); have n3_ := Aside0.mk (below_step (by repeat (first | (with_reducible first | exact HB.out | apply below_alloc | apply pw_below_drewN | apply below_drew1 | refine below_set ?_ GE110.out) | exact HB.out)) hb); clear HO104; clear HO109; clear BK110; clear HB; have HO104 := n0_; have HO109 := n1_; have BK110 := n2_; have HB := n3_; clear n0_ n1_ n2_ n3_; (try clear hb); (try clear hb2); (try clear hk); (try clear hi)) | ((with_reducible refine gate_dst (N := 3) rfl ?_); refine box_event ?hg (N := 3) ?hd (cs := #[.int .i64 0, .int .i64 0]) (t := 57) ?hr ?_; (case hd => rfl); (case hg => rfl); (case hr => first | (go_simp; done) | (go_simp; rfl)); intro gb114 hg w12 hbox hb; have n0_ := Aside0.mk (Kd.R_below (by (with_reducible repeat (first | apply Kd.R_alloc | apply Kd.R_drewN | apply Kd.R_drew)); exact HO104.out) hb); have n1_ := Aside0.mk (Kd.R_below (Kd.R_elderB (by (with_reducible repeat (first | apply Kd.R_alloc | apply Kd.R_drewN | apply Kd.R_drew)); exact HO109.out) gb114 (Nat.le_of_eq hg.symm)) hb); have n2_ := Aside0.mk (blk_below (g := gb110) (o := .cells #[.int .i64 t101, .slice Ao9 t102.length co9, .int .i64 t105, .int .i64 t106] 37 (0, 0)) (by (with_reducible repeat (first | refine blk_drewN ?_ _ | refine blk_drew ?_ | refine blk_alloc ?_ _)); exact BK110.out) hb); have n3_ := Aside0.mk (below_step (by repeat (first | (with_reducible first | exact HB.out | apply below_alloc | apply pw_below_drewN | apply below_drew1 | refine below_set ?_ GE110.out) | exact HB.out)) hb); have n4_ := Aside0.mk (hbox); have n5_ := Aside0.mk ((by rw [hg]; exact (below_size (by repeat (first | (with_reducible first | exact HB.out | apply below_alloc | apply pw_below_drewN | apply below_drew1 | refine below_set ?_ GE110.out) | exact HB.out))) : w.heap.size ≤ gb114)); have n6_ := Aside0.mk ((by rw [hg]; exact (below_size (by repeat (first | (with_reducible first | exact HB.out | apply below_alloc | apply pw_below_drewN | apply below_drew1 | refine below_set ?_ GE110.out) | exact HB.out))) : w.heap.size ≤ gb114)); have n7_ := Aside0.mk ((by rw [hg]; exact Nat.ne_of_lt (blk_lt (g := gb110) (o := .cells #[.int .i64 t101, .slice Ao9 t102.length co9, .int .i64 t105, .int .i64 t106] 37 (0, 0)) (by (with_reducible repeat (first | refine blk_drewN ?_ _ | refine blk_drew ?_ | refine blk_alloc ?_ _)); exact BK110.out)) : gb110 ≠ gb114)); have n8_ := Aside0.mk ((by rw [hg]; exact Nat.ne_of_gt (blk_lt (g := gb110) (o := .cells #[.int .i64 t101, .slice Ao9 t102.length co9, .int .i64 t105, .int .i64 t106] 37 (0, 0)) (by (with_reducible repeat (first | refine blk_drewN ?_ _ | refine blk_drew ?_ | refine blk_alloc ?_ _)); exact BK110.out)) : gb114 ≠ gb110)); clear HO104; clear HO109; clear BK110; clear HB; have HO104 := n0_; have HO109 := n1_; have BK110 := n2_; have HB := n3_; have BK114 := n4_; have GW114 := n5_; have GE114 := n6_; have NB110_114 := n7_; have NB114_110 := n8_; clear n0_ n1_ n2_ n3_ n4_ n5_ n6_ n7_ n8_; clear hb hbox hg; have hnb13 := NB114_110.out; have hnc13 := NB110_114.out; have hcz14_0 : w12.cell? ⟨gb114, 0, none⟩ = some (.int .i64 0) := (blk_cell BK114.out 0).trans rfl; have hcz14_1 : w12.cell? ⟨gb114, 1, none⟩ = some (.int .i64 0) := (blk_cell BK114.out 1).trans rfl; have hfz14_0 := blk_frozen BK114.out 0; have hfz14_1 := blk_frozen BK114.out 1) | ((with_reducible refine gate_dst (N := 18) rfl ?_); refine Kd.R_lit (Kd.int .i64) _ 3 ?hg (N := 18) ?hd (xs := ([0, 7, 56] : List Int)) (inner := [.int .i64 0, .int .i64 7, .int .i64 56]) (ok := fun _ => True) (okp := fun _ => True) ?hr ?hp (fun _ hk => hk) trivial (Below.refl _ _) (Nat.le_refl _) (by simp) ?_; (case hd => rfl); (case hg => rfl); (case hr => first | (go_simp; done) | (go_simp; rfl)); (case hp => exact (Reps.one (show Kd.M (Kd.int .i64) _ _ _ 0 [.int .i64 0] from rfl) (Reps.one (show Kd.M (Kd.int .i64) _ _ _ 7 [.int .i64 7] from rfl) (Reps.one (show Kd.M (Kd.int .i64) _ _ _ 56 [.int .i64 56] from rfl) (Reps.none _ _))))); intro v116 w15 ho16 hb hg_ hnew_; clear hg_ hnew_; (first | rw [← Ny115.out] at ho16 | (simp only [Int.reduceToNat] at ho16; rw [← Ny115.out] at ho16)); have n0_ := Aside0.mk (Kd.R_below (by (with_reducible repeat (first | apply Kd.R_alloc | apply Kd.R_drewN | apply Kd.R_drew)); exact (Kd.R_mono (Kd.R_far (p := ⟨gb114, 1, none⟩) (Kd.R_far (p := ⟨gb114, 0, none⟩) (Kd.R_types HO104.out BK114.out (by decide)) (fun _ hk => hk.2) (.int .i64 t111)) (fun _ hk => hk.2) (.int .i64 t112)) (fun _ h_ => h_.1))) hb); have n1_ := Aside0.mk (Kd.R_below (by (with_reducible repeat (first | apply Kd.R_alloc | apply Kd.R_drewN | apply Kd.R_drew)); exact (Kd.R_mono (Kd.R_far (p := ⟨gb114, 1, none⟩) (Kd.R_far (p := ⟨gb114, 0, none⟩) (Kd.R_mono HO109.out (fun k_ hk => (⟨hk, hk.2⟩ : _ ∧ k_ ≠ gb114))) (fun _ hk => hk.2) (.int .i64 t111)) (fun _ hk => hk.2) (.int .i64 t112)) (fun _ h_ => h_.1))) hb); have n2_ := Aside0.mk (Kd.R_lower ho16 (below_size (by repeat (first | (with_reducible first | exact HB.out | apply below_alloc | apply pw_below_drewN | apply below_drew1 | refine below_set ?_ GE110.out | refine below_set ?_ GE114.out) | exact HB.out)))); have n3_ := Aside0.mk (blk_below (g := gb110) (o := .cells #[.int .i64 t101, .slice Ao9 t102.length co9, .int .i64 t105, .int .i64 t106] 37 (0, 0)) (by (with_reducible repeat (first | refine blk_drewN ?_ _ | refine blk_drew ?_ | refine blk_alloc ?_ _)); refine blk_far ?_ NB110_114.out _; (with_reducible repeat (first | refine blk_drewN ?_ _ | refine blk_drew ?_ | refine blk_alloc ?_ _)); refine blk_far ?_ NB110_114.out _; (with_reducible repeat (first | refine blk_drewN ?_ _ | refine blk_drew ?_ | refine blk_alloc ?_ _)); exact BK110.out) hb); have n4_ := Aside0.mk (blk_below (g := gb114) (o := .cells #[.int .i64 t111, .int .i64 t112] 57 (0, 0)) (by (with_reducible repeat (first | refine blk_drewN ?_ _ | refine blk_drew ?_ | refine blk_alloc ?_ _)); refine blk_put (cs := #[.int .i64 t111, .int .i64 0]) ?_ 1 _ rfl; (with_reducible repeat (first | refine blk_drewN ?_ _ | refine blk_drew ?_ | refine blk_alloc ?_ _)); refine blk_put (cs := #[.int .i64 0, .int .i64 0]) ?_ 0 _ rfl; (with_reducible repeat (first | refine blk_drewN ?_ _ | refine blk_drew ?_ | refine blk_alloc ?_ _)); exact BK114.out) hb); have n5_ := Aside0.mk (below_step (by repeat (first | (with_reducible first | exact HB.out | apply below_alloc | apply pw_below_drewN | apply below_drew1 | refine below_set ?_ GE110.out | refine below_set ?_ GE114.out) | exact HB.out)) hb); clear HO104; clear HO109; clear BK110; clear BK114; clear HB; have HO104 := n0_; have HO109 := n1_; have HO117 := n2_; have BK110 := n3_; have BK114 := n4_; have HB := n5_; clear n0_ n1_ n2_ n3_ n4_ n5_; clear hb ho16; obtain ⟨Ao17, co17, eo17⟩ := Kd.R_slice HO117.out; subst eo17) | ((with_reducible refine gate_callee (f := 15) rfl ?_); refine goesL_ (some 19) rfl rfl Try.func15 (by kernel_rfl) rfl #[.slice Ao17 y115.length co17] rfl (by (try simp only [List.map_toArray, List.map_cons, List.map_nil]); first | done | rfl | (simp only [List.length_drop, List.length_take]; rfl)) ?_; (with_reducible refine (mooring_Spacing.calls k _ _ y115 t118 t119 _ ?side1 ?side2 A3.out).mono ?_); (case side1 => repeat (first | exact (Kd.R_reads' HO117.out).2.2 | (with_reducible refine Kd.C_alloc ?_ _) | (with_reducible refine Kd.C_drewN ?_ _) | (with_reducible refine Kd.C_drew ?_))); (case side2 => exact (Kd.R_reads' HO117.out).2.1); rintro e w18 ⟨rfl, hb⟩; refine ⟨_, rfl, ?_⟩; have n0_ := Aside0.mk (Kd.R_below (by (with_reducible repeat (first | apply Kd.R_alloc | apply Kd.R_drewN | apply Kd.R_drew)); exact HO104.out) hb); have n1_ := Aside0.mk (Kd.R_below (by (with_reducible repeat (first | apply Kd.R_alloc | apply Kd.R_drewN | apply Kd.R_drew)); exact HO109.out) hb); have n2_ := Aside0.mk (Kd.R_below (by (with_reducible repeat (first | apply Kd.R_alloc | apply Kd.R_drewN | apply Kd.R_drew)); exact HO117.out) hb); have n3_ := Aside0.mk (blk_below (g := gb110) (o := .cells #[.int .i64 t101, .slice Ao9 t102.length co9, .int .i64 t105, .int .i64 t106] 37 (0, 0)) (by (with_reducible repeat (first | refine blk_drewN ?_ _ | refine blk_drew ?_ | refine blk_alloc ?_ _)); exact BK110.out) hb); have n4_ := Aside0.mk (blk_below (g := gb114) (o := .cells #[.int .i64 t111, .int .i64 t112] 57 (0, 0)) (by (with_reducible repeat (first | refine blk_drewN ?_ _ | refine blk_drew ?_ | refine blk_alloc ?_ _)); exact BK114.out) hb); have n5_ := Aside0.mk (below_step (by repeat (first | (with_reducible first | exact HB.out | apply below_alloc | apply pw_below_drewN | apply below_drew1 | refine below_set ?_ GE110.out | refine below_set ?_ GE114.out) | exact HB.out)) hb); clear HO104; clear HO109; clear HO117; clear BK110; clear BK114; clear HB; have HO104 := n0_; have HO109 := n1_; have HO117 := n2_; have BK110 := n3_; have BK114 := n4_; have HB := n5_; clear n0_ n1_ n2_ n3_ n4_ n5_; (try clear hb); (try clear hb2); (try clear hk); (try clear hi); have hcz19_0 : w18.cell? ⟨gb114, 0, none⟩ = some (.int .i64 t111) := (blk_cell BK114.out 0).trans rfl; have hcz19_1 : w18.cell? ⟨gb114, 1, none⟩ = some (.int .i64 t112) := (blk_cell BK114.out 1).trans rfl; have hfz19_0 := blk_frozen BK114.out 0; have hfz19_1 := blk_frozen BK114.out 1))
      go_ret
      exact ⟨by first | rfl | (simp [errW_none, errW_some] <;> rfl) | (simp [*, errW_none, errW_some] <;> rfl), by repeat (first | (with_reducible first | exact HB.out | apply below_alloc | apply pw_below_drewN | apply below_drew1 | refine below_set ?_ GE110.out | refine below_set ?_ GE114.out) | exact HB.out)⟩
    · rw [if_neg c5] at H
      have c5b0 : (t111 == 2000 && (t112 == 2936)) = false := by simpa using c5
      (try (have c5b1 : decide (t111 = 2000 && (t112 == 2936)) = false := by simpa using c5))
      (try (have c5b2 : (t111 == 2000 && (t112 == 2936)) = false := by simpa using c5))
      (try (have c5b3 : ¬ (t111 = 2000 && (t112 == 2936)) := by simpa using c5))
      clear c5
      obtain rfl := Option.some.inj H
      go_enter Try.func14, Try.ntmps14
      go_wp2_with (first | ((with_reducible refine gate_callee (f := 51) rfl ?_); refine goesL_ (some 8) rfl rfl Try.func51 (by kernel_rfl) rfl #[] rfl (by (try simp only [List.map_toArray, List.map_cons, List.map_nil]); first | done | rfl | (simp only [List.length_drop, List.length_take]; rfl)) ?_; (with_reducible refine (isobathlaw02_Example.calls  t101 t102 t105 t106 t107 _ A1.out).mono ?_); rintro e w20 ⟨v103, v108, rfl, ho0, ho1, hb⟩; refine ⟨_, rfl, ?_⟩; have n0_ := Aside0.mk (Kd.R_lower ho0 (below_size (by repeat (first | (with_reducible first | exact HB.out | apply below_alloc | apply pw_below_drewN | apply below_drew1) | exact HB.out)))); have n1_ := Aside0.mk (Kd.R_lower ho1 (below_size (by repeat (first | (with_reducible first | exact HB.out | apply below_alloc | apply pw_below_drewN | apply below_drew1) | exact HB.out)))); have n2_ := Aside0.mk (below_step (by repeat (first | (with_reducible first | exact HB.out | apply below_alloc | apply pw_below_drewN | apply below_drew1) | exact HB.out)) hb); clear HB; have HO104 := n0_; have HO109 := n1_; have HB := n2_; clear n0_ n1_ n2_; (try clear hb); (try clear hb2); (try clear hk); (try clear hi); (try clear ho0); (try clear ho1)) | ((with_reducible refine gate_dst (N := 1) rfl ?_); refine box_event ?hg (N := 1) ?hd (cs := #[.int .i64 0, .slice none 0 0, .int .i64 0, .int .i64 0]) (t := 37) ?hr ?_; (case hd => rfl); (case hg => rfl); (case hr => first | (go_simp; done) | (go_simp; rfl)); intro gb110 hg w21 hbox hb; have n0_ := Aside0.mk (Kd.R_below (by (with_reducible repeat (first | apply Kd.R_alloc | apply Kd.R_drewN | apply Kd.R_drew)); exact HO104.out) hb); have n1_ := Aside0.mk (Kd.R_below (by (with_reducible repeat (first | apply Kd.R_alloc | apply Kd.R_drewN | apply Kd.R_drew)); exact HO109.out) hb); have n2_ := Aside0.mk (below_step (by repeat (first | (with_reducible first | exact HB.out | apply below_alloc | apply pw_below_drewN | apply below_drew1) | exact HB.out)) hb); have n3_ := Aside0.mk (hbox); have n4_ := Aside0.mk ((by rw [hg]; exact (below_size (by repeat (first | (with_reducible first | exact HB.out | apply below_alloc | apply pw_below_drewN | apply below_drew1) | exact HB.out))) : w.heap.size ≤ gb110)); have n5_ := Aside0.mk ((by rw [hg]; exact (below_size (by repeat (first | (with_reducible first | exact HB.out | apply below_alloc | apply pw_below_drewN | apply below_drew1) | exact HB.out))) : w.heap.size ≤ gb110)); clear HO104; clear HO109; clear HB; have HO104 := n0_; have HO109 := n1_; have HB := n2_; have BK110 := n3_; have GW110 := n4_; have GE110 := n5_; clear n0_ n1_ n2_ n3_ n4_ n5_; clear hb hbox hg; have hcz22_0 : w21.cell? ⟨gb110, 0, none⟩ = some (.int .i64 0) := (blk_cell BK110.out 0).trans rfl; have hcz22_1 : w21.cell? ⟨gb110, 1, none⟩ = some (.slice none 0 0) := (blk_cell BK110.out 1).trans rfl; have hcz22_2 : w21.cell? ⟨gb110, 2, none⟩ = some (.int .i64 0) := (blk_cell BK110.out 2).trans rfl; have hcz22_3 : w21.cell? ⟨gb110, 3, none⟩ = some (.int .i64 0) := (blk_cell BK110.out 3).trans rfl; have hfz22_0 := blk_frozen BK110.out 0; have hfz22_1 := blk_frozen BK110.out 1; have hfz22_2 := blk_frozen BK110.out 2; have hfz22_3 := blk_frozen BK110.out 3; obtain ⟨Ao23, co23, eo23⟩ := Kd.R_slice HO104.out; subst eo23; obtain ⟨Ao24, co24, eo24⟩ := Kd.R_slice HO109.out; subst eo24) | ((with_reducible refine gate_callee (f := 32) rfl ?_); refine goesL_ (some 14) rfl rfl Try.func32 (by kernel_rfl) rfl #[.agg #[.int .i64 t101, .slice Ao23 t102.length co23, .int .i64 t105, .int .i64 t106], .slice Ao24 t107.length co24, .bool false] rfl (by (try simp only [List.map_toArray, List.map_cons, List.map_nil]); first | done | rfl | (simp only [List.length_drop, List.length_take]; rfl)) ?_; (with_reducible refine (mooring_Top.calls t101 _ _ t102 t105 t106 _ _ t107 false t111 t112 t113 _ ?side1 ?side2 ?side3 ?side4 A2.out).mono ?_); (case side1 => refine (Kd.R_reads' (e := 46) (base := w.heap.size) (ok := fun k_ => True) (n := t102.length) (c := co23) ?_).2.2; exact (by (with_reducible repeat (first | apply Kd.R_alloc | apply Kd.R_drewN | apply Kd.R_drew)); exact (Kd.R_mono (Kd.R_far (p := ⟨gb110, 3, none⟩) (Kd.R_far (p := ⟨gb110, 2, none⟩) (Kd.R_far (p := ⟨gb110, 1, none⟩) (Kd.R_far (p := ⟨gb110, 0, none⟩) (Kd.R_types HO104.out BK110.out (by decide)) (fun _ hk => hk.2) (.int .i64 t101)) (fun _ hk => hk.2) (.slice Ao23 t102.length co23)) (fun _ hk => hk.2) (.int .i64 t105)) (fun _ hk => hk.2) (.int .i64 t106)) (fun _ h_ => h_.1)))); (case side2 => exact (Kd.R_reads' HO104.out).2.1); (case side3 => refine (Kd.R_reads' (e := 57) (base := w.heap.size) (ok := fun k_ => True) (n := t107.length) (c := co24) ?_).2.2; exact (by (with_reducible repeat (first | apply Kd.R_alloc | apply Kd.R_drewN | apply Kd.R_drew)); exact (Kd.R_mono (Kd.R_far (p := ⟨gb110, 3, none⟩) (Kd.R_far (p := ⟨gb110, 2, none⟩) (Kd.R_far (p := ⟨gb110, 1, none⟩) (Kd.R_far (p := ⟨gb110, 0, none⟩) (Kd.R_types HO109.out BK110.out (by decide)) (fun _ hk => hk.2) (.int .i64 t101)) (fun _ hk => hk.2) (.slice Ao23 t102.length co23)) (fun _ hk => hk.2) (.int .i64 t105)) (fun _ hk => hk.2) (.int .i64 t106)) (fun _ h_ => h_.1)))); (case side4 => exact (Kd.R_reads' HO109.out).2.1); rintro e w25 ⟨rfl, hb⟩; refine ⟨_, rfl, ?_⟩; have n0_ := Aside0.mk (Kd.R_below (by (with_reducible repeat (first | apply Kd.R_alloc | apply Kd.R_drewN | apply Kd.R_drew)); exact (Kd.R_mono (Kd.R_far (p := ⟨gb110, 3, none⟩) (Kd.R_far (p := ⟨gb110, 2, none⟩) (Kd.R_far (p := ⟨gb110, 1, none⟩) (Kd.R_far (p := ⟨gb110, 0, none⟩) (Kd.R_types HO104.out BK110.out (by decide)) (fun _ hk => hk.2) (.int .i64 t101)) (fun _ hk => hk.2) (.slice Ao23 t102.length co23)) (fun _ hk => hk.2) (.int .i64 t105)) (fun _ hk => hk.2) (.int .i64 t106)) (fun _ h_ => h_.1))) hb); have n1_ := Aside0.mk (Kd.R_below (by (with_reducible repeat (first | apply Kd.R_alloc | apply Kd.R_drewN | apply Kd.R_drew)); exact (Kd.R_mono (Kd.R_far (p := ⟨gb110, 3, none⟩) (Kd.R_far (p := ⟨gb110, 2, none⟩) (Kd.R_far (p := ⟨gb110, 1, none⟩) (Kd.R_far (p := ⟨gb110, 0, none⟩) (Kd.R_types HO109.out BK110.out (by decide)) (fun _ hk => hk.2) (.int .i64 t101)) (fun _ hk => hk.2) (.slice Ao23 t102.length co23)) (fun _ hk => hk.2) (.int .i64 t105)) (fun _ hk => hk.2) (.int .i64 t106)) (fun _ h_ => h_.1))) hb); have n2_ := Aside0.mk (blk_below (g := gb110) (o := .cells #[.int .i64 t101, .slice Ao23 t102.length co23, .int .i64 t105, .int .i64 t106] 37 (0, 0)) (by (with_reducible repeat (first | refine blk_drewN ?_ _ | refine blk_drew ?_ | refine blk_alloc ?_ _)); refine blk_put (cs := #[.int .i64 t101, .slice Ao23 t102.length co23, .int .i64 t105, .int .i64 0]) ?_ 3 _ rfl; (with_reducible repeat (first | refine blk_drewN ?_ _ | refine blk_drew ?_ | refine blk_alloc ?_ _)); refine blk_put (cs := #[.int .i64 t101, .slice Ao23 t102.length co23, .int .i64 0, .int .i64 0]) ?_ 2 _ rfl; (with_reducible repeat (first | refine blk_drewN ?_ _ | refine blk_drew ?_ | refine blk_alloc ?_ _)); refine blk_put (cs := #[.int .i64 t101, .slice none 0 0, .int .i64 0, .int .i64 0]) ?_ 1 _ rfl; (with_reducible repeat (first | refine blk_drewN ?_ _ | refine blk_drew ?_ | refine blk_alloc ?_ _)); refine blk_put (cs := #[.int .i64 0, .slice none 0 0, .int .i64 0, .int .i64 0]) ?_ 0 _ rfl; (with_reducible repeat (first | refine blk_drewN ?_ _ | refine blk_drew ?_ | refine blk_alloc ?_ _)); exact BK110.out) hb); have n3_ := Aside0.mk (below_step (by repeat (first | (with_reducible first | exact HB.out | apply below_alloc | apply pw_below_drewN | apply below_drew1 | refine below_set ?_ GE110.out) | exact HB.out)) hb); clear HO104; clear HO109; clear BK110; clear HB; have HO104 := n0_; have HO109 := n1_; have BK110 := n2_; have HB := n3_; clear n0_ n1_ n2_ n3_; (try clear hb); (try clear hb2); (try clear hk); (try clear hi)) | ((with_reducible refine gate_dst (N := 3) rfl ?_); refine box_event ?hg (N := 3) ?hd (cs := #[.int .i64 0, .int .i64 0]) (t := 57) ?hr ?_; (case hd => rfl); (case hg => rfl); (case hr => first | (go_simp; done) | (go_simp; rfl)); intro gb114 hg w26 hbox hb; have n0_ := Aside0.mk (Kd.R_below (by (with_reducible repeat (first | apply Kd.R_alloc | apply Kd.R_drewN | apply Kd.R_drew)); exact HO104.out) hb); have n1_ := Aside0.mk (Kd.R_below (Kd.R_elderB (by (with_reducible repeat (first | apply Kd.R_alloc | apply Kd.R_drewN | apply Kd.R_drew)); exact HO109.out) gb114 (Nat.le_of_eq hg.symm)) hb); have n2_ := Aside0.mk (blk_below (g := gb110) (o := .cells #[.int .i64 t101, .slice Ao23 t102.length co23, .int .i64 t105, .int .i64 t106] 37 (0, 0)) (by (with_reducible repeat (first | refine blk_drewN ?_ _ | refine blk_drew ?_ | refine blk_alloc ?_ _)); exact BK110.out) hb); have n3_ := Aside0.mk (below_step (by repeat (first | (with_reducible first | exact HB.out | apply below_alloc | apply pw_below_drewN | apply below_drew1 | refine below_set ?_ GE110.out) | exact HB.out)) hb); have n4_ := Aside0.mk (hbox); have n5_ := Aside0.mk ((by rw [hg]; exact (below_size (by repeat (first | (with_reducible first | exact HB.out | apply below_alloc | apply pw_below_drewN | apply below_drew1 | refine below_set ?_ GE110.out) | exact HB.out))) : w.heap.size ≤ gb114)); have n6_ := Aside0.mk ((by rw [hg]; exact (below_size (by repeat (first | (with_reducible first | exact HB.out | apply below_alloc | apply pw_below_drewN | apply below_drew1 | refine below_set ?_ GE110.out) | exact HB.out))) : w.heap.size ≤ gb114)); have n7_ := Aside0.mk ((by rw [hg]; exact Nat.ne_of_lt (blk_lt (g := gb110) (o := .cells #[.int .i64 t101, .slice Ao23 t102.length co23, .int .i64 t105, .int .i64 t106] 37 (0, 0)) (by (with_reducible repeat (first | refine blk_drewN ?_ _ | refine blk_drew ?_ | refine blk_alloc ?_ _)); exact BK110.out)) : gb110 ≠ gb114)); have n8_ := Aside0.mk ((by rw [hg]; exact Nat.ne_of_gt (blk_lt (g := gb110) (o := .cells #[.int .i64 t101, .slice Ao23 t102.length co23, .int .i64 t105, .int .i64 t106] 37 (0, 0)) (by (with_reducible repeat (first | refine blk_drewN ?_ _ | refine blk_drew ?_ | refine blk_alloc ?_ _)); exact BK110.out)) : gb114 ≠ gb110)); clear HO104; clear HO109; clear BK110; clear HB; have HO104 := n0_; have HO109 := n1_; have BK110 := n2_; have HB := n3_; have BK114 := n4_; have GW114 := n5_; have GE114 := n6_; have NB110_114 := n7_; have NB114_110 := n8_; clear n0_ n1_ n2_ n3_ n4_ n5_ n6_ n7_ n8_; clear hb hbox hg; have hnb27 := NB114_110.out; have hnc27 := NB110_114.out; have hcz28_0 : w26.cell? ⟨gb114, 0, none⟩ = some (.int .i64 0) := (blk_cell BK114.out 0).trans rfl; have hcz28_1 : w26.cell? ⟨gb114, 1, none⟩ = some (.int .i64 0) := (blk_cell BK114.out 1).trans rfl; have hfz28_0 := blk_frozen BK114.out 0; have hfz28_1 := blk_frozen BK114.out 1) | ((with_reducible refine gate_dst (N := 18) rfl ?_); refine Kd.R_lit (Kd.int .i64) _ 3 ?hg (N := 18) ?hd (xs := ([0, 7, 56] : List Int)) (inner := [.int .i64 0, .int .i64 7, .int .i64 56]) (ok := fun _ => True) (okp := fun _ => True) ?hr ?hp (fun _ hk => hk) trivial (Below.refl _ _) (Nat.le_refl _) (by simp) ?_; (case hd => rfl); (case hg => rfl); (case hr => first | (go_simp; done) | (go_simp; rfl)); (case hp => exact (Reps.one (show Kd.M (Kd.int .i64) _ _ _ 0 [.int .i64 0] from rfl) (Reps.one (show Kd.M (Kd.int .i64) _ _ _ 7 [.int .i64 7] from rfl) (Reps.one (show Kd.M (Kd.int .i64) _ _ _ 56 [.int .i64 56] from rfl) (Reps.none _ _))))); intro v116 w29 ho30 hb hg_ hnew_; clear hg_ hnew_; (first | rw [← Ny115.out] at ho30 | (simp only [Int.reduceToNat] at ho30; rw [← Ny115.out] at ho30)); have n0_ := Aside0.mk (Kd.R_below (by (with_reducible repeat (first | apply Kd.R_alloc | apply Kd.R_drewN | apply Kd.R_drew)); exact (Kd.R_mono (Kd.R_far (p := ⟨gb114, 1, none⟩) (Kd.R_far (p := ⟨gb114, 0, none⟩) (Kd.R_types HO104.out BK114.out (by decide)) (fun _ hk => hk.2) (.int .i64 t111)) (fun _ hk => hk.2) (.int .i64 t112)) (fun _ h_ => h_.1))) hb); have n1_ := Aside0.mk (Kd.R_below (by (with_reducible repeat (first | apply Kd.R_alloc | apply Kd.R_drewN | apply Kd.R_drew)); exact (Kd.R_mono (Kd.R_far (p := ⟨gb114, 1, none⟩) (Kd.R_far (p := ⟨gb114, 0, none⟩) (Kd.R_mono HO109.out (fun k_ hk => (⟨hk, hk.2⟩ : _ ∧ k_ ≠ gb114))) (fun _ hk => hk.2) (.int .i64 t111)) (fun _ hk => hk.2) (.int .i64 t112)) (fun _ h_ => h_.1))) hb); have n2_ := Aside0.mk (Kd.R_lower ho30 (below_size (by repeat (first | (with_reducible first | exact HB.out | apply below_alloc | apply pw_below_drewN | apply below_drew1 | refine below_set ?_ GE110.out | refine below_set ?_ GE114.out) | exact HB.out)))); have n3_ := Aside0.mk (blk_below (g := gb110) (o := .cells #[.int .i64 t101, .slice Ao23 t102.length co23, .int .i64 t105, .int .i64 t106] 37 (0, 0)) (by (with_reducible repeat (first | refine blk_drewN ?_ _ | refine blk_drew ?_ | refine blk_alloc ?_ _)); refine blk_far ?_ NB110_114.out _; (with_reducible repeat (first | refine blk_drewN ?_ _ | refine blk_drew ?_ | refine blk_alloc ?_ _)); refine blk_far ?_ NB110_114.out _; (with_reducible repeat (first | refine blk_drewN ?_ _ | refine blk_drew ?_ | refine blk_alloc ?_ _)); exact BK110.out) hb); have n4_ := Aside0.mk (blk_below (g := gb114) (o := .cells #[.int .i64 t111, .int .i64 t112] 57 (0, 0)) (by (with_reducible repeat (first | refine blk_drewN ?_ _ | refine blk_drew ?_ | refine blk_alloc ?_ _)); refine blk_put (cs := #[.int .i64 t111, .int .i64 0]) ?_ 1 _ rfl; (with_reducible repeat (first | refine blk_drewN ?_ _ | refine blk_drew ?_ | refine blk_alloc ?_ _)); refine blk_put (cs := #[.int .i64 0, .int .i64 0]) ?_ 0 _ rfl; (with_reducible repeat (first | refine blk_drewN ?_ _ | refine blk_drew ?_ | refine blk_alloc ?_ _)); exact BK114.out) hb); have n5_ := Aside0.mk (below_step (by repeat (first | (with_reducible first | exact HB.out | apply below_alloc | apply pw_below_drewN | apply below_drew1 | refine below_set ?_ GE110.out | refine below_set ?_ GE114.out) | exact HB.out)) hb); clear HO104; clear HO109; clear BK110; clear BK114; clear HB; have HO104 := n0_; have HO109 := n1_; have HO117 := n2_; have BK110 := n3_; have BK114 := n4_; have HB := n5_; clear n0_ n1_ n2_ n3_ n4_ n5_; clear hb ho30; obtain ⟨Ao31, co31, eo31⟩ := Kd.R_slice HO117.out; subst eo31) | ((with_reducible refine gate_callee (f := 15) rfl ?_); refine goesL_ (some 19) rfl rfl Try.func15 (by kernel_rfl) rfl #[.slice Ao31 y115.length co31] rfl (by (try simp only [List.map_toArray, List.map_cons, List.map_nil]); first | done | rfl | (simp only [List.length_drop, List.length_take]; rfl)) ?_; (with_reducible refine (mooring_Spacing.calls k _ _ y115 t118 t119 _ ?side1 ?side2 A3.out).mono ?_); (case side1 => repeat (first | exact (Kd.R_reads' HO117.out).2.2 | (with_reducible refine Kd.C_alloc ?_ _) | (with_reducible refine Kd.C_drewN ?_ _) | (with_reducible refine Kd.C_drew ?_))); (case side2 => exact (Kd.R_reads' HO117.out).2.1); rintro e w32 ⟨rfl, hb⟩; refine ⟨_, rfl, ?_⟩; have n0_ := Aside0.mk (Kd.R_below (by (with_reducible repeat (first | apply Kd.R_alloc | apply Kd.R_drewN | apply Kd.R_drew)); exact HO104.out) hb); have n1_ := Aside0.mk (Kd.R_below (by (with_reducible repeat (first | apply Kd.R_alloc | apply Kd.R_drewN | apply Kd.R_drew)); exact HO109.out) hb); have n2_ := Aside0.mk (Kd.R_below (by (with_reducible repeat (first | apply Kd.R_alloc | apply Kd.R_drewN | apply Kd.R_drew)); exact HO117.out) hb); have n3_ := Aside0.mk (blk_below (g := gb110) (o := .cells #[.int .i64 t101, .slice Ao23 t102.length co23, .int .i64 t105, .int .i64 t106] 37 (0, 0)) (by (with_reducible repeat (first | refine blk_drewN ?_ _ | refine blk_drew ?_ | refine blk_alloc ?_ _)); exact BK110.out) hb); have n4_ := Aside0.mk (blk_below (g := gb114) (o := .cells #[.int .i64 t111, .int .i64 t112] 57 (0, 0)) (by (with_reducible repeat (first | refine blk_drewN ?_ _ | refine blk_drew ?_ | refine blk_alloc ?_ _)); exact BK114.out) hb); have n5_ := Aside0.mk (below_step (by repeat (first | (with_reducible first | exact HB.out | apply below_alloc | apply pw_below_drewN | apply below_drew1 | refine below_set ?_ GE110.out | refine below_set ?_ GE114.out) | exact HB.out)) hb); clear HO104; clear HO109; clear HO117; clear BK110; clear BK114; clear HB; have HO104 := n0_; have HO109 := n1_; have HO117 := n2_; have BK110 := n3_; have BK114 := n4_; have HB := n5_; clear n0_ n1_ n2_ n3_ n4_ n5_; (try clear hb); (try clear hb2); (try clear hk); (try clear hi); have hcz33_0 : w32.cell? ⟨gb114, 0, none⟩ = some (.int .i64 t111) := (blk_cell BK114.out 0).trans rfl; have hcz33_1 : w32.cell? ⟨gb114, 1, none⟩ = some (.int .i64 t112) := (blk_cell BK114.out 1).trans rfl; have hfz33_0 := blk_frozen BK114.out 0; have hfz33_1 := blk_frozen BK114.out 1))
      go_ret
      exact ⟨by first | rfl | (simp [errW_none, errW_some] <;> rfl) | (simp [*, errW_none, errW_some] <;> rfl), by repeat (first | (with_reducible first | exact HB.out | apply below_alloc | apply pw_below_drewN | apply below_drew1 | refine below_set ?_ GE110.out | refine below_set ?_ GE114.out) | exact HB.out)⟩
  · rw [if_neg c4] at H
    have c4b0 : ((wrap64 (t113 + t119)) == 0) = false := beq_eq_false_iff_ne.mpr c4
    have c4b1 : ((wrap64 (t113 + t119)) != 0) = true := bne_iff_ne.mpr c4
    obtain rfl := Option.some.inj H
    go_enter Try.func14, Try.ntmps14
    go_wp2_with (first | ((with_reducible refine gate_callee (f := 51) rfl ?_); refine goesL_ (some 8) rfl rfl Try.func51 (by kernel_rfl) rfl #[] rfl (by (try simp only [List.map_toArray, List.map_cons, List.map_nil]); first | done | rfl | (simp only [List.length_drop, List.length_take]; rfl)) ?_; (with_reducible refine (isobathlaw02_Example.calls  t101 t102 t105 t106 t107 _ A1.out).mono ?_); rintro e w34 ⟨v103, v108, rfl, ho0, ho1, hb⟩; refine ⟨_, rfl, ?_⟩; have n0_ := Aside0.mk (Kd.R_lower ho0 (below_size (by repeat (first | (with_reducible first | exact HB.out | apply below_alloc | apply pw_below_drewN | apply below_drew1) | exact HB.out)))); have n1_ := Aside0.mk (Kd.R_lower ho1 (below_size (by repeat (first | (with_reducible first | exact HB.out | apply below_alloc | apply pw_below_drewN | apply below_drew1) | exact HB.out)))); have n2_ := Aside0.mk (below_step (by repeat (first | (with_reducible first | exact HB.out | apply below_alloc | apply pw_below_drewN | apply below_drew1) | exact HB.out)) hb); clear HB; have HO104 := n0_; have HO109 := n1_; have HB := n2_; clear n0_ n1_ n2_; (try clear hb); (try clear hb2); (try clear hk); (try clear hi); (try clear ho0); (try clear ho1)) | ((with_reducible refine gate_dst (N := 1) rfl ?_); refine box_event ?hg (N := 1) ?hd (cs := #[.int .i64 0, .slice none 0 0, .int .i64 0, .int .i64 0]) (t := 37) ?hr ?_; (case hd => rfl); (case hg => rfl); (case hr => first | (go_simp; done) | (go_simp; rfl)); intro gb110 hg w35 hbox hb; have n0_ := Aside0.mk (Kd.R_below (by (with_reducible repeat (first | apply Kd.R_alloc | apply Kd.R_drewN | apply Kd.R_drew)); exact HO104.out) hb); have n1_ := Aside0.mk (Kd.R_below (by (with_reducible repeat (first | apply Kd.R_alloc | apply Kd.R_drewN | apply Kd.R_drew)); exact HO109.out) hb); have n2_ := Aside0.mk (below_step (by repeat (first | (with_reducible first | exact HB.out | apply below_alloc | apply pw_below_drewN | apply below_drew1) | exact HB.out)) hb); have n3_ := Aside0.mk (hbox); have n4_ := Aside0.mk ((by rw [hg]; exact (below_size (by repeat (first | (with_reducible first | exact HB.out | apply below_alloc | apply pw_below_drewN | apply below_drew1) | exact HB.out))) : w.heap.size ≤ gb110)); have n5_ := Aside0.mk ((by rw [hg]; exact (below_size (by repeat (first | (with_reducible first | exact HB.out | apply below_alloc | apply pw_below_drewN | apply below_drew1) | exact HB.out))) : w.heap.size ≤ gb110)); clear HO104; clear HO109; clear HB; have HO104 := n0_; have HO109 := n1_; have HB := n2_; have BK110 := n3_; have GW110 := n4_; have GE110 := n5_; clear n0_ n1_ n2_ n3_ n4_ n5_; clear hb hbox hg; have hcz36_0 : w35.cell? ⟨gb110, 0, none⟩ = some (.int .i64 0) := (blk_cell BK110.out 0).trans rfl; have hcz36_1 : w35.cell? ⟨gb110, 1, none⟩ = some (.slice none 0 0) := (blk_cell BK110.out 1).trans rfl; have hcz36_2 : w35.cell? ⟨gb110, 2, none⟩ = some (.int .i64 0) := (blk_cell BK110.out 2).trans rfl; have hcz36_3 : w35.cell? ⟨gb110, 3, none⟩ = some (.int .i64 0) := (blk_cell BK110.out 3).trans rfl; have hfz36_0 := blk_frozen BK110.out 0; have hfz36_1 := blk_frozen BK110.out 1; have hfz36_2 := blk_frozen BK110.out 2; have hfz36_3 := blk_frozen BK110.out 3; obtain ⟨Ao37, co37, eo37⟩ := Kd.R_slice HO104.out; subst eo37; obtain ⟨Ao38, co38, eo38⟩ := Kd.R_slice HO109.out; subst eo38) | ((with_reducible refine gate_callee (f := 32) rfl ?_); refine goesL_ (some 14) rfl rfl Try.func32 (by kernel_rfl) rfl #[.agg #[.int .i64 t101, .slice Ao37 t102.length co37, .int .i64 t105, .int .i64 t106], .slice Ao38 t107.length co38, .bool false] rfl (by (try simp only [List.map_toArray, List.map_cons, List.map_nil]); first | done | rfl | (simp only [List.length_drop, List.length_take]; rfl)) ?_; (with_reducible refine (mooring_Top.calls t101 _ _ t102 t105 t106 _ _ t107 false t111 t112 t113 _ ?side1 ?side2 ?side3 ?side4 A2.out).mono ?_); (case side1 => refine (Kd.R_reads' (e := 46) (base := w.heap.size) (ok := fun k_ => True) (n := t102.length) (c := co37) ?_).2.2; exact (by (with_reducible repeat (first | apply Kd.R_alloc | apply Kd.R_drewN | apply Kd.R_drew)); exact (Kd.R_mono (Kd.R_far (p := ⟨gb110, 3, none⟩) (Kd.R_far (p := ⟨gb110, 2, none⟩) (Kd.R_far (p := ⟨gb110, 1, none⟩) (Kd.R_far (p := ⟨gb110, 0, none⟩) (Kd.R_types HO104.out BK110.out (by decide)) (fun _ hk => hk.2) (.int .i64 t101)) (fun _ hk => hk.2) (.slice Ao37 t102.length co37)) (fun _ hk => hk.2) (.int .i64 t105)) (fun _ hk => hk.2) (.int .i64 t106)) (fun _ h_ => h_.1)))); (case side2 => exact (Kd.R_reads' HO104.out).2.1); (case side3 => refine (Kd.R_reads' (e := 57) (base := w.heap.size) (ok := fun k_ => True) (n := t107.length) (c := co38) ?_).2.2; exact (by (with_reducible repeat (first | apply Kd.R_alloc | apply Kd.R_drewN | apply Kd.R_drew)); exact (Kd.R_mono (Kd.R_far (p := ⟨gb110, 3, none⟩) (Kd.R_far (p := ⟨gb110, 2, none⟩) (Kd.R_far (p := ⟨gb110, 1, none⟩) (Kd.R_far (p := ⟨gb110, 0, none⟩) (Kd.R_types HO109.out BK110.out (by decide)) (fun _ hk => hk.2) (.int .i64 t101)) (fun _ hk => hk.2) (.slice Ao37 t102.length co37)) (fun _ hk => hk.2) (.int .i64 t105)) (fun _ hk => hk.2) (.int .i64 t106)) (fun _ h_ => h_.1)))); (case side4 => exact (Kd.R_reads' HO109.out).2.1); rintro e w39 ⟨rfl, hb⟩; refine ⟨_, rfl, ?_⟩; have n0_ := Aside0.mk (Kd.R_below (by (with_reducible repeat (first | apply Kd.R_alloc | apply Kd.R_drewN | apply Kd.R_drew)); exact (Kd.R_mono (Kd.R_far (p := ⟨gb110, 3, none⟩) (Kd.R_far (p := ⟨gb110, 2, none⟩) (Kd.R_far (p := ⟨gb110, 1, none⟩) (Kd.R_far (p := ⟨gb110, 0, none⟩) (Kd.R_types HO104.out BK110.out (by decide)) (fun _ hk => hk.2) (.int .i64 t101)) (fun _ hk => hk.2) (.slice Ao37 t102.length co37)) (fun _ hk => hk.2) (.int .i64 t105)) (fun _ hk => hk.2) (.int .i64 t106)) (fun _ h_ => h_.1))) hb); have n1_ := Aside0.mk (Kd.R_below (by (with_reducible repeat (first | apply Kd.R_alloc | apply Kd.R_drewN | apply Kd.R_drew)); exact (Kd.R_mono (Kd.R_far (p := ⟨gb110, 3, none⟩) (Kd.R_far (p := ⟨gb110, 2, none⟩) (Kd.R_far (p := ⟨gb110, 1, none⟩) (Kd.R_far (p := ⟨gb110, 0, none⟩) (Kd.R_types HO109.out BK110.out (by decide)) (fun _ hk => hk.2) (.int .i64 t101)) (fun _ hk => hk.2) (.slice Ao37 t102.length co37)) (fun _ hk => hk.2) (.int .i64 t105)) (fun _ hk => hk.2) (.int .i64 t106)) (fun _ h_ => h_.1))) hb); have n2_ := Aside0.mk (blk_below (g := gb110) (o := .cells #[.int .i64 t101, .slice Ao37 t102.length co37, .int .i64 t105, .int .i64 t106] 37 (0, 0)) (by (with_reducible repeat (first | refine blk_drewN ?_ _ | refine blk_drew ?_ | refine blk_alloc ?_ _)); refine blk_put (cs := #[.int .i64 t101, .slice Ao37 t102.length co37, .int .i64 t105, .int .i64 0]) ?_ 3 _ rfl; (with_reducible repeat (first | refine blk_drewN ?_ _ | refine blk_drew ?_ | refine blk_alloc ?_ _)); refine blk_put (cs := #[.int .i64 t101, .slice Ao37 t102.length co37, .int .i64 0, .int .i64 0]) ?_ 2 _ rfl; (with_reducible repeat (first | refine blk_drewN ?_ _ | refine blk_drew ?_ | refine blk_alloc ?_ _)); refine blk_put (cs := #[.int .i64 t101, .slice none 0 0, .int .i64 0, .int .i64 0]) ?_ 1 _ rfl; (with_reducible repeat (first | refine blk_drewN ?_ _ | refine blk_drew ?_ | refine blk_alloc ?_ _)); refine blk_put (cs := #[.int .i64 0, .slice none 0 0, .int .i64 0, .int .i64 0]) ?_ 0 _ rfl; (with_reducible repeat (first | refine blk_drewN ?_ _ | refine blk_drew ?_ | refine blk_alloc ?_ _)); exact BK110.out) hb); have n3_ := Aside0.mk (below_step (by repeat (first | (with_reducible first | exact HB.out | apply below_alloc | apply pw_below_drewN | apply below_drew1 | refine below_set ?_ GE110.out) | exact HB.out)) hb); clear HO104; clear HO109; clear BK110; clear HB; have HO104 := n0_; have HO109 := n1_; have BK110 := n2_; have HB := n3_; clear n0_ n1_ n2_ n3_; (try clear hb); (try clear hb2); (try clear hk); (try clear hi)) | ((with_reducible refine gate_dst (N := 3) rfl ?_); refine box_event ?hg (N := 3) ?hd (cs := #[.int .i64 0, .int .i64 0]) (t := 57) ?hr ?_; (case hd => rfl); (case hg => rfl); (case hr => first | (go_simp; done) | (go_simp; rfl)); intro gb114 hg w40 hbox hb; have n0_ := Aside0.mk (Kd.R_below (by (with_reducible repeat (first | apply Kd.R_alloc | apply Kd.R_drewN | apply Kd.R_drew)); exact HO104.out) hb); have n1_ := Aside0.mk (Kd.R_below (Kd.R_elderB (by (with_reducible repeat (first | apply Kd.R_alloc | apply Kd.R_drewN | apply Kd.R_drew)); exact HO109.out) gb114 (Nat.le_of_eq hg.symm)) hb); have n2_ := Aside0.mk (blk_below (g := gb110) (o := .cells #[.int .i64 t101, .slice Ao37 t102.length co37, .int .i64 t105, .int .i64 t106] 37 (0, 0)) (by (with_reducible repeat (first | refine blk_drewN ?_ _ | refine blk_drew ?_ | refine blk_alloc ?_ _)); exact BK110.out) hb); have n3_ := Aside0.mk (below_step (by repeat (first | (with_reducible first | exact HB.out | apply below_alloc | apply pw_below_drewN | apply below_drew1 | refine below_set ?_ GE110.out) | exact HB.out)) hb); have n4_ := Aside0.mk (hbox); have n5_ := Aside0.mk ((by rw [hg]; exact (below_size (by repeat (first | (with_reducible first | exact HB.out | apply below_alloc | apply pw_below_drewN | apply below_drew1 | refine below_set ?_ GE110.out) | exact HB.out))) : w.heap.size ≤ gb114)); have n6_ := Aside0.mk ((by rw [hg]; exact (below_size (by repeat (first | (with_reducible first | exact HB.out | apply below_alloc | apply pw_below_drewN | apply below_drew1 | refine below_set ?_ GE110.out) | exact HB.out))) : w.heap.size ≤ gb114)); have n7_ := Aside0.mk ((by rw [hg]; exact Nat.ne_of_lt (blk_lt (g := gb110) (o := .cells #[.int .i64 t101, .slice Ao37 t102.length co37, .int .i64 t105, .int .i64 t106] 37 (0, 0)) (by (with_reducible repeat (first | refine blk_drewN ?_ _ | refine blk_drew ?_ | refine blk_alloc ?_ _)); exact BK110.out)) : gb110 ≠ gb114)); have n8_ := Aside0.mk ((by rw [hg]; exact Nat.ne_of_gt (blk_lt (g := gb110) (o := .cells #[.int .i64 t101, .slice Ao37 t102.length co37, .int .i64 t105, .int .i64 t106] 37 (0, 0)) (by (with_reducible repeat (first | refine blk_drewN ?_ _ | refine blk_drew ?_ | refine blk_alloc ?_ _)); exact BK110.out)) : gb114 ≠ gb110)); clear HO104; clear HO109; clear BK110; clear HB; have HO104 := n0_; have HO109 := n1_; have BK110 := n2_; have HB := n3_; have BK114 := n4_; have GW114 := n5_; have GE114 := n6_; have NB110_114 := n7_; have NB114_110 := n8_; clear n0_ n1_ n2_ n3_ n4_ n5_ n6_ n7_ n8_; clear hb hbox hg; have hnb41 := NB114_110.out; have hnc41 := NB110_114.out; have hcz42_0 : w40.cell? ⟨gb114, 0, none⟩ = some (.int .i64 0) := (blk_cell BK114.out 0).trans rfl; have hcz42_1 : w40.cell? ⟨gb114, 1, none⟩ = some (.int .i64 0) := (blk_cell BK114.out 1).trans rfl; have hfz42_0 := blk_frozen BK114.out 0; have hfz42_1 := blk_frozen BK114.out 1) | ((with_reducible refine gate_dst (N := 18) rfl ?_); refine Kd.R_lit (Kd.int .i64) _ 3 ?hg (N := 18) ?hd (xs := ([0, 7, 56] : List Int)) (inner := [.int .i64 0, .int .i64 7, .int .i64 56]) (ok := fun _ => True) (okp := fun _ => True) ?hr ?hp (fun _ hk => hk) trivial (Below.refl _ _) (Nat.le_refl _) (by simp) ?_; (case hd => rfl); (case hg => rfl); (case hr => first | (go_simp; done) | (go_simp; rfl)); (case hp => exact (Reps.one (show Kd.M (Kd.int .i64) _ _ _ 0 [.int .i64 0] from rfl) (Reps.one (show Kd.M (Kd.int .i64) _ _ _ 7 [.int .i64 7] from rfl) (Reps.one (show Kd.M (Kd.int .i64) _ _ _ 56 [.int .i64 56] from rfl) (Reps.none _ _))))); intro v116 w43 ho44 hb hg_ hnew_; clear hg_ hnew_; (first | rw [← Ny115.out] at ho44 | (simp only [Int.reduceToNat] at ho44; rw [← Ny115.out] at ho44)); have n0_ := Aside0.mk (Kd.R_below (by (with_reducible repeat (first | apply Kd.R_alloc | apply Kd.R_drewN | apply Kd.R_drew)); exact (Kd.R_mono (Kd.R_far (p := ⟨gb114, 1, none⟩) (Kd.R_far (p := ⟨gb114, 0, none⟩) (Kd.R_types HO104.out BK114.out (by decide)) (fun _ hk => hk.2) (.int .i64 t111)) (fun _ hk => hk.2) (.int .i64 t112)) (fun _ h_ => h_.1))) hb); have n1_ := Aside0.mk (Kd.R_below (by (with_reducible repeat (first | apply Kd.R_alloc | apply Kd.R_drewN | apply Kd.R_drew)); exact (Kd.R_mono (Kd.R_far (p := ⟨gb114, 1, none⟩) (Kd.R_far (p := ⟨gb114, 0, none⟩) (Kd.R_mono HO109.out (fun k_ hk => (⟨hk, hk.2⟩ : _ ∧ k_ ≠ gb114))) (fun _ hk => hk.2) (.int .i64 t111)) (fun _ hk => hk.2) (.int .i64 t112)) (fun _ h_ => h_.1))) hb); have n2_ := Aside0.mk (Kd.R_lower ho44 (below_size (by repeat (first | (with_reducible first | exact HB.out | apply below_alloc | apply pw_below_drewN | apply below_drew1 | refine below_set ?_ GE110.out | refine below_set ?_ GE114.out) | exact HB.out)))); have n3_ := Aside0.mk (blk_below (g := gb110) (o := .cells #[.int .i64 t101, .slice Ao37 t102.length co37, .int .i64 t105, .int .i64 t106] 37 (0, 0)) (by (with_reducible repeat (first | refine blk_drewN ?_ _ | refine blk_drew ?_ | refine blk_alloc ?_ _)); refine blk_far ?_ NB110_114.out _; (with_reducible repeat (first | refine blk_drewN ?_ _ | refine blk_drew ?_ | refine blk_alloc ?_ _)); refine blk_far ?_ NB110_114.out _; (with_reducible repeat (first | refine blk_drewN ?_ _ | refine blk_drew ?_ | refine blk_alloc ?_ _)); exact BK110.out) hb); have n4_ := Aside0.mk (blk_below (g := gb114) (o := .cells #[.int .i64 t111, .int .i64 t112] 57 (0, 0)) (by (with_reducible repeat (first | refine blk_drewN ?_ _ | refine blk_drew ?_ | refine blk_alloc ?_ _)); refine blk_put (cs := #[.int .i64 t111, .int .i64 0]) ?_ 1 _ rfl; (with_reducible repeat (first | refine blk_drewN ?_ _ | refine blk_drew ?_ | refine blk_alloc ?_ _)); refine blk_put (cs := #[.int .i64 0, .int .i64 0]) ?_ 0 _ rfl; (with_reducible repeat (first | refine blk_drewN ?_ _ | refine blk_drew ?_ | refine blk_alloc ?_ _)); exact BK114.out) hb); have n5_ := Aside0.mk (below_step (by repeat (first | (with_reducible first | exact HB.out | apply below_alloc | apply pw_below_drewN | apply below_drew1 | refine below_set ?_ GE110.out | refine below_set ?_ GE114.out) | exact HB.out)) hb); clear HO104; clear HO109; clear BK110; clear BK114; clear HB; have HO104 := n0_; have HO109 := n1_; have HO117 := n2_; have BK110 := n3_; have BK114 := n4_; have HB := n5_; clear n0_ n1_ n2_ n3_ n4_ n5_; clear hb ho44; obtain ⟨Ao45, co45, eo45⟩ := Kd.R_slice HO117.out; subst eo45) | ((with_reducible refine gate_callee (f := 15) rfl ?_); refine goesL_ (some 19) rfl rfl Try.func15 (by kernel_rfl) rfl #[.slice Ao45 y115.length co45] rfl (by (try simp only [List.map_toArray, List.map_cons, List.map_nil]); first | done | rfl | (simp only [List.length_drop, List.length_take]; rfl)) ?_; (with_reducible refine (mooring_Spacing.calls k _ _ y115 t118 t119 _ ?side1 ?side2 A3.out).mono ?_); (case side1 => repeat (first | exact (Kd.R_reads' HO117.out).2.2 | (with_reducible refine Kd.C_alloc ?_ _) | (with_reducible refine Kd.C_drewN ?_ _) | (with_reducible refine Kd.C_drew ?_))); (case side2 => exact (Kd.R_reads' HO117.out).2.1); rintro e w46 ⟨rfl, hb⟩; refine ⟨_, rfl, ?_⟩; have n0_ := Aside0.mk (Kd.R_below (by (with_reducible repeat (first | apply Kd.R_alloc | apply Kd.R_drewN | apply Kd.R_drew)); exact HO104.out) hb); have n1_ := Aside0.mk (Kd.R_below (by (with_reducible repeat (first | apply Kd.R_alloc | apply Kd.R_drewN | apply Kd.R_drew)); exact HO109.out) hb); have n2_ := Aside0.mk (Kd.R_below (by (with_reducible repeat (first | apply Kd.R_alloc | apply Kd.R_drewN | apply Kd.R_drew)); exact HO117.out) hb); have n3_ := Aside0.mk (blk_below (g := gb110) (o := .cells #[.int .i64 t101, .slice Ao37 t102.length co37, .int .i64 t105, .int .i64 t106] 37 (0, 0)) (by (with_reducible repeat (first | refine blk_drewN ?_ _ | refine blk_drew ?_ | refine blk_alloc ?_ _)); exact BK110.out) hb); have n4_ := Aside0.mk (blk_below (g := gb114) (o := .cells #[.int .i64 t111, .int .i64 t112] 57 (0, 0)) (by (with_reducible repeat (first | refine blk_drewN ?_ _ | refine blk_drew ?_ | refine blk_alloc ?_ _)); exact BK114.out) hb); have n5_ := Aside0.mk (below_step (by repeat (first | (with_reducible first | exact HB.out | apply below_alloc | apply pw_below_drewN | apply below_drew1 | refine below_set ?_ GE110.out | refine below_set ?_ GE114.out) | exact HB.out)) hb); clear HO104; clear HO109; clear HO117; clear BK110; clear BK114; clear HB; have HO104 := n0_; have HO109 := n1_; have HO117 := n2_; have BK110 := n3_; have BK114 := n4_; have HB := n5_; clear n0_ n1_ n2_ n3_ n4_ n5_; (try clear hb); (try clear hb2); (try clear hk); (try clear hi)))
    go_ret
    exact ⟨by first | rfl | (simp [errW_none, errW_some] <;> rfl) | (simp [*, errW_none, errW_some] <;> rfl), by repeat (first | (with_reducible first | exact HB.out | apply below_alloc | apply pw_below_drewN | apply below_drew1 | refine below_set ?_ GE110.out | refine below_set ?_ GE114.out) | exact HB.out)⟩

end Go.Proofs.Ytebcmhajbjkojaa.P

namespace Go.Proofs.Ytebcmhajbjkojaa.P
open Go.RowKit Go.Proofs.YtebcmhajbjkojaaW.PrintWords Go.Proofs.YtebcmhajbjkojaaW.PrintLast Go.Proofs.YtebcmhajbjkojaaW.PrintMore
attribute [local go_sem] max2_int min2_int max_two min_two max_three min_three max_four min_four   -- for this text's walks alone
set_option linter.unusedVariables false
set_option linter.unusedSimpArgs false

/-! ### isobathref02_Apart: function 20 -/
def isobathref02_Apart.l0 : Nat → Int → Int → Int → Int → Option (Int)
  | 0, _, _, _, _ => none
  | k + 1, x0, x1, x5, x6 => if x6 < 16 then (if (Int.tmod x0 2) = (Int.tmod x1 2) then (isobathref02_Apart.l0 k (wrap64 (Int.tdiv x0 2)) (wrap64 (Int.tdiv x1 2)) x5 (wrap64 (x6 + 1))) else (isobathref02_Apart.l0 k (wrap64 (Int.tdiv x0 2)) (wrap64 (Int.tdiv x1 2)) (wrap64 (x5 + 1)) (wrap64 (x6 + 1)))) else (some x5)
def isobathref02_Apart.f (k : Nat) (a0 : Int) (a1 : Int) : Option (Int) := isobathref02_Apart.l0 k a0 a1 0 0
theorem isobathref02_Apart.mono_l : ∀ k, (∀ y0 y1 y2 y3, LeO (isobathref02_Apart.l0 k y0 y1 y2 y3) (isobathref02_Apart.l0 (k + 1) y0 y1 y2 y3))
  | 0 => fun _ _ _ _ r h => by simp [isobathref02_Apart.l0] at h
  | k + 1 => by
    have ih0 := isobathref02_Apart.mono_l k
    · intro y0 y1 y2 y3
      unfold isobathref02_Apart.l0
      repeat' first
      | (with_reducible exact ih0 _ _ _ _)
      | (with_reducible exact LeO.refl _)
      | (with_reducible exact LeO.none _)
      | (with_reducible refine LeO.ite ?_ ?_)
      | (with_reducible refine LeO.bind ?_ (fun _ => ?_))
      | exact ih0 _ _ _ _
      | exact LeO.none _
      | refine LeO.ite ?_ ?_
      | refine LeO.bind ?_ (fun _ => ?_)
theorem isobathref02_Apart.mono : ∀ a0 a1 k, LeO (isobathref02_Apart.f k a0 a1) (isobathref02_Apart.f (k + 1) a0 a1) := by
  intro a0 a1 k
  have ih0 := isobathref02_Apart.mono_l k
  unfold isobathref02_Apart.f
  repeat' first
      | (with_reducible exact ih0 _ _ _ _)
      | (with_reducible exact LeO.refl _)
      | (with_reducible exact LeO.none _)
      | (with_reducible refine LeO.ite ?_ ?_)
      | (with_reducible refine LeO.bind ?_ (fun _ => ?_))
      | exact ih0 _ _ _ _
      | exact LeO.none _
      | refine LeO.ite ?_ ?_
      | refine LeO.bind ?_ (fun _ => ?_)
set_option maxHeartbeats 8000000 in
set_option maxRecDepth 100000 in
theorem isobathref02_Apart.calls (k : Nat) (a0 : Int) (a1 : Int) (r : Int) (w : World) (h : isobathref02_Apart.f k a0 a1 = some r) :
    Calls Try.prog 20 #[.int .i64 a0, .int .i64 a1] w fun e w' => e = .returned (.int .i64 r) ∧ Drawn0 w w' := by
  have H : (isobathref02_Apart.l0 k a0 a1 0 0) = some r := h
  clear h
  have H' := Aside0.mk H
  clear H
  go_enter Try.func20, Try.ntmps20
  go_wp2
  go_loopg [0, 1, 5, 6] k (fun kq v0 v1 v5 v6 w' => ∃ (x0_1 : Int) (x1_1 : Int) (x5_1 : Int) (x6_1 : Int), v0 = .int .i64 x0_1 ∧ v1 = .int .i64 x1_1 ∧ v5 = .int .i64 x5_1 ∧ v6 = .int .i64 x6_1 ∧ Aside0 (isobathref02_Apart.l0 kq x0_1 x1_1 x5_1 x6_1 = some r) ∧ Aside0 (kq ≤ k) ∧ Drawn0 w w')
  case atStart => exact ⟨(a0), (a1), (0), (0), (by first | rfl | (simp; done) | (simp [*]; done)), (by first | rfl | (simp; done) | (simp [*]; done)), (by first | rfl | (simp; done) | (simp [*]; done)), (by first | rfl | (simp; done) | (simp [*]; done)), H', ⟨Nat.le_refl _⟩, by repeat (first | exact Drawn0.refl _ | apply Drawn0.step)⟩
  case round =>
    clear H'
    try clear c2
    try clear p2
    obtain ⟨x0_1, x1_1, x5_1, x6_1, rfl, rfl, rfl, rfl, HA, HK1, ⟨m1, rfl⟩⟩ := hrel
    cases gk with
    | zero => exact absurd HA.out (by simp [isobathref02_Apart.l0])
    | succ k1 =>
      have H := HA.out
      clear HA
      simp only [isobathref02_Apart.l0] at H
      by_cases c3 : x6_1 < 16
      · rw [if_pos c3] at H
        have c3b0 : decide (x6_1 < 16) = true := decide_eq_true c3
        clear c3
        by_cases c4 : (Int.tmod x0_1 2) = (Int.tmod x1_1 2)
        · rw [if_pos c4] at H
          have c4b0 : ((Int.tmod x0_1 2) == (Int.tmod x1_1 2)) = true := beq_iff_eq.mpr c4
          have c4b1 : ((Int.tmod x0_1 2) != (Int.tmod x1_1 2)) = false := bne_eq_false_iff_eq.mpr c4
          clear c4
          have H' := Aside0.mk H
          clear H
          go_wp2
          go_roundg k1
          case measure => have := HK1.out; omega
          case rel => exact ⟨(wrap64 (Int.tdiv x0_1 2)), (wrap64 (Int.tdiv x1_1 2)), (x5_1), (wrap64 (x6_1 + 1)), (by first | rfl | (simp; done) | (simp [*]; done)), (by first | rfl | (simp; done) | (simp [*]; done)), (by first | rfl | (simp; done) | (simp [*]; done)), (by first | rfl | (simp; done) | (simp [*]; done)), H', ⟨by have := HK1.out; omega⟩, by repeat (first | exact Drawn0.refl _ | apply Drawn0.step)⟩
        · rw [if_neg c4] at H
          have c4b0 : ((Int.tmod x0_1 2) == (Int.tmod x1_1 2)) = false := beq_eq_false_iff_ne.mpr c4
          have c4b1 : ((Int.tmod x0_1 2) != (Int.tmod x1_1 2)) = true := bne_iff_ne.mpr c4
          have H' := Aside0.mk H
          clear H
          go_wp2
          go_roundg k1
          case measure => have := HK1.out; omega
          case rel => exact ⟨(wrap64 (Int.tdiv x0_1 2)), (wrap64 (Int.tdiv x1_1 2)), (wrap64 (x5_1 + 1)), (wrap64 (x6_1 + 1)), (by first | rfl | (simp; done) | (simp [*]; done)), (by first | rfl | (simp; done) | (simp [*]; done)), (by first | rfl | (simp; done) | (simp [*]; done)), (by first | rfl | (simp; done) | (simp [*]; done)), H', ⟨by have := HK1.out; omega⟩, by repeat (first | exact Drawn0.refl _ | apply Drawn0.step)⟩
      · rw [if_neg c3] at H
        have c3b0 : decide (x6_1 < 16) = false := decide_eq_false c3
        clear c3
        obtain rfl := Option.some.inj H
        go_wp2
        go_ret
        exact ⟨by first | rfl | (simp; done) | (simp [*]; done), by repeat (first | exact Drawn0.refl _ | apply Drawn0.step)⟩

end Go.Proofs.Ytebcmhajbjkojaa.P

namespace Go.Proofs.Ytebcmhajbjkojaa.P
open Go.RowKit Go.Proofs.YtebcmhajbjkojaaW.PrintWords Go.Proofs.YtebcmhajbjkojaaW.PrintLast Go.Proofs.YtebcmhajbjkojaaW.PrintMore
attribute [local go_sem] max2_int min2_int max_two min_two max_three min_three max_four min_four   -- for this text's walks alone
set_option linter.unusedVariables false
set_option linter.unusedSimpArgs false

/-! ### mooring_Answers: function 17 -/
mutual
def mooring_Answers.j0 : Nat → List Int → Int → Int → Bool → Option (List Int × Int)
  | 0, _, _, _, _ => none
  | k + 1, x0, x1, x2, x27 => if x27 = true then (some (([] : List Int), 3)) else (mooring_Answers.l0 k x1 x2 ([] : List Int) x0 (x0.length : Int) 0)
def mooring_Answers.l0 : Nat → Int → Int → List Int → List Int → Int → Int → Option (List Int × Int)
  | 0, _, _, _, _, _, _ => none
  | k + 1, x1, x2, x9, x28, x29, x30 => if x30 < x29 then (if 0 ≤ x30 then (if x30 < (x28.length : Int) then ((mooring_apart.f k (rd x28 x30) x1).bind fun t104 => (if t104 ≤ x2 then (if x9.length < 17592186044416 then (mooring_Answers.l0 k x1 x2 (x9 ++ [x30]) x28 x29 (wrap64 (x30 + 1))) else (none)) else (mooring_Answers.l0 k x1 x2 x9 x28 x29 (wrap64 (x30 + 1))))) else (none)) else (none)) else (some (x9, 0))
end
def mooring_Answers.f (k : Nat) (l0 : List Int) (a1 : Int) (a2 : Int) : Option (List Int × Int) := (mooring_checkCodes.f k l0).bind fun t101 => (if t101 = 0 then ((mooring_isCode.f a1).bind fun t102 => (if t102 = true then (if a2 < 0 then (mooring_Answers.j0 k l0 a1 a2 true) else (mooring_Answers.j0 k l0 a1 a2 (decide (a2 > 16)))) else (mooring_Answers.j0 k l0 a1 a2 true))) else (some (([] : List Int), t101)))
theorem mooring_Answers.mono_l : ∀ k, (∀ y0 y1 y2 y3, LeO (mooring_Answers.j0 k y0 y1 y2 y3) (mooring_Answers.j0 (k + 1) y0 y1 y2 y3)) ∧ (∀ y0 y1 y2 y3 y4 y5, LeO (mooring_Answers.l0 k y0 y1 y2 y3 y4 y5) (mooring_Answers.l0 (k + 1) y0 y1 y2 y3 y4 y5))
  | 0 => ⟨fun _ _ _ _ r h => by simp [mooring_Answers.j0] at h, fun _ _ _ _ _ _ r h => by simp [mooring_Answers.l0] at h⟩
  | k + 1 => by
    obtain ⟨ih0, ih1⟩ := mooring_Answers.mono_l k
    refine ⟨?_, ?_⟩
    · intro y0 y1 y2 y3
      unfold mooring_Answers.j0
      repeat' first
      | (with_reducible exact ih0 _ _ _ _)
      | (with_reducible exact ih1 _ _ _ _ _ _)
      | (with_reducible exact mooring_apart.mono _ _ _)
      | (with_reducible exact mooring_checkCodes.mono _ _)
      | (with_reducible exact LeO.refl _)
      | (with_reducible exact LeO.none _)
      | (with_reducible refine LeO.ite ?_ ?_)
      | (with_reducible refine LeO.bind ?_ (fun _ => ?_))
      | exact ih0 _ _ _ _
      | exact ih1 _ _ _ _ _ _
      | exact mooring_apart.mono _ _ _
      | exact mooring_checkCodes.mono _ _
      | exact LeO.none _
      | refine LeO.ite ?_ ?_
      | refine LeO.bind ?_ (fun _ => ?_)
    · intro y0 y1 y2 y3 y4 y5
      unfold mooring_Answers.l0
      repeat' first
      | (with_reducible exact ih0 _ _ _ _)
      | (with_reducible exact ih1 _ _ _ _ _ _)
      | (with_reducible exact mooring_apart.mono _ _ _)
      | (with_reducible exact mooring_checkCodes.mono _ _)
      | (with_reducible exact LeO.refl _)
      | (with_reducible exact LeO.none _)
      | (with_reducible refine LeO.ite ?_ ?_)
      | (with_reducible refine LeO.bind ?_ (fun _ => ?_))
      | exact ih0 _ _ _ _
      | exact ih1 _ _ _ _ _ _
      | exact mooring_apart.mono _ _ _
      | exact mooring_checkCodes.mono _ _
      | exact LeO.none _
      | refine LeO.ite ?_ ?_
      | refine LeO.bind ?_ (fun _ => ?_)
theorem mooring_Answers.mono : ∀ a0 a1 a2 k, LeO (mooring_Answers.f k a0 a1 a2) (mooring_Answers.f (k + 1) a0 a1 a2) := by
  intro a0 a1 a2 k
  obtain ⟨ih0, ih1⟩ := mooring_Answers.mono_l k
  unfold mooring_Answers.f
  repeat' first
      | (with_reducible exact ih0 _ _ _ _)
      | (with_reducible exact ih1 _ _ _ _ _ _)
      | (with_reducible exact mooring_apart.mono _ _ _)
      | (with_reducible exact mooring_checkCodes.mono _ _)
      | (with_reducible exact LeO.refl _)
      | (with_reducible exact LeO.none _)
      | (with_reducible refine LeO.ite ?_ ?_)
      | (with_reducible refine LeO.bind ?_ (fun _ => ?_))
      | exact ih0 _ _ _ _
      | exact ih1 _ _ _ _ _ _
      | exact mooring_apart.mono _ _ _
      | exact mooring_checkCodes.mono _ _
      | exact LeO.none _
      | refine LeO.ite ?_ ?_
      | refine LeO.bind ?_ (fun _ => ?_)
set_option maxHeartbeats 8000000 in
set_option maxRecDepth 100000 in
theorem mooring_Answers.calls (k : Nat) (A0 : Option Addr) (c0 : Nat) (l0 : List Int) (a1 : Int) (a2 : Int) (r1 : List Int) (r2 : Int) (w : World) (hr0 : Kd.C (Kd.int .i64) w A0 l0.length l0) (hc0 : l0.length ≤ c0) (h : mooring_Answers.f k l0 a1 a2 = some (r1, r2)) :
    Calls Try.prog 17 #[.slice A0 l0.length c0, .int .i64 a1, .int .i64 a2] w fun e w' => ∃ v0_ : Value, e = .returned (.tuple #[v0_, .int .i64 r2]) ∧ Kd.R (Kd.int .i64) 3 w' w.heap.size (fun _ => True) v0_ r1 ∧ Below w.heap.size w w' := by
  have HR0 := Aside0.mk hr0
  have HC0 := Aside0.mk hc0
  clear hr0 hc0
  have HB := Aside0.mk (Below.refl w.heap.size w)
  have H : ((mooring_checkCodes.f k l0).bind fun t101 => (if t101 = 0 then ((mooring_isCode.f a1).bind fun t102 => (if t102 = true then (if a2 < 0 then (mooring_Answers.j0 k l0 a1 a2 true) else (mooring_Answers.j0 k l0 a1 a2 (decide (a2 > 16)))) else (mooring_Answers.j0 k l0 a1 a2 true))) else (some (([] : List Int), t101)))) = some (r1, r2) := h
  clear h
  replace H := Option.bind_eq_some_iff.mp H
  obtain ⟨t101, A40, H⟩ := H
  replace H : (if t101 = 0 then ((mooring_isCode.f a1).bind fun t102 => (if t102 = true then (if a2 < 0 then (mooring_Answers.j0 k l0 a1 a2 true) else (mooring_Answers.j0 k l0 a1 a2 (decide (a2 > 16)))) else (mooring_Answers.j0 k l0 a1 a2 true))) else (some (([] : List Int), t101))) = some (r1, r2) := H
  have A4 := Aside0.mk A40
  clear A40
  by_cases c5 : t101 = 0
  · rw [if_pos c5] at H
    have c5b0 : (t101 == 0) = true := beq_iff_eq.mpr c5
    have c5b1 : (t101 != 0) = false := bne_eq_false_iff_eq.mpr c5
    clear c5
    have HC6 := Aside0.mk H
    clear H
    go_enter Try.func17, Try.ntmps17
    go_upto_region 4 with (first | ((with_reducible refine gate_callee (f := 52) rfl ?_); refine goesL_ (some 13) rfl rfl Try.func52 (by kernel_rfl) rfl #[.slice A0 l0.length c0] rfl (by (try simp only [List.map_toArray, List.map_cons, List.map_nil]); first | done | rfl | (simp only [List.length_drop, List.length_take]; rfl)) ?_; (with_reducible refine (mooring_checkCodes.calls k _ _ l0 t101 _ ?side1 ?side2 A4.out).mono ?_); (case side1 => repeat (first | exact HR0.out | (with_reducible refine Kd.C_alloc ?_ _) | (with_reducible refine Kd.C_drewN ?_ _) | (with_reducible refine Kd.C_drew ?_))); (case side2 => exact HC0.out); rintro e w' ⟨rfl, ⟨nd, rfl⟩⟩; refine ⟨_, rfl, ?_⟩))
    (try simp only [Act.put, List.setIfInBounds_toArray, List.set_cons_zero, List.set_cons_succ])
    go_cut [27] (fun v27 wc => ∃ (kq : Nat) (x27_5 : Bool), v27 = .bool x27_5 ∧ Aside0 (mooring_Answers.j0 kq l0 a1 a2 x27_5 = some (r1, r2)) ∧ Aside0 (kq ≤ k) ∧ Aside0 (Below w.heap.size w wc))
    case first =>
      have H := HC6.out
      clear HC6
      replace H := Option.bind_eq_some_iff.mp H
      obtain ⟨t102, A70, H⟩ := H
      replace H : (if t102 = true then (if a2 < 0 then (mooring_Answers.j0 k l0 a1 a2 true) else (mooring_Answers.j0 k l0 a1 a2 (decide (a2 > 16)))) else (mooring_Answers.j0 k l0 a1 a2 true)) = some (r1, r2) := H
      have A7 := Aside0.mk A70
      clear A70
      by_cases c8 : t102 = true
      · subst c8
        have H1 : (if a2 < 0 then (mooring_Answers.j0 k l0 a1 a2 true) else (mooring_Answers.j0 k l0 a1 a2 (decide (a2 > 16)))) = some (r1, r2) := by rw [if_pos rfl] at H; exact H
        clear H
        have H := H1
        clear H1
        by_cases c9 : a2 < 0
        · rw [if_pos c9] at H
          have c9b0 : decide (a2 < 0) = true := decide_eq_true c9
          clear c9
          (first | rw [c9b0] | (simp only [i64_w, i32_w]; rw [c9b0]) | skip)
          have H' := Aside0.mk H
          clear H
          go_wp2_with (first | ((with_reducible refine gate_callee (f := 55) rfl ?_); refine goesL_ (some 18) rfl rfl Try.func55 (by kernel_rfl) rfl #[.int .i64 a1] rfl (by (try simp only [List.map_toArray, List.map_cons, List.map_nil]); first | done | rfl | (simp only [List.length_drop, List.length_take]; rfl)) ?_; (with_reducible refine (mooring_isCode.calls a1 true _ A7.out).mono ?_); rintro e w' ⟨rfl, ⟨nd, rfl⟩⟩; refine ⟨_, rfl, ?_⟩))
          go_meet
          case rel => exact ⟨_, (true), (by first | rfl | (simp; done) | (simp [*]; done)), H', ⟨by first | omega | exact Nat.le_refl _⟩, ⟨by repeat (first | (with_reducible first | exact HB.out | apply below_alloc | apply pw_below_drewN | apply below_drew1) | exact HB.out)⟩⟩
        · rw [if_neg c9] at H
          have c9b0 : decide (a2 < 0) = false := decide_eq_false c9
          clear c9
          (first | rw [c9b0] | (simp only [i64_w, i32_w]; rw [c9b0]) | skip)
          have H' := Aside0.mk H
          clear H
          go_wp2_with (first | ((with_reducible refine gate_callee (f := 55) rfl ?_); refine goesL_ (some 18) rfl rfl Try.func55 (by kernel_rfl) rfl #[.int .i64 a1] rfl (by (try simp only [List.map_toArray, List.map_cons, List.map_nil]); first | done | rfl | (simp only [List.length_drop, List.length_take]; rfl)) ?_; (with_reducible refine (mooring_isCode.calls a1 true _ A7.out).mono ?_); rintro e w' ⟨rfl, ⟨nd, rfl⟩⟩; refine ⟨_, rfl, ?_⟩))
          go_meet
          case rel => exact ⟨_, (decide (a2 > 16)), (by first | rfl | (simp; done) | (simp [*]; done)), H', ⟨by first | omega | exact Nat.le_refl _⟩, ⟨by repeat (first | (with_reducible first | exact HB.out | apply below_alloc | apply pw_below_drewN | apply below_drew1) | exact HB.out)⟩⟩
      · replace c8 := Bool.eq_false_iff.mpr c8
        subst c8
        have H1 : (mooring_Answers.j0 k l0 a1 a2 true) = some (r1, r2) := by rw [if_neg (show ¬ (false = true) by decide)] at H; exact H
        clear H
        have H := H1
        clear H1
        have H' := Aside0.mk H
        clear H
        go_wp2_with (first | ((with_reducible refine gate_callee (f := 55) rfl ?_); refine goesL_ (some 18) rfl rfl Try.func55 (by kernel_rfl) rfl #[.int .i64 a1] rfl (by (try simp only [List.map_toArray, List.map_cons, List.map_nil]); first | done | rfl | (simp only [List.length_drop, List.length_take]; rfl)) ?_; (with_reducible refine (mooring_isCode.calls a1 false _ A7.out).mono ?_); rintro e w' ⟨rfl, ⟨nd, rfl⟩⟩; refine ⟨_, rfl, ?_⟩))
        go_meet
        case rel => exact ⟨_, (true), (by first | rfl | (simp; done) | (simp [*]; done)), H', ⟨by first | omega | exact Nat.le_refl _⟩, ⟨by repeat (first | (with_reducible first | exact HB.out | apply below_alloc | apply pw_below_drewN | apply below_drew1) | exact HB.out)⟩⟩
    case rest =>
      clear HC6
      try clear c1
      try clear p2
      try clear c5
      try clear c5b0
      try clear c5b1
      try clear c8
      try clear c9
      try clear c9b0
      obtain ⟨kq, x27_5, rfl, HA, HJ5, HB⟩ := hcut
      cases kq with
      | zero => exact absurd HA.out (by simp [mooring_Answers.j0])
      | succ kj5 =>
        have H := HA.out
        clear HA
        simp only [mooring_Answers.j0] at H
        by_cases c10 : x27_5 = true
        · subst c10
          have H1 : (some (([] : List Int), 3)) = some (r1, r2) := by rw [if_pos rfl] at H; exact H
          clear H
          have H := H1
          clear H1
          simp only [Option.some.injEq, Prod.mk.injEq] at H
          obtain ⟨rfl, rfl⟩ := H
          go_wp2
          go_ret2
          exact ⟨_, by first | rfl | (simp [errW_none, errW_some] <;> rfl) | (simp [*, errW_none, errW_some] <;> rfl), by first | exact Kd.R_nil _ _ _ _ _ | exact Kd.N_nil _ _ _ _ _ | exact Kd.V_nil _ _ _ _ _ | exact Kd.Q_nil _ _ _ _ _ | exact Kd.S_nil _ _ _ _ _, by repeat (first | (with_reducible first | exact HB.out | apply below_alloc | apply pw_below_drewN | apply below_drew1) | exact HB.out)⟩
        · replace c10 := Bool.eq_false_iff.mpr c10
          subst c10
          have H1 : (mooring_Answers.l0 kj5 a1 a2 ([] : List Int) l0 (l0.length : Int) 0) = some (r1, r2) := by rw [if_neg (show ¬ (false = true) by decide)] at H; exact H
          clear H
          have H := H1
          clear H1
          have H' := Aside0.mk H
          clear H
          go_wp2
          go_loopg [9, 30] kj5 (fun kq v9 v30 w' => ∃ (x9_2 : List Int) (x30_2 : Int), v30 = .int .i64 x30_2 ∧ Aside0 (mooring_Answers.l0 kq a1 a2 x9_2 l0 (l0.length : Int) x30_2 = some (r1, r2)) ∧ Aside0 (kq ≤ kj5) ∧ Aside0 (Kd.R (Kd.int .i64) 3 w' w.heap.size (fun _ => True) v9 x9_2) ∧ Aside0 (Below w.heap.size w w'))
          case atStart => exact ⟨(([] : List Int)), (0), (by first | rfl | (simp; done) | (simp [*]; done)), H', ⟨Nat.le_refl _⟩, ⟨by first | exact Kd.R_nil _ _ _ _ _ | exact Kd.N_nil _ _ _ _ _ | exact Kd.V_nil _ _ _ _ _ | exact Kd.Q_nil _ _ _ _ _ | exact Kd.S_nil _ _ _ _ _⟩, ⟨by repeat (first | (with_reducible first | exact HB.out | apply below_alloc | apply pw_below_drewN | apply below_drew1) | exact HB.out)⟩⟩
          case round =>
            clear H'
            try clear c1
            try clear p2
            try clear c5
            try clear c5b0
            try clear c5b1
            try clear c8
            try clear c9
            try clear c9b0
            try clear c10
            try clear p2
            obtain ⟨x9_2, x30_2, rfl, HA, HK2, HO_9, HB⟩ := hrel
            cases gk with
            | zero => exact absurd HA.out (by simp [mooring_Answers.l0])
            | succ k2 =>
              have H := HA.out
              clear HA
              simp only [mooring_Answers.l0] at H
              by_cases c11 : x30_2 < (l0.length : Int)
              · rw [if_pos c11] at H
                have c11b0 : decide (x30_2 < (l0.length : Int)) = true := decide_eq_true c11
                clear c11
                by_cases c12 : 0 ≤ x30_2
                · rw [if_pos c12] at H
                  have c12b0 : decide (0 ≤ x30_2) = true := decide_eq_true c12
                  clear c12
                  by_cases c13 : x30_2 < (l0.length : Int)
                  · rw [if_pos c13] at H
                    have c13b0 : decide (x30_2 < (l0.length : Int)) = true := decide_eq_true c13
                    clear c13
                    replace H := Option.bind_eq_some_iff.mp H
                    obtain ⟨t104, A140, H⟩ := H
                    replace H : (if t104 ≤ a2 then (if x9_2.length < 17592186044416 then (mooring_Answers.l0 k2 a1 a2 (x9_2 ++ [x30_2]) l0 (l0.length : Int) (wrap64 (x30_2 + 1))) else (none)) else (mooring_Answers.l0 k2 a1 a2 x9_2 l0 (l0.length : Int) (wrap64 (x30_2 + 1)))) = some (r1, r2) := H
                    have A14 := Aside0.mk A140
                    clear A140
                    by_cases c15 : t104 ≤ a2
                    · rw [if_pos c15] at H
                      have c15b0 : decide (t104 ≤ a2) = true := decide_eq_true c15
                      clear c15
                      by_cases c16 : x9_2.length < 17592186044416
                      · rw [if_pos c16] at H
                        have LMc16 := Aside0.mk c16
                        clear c16
                        obtain ⟨y105, hy105⟩ : ∃ y_ : List Int, y_ = (x9_2 ++ [x30_2]) := ⟨_, rfl⟩
                        replace H : (mooring_Answers.l0 k2 a1 a2 y105 l0 (l0.length : Int) (wrap64 (x30_2 + 1))) = some (r1, r2) := by first | (rw [hy105]; with_reducible exact H) | (have H2_ := (Option.bind_some _ _).symm.trans H; rw [hy105]; with_reducible exact H2_) | (have H2_ := (Option.bind_some _ _).symm.trans H; with_reducible exact H2_) | with_reducible exact H | (rw [hy105]; exact H) | exact H
                        have Ny105 := Aside0.mk hy105
                        clear hy105
                        have H' := Aside0.mk H
                        clear H
                        have p103 : 0 ≤ (x30_2 : Int) := of_decide_eq_true (by first | (with_reducible assumption) | assumption)
                        have q103 : x30_2 < (l0.length : Int) := of_decide_eq_true (by first | (with_reducible assumption) | assumption)
                        obtain ⟨ad103, e103, hx103_0⟩ := Kd.at_int HR0.out x30_2 p103 q103
                        cases e103
                        replace hx103_0 := (HB.out.cell (World.block_lt_of_cell? w _ hx103_0)).trans hx103_0
                        replace p103 := eq_true p103
                        replace q103 := eq_true q103
                        go_wp2_with (first | ((with_reducible refine gate_callee (f := 53) rfl ?_); refine goesL_ (some 37) rfl rfl Try.func53 (by kernel_rfl) rfl #[.int .i64 (rd l0 x30_2), .int .i64 a1] rfl (by (try simp only [List.map_toArray, List.map_cons, List.map_nil]); first | done | rfl | (simp only [List.length_drop, List.length_take]; rfl)) ?_; (with_reducible refine (mooring_apart.calls k2 (rd l0 x30_2) a1 t104 _ A14.out).mono ?_); rintro e w' ⟨rfl, ⟨nd, rfl⟩⟩; refine ⟨_, rfl, ?_⟩) | ((with_reducible refine gate_builtin (b := .append) (xs := #[.tmp 40, .tmp 42]) rfl ?_); at_builtin; refine Kd.R_append (Kd.int .i64) (w0 := w) w.heap.size rfl (.tmp 40) (.tmp 42) 22 3 (.int .i64 0) 8 rfl Try.underlying22 info3 rfl (by decide) (by omega) u9 x9_2 x30_2 [.int .i64 x30_2] (fun _ => True) (fun _ => False) rfl rfl ?aP (fun _ hk => hk.elim) ?aF ?aO ?aB ?aS ?aL ?_; (case aP => exact rfl); (case aB => exact (by repeat (first | (with_reducible first | exact HB.out | apply below_alloc | apply pw_below_drewN | apply below_drew1) | exact HB.out))); (case aF => exact (fun _ _ => trivial)); (case aO => exact (by (with_reducible repeat (first | apply Kd.R_alloc | apply Kd.R_drewN | apply Kd.R_drew)); exact HO_9.out)); (case aS => exact (below_size (by repeat (first | (with_reducible first | exact HB.out | apply below_alloc | apply pw_below_drewN | apply below_drew1) | exact HB.out)))); (case aL => have := LMc16.out; omega); intro v106 w17 ho hb hg hat; rw [← Ny105.out] at ho; have n0_ := Aside0.mk (hb); have n1_ := Aside0.mk (ho); clear HB; clear HO_9; have HB := n0_; have HO107 := n1_; clear n0_ n1_; clear ho hb hg hat))
                        go_roundg k2
                        case measure => have := HJ5.out; have := HK2.out; omega
                        case rel => exact ⟨(y105), (wrap64 (x30_2 + 1)), (by first | rfl | (simp; done) | (simp [*]; done)), H', ⟨by have := HJ5.out; have := HK2.out; omega⟩, ⟨by (with_reducible repeat (first | apply Kd.R_alloc | apply Kd.R_drewN | apply Kd.R_drew)); exact HO107.out⟩, ⟨by repeat (first | (with_reducible first | exact HB.out | apply below_alloc | apply pw_below_drewN | apply below_drew1) | exact HB.out)⟩⟩
                      · rw [if_neg c16] at H
                        exact absurd H (by simp)
                    · rw [if_neg c15] at H
                      have c15b0 : decide (t104 ≤ a2) = false := decide_eq_false c15
                      clear c15
                      have H' := Aside0.mk H
                      clear H
                      have p103 : 0 ≤ (x30_2 : Int) := of_decide_eq_true (by first | (with_reducible assumption) | assumption)
                      have q103 : x30_2 < (l0.length : Int) := of_decide_eq_true (by first | (with_reducible assumption) | assumption)
                      obtain ⟨ad103, e103, hx103_0⟩ := Kd.at_int HR0.out x30_2 p103 q103
                      cases e103
                      replace hx103_0 := (HB.out.cell (World.block_lt_of_cell? w _ hx103_0)).trans hx103_0
                      replace p103 := eq_true p103
                      replace q103 := eq_true q103
                      go_wp2_with (first | ((with_reducible refine gate_callee (f := 53) rfl ?_); refine goesL_ (some 37) rfl rfl Try.func53 (by kernel_rfl) rfl #[.int .i64 (rd l0 x30_2), .int .i64 a1] rfl (by (try simp only [List.map_toArray, List.map_cons, List.map_nil]); first | done | rfl | (simp only [List.length_drop, List.length_take]; rfl)) ?_; (with_reducible refine (mooring_apart.calls k2 (rd l0 x30_2) a1 t104 _ A14.out).mono ?_); rintro e w' ⟨rfl, ⟨nd, rfl⟩⟩; refine ⟨_, rfl, ?_⟩))
                      go_roundg k2
                      case measure => have := HJ5.out; have := HK2.out; omega
                      case rel => exact ⟨(x9_2), (wrap64 (x30_2 + 1)), (by first | rfl | (simp; done) | (simp [*]; done)), H', ⟨by have := HJ5.out; have := HK2.out; omega⟩, ⟨by (with_reducible repeat (first | apply Kd.R_alloc | apply Kd.R_drewN | apply Kd.R_drew)); exact HO_9.out⟩, ⟨by repeat (first | (with_reducible first | exact HB.out | apply below_alloc | apply pw_below_drewN | apply below_drew1) | exact HB.out)⟩⟩
                  · rw [if_neg c13] at H
                    exact absurd H (by simp)
                · rw [if_neg c12] at H
                  exact absurd H (by simp)
              · rw [if_neg c11] at H
                have c11b0 : decide (x30_2 < (l0.length : Int)) = false := decide_eq_false c11
                clear c11
                simp only [Option.some.injEq, Prod.mk.injEq] at H
                obtain ⟨rfl, rfl⟩ := H
                go_wp2
                go_ret2
                exact ⟨_, by first | rfl | (simp [errW_none, errW_some] <;> rfl) | (simp [*, errW_none, errW_some] <;> rfl), by (with_reducible repeat (first | apply Kd.R_alloc | apply Kd.R_drewN | apply Kd.R_drew)); exact HO_9.out, by repeat (first | (with_reducible first | exact HB.out | apply below_alloc | apply pw_below_drewN | apply below_drew1) | exact HB.out)⟩
  · rw [if_neg c5] at H
    have c5b0 : (t101 == 0) = false := beq_eq_false_iff_ne.mpr c5
    have c5b1 : (t101 != 0) = true := bne_iff_ne.mpr c5
    simp only [Option.some.injEq, Prod.mk.injEq] at H
    obtain ⟨rfl, rfl⟩ := H
    go_enter Try.func17, Try.ntmps17
    go_wp2_with (first | ((with_reducible refine gate_callee (f := 52) rfl ?_); refine goesL_ (some 13) rfl rfl Try.func52 (by kernel_rfl) rfl #[.slice A0 l0.length c0] rfl (by (try simp only [List.map_toArray, List.map_cons, List.map_nil]); first | done | rfl | (simp only [List.length_drop, List.length_take]; rfl)) ?_; (with_reducible refine (mooring_checkCodes.calls k _ _ l0 t101 _ ?side1 ?side2 A4.out).mono ?_); (case side1 => repeat (first | exact HR0.out | (with_reducible refine Kd.C_alloc ?_ _) | (with_reducible refine Kd.C_drewN ?_ _) | (with_reducible refine Kd.C_drew ?_))); (case side2 => exact HC0.out); rintro e w' ⟨rfl, ⟨nd, rfl⟩⟩; refine ⟨_, rfl, ?_⟩))
    go_ret2
    exact ⟨_, by first | rfl | (simp [errW_none, errW_some] <;> rfl) | (simp [*, errW_none, errW_some] <;> rfl), by first | exact Kd.R_nil _ _ _ _ _ | exact Kd.N_nil _ _ _ _ _ | exact Kd.V_nil _ _ _ _ _ | exact Kd.Q_nil _ _ _ _ _ | exact Kd.S_nil _ _ _ _ _, by repeat (first | (with_reducible first | exact HB.out | apply below_alloc | apply pw_below_drewN | apply below_drew1) | exact HB.out)⟩

end Go.Proofs.Ytebcmhajbjkojaa.P

namespace Go.Proofs.Ytebcmhajbjkojaa.P
open Go.RowKit Go.Proofs.YtebcmhajbjkojaaW.PrintWords Go.Proofs.YtebcmhajbjkojaaW.PrintLast Go.Proofs.YtebcmhajbjkojaaW.PrintMore
attribute [local go_sem] max2_int min2_int max_two min_two max_three min_three max_four min_four   -- for this text's walks alone
set_option linter.unusedVariables false
set_option linter.unusedSimpArgs false

/-! ### isobathlaw02_MooringUnique: function 4 -/
mutual
def isobathlaw02_MooringUnique.j0 : Nat → List Int → Int → Int → Int → Bool → Option (Bool)
  | 0, _, _, _, _, _ => none
  | k + 1, x0, x1, x2, x3, x31 => if x31 = true then ((isobathlaw02_fine.f k).bind fun t101 => (some t101)) else (isobathlaw02_MooringUnique.l0 k x0 x1 x2 x3 ([] : List Int) 0)
def isobathlaw02_MooringUnique.l0 : Nat → List Int → Int → Int → Int → List Int → Int → Option (Bool)
  | 0, _, _, _, _, _, _ => none
  | k + 1, x0, x1, x2, x3, x9, x10 => if x10 < (x0.length : Int) then (if 0 ≤ x10 then (if x9.length < 17592186044416 then (isobathlaw02_MooringUnique.l0 k x0 x1 x2 x3 (x9 ++ [wrap64 (rd x0 x10)]) (wrap64 (x10 + 1))) else (none)) else (none)) else ((mooring_Spacing.f k x9).bind fun bt106 => (if bt106.2 = 0 then (if bt106.1 < 0 then (isobathlaw02_MooringUnique.j2 k x1 x2 x3 x9 bt106.1 true) else (isobathlaw02_MooringUnique.j2 k x1 x2 x3 x9 bt106.1 (decide (bt106.1 > 16)))) else (isobathlaw02_MooringUnique.j2 k x1 x2 x3 x9 bt106.1 true)))
def isobathlaw02_MooringUnique.j2 : Nat → Int → Int → Int → List Int → Int → Bool → Option (Bool)
  | 0, _, _, _, _, _, _ => none
  | k + 1, x1, x2, x3, x9, x11, x61 => if x61 = true then (some false) else ((mooring_Answers.f k x9 (wrap64 (x1)) (Int.tmod (wrap64 (x2)) 17)).bind fun bt108 => ((mooring_Answers.f k x9 (wrap64 (x1)) (mn 16 (wrap64 ((Int.tmod (wrap64 (x2)) 17) + 1)))).bind fun bt112 => (if bt108.2 = 0 then (if bt112.2 = 0 then (if (bt108.1.length : Int) > (bt112.1.length : Int) then (isobathlaw02_MooringUnique.j3 k x3 x9 x11 true) else (if (wrap64 ((wrap64 (2 * (Int.tmod (wrap64 (x2)) 17))) + 1)) ≤ x11 then (isobathlaw02_MooringUnique.j3 k x3 x9 x11 (decide ((bt108.1.length : Int) > 1))) else (isobathlaw02_MooringUnique.j3 k x3 x9 x11 false))) else (isobathlaw02_MooringUnique.j3 k x3 x9 x11 true)) else (isobathlaw02_MooringUnique.j3 k x3 x9 x11 true))))
def isobathlaw02_MooringUnique.j3 : Nat → Int → List Int → Int → Bool → Option (Bool)
  | 0, _, _, _, _ => none
  | k + 1, x3, x9, x11, x107 => if x107 = true then (some false) else (isobathlaw02_MooringUnique.l1 k x3 x9 x11 0)
def isobathlaw02_MooringUnique.l1 : Nat → Int → List Int → Int → Int → Option (Bool)
  | 0, _, _, _, _ => none
  | k + 1, x3, x9, x11, x17 => if x17 < (x9.length : Int) then (if 0 ≤ x17 then ((isobathref02_Apart.f k (rd x9 x17) (Go.bits .xor .i64 (rd x9 x17) (wrap64 (x3)))).bind fun t119 => ((mooring_Answers.f k x9 (Go.bits .xor .i64 (rd x9 x17) (wrap64 (x3))) t119).bind fun bt120 => (isobathlaw02_MooringUnique.l2 k x3 x9 x11 x17 t119 bt120.1 bt120.2 false 0))) else (none)) else ((isobathlaw02_fine.f k).bind fun t116 => (some t116))
def isobathlaw02_MooringUnique.l2 : Nat → Int → List Int → Int → Int → Int → List Int → Int → Bool → Int → Option (Bool)
  | 0, _, _, _, _, _, _, _, _, _ => none
  | k + 1, x3, x9, x11, x17, x19, x20, x21, x22, x23 => if x23 < (x20.length : Int) then (if x22 = true then (isobathlaw02_MooringUnique.l2 k x3 x9 x11 x17 x19 x20 x21 true (wrap64 (x23 + 1))) else (if 0 ≤ x23 then (isobathlaw02_MooringUnique.l2 k x3 x9 x11 x17 x19 x20 x21 ((rd x20 x23) == x17) (wrap64 (x23 + 1))) else (none))) else (if x21 = 0 then (if x22 = true then (if (wrap64 ((wrap64 (2 * x19)) + 1)) ≤ x11 then (if (x20.length : Int) = 1 then (isobathlaw02_MooringUnique.l1 k x3 x9 x11 (wrap64 (x17 + 1))) else (some false)) else (isobathlaw02_MooringUnique.l1 k x3 x9 x11 (wrap64 (x17 + 1)))) else (some false)) else (some false))
end
def isobathlaw02_MooringUnique.f (k : Nat) (l0 : List Int) (a1 : Int) (a2 : Int) (a3 : Int) : Option (Bool) := if (l0.length : Int) < 2 then (isobathlaw02_MooringUnique.j0 k l0 a1 a2 a3 true) else (isobathlaw02_MooringUnique.j0 k l0 a1 a2 a3 (decide ((l0.length : Int) > 20)))
theorem isobathlaw02_MooringUnique.mono_l : ∀ k, (∀ y0 y1 y2 y3 y4, LeO (isobathlaw02_MooringUnique.j0 k y0 y1 y2 y3 y4) (isobathlaw02_MooringUnique.j0 (k + 1) y0 y1 y2 y3 y4)) ∧ (∀ y0 y1 y2 y3 y4 y5, LeO (isobathlaw02_MooringUnique.l0 k y0 y1 y2 y3 y4 y5) (isobathlaw02_MooringUnique.l0 (k + 1) y0 y1 y2 y3 y4 y5)) ∧ (∀ y0 y1 y2 y3 y4 y5, LeO (isobathlaw02_MooringUnique.j2 k y0 y1 y2 y3 y4 y5) (isobathlaw02_MooringUnique.j2 (k + 1) y0 y1 y2 y3 y4 y5)) ∧ (∀ y0 y1 y2 y3, LeO (isobathlaw02_MooringUnique.j3 k y0 y1 y2 y3) (isobathlaw02_MooringUnique.j3 (k + 1) y0 y1 y2 y3)) ∧ (∀ y0 y1 y2 y3, LeO (isobathlaw02_MooringUnique.l1 k y0 y1 y2 y3) (isobathlaw02_MooringUnique.l1 (k + 1) y0 y1 y2 y3)) ∧ (∀ y0 y1 y2 y3 y4 y5 y6 y7 y8, LeO (isobathlaw02_MooringUnique.l2 k y0 y1 y2 y3 y4 y5 y6 y7 y8) (isobathlaw02_MooringUnique.l2 (k + 1) y0 y1 y2 y3 y4 y5 y6 y7 y8))
  | 0 => ⟨fun _ _ _ _ _ r h => by simp [isobathlaw02_MooringUnique.j0] at h, fun _ _ _ _ _ _ r h => by simp [isobathlaw02_MooringUnique.l0] at h, fun _ _ _ _ _ _ r h => by simp [isobathlaw02_MooringUnique.j2] at h, fun _ _ _ _ r h => by simp [isobathlaw02_MooringUnique.j3] at h, fun _ _ _ _ r h => by simp [isobathlaw02_MooringUnique.l1] at h, fun _ _ _ _ _ _ _ _ _ r h => by simp [isobathlaw02_MooringUnique.l2] at h⟩
  | k + 1 => by
    obtain ⟨ih0, ih1, ih2, ih3, ih4, ih5⟩ := isobathlaw02_MooringUnique.mono_l k
    refine ⟨?_, ?_, ?_, ?_, ?_, ?_⟩
    · intro y0 y1 y2 y3 y4
      unfold isobathlaw02_MooringUnique.j0
      repeat' first
      | (with_reducible exact ih0 _ _ _ _ _)
      | (with_reducible exact ih1 _ _ _ _ _ _)
      | (with_reducible exact ih2 _ _ _ _ _ _)
      | (with_reducible exact ih3 _ _ _ _)
      | (with_reducible exact ih4 _ _ _ _)
      | (with_reducible exact ih5 _ _ _ _ _ _ _ _ _)
      | (with_reducible exact isobathlaw02_fine.mono _)
      | (with_reducible exact isobathref02_Apart.mono _ _ _)
      | (with_reducible exact mooring_Answers.mono _ _ _ _)
      | (with_reducible exact mooring_Spacing.mono _ _)
      | (with_reducible exact LeO.refl _)
      | (with_reducible exact LeO.none _)
      | (with_reducible refine LeO.ite ?_ ?_)
      | (with_reducible refine LeO.bind ?_ (fun _ => ?_))
      | exact ih0 _ _ _ _ _
      | exact ih1 _ _ _ _ _ _
      | exact ih2 _ _ _ _ _ _
      | exact ih3 _ _ _ _
      | exact ih4 _ _ _ _
      | exact ih5 _ _ _ _ _ _ _ _ _
      | exact isobathlaw02_fine.mono _
      | exact isobathref02_Apart.mono _ _ _
      | exact mooring_Answers.mono _ _ _ _
      | exact mooring_Spacing.mono _ _
      | exact LeO.none _
      | refine LeO.ite ?_ ?_
      | refine LeO.bind ?_ (fun _ => ?_)
    · intro y0 y1 y2 y3 y4 y5
      unfold isobathlaw02_MooringUnique.l0
      repeat' first
      | (with_reducible exact ih0 _ _ _ _ _)
      | (with_reducible exact ih1 _ _ _ _ _ _)
      | (with_reducible exact ih2 _ _ _ _ _ _)
      | (with_reducible exact ih3 _ _ _ _)
      | (with_reducible exact ih4 _ _ _ _)
      | (with_reducible exact ih5 _ _ _ _ _ _ _ _ _)
      | (with_reducible exact isobathlaw02_fine.mono _)
      | (with_reducible exact isobathref02_Apart.mono _ _ _)
      | (with_reducible exact mooring_Answers.mono _ _ _ _)
      | (with_reducible exact mooring_Spacing.mono _ _)
      | (with_reducible exact LeO.refl _)
      | (with_reducible exact LeO.none _)
      | (with_reducible refine LeO.ite ?_ ?_)
      | (with_reducible refine LeO.bind ?_ (fun _ => ?_))
      | exact ih0 _ _ _ _ _
      | exact ih1 _ _ _ _ _ _
      | exact ih2 _ _ _ _ _ _
      | exact ih3 _ _ _ _
      | exact ih4 _ _ _ _
      | exact ih5 _ _ _ _ _ _ _ _ _
      | exact isobathlaw02_fine.mono _
      | exact isobathref02_Apart.mono _ _ _
      | exact mooring_Answers.mono _ _ _ _
      | exact mooring_Spacing.mono _ _
      | exact LeO.none _
      | refine LeO.ite ?_ ?_
      | refine LeO.bind ?_ (fun _ => ?_)
    · intro y0 y1 y2 y3 y4 y5
      unfold isobathlaw02_MooringUnique.j2
      repeat' first
      | (with_reducible exact ih0 _ _ _ _ _)
      | (with_reducible exact ih1 _ _ _ _ _ _)
      | (with_reducible exact ih2 _ _ _ _ _ _)
      | (with_reducible exact ih3 _ _ _ _)
      | (with_reducible exact ih4 _ _ _ _)
      | (with_reducible exact ih5 _ _ _ _ _ _ _ _ _)
      | (with_reducible exact isobathlaw02_fine.mono _)
      | (with_reducible exact isobathref02_Apart.mono _ _ _)
      | (with_reducible exact mooring_Answers.mono _ _ _ _)
      | (with_reducible exact mooring_Spacing.mono _ _)
      | (with_reducible exact LeO.refl _)
      | (with_reducible exact LeO.none _)
      | (with_reducible refine LeO.ite ?_ ?_)
      | (with_reducible refine LeO.bind ?_ (fun _ => ?_))
      | exact ih0 _ _ _ _ _
      | exact ih1 _ _ _ _ _ _
      | exact ih2 _ _ _ _ _ _
      | exact ih3 _ _ _ _
      | exact ih4 _ _ _ _
      | exact ih5 _ _ _ _ _ _ _ _ _
      | exact isobathlaw02_fine.mono _
      | exact isobathref02_Apart.mono _ _ _
      | exact mooring_Answers.mono _ _ _ _
      | exact mooring_Spacing.mono _ _
      | exact LeO.none _
      | refine LeO.ite ?_ ?_
      | refine LeO.bind ?_ (fun _ => ?_)
    · intro y0 y1 y2 y3
      unfold isobathlaw02_MooringUnique.j3
      repeat' first
      | (with_reducible exact ih0 _ _ _ _ _)
      | (with_reducible exact ih1 _ _ _ _ _ _)
      | (with_reducible exact ih2 _ _ _ _ _ _)
      | (with_reducible exact ih3 _ _ _ _)
      | (with_reducible exact ih4 _ _ _ _)
      | (with_reducible exact ih5 _ _ _ _ _ _ _ _ _)
      | (with_reducible exact isobathlaw02_fine.mono _)
      | (with_reducible exact isobathref02_Apart.mono _ _ _)
      | (with_reducible exact mooring_Answers.mono _ _ _ _)
      | (with_reducible exact mooring_Spacing.mono _ _)
      | (with_reducible exact LeO.refl _)
      | (with_reducible exact LeO.none _)
      | (with_reducible refine LeO.ite ?_ ?_)
      | (with_reducible refine LeO.bind ?_ (fun _ => ?_))
      | exact ih0 _ _ _ _ _
      | exact ih1 _ _ _ _ _ _
      | exact ih2 _ _ _ _ _ _
      | exact ih3 _ _ _ _
      | exact ih4 _ _ _ _
      | exact ih5 _ _ _ _ _ _ _ _ _
      | exact isobathlaw02_fine.mono _
      | exact isobathref02_Apart.mono _ _ _
      | exact mooring_Answers.mono _ _ _ _
      | exact mooring_Spacing.mono _ _
      | exact LeO.none _
      | refine LeO.ite ?_ ?_
      | refine LeO.bind ?_ (fun _ => ?_)
    · intro y0 y1 y2 y3
      unfold isobathlaw02_MooringUnique.l1
      repeat' first
      | (with_reducible exact ih0 _ _ _ _ _)
      | (with_reducible exact ih1 _ _ _ _ _ _)
      | (with_reducible exact ih2 _ _ _ _ _ _)
      | (with_reducible exact ih3 _ _ _ _)
      | (with_reducible exact ih4 _ _ _ _)
      | (with_reducible exact ih5 _ _ _ _ _ _ _ _ _)
      | (with_reducible exact isobathlaw02_fine.mono _)
      | (with_reducible exact isobathref02_Apart.mono _ _ _)
      | (with_reducible exact mooring_Answers.mono _ _ _ _)
      | (with_reducible exact mooring_Spacing.mono _ _)
      | (with_reducible exact LeO.refl _)
      | (with_reducible exact LeO.none _)
      | (with_reducible refine LeO.ite ?_ ?_)
      | (with_reducible refine LeO.bind ?_ (fun _ => ?_))
      | exact ih0 _ _ _ _ _
      | exact ih1 _ _ _ _ _ _
      | exact ih2 _ _ _ _ _ _
      | exact ih3 _ _ _ _
      | exact ih4 _ _ _ _
      | exact ih5 _ _ _ _ _ _ _ _ _
      | exact isobathlaw02_fine.mono _
      | exact isobathref02_Apart.mono _ _ _
      | exact mooring_Answers.mono _ _ _ _
      | exact mooring_Spacing.mono _ _
      | exact LeO.none _
      | refine LeO.ite ?_ ?_
      | refine LeO.bind ?_ (fun _ => ?_)
    · intro y0 y1 y2 y3 y4 y5 y6 y7 y8
      unfold isobathlaw02_MooringUnique.l2
      repeat' first
      | (with_reducible exact ih0 _ _ _ _ _)
      | (with_reducible exact ih1 _ _ _ _ _ _)
      | (with_reducible exact ih2 _ _ _ _ _ _)
      | (with_reducible exact ih3 _ _ _ _)
      | (with_reducible exact ih4 _ _ _ _)
      | (with_reducible exact ih5 _ _ _ _ _ _ _ _ _)
      | (with_reducible exact isobathlaw02_fine.mono _)
      | (with_reducible exact isobathref02_Apart.mono _ _ _)
      | (with_reducible exact mooring_Answers.mono _ _ _ _)
      | (with_reducible exact mooring_Spacing.mono _ _)
      | (with_reducible exact LeO.refl _)
      | (with_reducible exact LeO.none _)
      | (with_reducible refine LeO.ite ?_ ?_)
      | (with_reducible refine LeO.bind ?_ (fun _ => ?_))
      | exact ih0 _ _ _ _ _
      | exact ih1 _ _ _ _ _ _
      | exact ih2 _ _ _ _ _ _
      | exact ih3 _ _ _ _
      | exact ih4 _ _ _ _
      | exact ih5 _ _ _ _ _ _ _ _ _
      | exact isobathlaw02_fine.mono _
      | exact isobathref02_Apart.mono _ _ _
      | exact mooring_Answers.mono _ _ _ _
      | exact mooring_Spacing.mono _ _
      | exact LeO.none _
      | refine LeO.ite ?_ ?_
      | refine LeO.bind ?_ (fun _ => ?_)
theorem isobathlaw02_MooringUnique.mono : ∀ a0 a1 a2 a3 k, LeO (isobathlaw02_MooringUnique.f k a0 a1 a2 a3) (isobathlaw02_MooringUnique.f (k + 1) a0 a1 a2 a3) := by
  intro a0 a1 a2 a3 k
  obtain ⟨ih0, ih1, ih2, ih3, ih4, ih5⟩ := isobathlaw02_MooringUnique.mono_l k
  unfold isobathlaw02_MooringUnique.f
  repeat' first
      | (with_reducible exact ih0 _ _ _ _ _)
      | (with_reducible exact ih1 _ _ _ _ _ _)
      | (with_reducible exact ih2 _ _ _ _ _ _)
      | (with_reducible exact ih3 _ _ _ _)
      | (with_reducible exact ih4 _ _ _ _)
      | (with_reducible exact ih5 _ _ _ _ _ _ _ _ _)
      | (with_reducible exact isobathlaw02_fine.mono _)
      | (with_reducible exact isobathref02_Apart.mono _ _ _)
      | (with_reducible exact mooring_Answers.mono _ _ _ _)
      | (with_reducible exact mooring_Spacing.mono _ _)
      | (with_reducible exact LeO.refl _)
      | (with_reducible exact LeO.none _)
      | (with_reducible refine LeO.ite ?_ ?_)
      | (with_reducible refine LeO.bind ?_ (fun _ => ?_))
      | exact ih0 _ _ _ _ _
      | exact ih1 _ _ _ _ _ _
      | exact ih2 _ _ _ _ _ _
      | exact ih3 _ _ _ _
      | exact ih4 _ _ _ _
      | exact ih5 _ _ _ _ _ _ _ _ _
      | exact isobathlaw02_fine.mono _
      | exact isobathref02_Apart.mono _ _ _
      | exact mooring_Answers.mono _ _ _ _
      | exact mooring_Spacing.mono _ _
      | exact LeO.none _
      | refine LeO.ite ?_ ?_
      | refine LeO.bind ?_ (fun _ => ?_)
set_option maxHeartbeats 8000000 in
set_option maxRecDepth 100000 in
theorem isobathlaw02_MooringUnique.calls (k : Nat) (A0 : Option Addr) (c0 : Nat) (l0 : List Int) (a1 : Int) (a2 : Int) (a3 : Int) (r : Bool) (w : World) (hr0 : Kd.C (Kd.int .u16) w A0 l0.length l0) (hc0 : l0.length ≤ c0) (h : isobathlaw02_MooringUnique.f k l0 a1 a2 a3 = some r) :
    Calls Try.prog 4 #[.slice A0 l0.length c0, .int .u16 a1, .int .u16 a2, .int .u16 a3] w fun e w' => e = .returned (.bool r) ∧ Below w.heap.size w w' := by
  have HR0 := Aside0.mk hr0
  have HC0 := Aside0.mk hc0
  clear hr0 hc0
  have HB := Aside0.mk (Below.refl w.heap.size w)
  have H : (if (l0.length : Int) < 2 then (isobathlaw02_MooringUnique.j0 k l0 a1 a2 a3 true) else (isobathlaw02_MooringUnique.j0 k l0 a1 a2 a3 (decide ((l0.length : Int) > 20)))) = some r := h
  clear h
  have HC5 := Aside0.mk H
  clear H
  go_enter Try.func4, Try.ntmps4
  go_upto_region 1 with (fail)
  go_cut [31] (fun v31 wc => ∃ (kq : Nat) (x31_4 : Bool), v31 = .bool x31_4 ∧ Aside0 (isobathlaw02_MooringUnique.j0 kq l0 a1 a2 a3 x31_4 = some r) ∧ Aside0 (kq ≤ k) ∧ Aside0 (Below w.heap.size w wc))
  case first =>
    have H := HC5.out
    clear HC5
    by_cases c6 : (l0.length : Int) < 2
    · rw [if_pos c6] at H
      have c6b0 : decide ((l0.length : Int) < 2) = true := decide_eq_true c6
      have c6b1 : decide (l0.length < 2) = true := decide_eq_true (by omega)
      clear c6
      (first | rw [c6b0] | (simp only [i64_w, i32_w]; rw [c6b0]) | skip)
      have H' := Aside0.mk H
      clear H
      go_wp2
      go_meet
      case rel => exact ⟨_, (true), (by first | rfl | (simp; done) | (simp [*]; done)), H', ⟨by first | omega | exact Nat.le_refl _⟩, ⟨by repeat (first | (with_reducible first | exact HB.out | apply below_alloc | apply pw_below_drewN | apply below_drew1) | exact HB.out)⟩⟩
    · rw [if_neg c6] at H
      have c6b0 : decide ((l0.length : Int) < 2) = false := decide_eq_false c6
      have c6b1 : decide (l0.length < 2) = false := decide_eq_false (by omega)
      clear c6
      (first | rw [c6b0] | (simp only [i64_w, i32_w]; rw [c6b0]) | skip)
      have H' := Aside0.mk H
      clear H
      go_wp2
      go_meet
      case rel => exact ⟨_, (decide ((l0.length : Int) > 20)), (by first | rfl | (simp; done) | (simp [*]; done)), H', ⟨by first | omega | exact Nat.le_refl _⟩, ⟨by repeat (first | (with_reducible first | exact HB.out | apply below_alloc | apply pw_below_drewN | apply below_drew1) | exact HB.out)⟩⟩
  case rest =>
    clear HC5
    try clear p2
    try clear c4
    try clear c6
    try clear c6b0
    try clear c6b1
    obtain ⟨kq, x31_4, rfl, HA, HJ4, HB⟩ := hcut
    cases kq with
    | zero => exact absurd HA.out (by simp [isobathlaw02_MooringUnique.j0])
    | succ kj4 =>
      have H := HA.out
      clear HA
      simp only [isobathlaw02_MooringUnique.j0] at H
      by_cases c7 : x31_4 = true
      · subst c7
        have H1 : ((isobathlaw02_fine.f kj4).bind fun t101 => (some t101)) = some r := by rw [if_pos rfl] at H; exact H
        clear H
        have H := H1
        clear H1
        replace H := Option.bind_eq_some_iff.mp H
        obtain ⟨t101, A80, H⟩ := H
        replace H : (some t101) = some r := H
        have A8 := Aside0.mk A80
        clear A80
        obtain rfl := Option.some.inj H
        go_wp2_with (first | ((with_reducible refine gate_callee (f := 14) rfl ?_); refine goesL_ (some 32) rfl rfl Try.func14 (by kernel_rfl) rfl #[] rfl (by (try simp only [List.map_toArray, List.map_cons, List.map_nil]); first | done | rfl | (simp only [List.length_drop, List.length_take]; rfl)) ?_; (with_reducible refine (isobathlaw02_fine.calls kj4  t101 _ A8.out).mono ?_); rintro e w9 ⟨rfl, hb⟩; refine ⟨_, rfl, ?_⟩; have n0_ := Aside0.mk (below_step (by repeat (first | (with_reducible first | exact HB.out | apply below_alloc | apply pw_below_drewN | apply below_drew1) | exact HB.out)) hb); clear HB; have HB := n0_; clear n0_; (try clear hb); (try clear hb2); (try clear hk); (try clear hi)))
        go_ret
        exact ⟨by first | rfl | (simp [errW_none, errW_some] <;> rfl) | (simp [*, errW_none, errW_some] <;> rfl), by repeat (first | (with_reducible first | exact HB.out | apply below_alloc | apply pw_below_drewN | apply below_drew1) | exact HB.out)⟩
      · replace c7 := Bool.eq_false_iff.mpr c7
        subst c7
        have H1 : (isobathlaw02_MooringUnique.l0 kj4 l0 a1 a2 a3 ([] : List Int) 0) = some r := by rw [if_neg (show ¬ (false = true) by decide)] at H; exact H
        clear H
        have H := H1
        clear H1
        have H' := Aside0.mk H
        clear H
        go_wp2
        go_loopg [9, 10] kj4 (fun kq v9 v10 w' => ∃ (x9_2 : List Int) (x10_2 : Int), v10 = .int .i64 x10_2 ∧ Aside0 (isobathlaw02_MooringUnique.l0 kq l0 a1 a2 a3 x9_2 x10_2 = some r) ∧ Aside0 (kq ≤ kj4) ∧ Aside0 (Kd.R (Kd.int .i64) 3 w' w.heap.size (fun _ => True) v9 x9_2) ∧ Aside0 (Below w.heap.size w w'))
        case atStart => exact ⟨(([] : List Int)), (0), (by first | rfl | (simp; done) | (simp [*]; done)), H', ⟨Nat.le_refl _⟩, ⟨by first | exact Kd.R_nil _ _ _ _ _ | exact Kd.N_nil _ _ _ _ _ | exact Kd.V_nil _ _ _ _ _ | exact Kd.Q_nil _ _ _ _ _ | exact Kd.S_nil _ _ _ _ _⟩, ⟨by repeat (first | (with_reducible first | exact HB.out | apply below_alloc | apply pw_below_drewN | apply below_drew1) | exact HB.out)⟩⟩
        case round =>
          clear H'
          try clear c1
          try clear p2
          try clear c4
          try clear c6
          try clear c6b0
          try clear c6b1
          try clear c7
          try clear p2
          obtain ⟨x9_2, x10_2, rfl, HA, HK2, HO_9, HB⟩ := hrel
          cases gk with
          | zero => exact absurd HA.out (by simp [isobathlaw02_MooringUnique.l0])
          | succ k2 =>
            have H := HA.out
            clear HA
            simp only [isobathlaw02_MooringUnique.l0] at H
            by_cases c10 : x10_2 < (l0.length : Int)
            · rw [if_pos c10] at H
              have c10b0 : decide (x10_2 < (l0.length : Int)) = true := decide_eq_true c10
              clear c10
              by_cases c11 : 0 ≤ x10_2
              · rw [if_pos c11] at H
                have c11b0 : decide (0 ≤ x10_2) = true := decide_eq_true c11
                clear c11
                by_cases c12 : x9_2.length < 17592186044416
                · rw [if_pos c12] at H
                  have LMc12 := Aside0.mk c12
                  clear c12
                  obtain ⟨y103, hy103⟩ : ∃ y_ : List Int, y_ = (x9_2 ++ [wrap64 (rd l0 x10_2)]) := ⟨_, rfl⟩
                  replace H : (isobathlaw02_MooringUnique.l0 k2 l0 a1 a2 a3 y103 (wrap64 (x10_2 + 1))) = some r := by first | (rw [hy103]; with_reducible exact H) | (have H2_ := (Option.bind_some _ _).symm.trans H; rw [hy103]; with_reducible exact H2_) | (have H2_ := (Option.bind_some _ _).symm.trans H; with_reducible exact H2_) | with_reducible exact H | (rw [hy103]; exact H) | exact H
                  have Ny103 := Aside0.mk hy103
                  clear hy103
                  have H' := Aside0.mk H
                  clear H
                  have p102 : 0 ≤ (x10_2 : Int) := of_decide_eq_true (by first | (with_reducible assumption) | assumption)
                  have q102 : x10_2 < (l0.length : Int) := of_decide_eq_true (by first | (with_reducible assumption) | assumption)
                  obtain ⟨ad102, e102, hx102_0⟩ := Kd.at_int HR0.out x10_2 p102 q102
                  cases e102
                  replace hx102_0 := (HB.out.cell (World.block_lt_of_cell? w _ hx102_0)).trans hx102_0
                  replace p102 := eq_true p102
                  replace q102 := eq_true q102
                  go_wp2_with (first | ((with_reducible refine gate_builtin (b := .append) (xs := #[.tmp 39, .tmp 45]) rfl ?_); (try (refine gate_guard (by rfl) ?_; dsimp only)); at_builtin; refine Kd.R_append (Kd.int .i64) (w0 := w) w.heap.size rfl (.tmp 39) (.tmp 45) 22 3 (.int .i64 0) 8 rfl Try.underlying22 info3 rfl (by decide) (by omega) u9 x9_2 (wrap64 (rd l0 x10_2)) [.int .i64 (wrap64 (rd l0 x10_2))] (fun _ => True) (fun _ => False) rfl rfl ?aP (fun _ hk => hk.elim) ?aF ?aO ?aB ?aS ?aL ?_; (case aP => exact rfl); (case aB => exact (by repeat (first | (with_reducible first | exact HB.out | apply below_alloc | apply pw_below_drewN | apply below_drew1) | exact HB.out))); (case aF => exact (fun _ _ => trivial)); (case aO => exact (by (with_reducible repeat (first | apply Kd.R_alloc | apply Kd.R_drewN | apply Kd.R_drew)); exact HO_9.out)); (case aS => exact (below_size (by repeat (first | (with_reducible first | exact HB.out | apply below_alloc | apply pw_below_drewN | apply below_drew1) | exact HB.out)))); (case aL => have := LMc12.out; omega); intro v104 w13 ho hb hg hat; rw [← Ny103.out] at ho; have n0_ := Aside0.mk (hb); have n1_ := Aside0.mk (ho); clear HB; clear HO_9; have HB := n0_; have HO105 := n1_; clear n0_ n1_; clear ho hb hg hat))
                  go_roundg k2
                  case measure => have := HJ4.out; have := HK2.out; omega
                  case rel => exact ⟨(y103), (wrap64 (x10_2 + 1)), (by first | rfl | (simp; done) | (simp [*]; done)), H', ⟨by have := HJ4.out; have := HK2.out; omega⟩, ⟨by (with_reducible repeat (first | apply Kd.R_alloc | apply Kd.R_drewN | apply Kd.R_drew)); exact HO105.out⟩, ⟨by repeat (first | (with_reducible first | exact HB.out | apply below_alloc | apply pw_below_drewN | apply below_drew1) | exact HB.out)⟩⟩
                · rw [if_neg c12] at H
                  exact absurd H (by simp)
              · rw [if_neg c11] at H
                exact absurd H (by simp)
            · rw [if_neg c10] at H
              have c10b0 : decide (x10_2 < (l0.length : Int)) = false := decide_eq_false c10
              clear c10
              replace H := Option.bind_eq_some_iff.mp H
              obtain ⟨⟨t106, t107⟩, A140, H⟩ := H
              replace H : (if t107 = 0 then (if t106 < 0 then (isobathlaw02_MooringUnique.j2 k2 a1 a2 a3 x9_2 t106 true) else (isobathlaw02_MooringUnique.j2 k2 a1 a2 a3 x9_2 t106 (decide (t106 > 16)))) else (isobathlaw02_MooringUnique.j2 k2 a1 a2 a3 x9_2 t106 true)) = some r := H
              have A14 := Aside0.mk A140
              clear A140
              have HC15 := Aside0.mk H
              clear H
              obtain ⟨Ao16, co16, eo16⟩ := Kd.R_slice HO_9.out
              subst eo16
              go_upto_region 9 with (first | ((with_reducible refine gate_callee (f := 15) rfl ?_); refine goesL_ (some 49) rfl rfl Try.func15 (by kernel_rfl) rfl #[.slice Ao16 x9_2.length co16] rfl (by (try simp only [List.map_toArray, List.map_cons, List.map_nil]); first | done | rfl | (simp only [List.length_drop, List.length_take]; rfl)) ?_; (with_reducible refine (mooring_Spacing.calls k2 _ _ x9_2 t106 t107 _ ?side1 ?side2 A14.out).mono ?_); (case side1 => repeat (first | exact (Kd.R_reads' HO_9.out).2.2 | (with_reducible refine Kd.C_alloc ?_ _) | (with_reducible refine Kd.C_drewN ?_ _) | (with_reducible refine Kd.C_drew ?_))); (case side2 => exact (Kd.R_reads' HO_9.out).2.1); rintro e w17 ⟨rfl, hb⟩; refine ⟨_, rfl, ?_⟩; have n0_ := Aside0.mk (Kd.R_below (by (with_reducible repeat (first | apply Kd.R_alloc | apply Kd.R_drewN | apply Kd.R_drew)); exact HO_9.out) hb); have n1_ := Aside0.mk (below_step (by repeat (first | (with_reducible first | exact HB.out | apply below_alloc | apply pw_below_drewN | apply below_drew1) | exact HB.out)) hb); clear HO_9; clear HB; have HO_9 := n0_; have HB := n1_; clear n0_ n1_; (try clear hb); (try clear hb2); (try clear hk); (try clear hi)))
              (try simp only [Act.put, List.setIfInBounds_toArray, List.set_cons_zero, List.set_cons_succ])
              go_cut [61] (fun v61 wc => ∃ (kq : Nat) (x61_14 : Bool), v61 = .bool x61_14 ∧ Aside0 (isobathlaw02_MooringUnique.j2 kq a1 a2 a3 x9_2 t106 x61_14 = some r) ∧ Aside0 (kq ≤ k2) ∧ Aside0 (Kd.R (Kd.int .i64) 3 wc w.heap.size (fun _ => True) (.slice Ao16 x9_2.length co16) x9_2) ∧ Aside0 (Below w.heap.size w wc))
              case first =>
                have H := HC15.out
                clear HC15
                by_cases c18 : t107 = 0
                · rw [if_pos c18] at H
                  have c18b0 : (t107 == 0) = true := beq_iff_eq.mpr c18
                  have c18b1 : (t107 != 0) = false := bne_eq_false_iff_eq.mpr c18
                  clear c18
                  (first | rw [c18b0] | (simp only [i64_w, i32_w]; rw [c18b0]) | skip)
                  by_cases c19 : t106 < 0
                  · rw [if_pos c19] at H
                    have c19b0 : decide (t106 < 0) = true := decide_eq_true c19
                    clear c19
                    have H' := Aside0.mk H
                    clear H
                    go_wp2
                    go_meet
                    case rel => exact ⟨_, (true), (by first | rfl | (simp; done) | (simp [*]; done)), H', ⟨by have := HJ4.out; have := HK2.out; first | omega | exact Nat.le_refl _⟩, ⟨by (with_reducible repeat (first | apply Kd.R_alloc | apply Kd.R_drewN | apply Kd.R_drew)); exact HO_9.out⟩, ⟨by repeat (first | (with_reducible first | exact HB.out | apply below_alloc | apply pw_below_drewN | apply below_drew1) | exact HB.out)⟩⟩
                  · rw [if_neg c19] at H
                    have c19b0 : decide (t106 < 0) = false := decide_eq_false c19
                    clear c19
                    have H' := Aside0.mk H
                    clear H
                    go_wp2
                    go_meet
                    case rel => exact ⟨_, (decide (t106 > 16)), (by first | rfl | (simp; done) | (simp [*]; done)), H', ⟨by have := HJ4.out; have := HK2.out; first | omega | exact Nat.le_refl _⟩, ⟨by (with_reducible repeat (first | apply Kd.R_alloc | apply Kd.R_drewN | apply Kd.R_drew)); exact HO_9.out⟩, ⟨by repeat (first | (with_reducible first | exact HB.out | apply below_alloc | apply pw_below_drewN | apply below_drew1) | exact HB.out)⟩⟩
                · rw [if_neg c18] at H
                  have c18b0 : (t107 == 0) = false := beq_eq_false_iff_ne.mpr c18
                  have c18b1 : (t107 != 0) = true := bne_iff_ne.mpr c18
                  (first | rw [c18b0] | (simp only [i64_w, i32_w]; rw [c18b0]) | skip)
                  have H' := Aside0.mk H
                  clear H
                  go_wp2
                  go_meet
                  case rel => exact ⟨_, (true), (by first | rfl | (simp; done) | (simp [*]; done)), H', ⟨by have := HJ4.out; have := HK2.out; first | omega | exact Nat.le_refl _⟩, ⟨by (with_reducible repeat (first | apply Kd.R_alloc | apply Kd.R_drewN | apply Kd.R_drew)); exact HO_9.out⟩, ⟨by repeat (first | (with_reducible first | exact HB.out | apply below_alloc | apply pw_below_drewN | apply below_drew1) | exact HB.out)⟩⟩
              case rest =>
                clear HC15
                try clear c1
                try clear p1
                try clear q1
                try clear hx1
                try clear p2
                try clear c4
                try clear c6
                try clear c6b0
                try clear c6b1
                try clear p6
                try clear c7
                try clear c10
                try clear c10b0
                try clear p10
                try clear q10
                try clear hx10
                try clear c11
                try clear c11b0
                try clear c12
                try clear c14
                try clear c15
                try clear c18
                try clear c18b0
                try clear c18b1
                try clear c19
                try clear c19b0
                try clear hx102_0
                try clear p102
                try clear p2
                try clear q102
                obtain ⟨kq, x61_14, rfl, HA, HJ14, HO_9, HB⟩ := hcut
                cases kq with
                | zero => exact absurd HA.out (by simp [isobathlaw02_MooringUnique.j2])
                | succ kj14 =>
                  have H := HA.out
                  clear HA
                  simp only [isobathlaw02_MooringUnique.j2] at H
                  by_cases c20 : x61_14 = true
                  · subst c20
                    have H1 : (some false) = some r := by rw [if_pos rfl] at H; exact H
                    clear H
                    have H := H1
                    clear H1
                    obtain rfl := Option.some.inj H
                    go_wp2
                    go_ret
                    exact ⟨by first | rfl | (simp [errW_none, errW_some] <;> rfl) | (simp [*, errW_none, errW_some] <;> rfl), by repeat (first | (with_reducible first | exact HB.out | apply below_alloc | apply pw_below_drewN | apply below_drew1) | exact HB.out)⟩
                  · replace c20 := Bool.eq_false_iff.mpr c20
                    subst c20
                    have H1 : ((mooring_Answers.f kj14 x9_2 (wrap64 (a1)) (Int.tmod (wrap64 (a2)) 17)).bind fun bt108 => ((mooring_Answers.f kj14 x9_2 (wrap64 (a1)) (mn 16 (wrap64 ((Int.tmod (wrap64 (a2)) 17) + 1)))).bind fun bt112 => (if bt108.2 = 0 then (if bt112.2 = 0 then (if (bt108.1.length : Int) > (bt112.1.length : Int) then (isobathlaw02_MooringUnique.j3 kj14 a3 x9_2 t106 true) else (if (wrap64 ((wrap64 (2 * (Int.tmod (wrap64 (a2)) 17))) + 1)) ≤ t106 then (isobathlaw02_MooringUnique.j3 kj14 a3 x9_2 t106 (decide ((bt108.1.length : Int) > 1))) else (isobathlaw02_MooringUnique.j3 kj14 a3 x9_2 t106 false))) else (isobathlaw02_MooringUnique.j3 kj14 a3 x9_2 t106 true)) else (isobathlaw02_MooringUnique.j3 kj14 a3 x9_2 t106 true)))) = some r := by rw [if_neg (show ¬ (false = true) by decide)] at H; exact H
                    clear H
                    have H := H1
                    clear H1
                    replace H := Option.bind_eq_some_iff.mp H
                    obtain ⟨⟨t108, t109⟩, A210, H⟩ := H
                    replace H : ((mooring_Answers.f kj14 x9_2 (wrap64 (a1)) (mn 16 (wrap64 ((Int.tmod (wrap64 (a2)) 17) + 1)))).bind fun bt112 => (if t109 = 0 then (if bt112.2 = 0 then (if (t108.length : Int) > (bt112.1.length : Int) then (isobathlaw02_MooringUnique.j3 kj14 a3 x9_2 t106 true) else (if (wrap64 ((wrap64 (2 * (Int.tmod (wrap64 (a2)) 17))) + 1)) ≤ t106 then (isobathlaw02_MooringUnique.j3 kj14 a3 x9_2 t106 (decide ((t108.length : Int) > 1))) else (isobathlaw02_MooringUnique.j3 kj14 a3 x9_2 t106 false))) else (isobathlaw02_MooringUnique.j3 kj14 a3 x9_2 t106 true)) else (isobathlaw02_MooringUnique.j3 kj14 a3 x9_2 t106 true))) = some r := H
                    have A21 := Aside0.mk A210
                    clear A210
                    obtain ⟨ji22, hji22⟩ : ∃ j_ : Int, (mn 16 (wrap64 ((Int.tmod (wrap64 (a2)) 17) + 1))) = j_ := ⟨_, rfl⟩
                    replace H : ((mooring_Answers.f kj14 x9_2 (wrap64 (a1)) (ji22)).bind fun bt112 => (if t109 = 0 then (if bt112.2 = 0 then (if (t108.length : Int) > (bt112.1.length : Int) then (isobathlaw02_MooringUnique.j3 kj14 a3 x9_2 t106 true) else (if (wrap64 ((wrap64 (2 * (Int.tmod (wrap64 (a2)) 17))) + 1)) ≤ t106 then (isobathlaw02_MooringUnique.j3 kj14 a3 x9_2 t106 (decide ((t108.length : Int) > 1))) else (isobathlaw02_MooringUnique.j3 kj14 a3 x9_2 t106 false))) else (isobathlaw02_MooringUnique.j3 kj14 a3 x9_2 t106 true)) else (isobathlaw02_MooringUnique.j3 kj14 a3 x9_2 t106 true))) = some r := by first | (rw [hji22] at H; exact H) | (simp only [hji22] at H ⊢; exact H)
                    (try rw [hji22] at A21)
                    have hji22_ : (if (wrap64 ((Int.tmod (wrap64 (a2)) 17) + 1)) < 16 then (wrap64 ((Int.tmod (wrap64 (a2)) 17) + 1)) else 16) = ji22 := hji22
                    replace H := Option.bind_eq_some_iff.mp H
                    obtain ⟨⟨t112, t113⟩, A230, H⟩ := H
                    replace H : (if t109 = 0 then (if t113 = 0 then (if (t108.length : Int) > (t112.length : Int) then (isobathlaw02_MooringUnique.j3 kj14 a3 x9_2 t106 true) else (if (wrap64 ((wrap64 (2 * (Int.tmod (wrap64 (a2)) 17))) + 1)) ≤ t106 then (isobathlaw02_MooringUnique.j3 kj14 a3 x9_2 t106 (decide ((t108.length : Int) > 1))) else (isobathlaw02_MooringUnique.j3 kj14 a3 x9_2 t106 false))) else (isobathlaw02_MooringUnique.j3 kj14 a3 x9_2 t106 true)) else (isobathlaw02_MooringUnique.j3 kj14 a3 x9_2 t106 true)) = some r := H
                    have A23 := Aside0.mk A230
                    clear A230
                    have HC24 := Aside0.mk H
                    clear H
                    go_upto_region 14 with (first | ((with_reducible refine gate_callee (f := 17) rfl ?_); refine goesL_ (some 70) rfl rfl Try.func17 (by kernel_rfl) rfl #[.slice Ao16 x9_2.length co16, .int .i64 (wrap64 (a1)), .int .i64 (Int.tmod (wrap64 (a2)) 17)] rfl (by (try simp only [List.map_toArray, List.map_cons, List.map_nil]); first | done | rfl | (simp only [List.length_drop, List.length_take]; rfl)) ?_; (with_reducible refine (mooring_Answers.calls kj14 _ _ x9_2 (wrap64 (a1)) (Int.tmod (wrap64 (a2)) 17) t108 t109 _ ?side1 ?side2 A21.out).mono ?_); (case side1 => repeat (first | exact (Kd.R_reads' HO_9.out).2.2 | (with_reducible refine Kd.C_alloc ?_ _) | (with_reducible refine Kd.C_drewN ?_ _) | (with_reducible refine Kd.C_drew ?_))); (case side2 => exact (Kd.R_reads' HO_9.out).2.1); rintro e w25 ⟨v110, rfl, ho0, hb⟩; refine ⟨_, rfl, ?_⟩; have n0_ := Aside0.mk (Kd.R_elder' (by (with_reducible repeat (first | apply Kd.R_alloc | apply Kd.R_drewN | apply Kd.R_drew)); exact HO_9.out) (Kd.R_base ho0) hb); have n1_ := Aside0.mk (Kd.R_lower (Kd.R_new' ho0 (Kd.R_lt (by (with_reducible repeat (first | apply Kd.R_alloc | apply Kd.R_drewN | apply Kd.R_drew)); exact HO_9.out))) (below_size (by repeat (first | (with_reducible first | exact HB.out | apply below_alloc | apply pw_below_drewN | apply below_drew1) | exact HB.out)))); have n2_ := Aside0.mk (below_step (by repeat (first | (with_reducible first | exact HB.out | apply below_alloc | apply pw_below_drewN | apply below_drew1) | exact HB.out)) hb); clear HO_9; clear HB; have HO_9 := n0_; have HO111 := n1_; have HB := n2_; clear n0_ n1_ n2_; (try clear hb); (try clear hb2); (try clear hk); (try clear hi); (try clear ho0)) | ((with_reducible refine gate_callee (f := 17) rfl ?_); refine goesL_ (some 80) rfl rfl Try.func17 (by kernel_rfl) rfl #[.slice Ao16 x9_2.length co16, .int .i64 (wrap64 (a1)), .int .i64 ji22] rfl (by (try simp only [List.map_toArray, List.map_cons, List.map_nil]); first | done | (simp only [hji22]; rfl) | rfl | (simp only [List.length_drop, List.length_take]; rfl)) ?_; (with_reducible refine (mooring_Answers.calls kj14 _ _ x9_2 (wrap64 (a1)) ji22 t112 t113 _ ?side1 ?side2 A23.out).mono ?_); (case side1 => repeat (first | exact (Kd.R_reads' HO_9.out).2.2 | (with_reducible refine Kd.C_alloc ?_ _) | (with_reducible refine Kd.C_drewN ?_ _) | (with_reducible refine Kd.C_drew ?_))); (case side2 => exact (Kd.R_reads' HO_9.out).2.1); rintro e w26 ⟨v114, rfl, ho0, hb⟩; refine ⟨_, rfl, ?_⟩; have n0_ := Aside0.mk (Kd.R_elder' (by (with_reducible repeat (first | apply Kd.R_alloc | apply Kd.R_drewN | apply Kd.R_drew)); exact HO_9.out) (Kd.R_base ho0) hb); have n1_ := Aside0.mk (Kd.R_elder' (by (with_reducible repeat (first | apply Kd.R_alloc | apply Kd.R_drewN | apply Kd.R_drew)); exact HO111.out) (Kd.R_base ho0) hb); have n2_ := Aside0.mk (Kd.R_lower (Kd.R_new' (Kd.R_new' ho0 (Kd.R_lt (by (with_reducible repeat (first | apply Kd.R_alloc | apply Kd.R_drewN | apply Kd.R_drew)); exact HO_9.out))) (Kd.R_lt (by (with_reducible repeat (first | apply Kd.R_alloc | apply Kd.R_drewN | apply Kd.R_drew)); exact HO111.out))) (below_size (by repeat (first | (with_reducible first | exact HB.out | apply below_alloc | apply pw_below_drewN | apply below_drew1) | exact HB.out)))); have n3_ := Aside0.mk (below_step (by repeat (first | (with_reducible first | exact HB.out | apply below_alloc | apply pw_below_drewN | apply below_drew1) | exact HB.out)) hb); clear HO_9; clear HO111; clear HB; have HO_9 := n0_; have HO111 := n1_; have HO115 := n2_; have HB := n3_; clear n0_ n1_ n2_ n3_; (try clear hb); (try clear hb2); (try clear hk); (try clear hi); (try clear ho0)))
                    (try simp only [Act.put, List.setIfInBounds_toArray, List.set_cons_zero, List.set_cons_succ])
                    go_cut [107] (fun v107 wc => ∃ (kq : Nat) (x107_23 : Bool), v107 = .bool x107_23 ∧ Aside0 (isobathlaw02_MooringUnique.j3 kq a3 x9_2 t106 x107_23 = some r) ∧ Aside0 (kq ≤ kj14) ∧ Aside0 (Kd.R (Kd.int .i64) 3 wc w.heap.size (fun _ => True) (.slice Ao16 x9_2.length co16) x9_2) ∧ Aside0 (Below w.heap.size w wc))
                    case first =>
                      have H := HC24.out
                      clear HC24
                      by_cases c27 : t109 = 0
                      · rw [if_pos c27] at H
                        have c27b0 : (t109 == 0) = true := beq_iff_eq.mpr c27
                        have c27b1 : (t109 != 0) = false := bne_eq_false_iff_eq.mpr c27
                        clear c27
                        (first | rw [c27b0] | (simp only [i64_w, i32_w]; rw [c27b0]) | skip)
                        by_cases c28 : t113 = 0
                        · rw [if_pos c28] at H
                          have c28b0 : (t113 == 0) = true := beq_iff_eq.mpr c28
                          have c28b1 : (t113 != 0) = false := bne_eq_false_iff_eq.mpr c28
                          clear c28
                          by_cases c29 : (t108.length : Int) > (t112.length : Int)
                          · rw [if_pos c29] at H
                            have c29b0 : decide ((t112.length : Int) < (t108.length : Int)) = true := decide_eq_true c29
                            have c29b1 : decide (t112.length < t108.length) = true := decide_eq_true (Int.ofNat_lt.mp c29)
                            clear c29
                            have H' := Aside0.mk H
                            clear H
                            obtain ⟨Ao30, co30, eo30⟩ := Kd.R_slice HO111.out
                            subst eo30
                            obtain ⟨Ao31, co31, eo31⟩ := Kd.R_slice HO115.out
                            subst eo31
                            go_wp2
                            go_meet
                            case rel => exact ⟨_, (true), (by first | rfl | (simp; done) | (simp [*]; done)), H', ⟨by have := HJ4.out; have := HK2.out; have := HJ14.out; first | omega | exact Nat.le_refl _⟩, ⟨by (with_reducible repeat (first | apply Kd.R_alloc | apply Kd.R_drewN | apply Kd.R_drew)); exact Kd.R_mono HO_9.out (fun _ hk => trivial)⟩, ⟨by repeat (first | (with_reducible first | exact HB.out | apply below_alloc | apply pw_below_drewN | apply below_drew1) | exact HB.out)⟩⟩
                          · rw [if_neg c29] at H
                            have c29b0 : decide ((t112.length : Int) < (t108.length : Int)) = false := decide_eq_false c29
                            have c29b1 : decide (t112.length < t108.length) = false := decide_eq_false (fun h => c29 (Int.ofNat_lt.mpr h))
                            clear c29
                            by_cases c32 : (wrap64 ((wrap64 (2 * (Int.tmod (wrap64 (a2)) 17))) + 1)) ≤ t106
                            · rw [if_pos c32] at H
                              have c32b0 : decide ((wrap64 ((wrap64 (2 * (Int.tmod (wrap64 (a2)) 17))) + 1)) ≤ t106) = true := decide_eq_true c32
                              clear c32
                              have H' := Aside0.mk H
                              clear H
                              obtain ⟨Ao33, co33, eo33⟩ := Kd.R_slice HO111.out
                              subst eo33
                              obtain ⟨Ao34, co34, eo34⟩ := Kd.R_slice HO115.out
                              subst eo34
                              go_wp2
                              go_meet
                              case rel => exact ⟨_, (decide ((t108.length : Int) > 1)), (by first | rfl | (simp; done) | (simp [*]; done)), H', ⟨by have := HJ4.out; have := HK2.out; have := HJ14.out; first | omega | exact Nat.le_refl _⟩, ⟨by (with_reducible repeat (first | apply Kd.R_alloc | apply Kd.R_drewN | apply Kd.R_drew)); exact Kd.R_mono HO_9.out (fun _ hk => trivial)⟩, ⟨by repeat (first | (with_reducible first | exact HB.out | apply below_alloc | apply pw_below_drewN | apply below_drew1) | exact HB.out)⟩⟩
                            · rw [if_neg c32] at H
                              have c32b0 : decide ((wrap64 ((wrap64 (2 * (Int.tmod (wrap64 (a2)) 17))) + 1)) ≤ t106) = false := decide_eq_false c32
                              clear c32
                              have H' := Aside0.mk H
                              clear H
                              obtain ⟨Ao35, co35, eo35⟩ := Kd.R_slice HO111.out
                              subst eo35
                              obtain ⟨Ao36, co36, eo36⟩ := Kd.R_slice HO115.out
                              subst eo36
                              go_wp2
                              go_meet
                              case rel => exact ⟨_, (false), (by first | rfl | (simp; done) | (simp [*]; done)), H', ⟨by have := HJ4.out; have := HK2.out; have := HJ14.out; first | omega | exact Nat.le_refl _⟩, ⟨by (with_reducible repeat (first | apply Kd.R_alloc | apply Kd.R_drewN | apply Kd.R_drew)); exact Kd.R_mono HO_9.out (fun _ hk => trivial)⟩, ⟨by repeat (first | (with_reducible first | exact HB.out | apply below_alloc | apply pw_below_drewN | apply below_drew1) | exact HB.out)⟩⟩
                        · rw [if_neg c28] at H
                          have c28b0 : (t113 == 0) = false := beq_eq_false_iff_ne.mpr c28
                          have c28b1 : (t113 != 0) = true := bne_iff_ne.mpr c28
                          have H' := Aside0.mk H
                          clear H
                          go_wp2
                          go_meet
                          case rel => exact ⟨_, (true), (by first | rfl | (simp; done) | (simp [*]; done)), H', ⟨by have := HJ4.out; have := HK2.out; have := HJ14.out; first | omega | exact Nat.le_refl _⟩, ⟨by (with_reducible repeat (first | apply Kd.R_alloc | apply Kd.R_drewN | apply Kd.R_drew)); exact Kd.R_mono HO_9.out (fun _ hk => trivial)⟩, ⟨by repeat (first | (with_reducible first | exact HB.out | apply below_alloc | apply pw_below_drewN | apply below_drew1) | exact HB.out)⟩⟩
                      · rw [if_neg c27] at H
                        have c27b0 : (t109 == 0) = false := beq_eq_false_iff_ne.mpr c27
                        have c27b1 : (t109 != 0) = true := bne_iff_ne.mpr c27
                        (first | rw [c27b0] | (simp only [i64_w, i32_w]; rw [c27b0]) | skip)
                        have H' := Aside0.mk H
                        clear H
                        go_wp2
                        go_meet
                        case rel => exact ⟨_, (true), (by first | rfl | (simp; done) | (simp [*]; done)), H', ⟨by have := HJ4.out; have := HK2.out; have := HJ14.out; first | omega | exact Nat.le_refl _⟩, ⟨by (with_reducible repeat (first | apply Kd.R_alloc | apply Kd.R_drewN | apply Kd.R_drew)); exact Kd.R_mono HO_9.out (fun _ hk => trivial)⟩, ⟨by repeat (first | (with_reducible first | exact HB.out | apply below_alloc | apply pw_below_drewN | apply below_drew1) | exact HB.out)⟩⟩
                    case rest =>
                      clear HC24
                      try clear c1
                      try clear p1
                      try clear q1
                      try clear hx1
                      try clear c2
                      try clear p2
                      try clear c3
                      try clear c4
                      try clear c6
                      try clear c6b0
                      try clear c6b1
                      try clear p6
                      try clear c7
                      try clear c10
                      try clear c10b0
                      try clear p10
                      try clear q10
                      try clear hx10
                      try clear c11
                      try clear c11b0
                      try clear c12
                      try clear c14
                      try clear c15
                      try clear c17
                      try clear c18
                      try clear c18b0
                      try clear c18b1
                      try clear c19
                      try clear c19b0
                      try clear c20
                      try clear c27
                      try clear c27b0
                      try clear c27b1
                      try clear c28
                      try clear c28b0
                      try clear c28b1
                      try clear c29
                      try clear c29b0
                      try clear c29b1
                      try clear c32
                      try clear c32b0
                      try clear hx102_0
                      try clear p1
                      try clear p10
                      try clear p102
                      try clear p2
                      try clear p6
                      try clear q1
                      try clear q10
                      try clear q102
                      obtain ⟨kq, x107_23, rfl, HA, HJ23, HO_9, HB⟩ := hcut
                      cases kq with
                      | zero => exact absurd HA.out (by simp [isobathlaw02_MooringUnique.j3])
                      | succ kj23 =>
                        have H := HA.out
                        clear HA
                        simp only [isobathlaw02_MooringUnique.j3] at H
                        by_cases c37 : x107_23 = true
                        · subst c37
                          have H1 : (some false) = some r := by rw [if_pos rfl] at H; exact H
                          clear H
                          have H := H1
                          clear H1
                          obtain rfl := Option.some.inj H
                          go_wp2
                          go_ret
                          exact ⟨by first | rfl | (simp [errW_none, errW_some] <;> rfl) | (simp only [← hji22]; first | rfl | (simp [errW_none, errW_some] <;> rfl)) | (simp [*, errW_none, errW_some] <;> rfl), by repeat (first | (with_reducible first | exact HB.out | apply below_alloc | apply pw_below_drewN | apply below_drew1) | exact HB.out)⟩
                        · replace c37 := Bool.eq_false_iff.mpr c37
                          subst c37
                          have H1 : (isobathlaw02_MooringUnique.l1 kj23 a3 x9_2 t106 0) = some r := by rw [if_neg (show ¬ (false = true) by decide)] at H; exact H
                          clear H
                          have H := H1
                          clear H1
                          have H' := Aside0.mk H
                          clear H
                          go_wp2
                          go_loopg [17] kj23 (fun kq v17 w' => ∃ (x17_5 : Int), v17 = .int .i64 x17_5 ∧ Aside0 (isobathlaw02_MooringUnique.l1 kq a3 x9_2 t106 x17_5 = some r) ∧ Aside0 (kq ≤ kj23) ∧ Aside0 (Kd.R (Kd.int .i64) 3 w' w.heap.size (fun _ => True) (.slice Ao16 x9_2.length co16) x9_2) ∧ Aside0 (Below w.heap.size w w'))
                          case atStart => exact ⟨(0), (by first | rfl | (simp; done) | (simp [*]; done)), H', ⟨Nat.le_refl _⟩, ⟨by (with_reducible repeat (first | apply Kd.R_alloc | apply Kd.R_drewN | apply Kd.R_drew)); exact HO_9.out⟩, ⟨by repeat (first | (with_reducible first | exact HB.out | apply below_alloc | apply pw_below_drewN | apply below_drew1) | exact HB.out)⟩⟩
                          case round =>
                            clear H'
                            try clear c1
                            try clear p1
                            try clear q1
                            try clear hx1
                            try clear c2
                            try clear p2
                            try clear c3
                            try clear c4
                            try clear c6
                            try clear c6b0
                            try clear c6b1
                            try clear p6
                            try clear c7
                            try clear c10
                            try clear c10b0
                            try clear p10
                            try clear q10
                            try clear hx10
                            try clear c11
                            try clear c11b0
                            try clear c12
                            try clear c14
                            try clear c15
                            try clear c17
                            try clear c18
                            try clear c18b0
                            try clear c18b1
                            try clear c19
                            try clear c19b0
                            try clear c20
                            try clear c27
                            try clear c27b0
                            try clear c27b1
                            try clear c28
                            try clear c28b0
                            try clear c28b1
                            try clear c29
                            try clear c29b0
                            try clear c29b1
                            try clear c32
                            try clear c32b0
                            try clear c37
                            try clear hx102_0
                            try clear p1
                            try clear p10
                            try clear p102
                            try clear p2
                            try clear p6
                            try clear q1
                            try clear q10
                            try clear q102
                            obtain ⟨x17_5, rfl, HA, HK5, HO_9, HB⟩ := hrel
                            cases gk with
                            | zero => exact absurd HA.out (by simp [isobathlaw02_MooringUnique.l1])
                            | succ k5 =>
                              have H := HA.out
                              clear HA
                              simp only [isobathlaw02_MooringUnique.l1] at H
                              by_cases c38 : x17_5 < (x9_2.length : Int)
                              · rw [if_pos c38] at H
                                have c38b0 : decide (x17_5 < (x9_2.length : Int)) = true := decide_eq_true c38
                                clear c38
                                by_cases c39 : 0 ≤ x17_5
                                · rw [if_pos c39] at H
                                  have c39b0 : decide (0 ≤ x17_5) = true := decide_eq_true c39
                                  clear c39
                                  replace H := Option.bind_eq_some_iff.mp H
                                  obtain ⟨t119, A400, H⟩ := H
                                  replace H : ((mooring_Answers.f k5 x9_2 (Go.bits .xor .i64 (rd x9_2 x17_5) (wrap64 (a3))) t119).bind fun bt120 => (isobathlaw02_MooringUnique.l2 k5 a3 x9_2 t106 x17_5 t119 bt120.1 bt120.2 false 0)) = some r := H
                                  have A40 := Aside0.mk A400
                                  clear A400
                                  replace H := Option.bind_eq_some_iff.mp H
                                  obtain ⟨⟨t120, t121⟩, A410, H⟩ := H
                                  replace H : (isobathlaw02_MooringUnique.l2 k5 a3 x9_2 t106 x17_5 t119 t120 t121 false 0) = some r := H
                                  have A41 := Aside0.mk A410
                                  clear A410
                                  have H' := Aside0.mk H
                                  clear H
                                  have p117 : 0 ≤ (x17_5 : Int) := of_decide_eq_true (by first | (with_reducible assumption) | assumption)
                                  have q117 : x17_5 < (x9_2.length : Int) := of_decide_eq_true (by first | (with_reducible assumption) | assumption)
                                  obtain ⟨ad117, e117, hx117_0⟩ := Kd.at_int (Kd.R_reads' HO_9.out).2.2 x17_5 p117 q117
                                  cases e117
                                  replace p117 := eq_true p117
                                  replace q117 := eq_true q117
                                  have p118 : 0 ≤ (x17_5 : Int) := of_decide_eq_true (by first | (with_reducible assumption) | assumption)
                                  have q118 : x17_5 < (x9_2.length : Int) := of_decide_eq_true (by first | (with_reducible assumption) | assumption)
                                  obtain ⟨ad118, e118, hx118_0⟩ := Kd.at_int (Kd.R_reads' HO_9.out).2.2 x17_5 p118 q118
                                  obtain rfl : ad117 = ad118 := (by injection e118)
                                  replace p118 := eq_true p118
                                  replace q118 := eq_true q118
                                  go_wp2_with (first | ((with_reducible refine gate_callee (f := 20) rfl ?_); refine goesL_ (some 126) rfl rfl Try.func20 (by kernel_rfl) rfl #[.int .i64 (rd x9_2 x17_5), .int .i64 (Go.bits .xor .i64 (rd x9_2 x17_5) (wrap64 (a3)))] rfl (by (try simp only [List.map_toArray, List.map_cons, List.map_nil]); first | done | rfl | (simp only [List.length_drop, List.length_take]; rfl)) ?_; (with_reducible refine (isobathref02_Apart.calls k5 (rd x9_2 x17_5) (Go.bits .xor .i64 (rd x9_2 x17_5) (wrap64 (a3))) t119 _ A40.out).mono ?_); rintro e w' ⟨rfl, ⟨nd, rfl⟩⟩; refine ⟨_, rfl, ?_⟩) | ((with_reducible refine gate_callee (f := 17) rfl ?_); refine goesL_ (some 131) rfl rfl Try.func17 (by kernel_rfl) rfl #[.slice (some ad117) x9_2.length co16, .int .i64 (Go.bits .xor .i64 (rd x9_2 x17_5) (wrap64 (a3))), .int .i64 t119] rfl (by (try simp only [List.map_toArray, List.map_cons, List.map_nil]); first | done | rfl | (simp only [List.length_drop, List.length_take]; rfl)) ?_; (with_reducible refine (mooring_Answers.calls k5 _ _ x9_2 (Go.bits .xor .i64 (rd x9_2 x17_5) (wrap64 (a3))) t119 t120 t121 _ ?side1 ?side2 A41.out).mono ?_); (case side1 => repeat (first | exact (Kd.R_reads' HO_9.out).2.2 | (with_reducible refine Kd.C_alloc ?_ _) | (with_reducible refine Kd.C_drewN ?_ _) | (with_reducible refine Kd.C_drew ?_))); (case side2 => exact (Kd.R_reads' HO_9.out).2.1); rintro e w42 ⟨v122, rfl, ho0, hb⟩; refine ⟨_, rfl, ?_⟩; have n0_ := Aside0.mk (Kd.R_elder' (by (with_reducible repeat (first | apply Kd.R_alloc | apply Kd.R_drewN | apply Kd.R_drew)); exact HO_9.out) (Kd.R_base ho0) hb); have n1_ := Aside0.mk (Kd.R_lower (Kd.R_new' ho0 (Kd.R_lt (by (with_reducible repeat (first | apply Kd.R_alloc | apply Kd.R_drewN | apply Kd.R_drew)); exact HO_9.out))) (below_size (by repeat (first | (with_reducible first | exact HB.out | apply below_alloc | apply pw_below_drewN | apply below_drew1) | exact HB.out)))); have n2_ := Aside0.mk (below_step (by repeat (first | (with_reducible first | exact HB.out | apply below_alloc | apply pw_below_drewN | apply below_drew1) | exact HB.out)) hb); clear HO_9; clear HB; have HO_9 := n0_; have HO123 := n1_; have HB := n2_; clear n0_ n1_ n2_; (try clear hb); (try clear hb2); (try clear hk); (try clear hi); (try clear ho0)))
                                  go_loopg [22, 23] k5 (fun kq v22 v23 w' => ∃ (x22_6 : Bool) (x23_6 : Int), v22 = .bool x22_6 ∧ v23 = .int .i64 x23_6 ∧ Aside0 (isobathlaw02_MooringUnique.l2 kq a3 x9_2 t106 x17_5 t119 t120 t121 x22_6 x23_6 = some r) ∧ Aside0 (kq ≤ k5) ∧ Aside0 (Kd.R (Kd.int .i64) 3 w' w.heap.size (fun k_ => some k_ ≠ (v122 : Value).ownBlock) (.slice (some ad117) x9_2.length co16) x9_2) ∧ Aside0 (Kd.R (Kd.int .i64) 3 w' w.heap.size (fun k_ => some k_ ≠ ((.slice (some ad117) x9_2.length co16) : Value).ownBlock) v122 t120) ∧ Aside0 (Below w.heap.size w w'))
                                  case atStart => exact ⟨(false), (0), (by first | rfl | (simp; done) | (simp [*]; done)), (by first | rfl | (simp; done) | (simp [*]; done)), H', ⟨Nat.le_refl _⟩, ⟨by (with_reducible repeat (first | apply Kd.R_alloc | apply Kd.R_drewN | apply Kd.R_drew)); exact Kd.R_mono HO_9.out (fun _ hk => hk.2)⟩, ⟨by (with_reducible repeat (first | apply Kd.R_alloc | apply Kd.R_drewN | apply Kd.R_drew)); exact Kd.R_mono HO123.out (fun _ hk => hk.2)⟩, ⟨by repeat (first | (with_reducible first | exact HB.out | apply below_alloc | apply pw_below_drewN | apply below_drew1) | exact HB.out)⟩⟩
                                  case round =>
                                    clear H'
                                    try clear c1
                                    try clear p1
                                    try clear q1
                                    try clear hx1
                                    try clear c2
                                    try clear p2
                                    try clear c3
                                    try clear c4
                                    try clear c6
                                    try clear c6b0
                                    try clear c6b1
                                    try clear p6
                                    try clear c7
                                    try clear c10
                                    try clear c10b0
                                    try clear p10
                                    try clear q10
                                    try clear hx10
                                    try clear c11
                                    try clear c11b0
                                    try clear p11
                                    try clear q11
                                    try clear hx11
                                    try clear c12
                                    try clear c14
                                    try clear c15
                                    try clear c17
                                    try clear c18
                                    try clear c18b0
                                    try clear c18b1
                                    try clear c19
                                    try clear c19b0
                                    try clear c20
                                    try clear c27
                                    try clear c27b0
                                    try clear c27b1
                                    try clear c28
                                    try clear c28b0
                                    try clear c28b1
                                    try clear c29
                                    try clear c29b0
                                    try clear c29b1
                                    try clear c32
                                    try clear c32b0
                                    try clear c37
                                    try clear c38
                                    try clear c38b0
                                    try clear c39
                                    try clear c39b0
                                    try clear hx102_0
                                    try clear hx117_0
                                    try clear hx118_0
                                    try clear p1
                                    try clear p10
                                    try clear p102
                                    try clear p117
                                    try clear p118
                                    try clear p2
                                    try clear p6
                                    try clear q1
                                    try clear q10
                                    try clear q102
                                    try clear q117
                                    try clear q118
                                    obtain ⟨x22_6, x23_6, rfl, rfl, HA, HK6, HO_9, HO_20, HB⟩ := hrel
                                    cases gk with
                                    | zero => exact absurd HA.out (by simp [isobathlaw02_MooringUnique.l2])
                                    | succ k6 =>
                                      have H := HA.out
                                      clear HA
                                      simp only [isobathlaw02_MooringUnique.l2] at H
                                      by_cases c43 : x23_6 < (t120.length : Int)
                                      · rw [if_pos c43] at H
                                        have c43b0 : decide (x23_6 < (t120.length : Int)) = true := decide_eq_true c43
                                        clear c43
                                        by_cases c44 : x22_6 = true
                                        · subst c44
                                          have H1 : (isobathlaw02_MooringUnique.l2 k6 a3 x9_2 t106 x17_5 t119 t120 t121 true (wrap64 (x23_6 + 1))) = some r := by rw [if_pos rfl] at H; exact H
                                          clear H
                                          have H := H1
                                          clear H1
                                          have H' := Aside0.mk H
                                          clear H
                                          obtain ⟨Ao45, co45, eo45⟩ := Kd.R_slice HO_20.out
                                          subst eo45
                                          go_wp2
                                          go_roundg k6
                                          case measure => have := HJ4.out; have := HK2.out; have := HJ14.out; have := HJ23.out; have := HK5.out; have := HK6.out; omega
                                          case rel => exact ⟨(true), (wrap64 (x23_6 + 1)), (by first | rfl | (simp; done) | (simp [*]; done)), (by first | rfl | (simp; done) | (simp [*]; done)), H', ⟨by have := HJ4.out; have := HK2.out; have := HJ14.out; have := HJ23.out; have := HK5.out; have := HK6.out; omega⟩, ⟨by (with_reducible repeat (first | apply Kd.R_alloc | apply Kd.R_drewN | apply Kd.R_drew)); exact HO_9.out⟩, ⟨by (with_reducible repeat (first | apply Kd.R_alloc | apply Kd.R_drewN | apply Kd.R_drew)); exact HO_20.out⟩, ⟨by repeat (first | (with_reducible first | exact HB.out | apply below_alloc | apply pw_below_drewN | apply below_drew1) | exact HB.out)⟩⟩
                                        · replace c44 := Bool.eq_false_iff.mpr c44
                                          subst c44
                                          have H1 : (if 0 ≤ x23_6 then (isobathlaw02_MooringUnique.l2 k6 a3 x9_2 t106 x17_5 t119 t120 t121 ((rd t120 x23_6) == x17_5) (wrap64 (x23_6 + 1))) else (none)) = some r := by rw [if_neg (show ¬ (false = true) by decide)] at H; exact H
                                          clear H
                                          have H := H1
                                          clear H1
                                          by_cases c46 : 0 ≤ x23_6
                                          · rw [if_pos c46] at H
                                            have c46b0 : decide (0 ≤ x23_6) = true := decide_eq_true c46
                                            clear c46
                                            have H' := Aside0.mk H
                                            clear H
                                            obtain ⟨Ao47, co47, eo47⟩ := Kd.R_slice HO_20.out
                                            subst eo47
                                            have p124 : 0 ≤ (x23_6 : Int) := of_decide_eq_true (by first | (with_reducible assumption) | assumption)
                                            have q124 : x23_6 < (t120.length : Int) := of_decide_eq_true (by first | (with_reducible assumption) | assumption)
                                            obtain ⟨ad124, e124, hx124_0⟩ := Kd.at_int (Kd.R_reads' HO_20.out).2.2 x23_6 p124 q124
                                            cases e124
                                            replace p124 := eq_true p124
                                            replace q124 := eq_true q124
                                            go_wp2
                                            go_roundg k6
                                            case measure => have := HJ4.out; have := HK2.out; have := HJ14.out; have := HJ23.out; have := HK5.out; have := HK6.out; omega
                                            case rel => exact ⟨(((rd t120 x23_6) == x17_5)), (wrap64 (x23_6 + 1)), (by first | rfl | (simp; done) | (simp [*]; done)), (by first | rfl | (simp; done) | (simp [*]; done)), H', ⟨by have := HJ4.out; have := HK2.out; have := HJ14.out; have := HJ23.out; have := HK5.out; have := HK6.out; omega⟩, ⟨by (with_reducible repeat (first | apply Kd.R_alloc | apply Kd.R_drewN | apply Kd.R_drew)); exact HO_9.out⟩, ⟨by (with_reducible repeat (first | apply Kd.R_alloc | apply Kd.R_drewN | apply Kd.R_drew)); exact HO_20.out⟩, ⟨by repeat (first | (with_reducible first | exact HB.out | apply below_alloc | apply pw_below_drewN | apply below_drew1) | exact HB.out)⟩⟩
                                          · rw [if_neg c46] at H
                                            exact absurd H (by simp)
                                      · rw [if_neg c43] at H
                                        have c43b0 : decide (x23_6 < (t120.length : Int)) = false := decide_eq_false c43
                                        clear c43
                                        by_cases c48 : t121 = 0
                                        · rw [if_pos c48] at H
                                          have c48b0 : (t121 == 0) = true := beq_iff_eq.mpr c48
                                          have c48b1 : (t121 != 0) = false := bne_eq_false_iff_eq.mpr c48
                                          clear c48
                                          by_cases c49 : x22_6 = true
                                          · subst c49
                                            have H1 : (if (wrap64 ((wrap64 (2 * t119)) + 1)) ≤ t106 then (if (t120.length : Int) = 1 then (isobathlaw02_MooringUnique.l1 k6 a3 x9_2 t106 (wrap64 (x17_5 + 1))) else (some false)) else (isobathlaw02_MooringUnique.l1 k6 a3 x9_2 t106 (wrap64 (x17_5 + 1)))) = some r := by rw [if_pos rfl] at H; exact H
                                            clear H
                                            have H := H1
                                            clear H1
                                            by_cases c50 : (wrap64 ((wrap64 (2 * t119)) + 1)) ≤ t106
                                            · rw [if_pos c50] at H
                                              have c50b0 : decide ((wrap64 ((wrap64 (2 * t119)) + 1)) ≤ t106) = true := decide_eq_true c50
                                              clear c50
                                              by_cases c51 : (t120.length : Int) = 1
                                              · rw [if_pos c51] at H
                                                have c51b0 : ((t120.length : Int) == 1) = true := beq_iff_eq.mpr c51
                                                have c51b1 : ((t120.length : Int) != 1) = false := bne_eq_false_iff_eq.mpr c51
                                                clear c51
                                                have H' := Aside0.mk H
                                                clear H
                                                obtain ⟨Ao52, co52, eo52⟩ := Kd.R_slice HO_20.out
                                                subst eo52
                                                go_wp2
                                                go_roundg k6
                                                case measure => have := HJ4.out; have := HK2.out; have := HJ14.out; have := HJ23.out; have := HK5.out; have := HK6.out; omega
                                                case rel => exact ⟨(wrap64 (x17_5 + 1)), (by first | rfl | (simp; done) | (simp [*]; done)), H', ⟨by have := HJ4.out; have := HK2.out; have := HJ14.out; have := HJ23.out; have := HK5.out; have := HK6.out; omega⟩, ⟨by (with_reducible repeat (first | apply Kd.R_alloc | apply Kd.R_drewN | apply Kd.R_drew)); exact Kd.R_mono HO_9.out (fun _ hk => trivial)⟩, ⟨by repeat (first | (with_reducible first | exact HB.out | apply below_alloc | apply pw_below_drewN | apply below_drew1) | exact HB.out)⟩⟩
                                              · rw [if_neg c51] at H
                                                have c51b0 : ((t120.length : Int) == 1) = false := beq_eq_false_iff_ne.mpr c51
                                                have c51b1 : ((t120.length : Int) != 1) = true := bne_iff_ne.mpr c51
                                                obtain rfl := Option.some.inj H
                                                obtain ⟨Ao53, co53, eo53⟩ := Kd.R_slice HO_20.out
                                                subst eo53
                                                go_wp2
                                                go_ret
                                                exact ⟨by first | rfl | (simp [errW_none, errW_some] <;> rfl) | (simp only [← hji22]; first | rfl | (simp [errW_none, errW_some] <;> rfl)) | (simp [*, errW_none, errW_some] <;> rfl), by repeat (first | (with_reducible first | exact HB.out | apply below_alloc | apply pw_below_drewN | apply below_drew1) | exact HB.out)⟩
                                            · rw [if_neg c50] at H
                                              have c50b0 : decide ((wrap64 ((wrap64 (2 * t119)) + 1)) ≤ t106) = false := decide_eq_false c50
                                              clear c50
                                              have H' := Aside0.mk H
                                              clear H
                                              obtain ⟨Ao54, co54, eo54⟩ := Kd.R_slice HO_20.out
                                              subst eo54
                                              go_wp2
                                              go_roundg k6
                                              case measure => have := HJ4.out; have := HK2.out; have := HJ14.out; have := HJ23.out; have := HK5.out; have := HK6.out; omega
                                              case rel => exact ⟨(wrap64 (x17_5 + 1)), (by first | rfl | (simp; done) | (simp [*]; done)), H', ⟨by have := HJ4.out; have := HK2.out; have := HJ14.out; have := HJ23.out; have := HK5.out; have := HK6.out; omega⟩, ⟨by (with_reducible repeat (first | apply Kd.R_alloc | apply Kd.R_drewN | apply Kd.R_drew)); exact Kd.R_mono HO_9.out (fun _ hk => trivial)⟩, ⟨by repeat (first | (with_reducible first | exact HB.out | apply below_alloc | apply pw_below_drewN | apply below_drew1) | exact HB.out)⟩⟩
                                          · replace c49 := Bool.eq_false_iff.mpr c49
                                            subst c49
                                            have H1 : (some false) = some r := by rw [if_neg (show ¬ (false = true) by decide)] at H; exact H
                                            clear H
                                            have H := H1
                                            clear H1
                                            obtain rfl := Option.some.inj H
                                            obtain ⟨Ao55, co55, eo55⟩ := Kd.R_slice HO_20.out
                                            subst eo55
                                            go_wp2
                                            go_ret
                                            exact ⟨by first | rfl | (simp [errW_none, errW_some] <;> rfl) | (simp only [← hji22]; first | rfl | (simp [errW_none, errW_some] <;> rfl)) | (simp [*, errW_none, errW_some] <;> rfl), by repeat (first | (with_reducible first | exact HB.out | apply below_alloc | apply pw_below_drewN | apply below_drew1) | exact HB.out)⟩
                                        · rw [if_neg c48] at H
                                          have c48b0 : (t121 == 0) = false := beq_eq_false_iff_ne.mpr c48
                                          have c48b1 : (t121 != 0) = true := bne_iff_ne.mpr c48
                                          obtain rfl := Option.some.inj H
                                          obtain ⟨Ao56, co56, eo56⟩ := Kd.R_slice HO_20.out
                                          subst eo56
                                          go_wp2
                                          go_ret
                                          exact ⟨by first | rfl | (simp [errW_none, errW_some] <;> rfl) | (simp only [← hji22]; first | rfl | (simp [errW_none, errW_some] <;> rfl)) | (simp [*, errW_none, errW_some] <;> rfl), by repeat (first | (with_reducible first | exact HB.out | apply below_alloc | apply pw_below_drewN | apply below_drew1) | exact HB.out)⟩
                                · rw [if_neg c39] at H
                                  exact absurd H (by simp)
                              · rw [if_neg c38] at H
                                have c38b0 : decide (x17_5 < (x9_2.length : Int)) = false := decide_eq_false c38
                                clear c38
                                replace H := Option.bind_eq_some_iff.mp H
                                obtain ⟨t116, A570, H⟩ := H
                                replace H : (some t116) = some r := H
                                have A57 := Aside0.mk A570
                                clear A570
                                obtain rfl := Option.some.inj H
                                go_wp2_with (first | ((with_reducible refine gate_callee (f := 14) rfl ?_); refine goesL_ (some 167) rfl rfl Try.func14 (by kernel_rfl) rfl #[] rfl (by (try simp only [List.map_toArray, List.map_cons, List.map_nil]); first | done | rfl | (simp only [List.length_drop, List.length_take]; rfl)) ?_; (with_reducible refine (isobathlaw02_fine.calls k5  t116 _ A57.out).mono ?_); rintro e w58 ⟨rfl, hb⟩; refine ⟨_, rfl, ?_⟩; have n0_ := Aside0.mk (Kd.R_below (by (with_reducible repeat (first | apply Kd.R_alloc | apply Kd.R_drewN | apply Kd.R_drew)); exact HO_9.out) hb); have n1_ := Aside0.mk (below_step (by repeat (first | (with_reducible first | exact HB.out | apply below_alloc | apply pw_below_drewN | apply below_drew1) | exact HB.out)) hb); clear HO_9; clear HB; have HO_9 := n0_; have HB := n1_; clear n0_ n1_; (try clear hb); (try clear hb2); (try clear hk); (try clear hi)))
                                go_ret
                                exact ⟨by first | rfl | (simp [errW_none, errW_some] <;> rfl) | (simp only [← hji22]; first | rfl | (simp [errW_none, errW_some] <;> rfl)) | (simp [*, errW_none, errW_some] <;> rfl), by repeat (first | (with_reducible first | exact HB.out | apply below_alloc | apply pw_below_drewN | apply below_drew1) | exact HB.out)⟩

/-- THE ONE PURE STATEMENT of isobathlaw02_MooringUnique: yours. -/
def isobathlaw02_MooringUnique.Pure : Prop := ∀ (l0 : List Int) (a1 : Int) (a2 : Int) (a3 : Int), l0.length ≤ maxLen → l0.length * 2 ≤ 140737488351232 → (∀ x ∈ l0, (Lit.int .u16 x).wf = true) → (Lit.int .u16 a1).wf = true → (Lit.int .u16 a2).wf = true → (Lit.int .u16 a3).wf = true → ∃ k, isobathlaw02_MooringUnique.f k l0 a1 a2 a3 = some true
theorem isobathlaw02_MooringUnique.walk (P : isobathlaw02_MooringUnique.Pure) (a0 : Option Addr) (len0 cap0 : Nat) (z0 : List Int) (a1 : Int) (a2 : Int) (a3 : Int) (w : World) (w0 : (a0 = none ∧ len0 = 0 ∧ cap0 = 0 ∧ z0 = []) ∨ ∃ x, a0 = some x ∧ len0 ≤ cap0 ∧ cap0 ≤ maxLen ∧ z0.length = cap0 ∧ (∀ i, i < z0.length → w.cell? (x.add i) = some (.int .u16 (z0.getD i 0))) ∧ ∀ n ∈ z0, (Lit.int .u16 n).wf = true) (y0 : len0 * 2 ≤ 140737488351232) (w1 : (Lit.int .u16 a1).wf = true) (w2 : (Lit.int .u16 a2).wf = true) (w3 : (Lit.int .u16 a3).wf = true) :
    Calls Try.prog 4 #[.slice a0 len0 cap0, .int .u16 a1, .int .u16 a2, .int .u16 a3] w fun e w' => e = .returned (.bool true) ∧ Below w.heap.size w w' := by
  obtain ⟨l0, rfl, hr0, hm0, hw0, hc0⟩ := ReadsInt.ofRowC w0
  obtain ⟨k, h⟩ := P l0 a1 a2 a3 hm0 y0 hw0 w1 w2 w3
  refine (isobathlaw02_MooringUnique.calls k _ _ l0 a1 a2 a3 true w (Kd.C_of_reads (d := (0 : Int)) (h1 := fun _ => rfl) hr0) hc0 h).mono ?_
  rintro e w' ⟨rfl, hd⟩
  exact ⟨rfl, hd⟩

end Go.Proofs.Ytebcmhajbjkojaa.P

namespace Go.Proofs.Ytebcmhajbjkojaa.P
open Go.RowKit Go.Proofs.YtebcmhajbjkojaaW.PrintWords Go.Proofs.YtebcmhajbjkojaaW.PrintLast Go.Proofs.YtebcmhajbjkojaaW.PrintMore
attribute [local go_sem] max2_int min2_int max_two min_two max_three min_three max_four min_four   -- for this text's walks alone
set_option linter.unusedVariables false
set_option linter.unusedSimpArgs false

-- LIB
-- IMPORT Derived.Deep.Slices
/-! ### what an argument's reading says, as a kind of value -/
structure Opens {α : Type} (P : Program) (t : TypeId) (d : Kd α) (B : α → Prop) : Prop where
  run : ∀ {H : Type} {enc : TypeId × Value → H} {W : World} {fuel : Nat} {cs : List Value} {x : DataW H × List MemPlace}, DataW.trod enc P W 0 (fun _ => true) true fuel t cs = some x → ∃ a : α, d.K W a cs ∧ B a
theorem Opens.int {P : Program} {t : TypeId} {k : IntKind} (ht : P.underlying t = some (.int k)) : Opens P t (Kd.int k) (fun n => (Lit.int k n).wf = true) :=
  ⟨fun h => by
    obtain ⟨n, rfl, _, hw⟩ := DataW.trod_int ht h
    exact ⟨n, rfl, hw⟩⟩
theorem Opens.bool {P : Program} {t : TypeId} (ht : P.underlying t = some .bool) : Opens P t Kd.bool (fun _ => True) :=
  ⟨fun h => by
    obtain ⟨n, rfl, _⟩ := DataW.trod_bool ht h
    exact ⟨n, rfl, trivial⟩⟩
theorem Opens.slice {α : Type} {P : Program} {t e : TypeId} {d : Kd α} {B : α → Prop} (ht : P.underlying t = some (.slice e)) (hc : P.cellsOf e = d.sz) (he : Opens P e d B) :
    Opens P t (Kd.slice e d) (fun xs => xs.length ≤ 9223372036854775807 ∧ ∀ x ∈ xs, B x) := by
  refine ⟨fun {H enc W fuel cs x} h => ?_⟩
  rcases Deep.open_slice ht h with ⟨rfl, _⟩ | ⟨a, len, cap, m, n, D, Pl, rfl, _, hl, hm, hmm, _, hx⟩
  · exact ⟨[], ⟨none, 0, rfl, Nat.le_refl _, Kd.C_nil _ _⟩, by simp, by simp⟩
  · have hm' : cap ≤ 9223372036854775807 := by unfold maxLen at hm; exact hm
    have hme : m = cap := by simpa using hmm
    have hel : ∀ i, i < len → ∃ y : α, (∃ cs', W.cells? 0 (a.add (i * P.cellsOf e)) (P.cellsOf e) = some cs' ∧ d.K W y cs') ∧ B y := by
      intro i hi
      obtain ⟨cs', h1, h2⟩ := hx i (by omega)
      obtain ⟨y, hy, hB⟩ := he.run h2
      exact ⟨y, ⟨cs', h1, hy⟩, hB⟩
    rcases Nat.eq_zero_or_pos len with h0 | h0
    · subst h0
      exact ⟨[], ⟨some a, cap, rfl, Nat.zero_le _, rfl, Nat.zero_le _, fun hp => absurd hp (Nat.lt_irrefl 0)⟩, by simp, by simp⟩
    · have : Inhabited α := ⟨Classical.choose (hel 0 h0)⟩
      obtain ⟨f, hf⟩ := Deep.choose_lt (p := fun i y => (∃ cs', W.cells? 0 (a.add (i * P.cellsOf e)) (P.cellsOf e) = some cs' ∧ d.K W y cs') ∧ B y) hel
      have hlen : ((List.range len).map f).length = len := by simp
      refine ⟨(List.range len).map f, ⟨some a, cap, by rw [hlen], by rw [hlen]; exact hl, hlen ▸ rfl, by rw [hlen]; omega, fun _ => ⟨a, rfl, ?_⟩⟩, by rw [hlen]; omega, ?_⟩
      · intro j p hj
        have hjl : j < len := by
          have := (List.getElem?_eq_some_iff.1 hj).1
          rwa [hlen] at this
        have hp : p = f j := by
          rw [List.getElem?_map, List.getElem?_range hjl] at hj
          exact (Option.some.inj hj).symm
        subst hp
        obtain ⟨⟨cs', h1, h2⟩, _⟩ := hf j hjl
        obtain ⟨_, h3, h4⟩ := World.cells?_some h1
        rw [hc] at h3 h4
        refine ⟨cs', h3, h2, fun i u hu => ?_⟩
        have hi : i < d.sz := by
          have := (List.getElem?_eq_some_iff.1 hu).1
          omega
        rw [← Deep.add_add]
        exact (h4 i hi).trans hu
      · intro y hy
        obtain ⟨i, hi, rfl⟩ := List.mem_map.1 hy
        exact (hf i (List.mem_range.1 hi)).2
/-- A struct's fields from one place on. -/
structure OpensF {α : Type} (P : Program) (fs : List Field) (off tot : Nat) (d : Kd α) (B : α → Prop) : Prop where
  run : ∀ {H : Type} {enc : TypeId × Value → H} {W : World} {n : Nat} {cs : List Value}, cs.length = tot → (∀ (i : Nat) (f : Field), fs[i]? = some f → ∃ y, DataW.trod enc P W 0 (fun _ => true) true n f.type ((cs.drop f.offset).take (P.cellsOf f.type)) = some y) → ∃ a : α, d.K W a (cs.drop off) ∧ B a
theorem OpensF.last {α : Type} {P : Program} {f : Field} {off tot : Nat} {d : Kd α} {B : α → Prop} (ho : f.offset = off) (ht : off + P.cellsOf f.type = tot) (h : Opens P f.type d B) : OpensF P [f] off tot d B := by
  refine ⟨fun {H enc W n cs} hl hy => ?_⟩
  obtain ⟨y, hy⟩ := hy 0 f rfl
  obtain ⟨a, ha, hB⟩ := h.run hy
  rw [ho, List.take_of_length_le (by rw [List.length_drop]; omega)] at ha
  exact ⟨a, ha, hB⟩
theorem OpensF.cons {α β : Type} {P : Program} {f : Field} {fs : List Field} {off tot : Nat} {d1 : Kd α} {d2 : Kd β} {B1 : α → Prop} {B2 : β → Prop} (ho : f.offset = off) (hs : P.cellsOf f.type = d1.sz) (h : Opens P f.type d1 B1) (hr : OpensF P fs (off + d1.sz) tot d2 B2) :
    OpensF P (f :: fs) off tot (Kd.pair d1 d2) (fun x => B1 x.1 ∧ B2 x.2) := by
  refine ⟨fun {H enc W n cs} hl hy => ?_⟩
  obtain ⟨y, hy0⟩ := hy 0 f rfl
  obtain ⟨a, ha, hB⟩ := h.run hy0
  obtain ⟨b, hb, hB2⟩ := hr.run hl (fun i g hg => hy (i + 1) g hg)
  rw [ho, hs] at ha
  refine ⟨(a, b), ⟨(cs.drop off).take d1.sz, cs.drop (off + d1.sz), ?_, ha, hb⟩, hB, hB2⟩
  rw [← List.drop_drop, List.take_append_drop]
theorem Opens.struct {α β : Type} {P : Program} {t : TypeId} {fs : Array Field} {d : Kd α} {B : α → Prop} (ht : P.underlying t = some (.struct fs)) (f : β → α) (g : α → β) (hg : ∀ a, f (g a) = a) (hF : OpensF P fs.toList 0 (P.cellsOf t) d B) : Opens P t (Kd.iso d f) (fun x => B (f x)) := by
  refine ⟨fun {H enc W fuel cs x} h => ?_⟩
  obtain ⟨xs, n, _, _, hl, hlen, hf⟩ := DataW.trod_struct ht h
  obtain ⟨a, ha, hB⟩ := hF.run (n := n) hl (fun i fl hfl => by
    have hfl' : fs[i]? = some fl := by simpa using hfl
    have hi : i < fs.size := (Array.getElem?_eq_some_iff.1 hfl').1
    exact ⟨xs[i]'(by omega), (hf i fl hfl').trans (List.getElem?_eq_getElem (by omega))⟩)
  refine ⟨g a, ?_, ?_⟩
  · show d.K W (f (g a)) cs
    rw [hg]
    simpa using ha
  · show B (f (g a))
    rw [hg]
    exact hB
theorem cells_agg {v : Value} {l : List Value} (h : v.cells.toList = l) (hl : 2 ≤ l.length) : v = .agg l.toArray := by
  subst h
  cases v <;> simp [Value.cells] at hl ⊢

end Go.Proofs.Ytebcmhajbjkojaa.P

namespace Go.Proofs.Ytebcmhajbjkojaa.P
open Go.RowKit Go.Proofs.YtebcmhajbjkojaaW.PrintWords Go.Proofs.YtebcmhajbjkojaaW.PrintLast Go.Proofs.YtebcmhajbjkojaaW.PrintMore
namespace mooringUnique
open Go.ChangeShapes Go.WideShapes Go.ChangeAt
set_option linter.unusedVariables false
set_option linter.unusedSimpArgs false
def Pure : Prop := ∀ (x0 : (List Int)) (x1 : Int) (x2 : Int) (x3 : Int), (fun xs : List Int => xs.length ≤ 9223372036854775807 ∧ ∀ x ∈ xs, (fun n : Int => (Lit.int .u16 n).wf = true) x) x0 → (fun n : Int => (Lit.int .u16 n).wf = true) x1 → (fun n : Int => (Lit.int .u16 n).wf = true) x2 → (fun n : Int => (Lit.int .u16 n).wf = true) x3 → ∃ k, isobathlaw02_MooringUnique.f k x0 x1 x2 x3 = some true
theorem own : ownKnob Try.prog.godebug = none := by kernel_rfl
theorem laidOut : laidOutB Try.prog = true := by kernel_rfl
set_option maxRecDepth 100000 in
theorem lifted (hP : Pure) (os : Os) (started : os.Started) (H : Type) (enc : TypeId × Value → H) :
    ReturnsInHanded {} Try.checked os 4 .any (Rows.mooringUniqueSpec.pre6 enc Try.prog Try.f4 Rows.mooringUniqueRow.domain false) (Rows.mooringUniqueSpec.post enc Try.prog Try.f4 false true false false) := by
  refine returnsInHanded_of_change_sized (C := Try.checked) own started (by kernel_rfl) Try.func4
    (ChangeSpec.witness6 (enc := enc) (C := Try.checked) false ⟨#[], #[.slice none 0 0, .int .u16 0, .int .u16 0, .int .u16 0], []⟩ 8 (by kernel_rfl) (by kernel_rfl) (by kernel_rfl) (by kernel_rfl)) ?_
  intro W base args ds gs before hval0 hW hcnd hsz0 _
  have hval : ∀ (j : Nat) t v, Try.f4.params[j]? = some t → args[j]? = some v → Value.okWide Try.prog W .any base t v := hval0
  have hW' := hW
  obtain ⟨p, q, hA0, hV, rfl, hfz, hnd⟩ := hW
  have hA : DataW.TrodAll enc Try.prog W 0 (fun _ => true) true Try.f4.params.toList args.toList ds p := hA0
  rw [Try.params4] at hA hval
  obtain ⟨v0, vs0, d0, ds0, p0, q0, hargs, rfl, rfl, h0, r0⟩ := trodAll_cons hA
  obtain ⟨v1, vs1, d1, ds1, p1, q1, rfl, rfl, rfl, h1, r1⟩ := trodAll_cons r0
  obtain ⟨v2, vs2, d2, ds2, p2, q2, rfl, rfl, rfl, h2, r2⟩ := trodAll_cons r1
  obtain ⟨v3, vs3, d3, ds3, p3, q3, rfl, rfl, rfl, h3, r3⟩ := trodAll_cons r2
  obtain ⟨rfl, rfl, rfl⟩ := trodAll_nil r3
  obtain rfl : args = #[v0, v1, v2, v3] := by cases args; simp_all
  obtain ⟨rfl, rfl⟩ := trodVars_none hV
  have k0 := h0
  have lt0 : ∀ x ∈ p0, x.block < W.heap.size := by obtain ⟨m, hm⟩ := k0; exact DataW.trod_lt m _ _ _ hm
  obtain ⟨m0, hm0⟩ := h0
  obtain ⟨x0, hk0, w0⟩ := Opens.run (Opens.slice Try.underlying31 (by kernel_rfl) (Opens.int Try.underlying32)) hm0
  obtain ⟨a0, len0, cap0, rfl⟩ := okWide_slice Try.underlying31 (hval 0 31 v0 rfl rfl)
  obtain ⟨A0, c0, hcs0, hc0, hr0⟩ := hk0
  simp [Value.cells] at hcs0
  obtain ⟨rfl, rfl, rfl⟩ := hcs0
  obtain ⟨x1, rfl, rfl, rfl, w1⟩ := open_int Try.underlying32 (hval 1 32 v1 rfl rfl) h1
  obtain ⟨x2, rfl, rfl, rfl, w2⟩ := open_int Try.underlying32 (hval 2 32 v2 rfl rfl) h2
  obtain ⟨x3, rfl, rfl, rfl, w3⟩ := open_int Try.underlying32 (hval 3 32 v3 rfl rfl) h3
  clear hA0 hval0 hsz0
  obtain ⟨k, hf⟩ := hP x0 x1 x2 x3 w0 w1 w2 w3
  refine (isobathlaw02_MooringUnique.calls (k := k) (A0 := a0) (c0 := cap0) (l0 := x0) (a1 := x1) (a2 := x2) (a3 := x3) (r := true) (w := W) (hr0 := hr0) (hc0 := hc0) (h := hf)).mono fun e W' ⟨he, hd⟩ => ?_
  have bel : Below W.heap.size W W' := by first | exact hd | (obtain ⟨m, rfl⟩ := hd; exact pw_below_drewN (Below.refl _ _) m)
  subst he
  exact ⟨_, rfl, _, _, _, [], _, [], hW', trodAll_mk1 (shut_bool Try.underlying4 _), (trodAll_cons_mk (Below.trod laidOut (by kernel_rfl) (of_decide_eq_true (by kernel_rfl)) k0 bel lt0) (trodAll_cons_mk (shut_int Try.underlying32 w1) (trodAll_cons_mk (shut_int Try.underlying32 w2) (trodAll_cons_mk (shut_int Try.underlying32 w3) trodAll_mk0)))), rfl, bel.frame _, fun h => by cases h⟩
theorem over (hP : Pure) : Rows.mooringUniqueRow.holds Try.pinned (OpenSpec.ofChange Rows.mooringUniqueSpec) :=
  OpenClaim.holds_of_wide 4 Try.f4 rfl rfl rfl rfl rfl rfl rfl ⟨rfl, rfl, rfl, rfl, rfl⟩ rfl rfl rfl rfl rfl (by kernel_rfl) Try.func4 (by kernel_rfl)
    (of_decide_eq_true (by kernel_rfl)) (by unfold Func.isWrapper; first | (rw [if_pos (by decide +kernel)]; kernel_rfl) | (rw [if_neg (by decide +kernel)]; exact ⟨rfl, rfl⟩))
    (fun os started H enc _ => lifted hP os started H enc)
theorem proved (hP : Pure) : Rows.MooringUniqueSaid := over hP
end mooringUnique
end Go.Proofs.Ytebcmhajbjkojaa.P

namespace Go.Proofs.Ytebcmhajbjkojaa.P
open Go.RowKit Go.Proofs.YtebcmhajbjkojaaW.PrintWords Go.Proofs.YtebcmhajbjkojaaW.PrintLast Go.Proofs.YtebcmhajbjkojaaW.PrintMore
attribute [local go_sem] max2_int min2_int max_two min_two max_three min_three max_four min_four   -- for this text's walks alone
set_option linter.unusedVariables false
set_option linter.unusedSimpArgs false

-- LIB
-- WANT isobath/mooring.apart
-- WANT isobath/isobathref02.Apart
/-! ### the distance of two codes -/
/-- In how many of the lowest bits two numbers differ. -/
def Cod.cnt : Nat → Nat → Nat → Int
  | 0, _, _ => 0
  | n + 1, a, b => Cod.cnt n a b + if a.testBit n = b.testBit n then 0 else 1
def Cod.dist (a b : Int) : Int := Cod.cnt 16 a.toNat b.toNat
theorem Cod.cnt_range (n a b : Nat) : 0 ≤ Cod.cnt n a b ∧ Cod.cnt n a b ≤ n := by
  induction n with
  | zero => simp [Cod.cnt]
  | succ n ih =>
    rw [Cod.cnt]
    by_cases c : a.testBit n = b.testBit n
    · rw [if_pos c]; omega
    · rw [if_neg c]; omega
theorem Cod.cnt_comm (n a b : Nat) : Cod.cnt n a b = Cod.cnt n b a := by
  induction n with
  | zero => rfl
  | succ n ih =>
    rw [Cod.cnt, Cod.cnt, ih]
    by_cases c : a.testBit n = b.testBit n
    · rw [if_pos c, if_pos c.symm]
    · rw [if_neg c, if_neg (fun e => c e.symm)]
theorem Cod.dist_range (a b : Int) : 0 ≤ Cod.dist a b ∧ Cod.dist a b ≤ 16 := Cod.cnt_range 16 _ _
theorem Cod.dist_comm (a b : Int) : Cod.dist a b = Cod.dist b a := Cod.cnt_comm 16 _ _
/-- A way round is no shorter. -/
theorem Cod.cnt_tri (n a b c : Nat) : Cod.cnt n a c ≤ Cod.cnt n a b + Cod.cnt n b c := by
  induction n with
  | zero => simp [Cod.cnt]
  | succ n ih =>
    simp only [Cod.cnt]
    cases ha : a.testBit n <;> cases hb : b.testBit n <;> cases hc : c.testBit n <;> simp only [if_true, if_false, Bool.false_eq_true, Bool.true_eq_false, reduceCtorEq] <;> omega
theorem Cod.dist_tri (a b c : Int) : Cod.dist a c ≤ Cod.dist a b + Cod.dist b c := Cod.cnt_tri 16 _ _ _
theorem Cod.xor {a b : Nat} (ha : a < 65536) (hb : b < 65536) : Go.bits .xor .i64 (a : Int) (b : Int) = ((a ^^^ b : Nat) : Int) ∧ a ^^^ b < 65536 := by
  have h : a ^^^ b < 2 ^ 16 := Nat.xor_lt_two_pow (by omega) (by omega)
  have ha' : a % 2 ^ IntKind.i64.bits = a := Nat.mod_eq_of_lt (by simp only [IntKind.bits]; omega)
  have hb' : b % 2 ^ IntKind.i64.bits = b := Nat.mod_eq_of_lt (by simp only [IntKind.bits]; omega)
  refine ⟨?_, by omega⟩
  simp only [bits, BitVec.ofInt_natCast, BitVec.toNat_xor, BitVec.toNat_ofNat, ha', hb']
  rw [i64_w, wrap_id (by omega) (by omega)]
theorem Cod.bit {a i : Nat} : ((a / 2 ^ i % 2 : Nat) : Int) = if a.testBit i then 1 else 0 := by
  rw [Nat.testBit_eq_decide_div_mod_eq]
  by_cases c : a / 2 ^ i % 2 = 1
  · simp [c]
  · have : a / 2 ^ i % 2 = 0 := by omega
    simp [this]
theorem Cod.and1 {z : Int} (h0 : 0 ≤ z) (h1 : z < 65536) : Go.bits .and .i64 z 1 = z % 2 :=
  bits_mask .i64 62 (by decide) (fun n h h' => by rw [i64_w]; exact wrap_id (by omega) (by omega)) 1 (by decide) z h0 (by omega)
theorem Cod.step {a b i : Nat} (ha : a < 65536) (hb : b < 65536) (hi : i < 16) : Go.bits .and .i64 (shr .i64 (Go.bits .xor .i64 (a : Int) (b : Int)) (i : Int)) 1 = if a.testBit i = b.testBit i then 0 else 1 := by
  obtain ⟨h1, h2⟩ := Cod.xor ha hb
  have h3 : shr .i64 (Go.bits .xor .i64 (a : Int) (b : Int)) (i : Int) = (((a ^^^ b) / 2 ^ i : Nat) : Int) := by
    unfold shr
    rw [h1, Int.toNat_natCast, Nat.min_eq_left (by simp only [IntKind.bits]; omega)]
    simp
  have h4 : (a ^^^ b) / 2 ^ i ≤ a ^^^ b := Nat.div_le_self _ _
  have h6 := Cod.bit (a := a ^^^ b) (i := i)
  rw [h3]
  generalize (a ^^^ b) / 2 ^ i = q at h4 h6 ⊢
  rw [Cod.and1 (by omega) (by omega)]
  have h5 : ((q : Int) % 2) = ((q % 2 : Nat) : Int) := by omega
  rw [h5, h6, Nat.testBit_xor]
  cases a.testBit i <;> cases b.testBit i <;> rfl
theorem Cod.apart_l0 {a b : Nat} (ha : a < 65536) (hb : b < 65536) (n : Nat) : ∀ (k i : Nat), i + n = 16 → n < k → mooring_apart.l0 k (a : Int) (b : Int) (Cod.cnt i a b) (i : Int) = some (Cod.cnt 16 a b) := by
  induction n with
  | zero =>
    intro k i hi hk
    obtain ⟨k, rfl⟩ : ∃ m, k = m + 1 := ⟨k - 1, by omega⟩
    have e : i = 16 := by omega
    subst e
    simp only [mooring_apart.l0]
    rw [if_neg (by omega)]
  | succ n ih =>
    intro k i hi hk
    obtain ⟨k, rfl⟩ : ∃ m, k = m + 1 := ⟨k - 1, by omega⟩
    simp only [mooring_apart.l0]
    have hr := Cod.cnt_range (i + 1) a b
    rw [if_pos (by omega), if_pos (by omega), Cod.step ha hb (by omega), wrap_succ (n := 16) (by omega) (by omega)]
    have e : wrap64 (Cod.cnt i a b + if a.testBit i = b.testBit i then 0 else 1) = Cod.cnt (i + 1) a b := by
      rw [Cod.cnt] at hr
      rw [wrap_id (by omega) (by omega)]
      rfl
    rw [e]
    exact ih k (i + 1) (by omega) (by omega)
theorem Cod.apart {a b : Int} (ha0 : 0 ≤ a) (ha : a < 65536) (hb0 : 0 ≤ b) (hb : b < 65536) {k : Nat} (hk : 17 ≤ k) : mooring_apart.f k a b = some (Cod.dist a b) := by
  have h := Cod.apart_l0 (a := a.toNat) (b := b.toNat) (by omega) (by omega) 16 k 0 (by omega) (by omega)
  rw [Int.toNat_of_nonneg ha0, Int.toNat_of_nonneg hb0] at h
  exact h
theorem Cod.refApart_l0 {a b : Nat} (ha : a < 65536) (hb : b < 65536) (n : Nat) : ∀ (k i : Nat), i + n = 16 → n < k → isobathref02_Apart.l0 k ((a / 2 ^ i : Nat) : Int) ((b / 2 ^ i : Nat) : Int) (Cod.cnt i a b) (i : Int) = some (Cod.cnt 16 a b) := by
  induction n with
  | zero =>
    intro k i hi hk
    obtain ⟨k, rfl⟩ : ∃ m, k = m + 1 := ⟨k - 1, by omega⟩
    have e : i = 16 := by omega
    subst e
    simp only [isobathref02_Apart.l0]
    rw [if_neg (by omega)]
  | succ n ih =>
    intro k i hi hk
    obtain ⟨k, rfl⟩ : ∃ m, k = m + 1 := ⟨k - 1, by omega⟩
    simp only [isobathref02_Apart.l0]
    have hr := Cod.cnt_range (i + 1) a b
    have hr0 := Cod.cnt_range i a b
    have la : a / 2 ^ i ≤ a := Nat.div_le_self _ _
    have lb : b / 2 ^ i ≤ b := Nat.div_le_self _ _
    have ea : a / 2 ^ (i + 1) = a / 2 ^ i / 2 := by rw [Nat.pow_succ, ← Nat.div_div_eq_div_mul]
    have eb : b / 2 ^ (i + 1) = b / 2 ^ i / 2 := by rw [Nat.pow_succ, ← Nat.div_div_eq_div_mul]
    have ba := Cod.bit (a := a) (i := i)
    have bb := Cod.bit (a := b) (i := i)
    have ih' := ih k (i + 1) (by omega) (by omega)
    rw [ea, eb] at ih'
    generalize a / 2 ^ i = qa at *
    generalize b / 2 ^ i = qb at *
    have ta : Int.tmod (qa : Int) 2 = ((qa % 2 : Nat) : Int) := by rw [Int.tmod_eq_emod_of_nonneg (by omega)]; omega
    have tb : Int.tmod (qb : Int) 2 = ((qb % 2 : Nat) : Int) := by rw [Int.tmod_eq_emod_of_nonneg (by omega)]; omega
    have da : wrap64 (Int.tdiv (qa : Int) 2) = ((qa / 2 : Nat) : Int) := by
      rw [tdiv_pos (by omega), wrap_id (by omega) (by omega)]
      omega
    have db : wrap64 (Int.tdiv (qb : Int) 2) = ((qb / 2 : Nat) : Int) := by
      rw [tdiv_pos (by omega), wrap_id (by omega) (by omega)]
      omega
    rw [if_pos (by omega), ta, tb, da, db, ba, bb, wrap_succ (n := 16) (by omega) (by omega)]
    rw [Cod.cnt] at ih' hr
    by_cases c : a.testBit i = b.testBit i
    · rw [if_pos c] at ih'
      rw [c, if_pos rfl]
      rw [Int.add_zero] at ih'
      exact ih'
    · rw [if_neg c] at ih' hr
      have e : (if a.testBit i = true then (1 : Int) else 0) ≠ (if b.testBit i = true then (1 : Int) else 0) := by
        revert c
        cases a.testBit i <;> cases b.testBit i <;> simp
      rw [if_neg e, wrap_id (by omega) (by omega)]
      exact ih'
theorem Cod.refApart {a b : Int} (ha0 : 0 ≤ a) (ha : a < 65536) (hb0 : 0 ≤ b) (hb : b < 65536) {k : Nat} (hk : 17 ≤ k) : isobathref02_Apart.f k a b = some (Cod.dist a b) := by
  have h := Cod.refApart_l0 (a := a.toNat) (b := b.toNat) (by omega) (by omega) 16 k 0 (by omega) (by omega)
  rw [Nat.pow_zero, Nat.div_one, Nat.div_one, Int.toNat_of_nonneg ha0, Int.toNat_of_nonneg hb0] at h
  exact h

end Go.Proofs.Ytebcmhajbjkojaa.P

namespace Go.Proofs.Ytebcmhajbjkojaa.P
open Go.RowKit Go.Proofs.YtebcmhajbjkojaaW.PrintWords Go.Proofs.YtebcmhajbjkojaaW.PrintLast Go.Proofs.YtebcmhajbjkojaaW.PrintMore
attribute [local go_sem] max2_int min2_int max_two min_two max_three min_three max_four min_four   -- for this text's walks alone
set_option linter.unusedVariables false
set_option linter.unusedSimpArgs false

/-! ### isobathlaw02_numbers: function 19 -/
def isobathlaw02_numbers.l0 : Nat → List Int → List Int → Int → Option (Bool)
  | 0, _, _, _ => none
  | k + 1, x0, x1, x5 => if x5 < (x0.length : Int) then (if 0 ≤ x5 then (if x5 < (x1.length : Int) then (if (rd x0 x5) = (rd x1 x5) then (isobathlaw02_numbers.l0 k x0 x1 (wrap64 (x5 + 1))) else (some false)) else (none)) else (none)) else (some true)
def isobathlaw02_numbers.f (k : Nat) (l0 : List Int) (l1 : List Int) : Option (Bool) := if (l0.length : Int) = (l1.length : Int) then (isobathlaw02_numbers.l0 k l0 l1 0) else (some false)
theorem isobathlaw02_numbers.mono_l : ∀ k, (∀ y0 y1 y2, LeO (isobathlaw02_numbers.l0 k y0 y1 y2) (isobathlaw02_numbers.l0 (k + 1) y0 y1 y2))
  | 0 => fun _ _ _ r h => by simp [isobathlaw02_numbers.l0] at h
  | k + 1 => by
    have ih0 := isobathlaw02_numbers.mono_l k
    · intro y0 y1 y2
      unfold isobathlaw02_numbers.l0
      repeat' first
      | (with_reducible exact ih0 _ _ _)
      | (with_reducible exact LeO.refl _)
      | (with_reducible exact LeO.none _)
      | (with_reducible refine LeO.ite ?_ ?_)
      | (with_reducible refine LeO.bind ?_ (fun _ => ?_))
      | exact ih0 _ _ _
      | exact LeO.none _
      | refine LeO.ite ?_ ?_
      | refine LeO.bind ?_ (fun _ => ?_)
theorem isobathlaw02_numbers.mono : ∀ a0 a1 k, LeO (isobathlaw02_numbers.f k a0 a1) (isobathlaw02_numbers.f (k + 1) a0 a1) := by
  intro a0 a1 k
  have ih0 := isobathlaw02_numbers.mono_l k
  unfold isobathlaw02_numbers.f
  repeat' first
      | (with_reducible exact ih0 _ _ _)
      | (with_reducible exact LeO.refl _)
      | (with_reducible exact LeO.none _)
      | (with_reducible refine LeO.ite ?_ ?_)
      | (with_reducible refine LeO.bind ?_ (fun _ => ?_))
      | exact ih0 _ _ _
      | exact LeO.none _
      | refine LeO.ite ?_ ?_
      | refine LeO.bind ?_ (fun _ => ?_)
set_option maxHeartbeats 8000000 in
set_option maxRecDepth 100000 in
theorem isobathlaw02_numbers.calls (k : Nat) (A0 : Option Addr) (c0 : Nat) (l0 : List Int) (A1 : Option Addr) (c1 : Nat) (l1 : List Int) (r : Bool) (w : World) (hr0 : Kd.C (Kd.int .i64) w A0 l0.length l0) (hc0 : l0.length ≤ c0) (hr1 : Kd.C (Kd.int .i64) w A1 l1.length l1) (hc1 : l1.length ≤ c1) (h : isobathlaw02_numbers.f k l0 l1 = some r) :
    Calls Try.prog 19 #[.slice A0 l0.length c0, .slice A1 l1.length c1] w fun e w' => e = .returned (.bool r) ∧ Drawn0 w w' := by
  have HR0 := Aside0.mk hr0
  have HC0 := Aside0.mk hc0
  clear hr0 hc0
  have HR1 := Aside0.mk hr1
  have HC1 := Aside0.mk hc1
  clear hr1 hc1
  have H : (if (l0.length : Int) = (l1.length : Int) then (isobathlaw02_numbers.l0 k l0 l1 0) else (some false)) = some r := h
  clear h
  by_cases c3 : (l0.length : Int) = (l1.length : Int)
  · rw [if_pos c3] at H
    have c3b0 : ((l0.length : Int) == (l1.length : Int)) = true := beq_iff_eq.mpr c3
    have c3b1 : ((l0.length : Int) != (l1.length : Int)) = false := bne_eq_false_iff_eq.mpr c3
    have c3b2 : (l0.length == l1.length) = true := by first | simpa using c3 | (simp at c3 ⊢; omega)
    clear c3
    have H' := Aside0.mk H
    clear H
    go_enter Try.func19, Try.ntmps19
    go_wp2
    repeat (go_quiet (fail); try go_wp2)
    go_loopg [5] k (fun kq v5 w' => ∃ (x5_1 : Int), v5 = .int .i64 x5_1 ∧ Aside0 (isobathlaw02_numbers.l0 kq l0 l1 x5_1 = some r) ∧ Aside0 (kq ≤ k) ∧ Drawn0 w w')
    case atStart => exact ⟨(0), (by first | rfl | (simp; done) | (simp [*]; done)), H', ⟨Nat.le_refl _⟩, by repeat (first | exact Drawn0.refl _ | apply Drawn0.step)⟩
    case round =>
      clear H'
      try clear c1
      try clear p2
      try clear c3
      try clear c3b0
      try clear c3b1
      try clear c3b2
      obtain ⟨x5_1, rfl, HA, HK1, ⟨m1, rfl⟩⟩ := hrel
      cases gk with
      | zero => exact absurd HA.out (by simp [isobathlaw02_numbers.l0])
      | succ k1 =>
        have H := HA.out
        clear HA
        simp only [isobathlaw02_numbers.l0] at H
        by_cases c4 : x5_1 < (l0.length : Int)
        · rw [if_pos c4] at H
          have c4b0 : decide (x5_1 < (l0.length : Int)) = true := decide_eq_true c4
          clear c4
          by_cases c5 : 0 ≤ x5_1
          · rw [if_pos c5] at H
            have c5b0 : decide (0 ≤ x5_1) = true := decide_eq_true c5
            clear c5
            by_cases c6 : x5_1 < (l1.length : Int)
            · rw [if_pos c6] at H
              have c6b0 : decide (x5_1 < (l1.length : Int)) = true := decide_eq_true c6
              clear c6
              by_cases c7 : (rd l0 x5_1) = (rd l1 x5_1)
              · rw [if_pos c7] at H
                have c7b0 : ((rd l0 x5_1) == (rd l1 x5_1)) = true := beq_iff_eq.mpr c7
                have c7b1 : ((rd l0 x5_1) != (rd l1 x5_1)) = false := bne_eq_false_iff_eq.mpr c7
                clear c7
                have H' := Aside0.mk H
                clear H
                have p101 : 0 ≤ (x5_1 : Int) := of_decide_eq_true (by first | (with_reducible assumption) | assumption)
                have q101 : x5_1 < (l0.length : Int) := of_decide_eq_true (by first | (with_reducible assumption) | assumption)
                obtain ⟨ad101, e101, hx101_0⟩ := Kd.at_int HR0.out x5_1 p101 q101
                cases e101
                replace p101 := eq_true p101
                replace q101 := eq_true q101
                have p102 : 0 ≤ (x5_1 : Int) := of_decide_eq_true (by first | (with_reducible assumption) | assumption)
                have q102 : x5_1 < (l1.length : Int) := of_decide_eq_true (by first | (with_reducible assumption) | assumption)
                obtain ⟨ad102, e102, hx102_0⟩ := Kd.at_int HR1.out x5_1 p102 q102
                cases e102
                replace p102 := eq_true p102
                replace q102 := eq_true q102
                go_wp2
                repeat (go_quiet (fail); try go_wp2)
                go_roundg k1
                case measure => have := HK1.out; omega
                case rel => exact ⟨(wrap64 (x5_1 + 1)), (by first | rfl | (simp; done) | (simp [*]; done)), H', ⟨by have := HK1.out; omega⟩, by repeat (first | exact Drawn0.refl _ | apply Drawn0.step)⟩
              · rw [if_neg c7] at H
                have c7b0 : ((rd l0 x5_1) == (rd l1 x5_1)) = false := beq_eq_false_iff_ne.mpr c7
                have c7b1 : ((rd l0 x5_1) != (rd l1 x5_1)) = true := bne_iff_ne.mpr c7
                obtain rfl := Option.some.inj H
                have p101 : 0 ≤ (x5_1 : Int) := of_decide_eq_true (by first | (with_reducible assumption) | assumption)
                have q101 : x5_1 < (l0.length : Int) := of_decide_eq_true (by first | (with_reducible assumption) | assumption)
                obtain ⟨ad101, e101, hx101_0⟩ := Kd.at_int HR0.out x5_1 p101 q101
                cases e101
                replace p101 := eq_true p101
                replace q101 := eq_true q101
                have p102 : 0 ≤ (x5_1 : Int) := of_decide_eq_true (by first | (with_reducible assumption) | assumption)
                have q102 : x5_1 < (l1.length : Int) := of_decide_eq_true (by first | (with_reducible assumption) | assumption)
                obtain ⟨ad102, e102, hx102_0⟩ := Kd.at_int HR1.out x5_1 p102 q102
                cases e102
                replace p102 := eq_true p102
                replace q102 := eq_true q102
                go_wp2
                repeat (go_quiet (fail); try go_wp2)
                go_ret
                exact ⟨by first | rfl | (simp; done) | (simp [*]; done), by repeat (first | exact Drawn0.refl _ | apply Drawn0.step)⟩
            · rw [if_neg c6] at H
              exact absurd H (by simp)
          · rw [if_neg c5] at H
            exact absurd H (by simp)
        · rw [if_neg c4] at H
          have c4b0 : decide (x5_1 < (l0.length : Int)) = false := decide_eq_false c4
          clear c4
          obtain rfl := Option.some.inj H
          go_wp2
          repeat (go_quiet (fail); try go_wp2)
          go_ret
          exact ⟨by first | rfl | (simp; done) | (simp [*]; done), by repeat (first | exact Drawn0.refl _ | apply Drawn0.step)⟩
  · rw [if_neg c3] at H
    have c3b0 : ((l0.length : Int) == (l1.length : Int)) = false := beq_eq_false_iff_ne.mpr c3
    have c3b1 : ((l0.length : Int) != (l1.length : Int)) = true := bne_iff_ne.mpr c3
    have c3b2 : (l0.length == l1.length) = false := by first | simpa using c3 | (simp at c3 ⊢; omega)
    obtain rfl := Option.some.inj H
    go_enter Try.func19, Try.ntmps19
    go_wp2
    repeat (go_quiet (fail); try go_wp2)
    go_ret
    exact ⟨by first | rfl | (simp; done) | (simp [*]; done), by repeat (first | exact Drawn0.refl _ | apply Drawn0.step)⟩

end Go.Proofs.Ytebcmhajbjkojaa.P

namespace Go.Proofs.Ytebcmhajbjkojaa.P
open Go.RowKit Go.Proofs.YtebcmhajbjkojaaW.PrintWords Go.Proofs.YtebcmhajbjkojaaW.PrintLast Go.Proofs.YtebcmhajbjkojaaW.PrintMore
attribute [local go_sem] max2_int min2_int max_two min_two max_three min_three max_four min_four   -- for this text's walks alone
set_option linter.unusedVariables false
set_option linter.unusedSimpArgs false

/-! ### isobathref02_code: function 56 -/
def isobathref02_code.f (a0 : Int) : Option (Bool) := if a0 ≥ 0 then (some (decide (a0 < 65536))) else (some false)
set_option maxHeartbeats 8000000 in
set_option maxRecDepth 100000 in
theorem isobathref02_code.calls (a0 : Int) (r : Bool) (w : World) (h : isobathref02_code.f a0 = some r) :
    Calls Try.prog 56 #[.int .i64 a0] w fun e w' => e = .returned (.bool r) ∧ Drawn0 w w' := by
  have H : (if a0 ≥ 0 then (some (decide (a0 < 65536))) else (some false)) = some r := h
  clear h
  by_cases c2 : a0 ≥ 0
  · rw [if_pos c2] at H
    have c2b0 : decide (0 ≤ a0) = true := decide_eq_true c2
    clear c2
    obtain rfl := Option.some.inj H
    go_enter Try.func56, Try.ntmps56
    go_wp2
    go_ret
    exact ⟨by first | rfl | (simp; done) | (simp [*]; done), by repeat (first | exact Drawn0.refl _ | apply Drawn0.step)⟩
  · rw [if_neg c2] at H
    have c2b0 : decide (0 ≤ a0) = false := decide_eq_false c2
    clear c2
    obtain rfl := Option.some.inj H
    go_enter Try.func56, Try.ntmps56
    go_wp2
    go_ret
    exact ⟨by first | rfl | (simp; done) | (simp [*]; done), by repeat (first | exact Drawn0.refl _ | apply Drawn0.step)⟩

end Go.Proofs.Ytebcmhajbjkojaa.P
