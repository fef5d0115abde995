/- each box of a region lies in one of the region with a lesser depth; with narrower arrivals, and with another station, no box is in the region that was not in it. Part 2 of 7. -/
-- Put together by wip/tools/shake.py, a program of this work: out of the words that the kit's print tool (print.sh) writes for a claim and what wip/tools/xprint.py prints, those that this claim reaches, and this work's own texts.
import Derived.Deep.QuietTactic
import Derived.BigQuiet
import Derived.Outline
import Derived.StillTailTactics
import Derived.RegionTactic
import Derived.BigRegion
import Derived.Laws.EntriesVeiled
import Derived.Laws.Externs
import Derived.Test.YtaheamdoldiojaaKSoundNearer0
namespace Go.Proofs.Ytaheamdoldiojaa.P
open Go.RowKit Go.Proofs.YtaheamdoldiojaaW.PrintWords Go.Proofs.YtaheamdoldiojaaW.PrintLast Go.Proofs.YtaheamdoldiojaaW.PrintMore
attribute [local go_sem] max2_int min2_int max_two min_two max_three min_three max_four min_four   -- for this text's walks alone
set_option linter.unusedVariables false
set_option linter.unusedSimpArgs false
def Bst.Out (w : World) (b : List Bool) (r : Int) (e : Ending) (w' : World) : Prop := ∃ v, e = .returned (.tuple #[v, .int .i64 r]) ∧ Kd.R Kd.bool 4 w' w.heap.size (fun _ => True) v b ∧ Below w.heap.size w w'
theorem Bst.Tab.far {fv : Nat} {val : Int → Int} {n : Nat} {l : List Int} {w0 : World} {bv bb bt : Nat} {gs : List Nat} {W : World} (h : Bst.Tab fv val n l w0 bv bb bt gs W) {R : Nat} (hR : w0.heap.size ≤ R) (h1 : bv ≠ R) (h2 : bb ≠ R) (h3 : bt ≠ R) (h4 : ∀ g ∈ gs, g ≠ R) (j : Nat) (v : Value) : Bst.Tab fv val n l w0 bv bb bt gs (W.setCell ⟨R, j, none⟩ v) :=
 ⟨zbs h.below hR, zkf h.hv h1 _, zkf h.hb h2 _, zkf h.ht h3 _, h.low, fun j g hj => ⟨(h.rows j g hj).1, zkf (h.rows j g hj).2 (h4 g (List.mem_of_getElem? hj)) _⟩⟩
theorem bst_put' (val : Int → Int) (fv : Nat) (HV : Bst.Val fv val) (run : Nat) (rI cI fI : Int) (lo th : Bool) {n : Nat} {l : List Int} {w0 : World} {bv bb bt : Nat} {gs : List Nat} {R G : Nat} {row : List Bst.Step} {w : World} (hrI : rI = (run : Int)) (hrun : run < n + 1) (hn : n ≤ 256) (hlen : row.length = n + 1) (h : Bst.Row fv val n l w0 bv bb bt gs R G row w) :
  Calls Try.prog 130 #[.int .i64 rI, .agg #[.int .i64 cI, .int .i64 fI, .bool lo, .bool th], .pointer (some ⟨R, 0, none⟩), .pointer (some ⟨bb, 0, none⟩), .pointer (some ⟨bv, 0, none⟩)] w (Bst.Puts w G (Bst.put val row run ⟨cI, fI, lo, th⟩)) := by
 subst hrI
 exact bst_put val fv HV row run ⟨cI, fI, lo, th⟩ n R G bb bv w hlen hrun hn h.hR h.hr h.tab.hb h.tab.hv
set_option maxRecDepth 100000 in
set_option maxHeartbeats 16000000 in
theorem sound_best_calls (val : Int → Int) (fv : Nat) (HV : Bst.Val fv val) (A : Option Addr) (c : Nat) (l : List Int) (n : Nat) (b : List Bool) (r : Int) (w : World) (hl : Kd.C (Kd.int .i64) w A l.length l) (hc : l.length ≤ c) (hlen : l.length ≤ 256) (hn : n ≤ 256) (h : Bst.best val l n = some (b, r)) :
  Calls Try.prog 112 #[.slice A l.length c, .int .i64 (n : Int), .func (.func fv) #[] #[], .func (.func 114) #[] #[]] w (Bst.Out w b r) := by
 have HL := zam hl
 have HC := zam hc
 have H := zam h
 have HVV := zam HV
 have HLEN := zam hlen
 have HN := zam hn
 clear hl hc h HV
 have hu168 := Try.underlying168
 have hu166 := Try.underlying166
 go_enter Try.func112, Try.ntmps112
 go_wp2_with (first | ((with_reducible refine zgd (N := 6) rfl ?_); refine box_event ?hg (N := 6) ?hd (cs := #[.func (.func fv) #[] #[]]) (t := 149) ?hr ?_; (case hd => rfl); (case hg => rfl); (case hr => first | (go_simp; done) | (go_simp; rfl)); intro bv hbv w1 k6 hb; have HB := zam hb; have K6 := zam k6; have LV : Aside0 (w.heap.size ≤ bv) := ⟨by rw [hbv]; exact Nat.le_refl _⟩; clear hbv k6 hb) | ((with_reducible refine zgd (N := 7) rfl ?_); refine box_event ?hg (N := 7) ?hd (cs := #[.func (.func 114) #[] #[]]) (t := 150) ?hr ?_; (case hd => rfl); (case hg => rfl); (case hr => first | (go_simp; done) | (go_simp; rfl)); intro bb hbb w2 k7 hb; have n0_ := zam (zbt HB.out hb); have n1_ := zam (zkb K6.out hb); have K7 := zam k7; clear HB K6 hbb k7 hb; have HB := n0_; have K6 := n1_; clear n0_ n1_) | ((with_reducible refine zgd (N := 28) rfl ?_); refine bst_make (N := 28) ?hg ?hd 165 166 _ _ rfl (l.length + 1) _ rfl rfl (by first | rfl | (push_cast; rfl) | omega) Try.underlying165 (.slice none 0 0) 1 24 bst_info_row (by omega) (by omega) (Bst.tc n (l.length + 1) []) (bst_made_tab n _) ?_; (case hd => rfl); (case hg => rfl); intro bt hbt w3 k28 hb; have LT : Aside0 (w.heap.size ≤ bt) := ⟨by rw [hbt]; exact HB.out.size⟩; have n0_ := zam (zbt HB.out hb); have n1_ := zam (zkb K6.out hb); have n2_ := zam (zkb K7.out hb); have KT := zam k28; clear HB K6 K7 hbt k28 hb; have HB := n0_; have K6 := n1_; have K7 := n2_; clear n0_ n1_ n2_) | ((with_reducible refine zgd (N := 32) rfl ?_); refine bst_make (N := 32) ?hg ?hd 166 168 _ _ rfl (n + 1) _ rfl rfl (by first | rfl | (push_cast; rfl) | omega) Try.underlying166 (.agg #[.int .i64 0, .int .i64 0, .bool false, .bool false]) 4 24 bst_info_step (by omega) (by omega) (Bst.flat (List.replicate (n + 1) Bst.zero)) (bst_made_row _) ?_; (case hd => rfl); (case hg => rfl); intro g0 hg0 w4 k32 hb; have L0 : Aside0 (w.heap.size ≤ g0) := ⟨by rw [hg0]; exact HB.out.size⟩; have n0_ := zam (zbt HB.out hb); have n1_ := zam (zkb K6.out hb); have n2_ := zam (zkb K7.out hb); have n3_ := zam (zkb KT.out hb); have K0 := zam k32; clear HB K6 K7 KT hg0 k32 hb; have HB := n0_; have K6 := n1_; have K7 := n2_; have KT := n3_; clear n0_ n1_ n2_ n3_; have ht0 : w4.cell? ⟨bt, 0, none⟩ = some (.slice none 0 0) := (zkc KT.out 0).trans (by simp [Bst.tc, List.replicate_succ]); have hf0 := zkz KT.out 0; have hc3 : w4.cell? ⟨g0, 3, none⟩ = some (.bool (Bst.get (List.replicate (n + 1) Bst.zero) 0).there) := (zkc K0.out 3).trans (by have e_ := (Bst.flat_get (List.replicate (n + 1) Bst.zero) 0 (by simp)).2.2.2; simpa using e_); have hg3 := zkz K0.out 3; have hne : bt ≠ g0 := blk_ne KT.out K0.out (by decide); have hne2 := Ne.symm hne))
 have T0 : Bst.Tab fv val n l w bv bb bt [g0] ((w4.setCell ⟨bt, 0, none⟩ (.slice (some ⟨g0, 0, none⟩) (n + 1) (n + 1))).setCell ⟨g0, 3, none⟩ (.bool true)) := by
  have far : ∀ {g : Nat} {cs : Array Value} {t : TypeId}, w4.heap[g]? = some (.cells cs t (0, 0)) → g ≠ bt → g ≠ g0 → ((w4.setCell ⟨bt, 0, none⟩ (.slice (some ⟨g0, 0, none⟩) (n + 1) (n + 1))).setCell ⟨g0, 3, none⟩ (.bool true)).heap[g]? = some (.cells cs t (0, 0)) := fun h1 h2 h3 => zkf (zkf h1 h2 _) h3 _
  refine ⟨zbs (zbs HB.out LT.out) L0.out, far K6.out (blk_ne K6.out KT.out (by decide)) (blk_ne K6.out K0.out (by decide)), far K7.out (blk_ne K7.out KT.out (by decide)) (blk_ne K7.out K0.out (by decide)), ?_, LT.out, fun j g hj => ?_⟩
  ·refine zkf (blk_put KT.out 0 _ ?_) hne _
   have e := Bst.tc_set n (l.length + 1) [] g0 (by simp)
   simp only [List.nil_append, List.length_nil] at e
   rw [← e]
   simp [Bst.sl]
  cases j with
  | succ j => simp at hj
  | zero =>
   obtain rfl : g0 = g := by simpa using hj
   refine ⟨L0.out, blk_put (zkf K0.out hne2 _) 3 _ ?_⟩
   rw [Bst.tab, Bst.flat_set _ 0 _ (by simp)]
   simp [Bst.one, Bst.zero, List.replicate_succ, Bst.flat]
 clear ht0 hf0 hc3 hg3
 have T0 := zam T0
 clear HB K6 K7 KT K0 L0 hne hne2
 generalize ((w4.setCell _ _).setCell _ _) = W0 at *
 go_loopw [41] (fun v wr => ∃ (i : Nat) (gs : List Nat), v = .int .i64 (i : Int) ∧ Aside0 (i ≤ l.length) ∧ Aside0 (gs.length = i + 1) ∧ Aside0 (Bst.Tab fv val n l w bv bb bt gs wr)) (fun v _ => l.length - (intOf v).toNat)
 case atStart => exact ⟨0, [g0], rfl, ⟨Nat.zero_le _⟩, ⟨rfl⟩, T0⟩
 case round =>
  clear T0
  obtain ⟨i, gs, rfl, HI, HG, HT⟩ := hrel
  have hi := HI.out
  by_cases hlt : i < l.length
  ·have d1 : decide ((i : Int) < (l.length : Int)) = true := zdt (by omega)
   have GI : Aside0 (i < gs.length) := ⟨by have := HG.out; omega⟩
   obtain ⟨ad, eA, hx⟩ := Kd.at_int (Kd.C_below HL.out HT.out.below) (i : Int) (by omega) (by omega)
   subst eA
   rw [Int.toNat_natCast] at hx
   have p1 : ((i : Int) < (l.length : Int)) = True := eq_true (by omega)
   have p2 : (i < l.length) = True := eq_true hlt
   have p3 : (i < l.length + 1) = True := eq_true (by omega)
   have p4 : ((i : Int) < (l.length : Int) + 1) = True := eq_true (by omega)
   have HLT := zam hlt
   clear hlt hi
   go_wp2_with (first | ((with_reducible refine zgd (N := 48) rfl ?_); refine bst_make (N := 48) ?hg ?hd 166 168 _ _ rfl (n + 1) _ rfl rfl (by first | rfl | (push_cast; rfl) | omega) Try.underlying166 (.agg #[.int .i64 0, .int .i64 0, .bool false, .bool false]) 4 24 bst_info_step (by omega) (by omega) (Bst.flat (List.replicate (n + 1) Bst.zero)) (bst_made_row _) ?_; (case hd => rfl); (case hg => rfl); intro G hG w5 k48 hb; have LG : Aside0 (w.heap.size ≤ G ∧ ∀ g ∈ gs, g ≠ G) := ⟨by rw [hG]; exact ⟨HT.out.below.size, fun g hg => by obtain ⟨j, hj⟩ := List.getElem?_of_mem hg; exact Nat.ne_of_lt (blk_lt (HT.out.rows j g hj).2)⟩⟩; have n0_ := zam (HT.out.step hb); have KG := zam k48; clear HT hG k48 hb; have HT := n0_; clear n0_) | ((with_reducible refine zgd (N := 13) rfl ?_); refine box_event ?hg (N := 13) ?hd (cs := #[.slice none 0 0]) (t := 166) ?hr ?_; (case hd => rfl); (case hg => rfl); (case hr => first | (go_simp; done) | (go_simp; rfl)); intro R hR w6 k13 hb; have hbR : bt ≠ R := (by rw [hR]; exact Nat.ne_of_lt (blk_lt HT.out.ht)); have hbR2 := Ne.symm hbR; have LRR : Aside0 (bv ≠ R ∧ bb ≠ R ∧ (∀ g ∈ gs, g ≠ R) ∧ G ≠ R) := ⟨by rw [hR]; exact ⟨Nat.ne_of_lt (blk_lt HT.out.hv), Nat.ne_of_lt (blk_lt HT.out.hb), fun g hg => (by obtain ⟨j, hj⟩ := List.getElem?_of_mem hg; exact Nat.ne_of_lt (blk_lt (HT.out.rows j g hj).2)), Nat.ne_of_lt (blk_lt KG.out)⟩⟩; have n0_ := zam (HT.out.step hb); have n1_ := zam (zkb KG.out hb); have LR : Aside0 (w.heap.size ≤ R) := ⟨by rw [hR]; exact HT.out.below.size⟩; have KR := zam k13; clear HT KG hR k13 hb; have HT := n0_; have KG := n1_; clear n0_ n1_; have hr0 : w6.cell? ⟨R, 0, none⟩ = some (.slice none 0 0) := zkc KR.out 0; have hrf := zkz KR.out 0; have hti : w6.cell? ⟨bt, i, none⟩ = some (.slice (some ⟨gs[i]'GI.out, 0, none⟩) (n + 1) (n + 1)) := (zkc HT.out.ht i).trans (by have e_ := Bst.tc_get n (l.length + 1) gs i GI.out; unfold Bst.sl at e_; simpa using e_)))
   clear hx p1 p2 p3 p4 hti hr0 hrf d1
   have R0 : Aside0 (Bst.Row fv val n l w bv bb bt gs R G (Bst.upto val n (rd l (i : Int)) (Bst.tab val n l i) 0) (w6.setCell ⟨R, 0, none⟩ (.slice (some ⟨G, 0, none⟩) (n + 1) (n + 1)))) :=
    ⟨⟨HT.out.far LR.out LRR.out.1 LRR.out.2.1 hbR LRR.out.2.2.1 _ _, blk_put KR.out 0 _ rfl, zkf KG.out LRR.out.2.2.2 _, LG.out.1, LG.out.2⟩⟩
   have NBR := zam hbR
   clear HT KR KG LR LRR LG hbR hbR2
   generalize hxi : rd l (i : Int) = xi at *
   have HXI := zam hxi
   clear hxi
   generalize (w6.setCell _ _) = W1 at *
   go_loopw [55] (fun v wr => ∃ k : Nat, v = .int .i64 (k : Int) ∧ Aside0 (k ≤ n + 1) ∧ Aside0 (Bst.Row fv val n l w bv bb bt gs R G (Bst.upto val n xi (Bst.tab val n l i) k) wr)) (fun v _ => n + 1 - (intOf v).toNat)
   case atStart => exact ⟨0, rfl, ⟨Nat.zero_le _⟩, R0⟩
   case round =>
    clear R0
    obtain ⟨k, rfl, HK, HR⟩ := hrel
    by_cases hlt : k < n + 1
    ·have d1 : decide ((k : Int) < (n : Int) + 1) = true := zdt (by omega)
     have p1 : ((k : Int) < (n : Int) + 1) = True := eq_true (by omega)
     have p2 : (k < n + 1) = True := eq_true hlt
     have HLT2 := zam hlt
     have hkn : (k : Int) ≤ 256 := by omega
     have hul := zam (Bst.upto_len val n xi (Bst.tab val n l i) k)
     have hrow := (HR.out.tab.rows i (gs[i]'GI.out) (List.getElem?_eq_getElem GI.out)).2
     obtain ⟨c0, c1, c2, c3⟩ := Bst.flat_get (Bst.tab val n l i) k (by rw [Bst.tab_len]; exact hlt)
     have UP : Aside0 (Bst.upto val n xi (Bst.tab val n l i) (k + 1) = Bst.round val n xi (Bst.upto val n xi (Bst.tab val n l i) k) k (Bst.get (Bst.tab val n l i) k)) := ⟨rfl⟩
     have hs0 := (zkc hrow (k * 4)).trans ((List.getElem?_toArray).trans c0)
     have hs1 := (zkc hrow (k * 4 + 1)).trans ((List.getElem?_toArray).trans c1)
     have hs2 := (zkc hrow (k * 4 + 2)).trans ((List.getElem?_toArray).trans c2)
     have hs3 := (zkc hrow (k * 4 + 3)).trans ((List.getElem?_toArray).trans c3)
     generalize Bst.get (Bst.tab val n l i) k = s at *
     obtain ⟨sc, sf, slo, sth⟩ := s
     dsimp only at hs0 hs1 hs2 hs3
     clear c0 c1 c2 c3 hrow hlt
     cases sth
     ·go_wp2_with (first | ((with_reducible refine zgd (N := 16) rfl ?_); refine box_event ?hg (N := 16) ?hd (cs := #[.int .i64 0, .int .i64 0, .bool false, .bool false]) (t := 168) ?hr ?_; (case hd => rfl); (case hg => rfl); (case hr => first | (go_simp; done) | (go_simp; rfl)); intro q hq w7 k16 hb; have LQ : Aside0 (q ≠ G) := ⟨by rw [hq]; exact Ne.symm (Nat.ne_of_lt (blk_lt HR.out.hr))⟩; have hqb := zbs (j := 3) (v := .bool false) (zbs (j := 2) (v := .bool slo) (zbs (j := 1) (v := .int .i64 sf) (zbs (j := 0) (v := .int .i64 sc) hb (Nat.le_of_eq hq.symm)) (Nat.le_of_eq hq.symm)) (Nat.le_of_eq hq.symm)) (Nat.le_of_eq hq.symm); have R8 := zam (HR.out.step hqb); have KQ := zam (blk_set (blk_set (blk_set (blk_set k16 0 (.int .i64 sc)) 1 (.int .i64 sf)) 2 (.bool slo)) 3 (.bool false)); have hq0 : w7.cell? ⟨q, 0, none⟩ = some (.int .i64 0) := zkc k16 0; have hq1 : w7.cell? ⟨q, 1, none⟩ = some (.int .i64 0) := zkc k16 1; have hq2 : w7.cell? ⟨q, 2, none⟩ = some (.bool false) := zkc k16 2; have hq3 : w7.cell? ⟨q, 3, none⟩ = some (.bool false) := zkc k16 3; have hqf0 := zkz k16 0; have hqf1 := zkz k16 1; have hqf2 := zkz k16 2; have hqf3 := zkz k16 3; clear hq k16 hb hqb hs0 hs1 hs2 hs3))
      go_roundw
      case rel => exact ⟨k + 1, by first | rfl | go_num, ⟨HLT2.out⟩, ⟨by rw [UP.out]; first | exact R8.out | (have e_ := R8.out; simpa [Bst.round, Bst.loud, Bst.still] using e_)⟩⟩
      case measure => (have a2 := HLT2.out; simp only [intOf]; omega)
     by_cases x0 : xi = 0
     ·subst x0
      have t0 : ((0 : Int) != 0) = false := rfl
      go_wp2_with (first | ((with_reducible refine zgd (N := 16) rfl ?_); refine box_event ?hg (N := 16) ?hd (cs := #[.int .i64 0, .int .i64 0, .bool false, .bool false]) (t := 168) ?hr ?_; (case hd => rfl); (case hg => rfl); (case hr => first | (go_simp; done) | (go_simp; rfl)); intro q hq w7 k16 hb; have LQ : Aside0 (q ≠ G) := ⟨by rw [hq]; exact Ne.symm (Nat.ne_of_lt (blk_lt HR.out.hr))⟩; have hqb := zbs (j := 3) (v := .bool true) (zbs (j := 2) (v := .bool slo) (zbs (j := 1) (v := .int .i64 sf) (zbs (j := 0) (v := .int .i64 sc) hb (Nat.le_of_eq hq.symm)) (Nat.le_of_eq hq.symm)) (Nat.le_of_eq hq.symm)) (Nat.le_of_eq hq.symm); have R8 := zam (HR.out.step hqb); have KQ := zam (blk_set (blk_set (blk_set (blk_set k16 0 (.int .i64 sc)) 1 (.int .i64 sf)) 2 (.bool slo)) 3 (.bool true)); have hq0 : w7.cell? ⟨q, 0, none⟩ = some (.int .i64 0) := zkc k16 0; have hq1 : w7.cell? ⟨q, 1, none⟩ = some (.int .i64 0) := zkc k16 1; have hq2 : w7.cell? ⟨q, 2, none⟩ = some (.bool false) := zkc k16 2; have hq3 : w7.cell? ⟨q, 3, none⟩ = some (.bool false) := zkc k16 3; have hqf0 := zkz k16 0; have hqf1 := zkz k16 1; have hqf2 := zkz k16 2; have hqf3 := zkz k16 3; clear hq k16 hb hqb hs0 hs1 hs2 hs3) | (go_at_call 130; (with_reducible refine (bst_put' val fv HVV.out (0) _ _ _ _ _ (by omega) (by omega) HN.out zq26 R8.out).mono ?_); rintro e w9 ⟨v, rfl, hg, hr⟩; have R9 := zam (R8.out.put hg hr); have KQ9 := zam (zkg KQ.out hg (fun e => LQ.out (zsi e))); clear R8 KQ hg hr; have R8 := R9; have KQ := KQ9; clear R9 KQ9; have hq0 : w9.cell? ⟨q, 0, none⟩ = some (.int .i64 sc) := zkc KQ.out 0))
      go_roundw
      case rel => exact ⟨k + 1, by first | rfl | go_num, ⟨HLT2.out⟩, ⟨by rw [UP.out]; first | exact R8.out | (have e_ := R8.out; simpa [Bst.round, Bst.loud, Bst.still] using e_)⟩⟩
      case measure => (have a2 := HLT2.out; simp only [intOf]; omega)
     have z1 : (xi != 0) = true := bne_iff_ne.mpr x0
     have z2 : (xi == 0) = false := beq_eq_false_iff_ne.mpr x0
     obtain ⟨cw, hcw⟩ : ∃ cw, IntKind.i64.wrap (sc + 1) = cw := ⟨_, rfl⟩
     have HCW := zam ((i64_w _).symm.trans hcw)
     by_cases x2 : xi = 2
     ·subst x2
      rcases Nat.lt_trichotomy (k + 1) n with kk | kk | kk
      ·skip
       have e1 : (((k : Int) + 1) == (n : Int)) = false := beq_eq_false_iff_ne.mpr (by omega)
       have m1 : ((n : Int) < (k : Int) + 1) = False := eq_false (by omega)
       have m2 : (n ≤ k) = False := eq_false (by omega)
       have m3 : ((n : Int) ≤ (k : Int)) = False := eq_false (by omega)
       have KM : Aside0 (min (k + 1) n = if n < k + 1 then n else k + 1) := ⟨by split <;> omega⟩
       have kl : k + 1 ≤ n := by omega
       have KE : Aside0 ((k + 1 = n) = False) := ⟨by simp; omega⟩
       have KL : Aside0 ((n < k + 1) = False) := ⟨by simp; omega⟩
       clear kk
       go_wp2_with (first | ((with_reducible refine zgd (N := 16) rfl ?_); refine box_event ?hg (N := 16) ?hd (cs := #[.int .i64 0, .int .i64 0, .bool false, .bool false]) (t := 168) ?hr ?_; (case hd => rfl); (case hg => rfl); (case hr => first | (go_simp; done) | (go_simp; rfl)); intro q hq w7 k16 hb; have LQ : Aside0 (q ≠ G) := ⟨by rw [hq]; exact Ne.symm (Nat.ne_of_lt (blk_lt HR.out.hr))⟩; have hqb := zbs (j := 3) (v := .bool true) (zbs (j := 2) (v := .bool slo) (zbs (j := 1) (v := .int .i64 sf) (zbs (j := 0) (v := .int .i64 sc) hb (Nat.le_of_eq hq.symm)) (Nat.le_of_eq hq.symm)) (Nat.le_of_eq hq.symm)) (Nat.le_of_eq hq.symm); have R8 := zam (HR.out.step hqb); have KQ := zam (blk_set (blk_set (blk_set (blk_set k16 0 (.int .i64 sc)) 1 (.int .i64 sf)) 2 (.bool slo)) 3 (.bool true)); have hq0 : w7.cell? ⟨q, 0, none⟩ = some (.int .i64 0) := zkc k16 0; have hq1 : w7.cell? ⟨q, 1, none⟩ = some (.int .i64 0) := zkc k16 1; have hq2 : w7.cell? ⟨q, 2, none⟩ = some (.bool false) := zkc k16 2; have hq3 : w7.cell? ⟨q, 3, none⟩ = some (.bool false) := zkc k16 3; have hqf0 := zkz k16 0; have hqf1 := zkz k16 1; have hqf2 := zkz k16 2; have hqf3 := zkz k16 3; clear hq k16 hb hqb hs0 hs1 hs2 hs3) | (go_at_call 130; (with_reducible refine (bst_put' val fv HVV.out (k + 1) _ _ _ _ _ (by omega) (by omega) HN.out zq26 R8.out).mono ?_); rintro e w9 ⟨v, rfl, hg, hr⟩; have R9 := zam (R8.out.put hg hr); have KQ9 := zam (zkg KQ.out hg (fun e => LQ.out (zsi e))); clear R8 KQ hg hr; have R8 := R9; have KQ := KQ9; clear R9 KQ9; have hq0 : w9.cell? ⟨q, 0, none⟩ = some (.int .i64 sc) := zkc KQ.out 0))
       go_roundw
       case rel => exact ⟨k + 1, by first | rfl | go_num, ⟨HLT2.out⟩, ⟨by rw [UP.out]; first | exact R8.out | (have e_ := R8.out; simpa [Bst.round, Bst.loud, Bst.still, KM.out, KE.out, KL.out, HCW.out] using e_)⟩⟩
       case measure => (have a2 := HLT2.out; simp only [intOf]; omega)
      ·skip
       have e1 : (((k : Int) + 1) == (n : Int)) = true := beq_iff_eq.mpr (by omega)
       have m1 : ((n : Int) < (k : Int) + 1) = False := eq_false (by omega)
       have m2 : (n ≤ k) = False := eq_false (by omega)
       have m3 : ((n : Int) ≤ (k : Int)) = False := eq_false (by omega)
       have KM : Aside0 (min (k + 1) n = if n < k + 1 then n else k + 1) := ⟨by split <;> omega⟩
       have kl : k + 1 ≤ n := by omega
       have KE : Aside0 ((k + 1 = n) = True) := ⟨by simp; omega⟩
       have KL : Aside0 ((n < k + 1) = False) := ⟨by simp; omega⟩
       clear kk
       go_wp2_with (first | ((with_reducible refine zgd (N := 16) rfl ?_); refine box_event ?hg (N := 16) ?hd (cs := #[.int .i64 0, .int .i64 0, .bool false, .bool false]) (t := 168) ?hr ?_; (case hd => rfl); (case hg => rfl); (case hr => first | (go_simp; done) | (go_simp; rfl)); intro q hq w7 k16 hb; have LQ : Aside0 (q ≠ G) := ⟨by rw [hq]; exact Ne.symm (Nat.ne_of_lt (blk_lt HR.out.hr))⟩; have hqb := zbs (j := 3) (v := .bool true) (zbs (j := 2) (v := .bool slo) (zbs (j := 1) (v := .int .i64 sf) (zbs (j := 0) (v := .int .i64 sc) hb (Nat.le_of_eq hq.symm)) (Nat.le_of_eq hq.symm)) (Nat.le_of_eq hq.symm)) (Nat.le_of_eq hq.symm); have R8 := zam (HR.out.step hqb); have KQ := zam (blk_set (blk_set (blk_set (blk_set k16 0 (.int .i64 sc)) 1 (.int .i64 sf)) 2 (.bool slo)) 3 (.bool true)); have hq0 : w7.cell? ⟨q, 0, none⟩ = some (.int .i64 0) := zkc k16 0; have hq1 : w7.cell? ⟨q, 1, none⟩ = some (.int .i64 0) := zkc k16 1; have hq2 : w7.cell? ⟨q, 2, none⟩ = some (.bool false) := zkc k16 2; have hq3 : w7.cell? ⟨q, 3, none⟩ = some (.bool false) := zkc k16 3; have hqf0 := zkz k16 0; have hqf1 := zkz k16 1; have hqf2 := zkz k16 2; have hqf3 := zkz k16 3; clear hq k16 hb hqb hs0 hs1 hs2 hs3) | (go_at_call 130; (with_reducible refine (bst_put' val fv HVV.out (k + 1) _ _ _ _ _ (by omega) (by omega) HN.out zq26 R8.out).mono ?_); rintro e w9 ⟨v, rfl, hg, hr⟩; have R9 := zam (R8.out.put hg hr); have KQ9 := zam (zkg KQ.out hg (fun e => LQ.out (zsi e))); clear R8 KQ hg hr; have R8 := R9; have KQ := KQ9; clear R9 KQ9; have hq0 : w9.cell? ⟨q, 0, none⟩ = some (.int .i64 sc) := zkc KQ.out 0))
       go_roundw
       case rel => exact ⟨k + 1, by first | rfl | go_num, ⟨HLT2.out⟩, ⟨by rw [UP.out]; first | exact R8.out | (have e_ := R8.out; simpa [Bst.round, Bst.loud, Bst.still, KM.out, KE.out, KL.out, HCW.out] using e_)⟩⟩
       case measure => (have a2 := HLT2.out; simp only [intOf]; omega)
      skip
      have e1 : (((k : Int) + 1) == (n : Int)) = false := beq_eq_false_iff_ne.mpr (by omega)
      have m1 : ((n : Int) < (k : Int) + 1) = True := eq_true (by omega)
      have m2 : (n ≤ k) = True := eq_true (by omega)
      have m3 : ((n : Int) ≤ (k : Int)) = True := eq_true (by omega)
      have KM : Aside0 (min (k + 1) n = if n < k + 1 then n else k + 1) := ⟨by split <;> omega⟩
      have KE : Aside0 ((k + 1 = n) = False) := ⟨by simp; omega⟩
      have KL : Aside0 ((n < k + 1) = True) := ⟨by simp; omega⟩
      clear kk
      go_wp2_with (first | ((with_reducible refine zgd (N := 16) rfl ?_); refine box_event ?hg (N := 16) ?hd (cs := #[.int .i64 0, .int .i64 0, .bool false, .bool false]) (t := 168) ?hr ?_; (case hd => rfl); (case hg => rfl); (case hr => first | (go_simp; done) | (go_simp; rfl)); intro q hq w7 k16 hb; have LQ : Aside0 (q ≠ G) := ⟨by rw [hq]; exact Ne.symm (Nat.ne_of_lt (blk_lt HR.out.hr))⟩; have hqb := zbs (j := 3) (v := .bool true) (zbs (j := 2) (v := .bool slo) (zbs (j := 1) (v := .int .i64 sf) (zbs (j := 0) (v := .int .i64 sc) hb (Nat.le_of_eq hq.symm)) (Nat.le_of_eq hq.symm)) (Nat.le_of_eq hq.symm)) (Nat.le_of_eq hq.symm); have R8 := zam (HR.out.step hqb); have KQ := zam (blk_set (blk_set (blk_set (blk_set k16 0 (.int .i64 sc)) 1 (.int .i64 sf)) 2 (.bool slo)) 3 (.bool true)); have hq0 : w7.cell? ⟨q, 0, none⟩ = some (.int .i64 0) := zkc k16 0; have hq1 : w7.cell? ⟨q, 1, none⟩ = some (.int .i64 0) := zkc k16 1; have hq2 : w7.cell? ⟨q, 2, none⟩ = some (.bool false) := zkc k16 2; have hq3 : w7.cell? ⟨q, 3, none⟩ = some (.bool false) := zkc k16 3; have hqf0 := zkz k16 0; have hqf1 := zkz k16 1; have hqf2 := zkz k16 2; have hqf3 := zkz k16 3; clear hq k16 hb hqb hs0 hs1 hs2 hs3) | (go_at_call 130; (with_reducible refine (bst_put' val fv HVV.out (n) _ _ _ _ _ (by omega) (by omega) HN.out zq26 R8.out).mono ?_); rintro e w9 ⟨v, rfl, hg, hr⟩; have R9 := zam (R8.out.put hg hr); have KQ9 := zam (zkg KQ.out hg (fun e => LQ.out (zsi e))); clear R8 KQ hg hr; have R8 := R9; have KQ := KQ9; clear R9 KQ9; have hq0 : w9.cell? ⟨q, 0, none⟩ = some (.int .i64 sc) := zkc KQ.out 0))
      go_roundw
      case rel => exact ⟨k + 1, by first | rfl | go_num, ⟨HLT2.out⟩, ⟨by rw [UP.out]; first | exact R8.out | (have e_ := R8.out; simpa [Bst.round, Bst.loud, Bst.still, KM.out, KE.out, KL.out, HCW.out] using e_)⟩⟩
      case measure => (have a2 := HLT2.out; simp only [intOf]; omega)
     have z3 : (xi != 2) = true := bne_iff_ne.mpr x2
     have z4 : (xi == 2) = false := beq_eq_false_iff_ne.mpr x2
     rcases Nat.lt_trichotomy (k + 1) n with kk | kk | kk
     ·skip
      have e1 : (((k : Int) + 1) == (n : Int)) = false := beq_eq_false_iff_ne.mpr (by omega)
      have m1 : ((n : Int) < (k : Int) + 1) = False := eq_false (by omega)
      have m2 : (n ≤ k) = False := eq_false (by omega)
      have m3 : ((n : Int) ≤ (k : Int)) = False := eq_false (by omega)
      have KM : Aside0 (min (k + 1) n = if n < k + 1 then n else k + 1) := ⟨by split <;> omega⟩
      have kl : k + 1 ≤ n := by omega
      have KE : Aside0 ((k + 1 = n) = False) := ⟨by simp; omega⟩
      have KL : Aside0 ((n < k + 1) = False) := ⟨by simp; omega⟩
      clear kk
      go_wp2_with (first | ((with_reducible refine zgd (N := 16) rfl ?_); refine box_event ?hg (N := 16) ?hd (cs := #[.int .i64 0, .int .i64 0, .bool false, .bool false]) (t := 168) ?hr ?_; (case hd => rfl); (case hg => rfl); (case hr => first | (go_simp; done) | (go_simp; rfl)); intro q hq w7 k16 hb; have LQ : Aside0 (q ≠ G) := ⟨by rw [hq]; exact Ne.symm (Nat.ne_of_lt (blk_lt HR.out.hr))⟩; have hqb := zbs (j := 3) (v := .bool true) (zbs (j := 2) (v := .bool slo) (zbs (j := 1) (v := .int .i64 sf) (zbs (j := 0) (v := .int .i64 sc) hb (Nat.le_of_eq hq.symm)) (Nat.le_of_eq hq.symm)) (Nat.le_of_eq hq.symm)) (Nat.le_of_eq hq.symm); have R8 := zam (HR.out.step hqb); have KQ := zam (blk_set (blk_set (blk_set (blk_set k16 0 (.int .i64 sc)) 1 (.int .i64 sf)) 2 (.bool slo)) 3 (.bool true)); have hq0 : w7.cell? ⟨q, 0, none⟩ = some (.int .i64 0) := zkc k16 0; have hq1 : w7.cell? ⟨q, 1, none⟩ = some (.int .i64 0) := zkc k16 1; have hq2 : w7.cell? ⟨q, 2, none⟩ = some (.bool false) := zkc k16 2; have hq3 : w7.cell? ⟨q, 3, none⟩ = some (.bool false) := zkc k16 3; have hqf0 := zkz k16 0; have hqf1 := zkz k16 1; have hqf2 := zkz k16 2; have hqf3 := zkz k16 3; clear hq k16 hb hqb hs0 hs1 hs2 hs3) | (go_at_call 130; (with_reducible refine (bst_put' val fv HVV.out (k + 1) _ _ _ _ _ (by omega) (by omega) HN.out zq26 R8.out).mono ?_); rintro e w9 ⟨v, rfl, hg, hr⟩; have R9 := zam (R8.out.put hg hr); have KQ9 := zam (zkg KQ.out hg (fun e => LQ.out (zsi e))); clear R8 KQ hg hr; have R8 := R9; have KQ := KQ9; clear R9 KQ9; have hq0 : w9.cell? ⟨q, 0, none⟩ = some (.int .i64 sc) := zkc KQ.out 0) | (go_at_call 130; (with_reducible refine (bst_put' val fv HVV.out (0) _ _ _ _ _ (by omega) (by omega) HN.out zq26 R8.out).mono ?_); rintro e w9 ⟨v, rfl, hg, hr⟩; have R9 := zam (R8.out.put hg hr); have KQ9 := zam (zkg KQ.out hg (fun e => LQ.out (zsi e))); clear R8 KQ hg hr; have R8 := R9; have KQ := KQ9; clear R9 KQ9; have hq0 : w9.cell? ⟨q, 0, none⟩ = some (.int .i64 sc) := zkc KQ.out 0))
      go_roundw
      case rel => exact ⟨k + 1, by first | rfl | go_num, ⟨HLT2.out⟩, ⟨by rw [UP.out]; first | exact R8.out | (have e_ := R8.out; simpa [Bst.round, Bst.loud, Bst.still, KM.out, KE.out, KL.out, HCW.out, x0, x2] using e_)⟩⟩
      case measure => (have a2 := HLT2.out; simp only [intOf]; omega)
     ·skip
      have e1 : (((k : Int) + 1) == (n : Int)) = true := beq_iff_eq.mpr (by omega)
      have m1 : ((n : Int) < (k : Int) + 1) = False := eq_false (by omega)
      have m2 : (n ≤ k) = False := eq_false (by omega)
      have m3 : ((n : Int) ≤ (k : Int)) = False := eq_false (by omega)
      have KM : Aside0 (min (k + 1) n = if n < k + 1 then n else k + 1) := ⟨by split <;> omega⟩
      have kl : k + 1 ≤ n := by omega
      have KE : Aside0 ((k + 1 = n) = True) := ⟨by simp; omega⟩
      have KL : Aside0 ((n < k + 1) = False) := ⟨by simp; omega⟩
      clear kk
      go_wp2_with (first | ((with_reducible refine zgd (N := 16) rfl ?_); refine box_event ?hg (N := 16) ?hd (cs := #[.int .i64 0, .int .i64 0, .bool false, .bool false]) (t := 168) ?hr ?_; (case hd => rfl); (case hg => rfl); (case hr => first | (go_simp; done) | (go_simp; rfl)); intro q hq w7 k16 hb; have LQ : Aside0 (q ≠ G) := ⟨by rw [hq]; exact Ne.symm (Nat.ne_of_lt (blk_lt HR.out.hr))⟩; have hqb := zbs (j := 3) (v := .bool true) (zbs (j := 2) (v := .bool slo) (zbs (j := 1) (v := .int .i64 sf) (zbs (j := 0) (v := .int .i64 sc) hb (Nat.le_of_eq hq.symm)) (Nat.le_of_eq hq.symm)) (Nat.le_of_eq hq.symm)) (Nat.le_of_eq hq.symm); have R8 := zam (HR.out.step hqb); have KQ := zam (blk_set (blk_set (blk_set (blk_set k16 0 (.int .i64 sc)) 1 (.int .i64 sf)) 2 (.bool slo)) 3 (.bool true)); have hq0 : w7.cell? ⟨q, 0, none⟩ = some (.int .i64 0) := zkc k16 0; have hq1 : w7.cell? ⟨q, 1, none⟩ = some (.int .i64 0) := zkc k16 1; have hq2 : w7.cell? ⟨q, 2, none⟩ = some (.bool false) := zkc k16 2; have hq3 : w7.cell? ⟨q, 3, none⟩ = some (.bool false) := zkc k16 3; have hqf0 := zkz k16 0; have hqf1 := zkz k16 1; have hqf2 := zkz k16 2; have hqf3 := zkz k16 3; clear hq k16 hb hqb hs0 hs1 hs2 hs3) | (go_at_call 130; (with_reducible refine (bst_put' val fv HVV.out (k + 1) _ _ _ _ _ (by omega) (by omega) HN.out zq26 R8.out).mono ?_); rintro e w9 ⟨v, rfl, hg, hr⟩; have R9 := zam (R8.out.put hg hr); have KQ9 := zam (zkg KQ.out hg (fun e => LQ.out (zsi e))); clear R8 KQ hg hr; have R8 := R9; have KQ := KQ9; clear R9 KQ9; have hq0 : w9.cell? ⟨q, 0, none⟩ = some (.int .i64 sc) := zkc KQ.out 0) | (go_at_call 130; (with_reducible refine (bst_put' val fv HVV.out (0) _ _ _ _ _ (by omega) (by omega) HN.out zq26 R8.out).mono ?_); rintro e w9 ⟨v, rfl, hg, hr⟩; have R9 := zam (R8.out.put hg hr); have KQ9 := zam (zkg KQ.out hg (fun e => LQ.out (zsi e))); clear R8 KQ hg hr; have R8 := R9; have KQ := KQ9; clear R9 KQ9; have hq0 : w9.cell? ⟨q, 0, none⟩ = some (.int .i64 sc) := zkc KQ.out 0))
      go_roundw
      case rel => exact ⟨k + 1, by first | rfl | go_num, ⟨HLT2.out⟩, ⟨by rw [UP.out]; first | exact R8.out | (have e_ := R8.out; simpa [Bst.round, Bst.loud, Bst.still, KM.out, KE.out, KL.out, HCW.out, x0, x2] using e_)⟩⟩
      case measure => (have a2 := HLT2.out; simp only [intOf]; omega)
     skip
     have e1 : (((k : Int) + 1) == (n : Int)) = false := beq_eq_false_iff_ne.mpr (by omega)
     have m1 : ((n : Int) < (k : Int) + 1) = True := eq_true (by omega)
     have m2 : (n ≤ k) = True := eq_true (by omega)
     have m3 : ((n : Int) ≤ (k : Int)) = True := eq_true (by omega)
     have KM : Aside0 (min (k + 1) n = if n < k + 1 then n else k + 1) := ⟨by split <;> omega⟩
     have KE : Aside0 ((k + 1 = n) = False) := ⟨by simp; omega⟩
     have KL : Aside0 ((n < k + 1) = True) := ⟨by simp; omega⟩
     clear kk
     go_wp2_with (first | ((with_reducible refine zgd (N := 16) rfl ?_); refine box_event ?hg (N := 16) ?hd (cs := #[.int .i64 0, .int .i64 0, .bool false, .bool false]) (t := 168) ?hr ?_; (case hd => rfl); (case hg => rfl); (case hr => first | (go_simp; done) | (go_simp; rfl)); intro q hq w7 k16 hb; have LQ : Aside0 (q ≠ G) := ⟨by rw [hq]; exact Ne.symm (Nat.ne_of_lt (blk_lt HR.out.hr))⟩; have hqb := zbs (j := 3) (v := .bool true) (zbs (j := 2) (v := .bool slo) (zbs (j := 1) (v := .int .i64 sf) (zbs (j := 0) (v := .int .i64 sc) hb (Nat.le_of_eq hq.symm)) (Nat.le_of_eq hq.symm)) (Nat.le_of_eq hq.symm)) (Nat.le_of_eq hq.symm); have R8 := zam (HR.out.step hqb); have KQ := zam (blk_set (blk_set (blk_set (blk_set k16 0 (.int .i64 sc)) 1 (.int .i64 sf)) 2 (.bool slo)) 3 (.bool true)); have hq0 : w7.cell? ⟨q, 0, none⟩ = some (.int .i64 0) := zkc k16 0; have hq1 : w7.cell? ⟨q, 1, none⟩ = some (.int .i64 0) := zkc k16 1; have hq2 : w7.cell? ⟨q, 2, none⟩ = some (.bool false) := zkc k16 2; have hq3 : w7.cell? ⟨q, 3, none⟩ = some (.bool false) := zkc k16 3; have hqf0 := zkz k16 0; have hqf1 := zkz k16 1; have hqf2 := zkz k16 2; have hqf3 := zkz k16 3; clear hq k16 hb hqb hs0 hs1 hs2 hs3) | (go_at_call 130; (with_reducible refine (bst_put' val fv HVV.out (n) _ _ _ _ _ (by omega) (by omega) HN.out zq26 R8.out).mono ?_); rintro e w9 ⟨v, rfl, hg, hr⟩; have R9 := zam (R8.out.put hg hr); have KQ9 := zam (zkg KQ.out hg (fun e => LQ.out (zsi e))); clear R8 KQ hg hr; have R8 := R9; have KQ := KQ9; clear R9 KQ9; have hq0 : w9.cell? ⟨q, 0, none⟩ = some (.int .i64 sc) := zkc KQ.out 0) | (go_at_call 130; (with_reducible refine (bst_put' val fv HVV.out (0) _ _ _ _ _ (by omega) (by omega) HN.out zq26 R8.out).mono ?_); rintro e w9 ⟨v, rfl, hg, hr⟩; have R9 := zam (R8.out.put hg hr); have KQ9 := zam (zkg KQ.out hg (fun e => LQ.out (zsi e))); clear R8 KQ hg hr; have R8 := R9; have KQ := KQ9; clear R9 KQ9; have hq0 : w9.cell? ⟨q, 0, none⟩ = some (.int .i64 sc) := zkc KQ.out 0))
     go_roundw
     case rel => exact ⟨k + 1, by first | rfl | go_num, ⟨HLT2.out⟩, ⟨by rw [UP.out]; first | exact R8.out | (have e_ := R8.out; simpa [Bst.round, Bst.loud, Bst.still, KM.out, KE.out, KL.out, HCW.out, x0, x2] using e_)⟩⟩
     case measure => (have a2 := HLT2.out; simp only [intOf]; omega)
    have hk : k = n + 1 := by have := HK.out; omega
    subst hk
    clear HK hlt
    have d1 : decide (((n + 1 : Nat) : Int) < (n : Int) + 1) = false := zdf (by omega)
    have p0 : ((i : Int) + 1 < (l.length : Int) + 1) = True := eq_true (by have := HLT.out; omega)
    have p5 : ((i : Int) < (l.length : Int)) = True := eq_true (by have := HLT.out; omega)
    have p6 : (i < l.length) = True := eq_true HLT.out
    have p7 : (i + 1 < l.length + 1) = True := eq_true (by have := HLT.out; omega)
    have hib : (i : Int) ≤ 256 := by have := HLT.out; omega
    have TN : Aside0 ((Bst.tc n (l.length + 1) gs).toArray[i + 1]? = some (.slice none 0 0)) := ⟨by
     have hg := HG.out
     have hl := HLT.out
     unfold Bst.tc
     simp only [List.getElem?_toArray]
     rw [List.getElem?_append_right (by simp; omega)]
     obtain ⟨d, hd⟩ : ∃ d, l.length + 1 - gs.length = d + 1 := ⟨l.length - gs.length, by omega⟩
     rw [hd, List.length_map, hg, Nat.sub_self]
     rfl⟩
    go_wp2_with (first | ((with_reducible refine zgd (N := 96) rfl ?_); refine bst_make (N := 96) ?hg ?hd 166 168 _ _ rfl (n + 1) _ rfl rfl (by first | rfl | (push_cast; rfl) | omega) Try.underlying166 (.agg #[.int .i64 0, .int .i64 0, .bool false, .bool false]) 4 24 bst_info_step (by omega) (by omega) (Bst.flat (List.replicate (n + 1) Bst.zero)) (bst_made_row _) ?_; (case hd => rfl); (case hg => rfl); intro N hN w8 k96 hb; have LN : Aside0 (w.heap.size ≤ N ∧ bt ≠ N ∧ bv ≠ N ∧ bb ≠ N ∧ R ≠ N ∧ G ≠ N ∧ ∀ g ∈ gs, g ≠ N) := ⟨by rw [hN]; exact ⟨HR.out.tab.below.size, Nat.ne_of_lt (blk_lt HR.out.tab.ht), Nat.ne_of_lt (blk_lt HR.out.tab.hv), Nat.ne_of_lt (blk_lt HR.out.tab.hb), Nat.ne_of_lt (blk_lt HR.out.hR), Nat.ne_of_lt (blk_lt HR.out.hr), fun g hg => (by obtain ⟨j, hj⟩ := List.getElem?_of_mem hg; exact Nat.ne_of_lt (blk_lt (HR.out.tab.rows j g hj).2))⟩⟩; have n0_ := zam (HR.out.step hb); have KN := zam k96; clear HR hN k96 hb; have HR := n0_; clear n0_; have hti : w8.cell? ⟨bt, i + 1, none⟩ = some (.slice none 0 0) := (zkc HR.out.tab.ht (i + 1)).trans TN.out; have htf := zkz HR.out.tab.ht (i + 1)))
    clear hti htf p0 p5 p6 p7 d1
    have far8 : ∀ {g : Nat} {cs : Array Value} {t : TypeId}, w8.heap[g]? = some (.cells cs t (0, 0)) → g ≠ bt → (w8.setCell ⟨bt, i + 1, none⟩ (.slice (some ⟨N, 0, none⟩) (n + 1) (n + 1))).heap[g]? = some (.cells cs t (0, 0)) := fun h1 h2 => zkf h1 h2 _
    have KV8 := zam (far8 HR.out.tab.hv (blk_ne HR.out.tab.hv HR.out.tab.ht (by decide)))
    have KB8 := zam (far8 HR.out.tab.hb (blk_ne HR.out.tab.hb HR.out.tab.ht (by decide)))
    have KT8 := zam (blk_put HR.out.tab.ht (i + 1) (.slice (some ⟨N, 0, none⟩) (n + 1) (n + 1)) rfl)
    have KR8 := zam (far8 HR.out.hR (Ne.symm NBR.out))
    have KG8 := zam (far8 HR.out.hr (blk_ne HR.out.hr HR.out.tab.ht (by decide)))
    have KN8 := zam (far8 KN.out (Ne.symm LN.out.2.1))
    have ROWS8 : Aside0 (∀ (j : Nat) (g : Nat), gs[j]? = some g → w.heap.size ≤ g ∧ g ≠ N ∧ (w8.setCell ⟨bt, i + 1, none⟩ (.slice (some ⟨N, 0, none⟩) (n + 1) (n + 1))).heap[g]? = some (.cells (Bst.flat (Bst.tab val n l j)).toArray 168 (0, 0))) := ⟨fun j g hj => ⟨(HR.out.tab.rows j g hj).1, LN.out.2.2.2.2.2.2 g (List.mem_of_getElem? hj), far8 (HR.out.tab.rows j g hj).2 (blk_ne (HR.out.tab.rows j g hj).2 HR.out.tab.ht (by decide))⟩⟩
    have HB8 := zam (zbs (j := i + 1) (v := .slice (some ⟨N, 0, none⟩) (n + 1) (n + 1)) HR.out.tab.below LT.out)
    have hA := (zkc KT8.out (i + 1)).trans (show _ = some (Value.slice (some ⟨N, 0, none⟩) (n + 1) (n + 1)) by rw [Array.getElem?_setIfInBounds_self]; have hg := HG.out; have e_ := Bst.tc_length n (l.length + 1) gs (by have := HLT.out; omega); have hl_ := HLT.out; rw [if_pos (by rw [List.size_toArray, e_]; omega)])
    have hB : (w8.setCell ⟨bt, i + 1, none⟩ (.slice (some ⟨N, 0, none⟩) (n + 1) (n + 1))).cell? ⟨R, 0, none⟩ = some (.slice (some ⟨G, 0, none⟩) (n + 1) (n + 1)) := zkc KR8.out 0
    clear far8 HR KN
    generalize (w8.setCell _ _) = W8 at *
    refine wp_region_still_tail 6 (by kernel_rfl) (by kernel_rfl) ?_
    simp only [List.take_succ_cons, List.take_zero, List.drop_succ_cons, List.drop_zero]
    have KV9 : Aside0 (W8.drew.heap[bv]? = some (.cells #[.func (.func fv) #[] #[]] 149 (0, 0))) := KV8
    have KB9 : Aside0 (W8.drew.heap[bb]? = some (.cells #[.func (.func 114) #[] #[]] 150 (0, 0))) := KB8
    have KT9 : Aside0 (W8.drew.heap[bt]? = some (.cells ((Bst.tc n (l.length + 1) gs).toArray.setIfInBounds (i + 1) (.slice (some ⟨N, 0, none⟩) (n + 1) (n + 1))) 166 (0, 0))) := KT8
    have KG9 : Aside0 (W8.drew.heap[G]? = some (.cells (Bst.flat (Bst.upto val n xi (Bst.tab val n l i) (n + 1))).toArray 168 (0, 0))) := KG8
    have KN9 : Aside0 (W8.drew.heap[N]? = some (.cells (Bst.flat (List.replicate (n + 1) Bst.zero)).toArray 168 (0, 0))) := KN8
    have ROWS9 : Aside0 (∀ (j : Nat) (g : Nat), gs[j]? = some g → w.heap.size ≤ g ∧ g ≠ N ∧ W8.drew.heap[g]? = some (.cells (Bst.flat (Bst.tab val n l j)).toArray 168 (0, 0))) := ROWS8
    have HB9 : Aside0 (Below w.heap.size w W8.drew) := ⟨⟨HB8.out.os, HB8.out.tape, HB8.out.output, HB8.out.size, HB8.out.block⟩⟩
    have hA9 : W8.drew.cell? ⟨bt, i + 1, none⟩ = some (.slice (some ⟨N, 0, none⟩) (n + 1) (n + 1)) := hA
    have hB9 : W8.drew.cell? ⟨R, 0, none⟩ = some (.slice (some ⟨G, 0, none⟩) (n + 1) (n + 1)) := hB
    clear KV8 KB8 KT8 KR8 KG8 KN8 ROWS8 HB8 hA hB
    have e9 : ({ heap := W8.heap, tape := W8.tape, drawn := W8.drawn + 1, os := W8.os, output := W8.output } : World) = W8.drew := rfl
    rw [e9]
    clear e9
    generalize W8.drew = W9 at *
    have p0 : ((i : Int) + 1 < (l.length : Int) + 1) = True := eq_true (by have := HLT.out; omega)
    have p5 : ((i : Int) < (l.length : Int)) = True := eq_true (by have := HLT.out; omega)
    have p6 : (i < l.length) = True := eq_true HLT.out
    have p7 : (i + 1 < l.length + 1) = True := eq_true (by have := HLT.out; omega)
    have hw1 : IntKind.i64.wrap ((i : Int) + 1) = (i : Int) + 1 := by rw [i64_w, wrap_id (by omega) (by omega)]
    have hw2 : (0 ≤ (i : Int) + 1) = True := eq_true (by omega)
    have hw3 : ((i : Int) + 1).toNat = i + 1 := by omega
    repeat still_step
    refine wpStill_nil ?_
    have CS1 := zam (Bst.flat_one (Bst.upto val n xi (Bst.tab val n l i) (n + 1)))
    have CS2 := zam (Bst.flat_length (Bst.upto val n xi (Bst.tab val n l i) (n + 1)))
    have CS3 := zam (Bst.upto_len val n xi (Bst.tab val n l i) (n + 1))
    refine bst_copy rfl (.tmp 102) (.tmp 103) 166 166 rfl 168 Try.underlying166 4 ?hinfo N (n + 1) (n + 1) ⟨G, 0, none⟩ (n + 1) (n + 1) rfl rfl _ _ KN9.out (Bst.flat (Bst.upto val n xi (Bst.tab val n l i) (n + 1))) ?hn ?hsrc ?hfit CS1.out ?_
    case hinfo => have e_ := bst_info_step; revert e_; cases Try.prog.info? 168 <;> simp; intro a b c; exact b
    case hn => rw [CS2.out, CS3.out]; simp
    case hsrc =>
     intro j v hj
     have hadd : (⟨G, 0, none⟩ : Addr).add j = ⟨G, 0 + j, none⟩ := by unfold Addr.add; split <;> simp_all
     rw [hadd, Nat.zero_add]
     exact (zkc KG9.out j).trans (by simpa using hj)
    case hfit => simp [CS2.out, CS3.out, Bst.flat_length]
    have T2 : Aside0 (Bst.Tab fv val n l w bv bb bt (gs ++ [N]) (W9.setRow N (Bst.flat (Bst.upto val n xi (Bst.tab val n l i) (n + 1))).toArray)) := by
     refine ⟨⟨below_setRow HB9.out LN.out.1 _, (setRow_other _ _ _ _ LN.out.2.2.1).trans KV9.out, (setRow_other _ _ _ _ LN.out.2.2.2.1).trans KB9.out, ((setRow_other _ _ _ _ LN.out.2.1).trans KT9.out).trans ?_, LT.out, fun j g hj => ?_⟩⟩
     ·have e_ := Bst.tc_set n (l.length + 1) gs N (by have := HG.out; have := HLT.out; omega)
      rw [HG.out] at e_
      rw [← e_]
      simp [Bst.sl]
     by_cases hjl : j < gs.length
     ·rw [List.getElem?_append_left hjl] at hj
      obtain ⟨a1, a2, a3⟩ := ROWS9.out j g hj
      exact ⟨a1, (setRow_other _ _ _ _ a2).trans a3⟩
     rw [List.getElem?_append_right (by omega)] at hj
     have hj2 : j - gs.length = 0 := by
      apply Decidable.byContradiction
      intro hne
      rw [List.getElem?_eq_none (by simp; omega)] at hj
      cases hj
     rw [hj2] at hj
     obtain rfl : N = g := by simpa using hj
     have hji : j = i + 1 := by have := HG.out; omega
     subst hji
     refine ⟨LN.out.1, (setRow_heap _ _ _ _ _ _ KN9.out).trans ?_⟩
     rw [Bst.tab, ← HXI.out]
     rfl
    clear KV9 KB9 KT9 KG9 KN9 ROWS9 HB9 hA9 hB9
    generalize (W9.setRow N _) = W10 at *
    go_wp2
    go_roundw
    case rel => exact ⟨i + 1, gs ++ [N], by first | rfl | go_num, ⟨HLT.out⟩, ⟨by rw [List.length_append, HG.out]; rfl⟩, T2⟩
    case measure => (have a2 := HLT.out; simp only [intOf]; omega)
  have hil : i = l.length := by have := HI.out; omega
  subst hil
  have d1 : decide ((l.length : Int) < (l.length : Int)) = false := zdf (by omega)
  clear HI hi hlt
  have GL : Aside0 (l.length < gs.length) := ⟨by have := HG.out; omega⟩
  have hti : wr.cell? ⟨bt, l.length, none⟩ = some (.slice (some ⟨gs[l.length]'GL.out, 0, none⟩) (n + 1) (n + 1)) := (zkc HT.out.ht l.length).trans (by have e_ := Bst.tc_get n (l.length + 1) gs l.length GL.out; unfold Bst.sl at e_; simpa using e_)
  go_wp2
  clear hti
  obtain ⟨gl, hgl⟩ : ∃ gl, gl = gs[l.length]'GL.out := ⟨_, rfl⟩
  have HGL : Aside0 (gs[l.length]? = some gl) := ⟨by rw [hgl]; exact List.getElem?_eq_getElem GL.out⟩
  rw [← hgl]
  clear hgl
  have T1 := HT
  go_loopw [18, 112] (fun v18 v wr => ∃ k : Nat, v = .int .i64 (k : Int) ∧ v18 = .int .i64 (Bst.last val (Bst.tab val n l l.length) k) ∧ Aside0 (k ≤ n + 1) ∧ Aside0 (Bst.Tab fv val n l w bv bb bt gs wr)) (fun _ v _ => n + 1 - (intOf v).toNat)
  case atStart => exact ⟨0, rfl, rfl, ⟨Nat.zero_le _⟩, HT⟩
  case round =>
   clear HT T1
   obtain ⟨k, rfl, rfl, HK, HT⟩ := hrel
   by_cases hlt : k < n + 1
   ·have d1 : decide ((k : Int) < (n : Int) + 1) = true := zdt (by omega)
    have p1 : ((k : Int) < (n : Int) + 1) = True := eq_true (by omega)
    have p2 : (k < n + 1) = True := eq_true hlt
    have HLT2 := zam hlt
    have hkn : (k : Int) ≤ 256 := by omega
    have hrow := (HT.out.rows l.length gl HGL.out).2
    obtain ⟨c0, c1, c2, c3⟩ := Bst.flat_get (Bst.tab val n l l.length) k (by rw [Bst.tab_len]; exact hlt)
    have hs0 := (zkc hrow (k * 4)).trans ((List.getElem?_toArray).trans c0)
    have hs1 := (zkc hrow (k * 4 + 1)).trans ((List.getElem?_toArray).trans c1)
    have hs2 := (zkc hrow (k * 4 + 2)).trans ((List.getElem?_toArray).trans c2)
    have hs3 := (zkc hrow (k * 4 + 3)).trans ((List.getElem?_toArray).trans c3)
    have UP : Aside0 (Bst.last val (Bst.tab val n l l.length) (k + 1) = if (Bst.get (Bst.tab val n l l.length) k).there = false then Bst.last val (Bst.tab val n l l.length) k else if Bst.last val (Bst.tab val n l l.length) k < 0 then (k : Int) else if val (Bst.get (Bst.tab val n l l.length) k).calls < val (Bst.get (Bst.tab val n l l.length) (Bst.last val (Bst.tab val n l l.length) k).toNat).calls then (k : Int) else Bst.last val (Bst.tab val n l l.length) k) := ⟨rfl⟩
    have hll := Bst.last_lt val (Bst.tab val n l l.length) k
    have hel : ∀ e : Nat, e < n + 1 → Aside0 (∃ ec, Bst.get (Bst.tab val n l l.length) e = ec) := fun e _ => ⟨_, rfl⟩
    generalize Bst.last val (Bst.tab val n l l.length) k = e at *
    generalize hgk : Bst.get (Bst.tab val n l l.length) k = s at *
    have HGK := zam hgk
    obtain ⟨sc, sf, slo, sth⟩ := s
    dsimp only at hs0 hs1 hs2 hs3
    clear c0 c1 c2 c3 hrow hlt hgk hel
    cases sth
    ·clear hll
     go_wp2_with (first | ((with_reducible refine zgd (N := 20) rfl ?_); refine box_event ?hg (N := 20) ?hd (cs := #[.int .i64 0, .int .i64 0, .bool false, .bool false]) (t := 168) ?hr ?_; (case hd => rfl); (case hg => rfl); (case hr => first | (go_simp; done) | (go_simp; rfl)); intro q hq w7 k16 hb; have hqb := zbs (j := 3) (v := .bool false) (zbs (j := 2) (v := .bool slo) (zbs (j := 1) (v := .int .i64 sf) (zbs (j := 0) (v := .int .i64 sc) hb (Nat.le_of_eq hq.symm)) (Nat.le_of_eq hq.symm)) (Nat.le_of_eq hq.symm)) (Nat.le_of_eq hq.symm); have T8 := zam (HT.out.step hqb); have KQ := zam (blk_set (blk_set (blk_set (blk_set k16 0 (.int .i64 sc)) 1 (.int .i64 sf)) 2 (.bool slo)) 3 (.bool false)); have hq0 : w7.cell? ⟨q, 0, none⟩ = some (.int .i64 0) := zkc k16 0; have hq1 : w7.cell? ⟨q, 1, none⟩ = some (.int .i64 0) := zkc k16 1; have hq2 : w7.cell? ⟨q, 2, none⟩ = some (.bool false) := zkc k16 2; have hq3 : w7.cell? ⟨q, 3, none⟩ = some (.bool false) := zkc k16 3; have hqf0 := zkz k16 0; have hqf1 := zkz k16 1; have hqf2 := zkz k16 2; have hqf3 := zkz k16 3; clear hq k16 hb hqb))
     clear hq0 hq1 hq2 hq3 hqf0 hqf1 hqf2 hqf3 hs0 hs1 hs2 hs3
     have hq0 := (zkc KQ.out 0).trans (show _ = some (Value.int .i64 sc) from rfl)
     have hq1 := (zkc KQ.out 1).trans (show _ = some (Value.int .i64 sf) from rfl)
     have hq2 := (zkc KQ.out 2).trans (show _ = some (Value.bool slo) from rfl)
     have hq3 := (zkc KQ.out 3).trans (show _ = some (Value.bool false) from rfl)
     clear KQ
     generalize (((w7.setCell _ _).setCell _ _).setCell _ _).setCell _ _ = W8 at *
     go_quiet (fail)
     go_wp2
     go_roundw
     case rel => exact ⟨k + 1, by first | rfl | go_num, by rw [UP.out]; first | rw [if_pos trivial] | rw [if_pos rfl], ⟨HLT2.out⟩, ⟨T8.out.step ⟨rfl, rfl, rfl, Nat.le_refl _, fun _ _ => rfl⟩⟩⟩
     case measure => (have a2 := HLT2.out; simp only [intOf]; omega)
    by_cases he : e < 0
    ·have HE := zam he
     have z1 : decide (e < 0) = true := zdt he
     clear hll he
     go_wp2_with (first | ((with_reducible refine zgd (N := 20) rfl ?_); refine box_event ?hg (N := 20) ?hd (cs := #[.int .i64 0, .int .i64 0, .bool false, .bool false]) (t := 168) ?hr ?_; (case hd => rfl); (case hg => rfl); (case hr => first | (go_simp; done) | (go_simp; rfl)); intro q hq w7 k16 hb; have hqb := zbs (j := 3) (v := .bool true) (zbs (j := 2) (v := .bool slo) (zbs (j := 1) (v := .int .i64 sf) (zbs (j := 0) (v := .int .i64 sc) hb (Nat.le_of_eq hq.symm)) (Nat.le_of_eq hq.symm)) (Nat.le_of_eq hq.symm)) (Nat.le_of_eq hq.symm); have T8 := zam (HT.out.step hqb); have KQ := zam (blk_set (blk_set (blk_set (blk_set k16 0 (.int .i64 sc)) 1 (.int .i64 sf)) 2 (.bool slo)) 3 (.bool true)); have hq0 : w7.cell? ⟨q, 0, none⟩ = some (.int .i64 0) := zkc k16 0; have hq1 : w7.cell? ⟨q, 1, none⟩ = some (.int .i64 0) := zkc k16 1; have hq2 : w7.cell? ⟨q, 2, none⟩ = some (.bool false) := zkc k16 2; have hq3 : w7.cell? ⟨q, 3, none⟩ = some (.bool false) := zkc k16 3; have hqf0 := zkz k16 0; have hqf1 := zkz k16 1; have hqf2 := zkz k16 2; have hqf3 := zkz k16 3; clear hq k16 hb hqb))
     clear hq0 hq1 hq2 hq3 hqf0 hqf1 hqf2 hqf3 hs0 hs1 hs2 hs3
     have hq0 := (zkc KQ.out 0).trans (show _ = some (Value.int .i64 sc) from rfl)
     have hq1 := (zkc KQ.out 1).trans (show _ = some (Value.int .i64 sf) from rfl)
     have hq2 := (zkc KQ.out 2).trans (show _ = some (Value.bool slo) from rfl)
     have hq3 := (zkc KQ.out 3).trans (show _ = some (Value.bool true) from rfl)
     clear KQ
     generalize (((w7.setCell _ _).setCell _ _).setCell _ _).setCell _ _ = W8 at *
     go_quiet (fail)
     go_wp2
     go_roundw
     case rel => exact ⟨k + 1, by first | rfl | go_num, by rw [UP.out, if_neg (show ¬ (true = false) by decide), if_pos HE.out], ⟨HLT2.out⟩, ⟨T8.out.step ⟨rfl, rfl, rfl, Nat.le_refl _, fun _ _ => rfl⟩⟩⟩
     case measure => (have a2 := HLT2.out; simp only [intOf]; omega)
    obtain ⟨eN, rfl⟩ : ∃ eN : Nat, e = (eN : Int) := ⟨e.toNat, by omega⟩
    have hen : eN < n + 1 := by have := HLT2.out; omega
    have z1 : decide ((eN : Int) < 0) = false := zdf he
    have z2 : ((eN : Int) < 0) = False := eq_false he
    have z3 : ((eN : Int) < (n : Int) + 1) = True := eq_true (by omega)
    have z4 : (eN < n + 1) = True := eq_true hen
    have hrow := (HT.out.rows l.length gl HGL.out).2
    have HEC := zam ((Bst.flat_get (Bst.tab val n l l.length) eN (by rw [Bst.tab_len]; exact hen)).1)
    have UP2 : Aside0 (Bst.last val (Bst.tab val n l l.length) (k + 1) = if val sc < val (Bst.get (Bst.tab val n l l.length) eN).calls then (k : Int) else (eN : Int)) := ⟨by rw [UP.out, if_neg (show ¬ (true = false) by decide), if_neg he, Int.toNat_natCast]⟩
    generalize (Bst.get (Bst.tab val n l l.length) eN).calls = ec at *
    clear hll he UP hrow hen
    by_cases hb : val sc < val ec
    ·have d2 : decide (val sc < val ec) = true := zdt hb
     have UP : Aside0 (Bst.last val (Bst.tab val n l l.length) (k + 1) = (k : Int)) := ⟨by rw [UP2.out, if_pos hb]⟩
     clear hb UP2
     rcases HVV.out.1 with rfl | rfl
     all_goals
      go_wp2_with (first | ((with_reducible refine zgd (N := 20) rfl ?_); refine box_event ?hg (N := 20) ?hd (cs := #[.int .i64 0, .int .i64 0, .bool false, .bool false]) (t := 168) ?hr ?_; (case hd => rfl); (case hg => rfl); (case hr => first | (go_simp; done) | (go_simp; rfl)); intro q hq w7 k16 hb; have hqb := zbs (j := 3) (v := .bool true) (zbs (j := 2) (v := .bool slo) (zbs (j := 1) (v := .int .i64 sf) (zbs (j := 0) (v := .int .i64 sc) hb (Nat.le_of_eq hq.symm)) (Nat.le_of_eq hq.symm)) (Nat.le_of_eq hq.symm)) (Nat.le_of_eq hq.symm); have T8 := zam (HT.out.step hqb); have KQ := zam (blk_set (blk_set (blk_set (blk_set k16 0 (.int .i64 sc)) 1 (.int .i64 sf)) 2 (.bool slo)) 3 (.bool true)); have hq0 : w7.cell? ⟨q, 0, none⟩ = some (.int .i64 0) := zkc k16 0; have hq1 : w7.cell? ⟨q, 1, none⟩ = some (.int .i64 0) := zkc k16 1; have hq2 : w7.cell? ⟨q, 2, none⟩ = some (.bool false) := zkc k16 2; have hq3 : w7.cell? ⟨q, 3, none⟩ = some (.bool false) := zkc k16 3; have hqf0 := zkz k16 0; have hqf1 := zkz k16 1; have hqf2 := zkz k16 2; have hqf3 := zkz k16 3; clear hq k16 hb hqb))
      clear hq0 hq1 hq2 hq3 hqf0 hqf1 hqf2 hqf3 hs0 hs1 hs2 hs3
      have hq0 := (zkc KQ.out 0).trans (show _ = some (Value.int .i64 sc) from rfl)
      have hq1 := (zkc KQ.out 1).trans (show _ = some (Value.int .i64 sf) from rfl)
      have hq2 := (zkc KQ.out 2).trans (show _ = some (Value.bool slo) from rfl)
      have hq3 := (zkc KQ.out 3).trans (show _ = some (Value.bool true) from rfl)
      clear KQ
      generalize (((w7.setCell _ _).setCell _ _).setCell _ _).setCell _ _ = W8 at *
      have hti : W8.cell? ⟨bt, l.length, none⟩ = some (.slice (some ⟨gl, 0, none⟩) (n + 1) (n + 1)) := (zkc T8.out.ht l.length).trans zq27
      have hec : W8.cell? ⟨gl, eN * 4, none⟩ = some (.int .i64 ec) := (zkc (T8.out.rows l.length gl HGL.out).2 (eN * 4)).trans ((List.getElem?_toArray).trans HEC.out)
      have hvb : W8.cell? ⟨bv, 0, none⟩ = some (.func (.func _) #[] #[]) := zkc T8.out.hv 0
      have hbb : W8.cell? ⟨bb, 0, none⟩ = some (.func (.func _) #[] #[]) := zkc T8.out.hb 0
      have p5 : ((l.length : Int) < (l.length : Int) + 1) = True := eq_true (by omega)
      have p6 : (l.length < l.length + 1) = True := eq_true (by omega)
      go_quiet (first | (go_at_call 114; exact Calls.quiet_of_same (bst_less _ _ _)) | exact Calls.quiet_of_same (HVV.out.2 _ _))
      go_wp2
      go_roundw
      case rel => exact ⟨k + 1, by first | rfl | go_num, by rw [UP.out], ⟨HLT2.out⟩, ⟨T8.out.step ⟨rfl, rfl, rfl, Nat.le_refl _, fun _ _ => rfl⟩⟩⟩
      case measure => (have a2 := HLT2.out; simp only [intOf]; omega)
    have d2 : decide (val sc < val ec) = false := zdf hb
    have UP : Aside0 (Bst.last val (Bst.tab val n l l.length) (k + 1) = (eN : Int)) := ⟨by rw [UP2.out, if_neg hb]⟩
    clear hb UP2
    rcases HVV.out.1 with rfl | rfl
    all_goals
     go_wp2_with (first | ((with_reducible refine zgd (N := 20) rfl ?_); refine box_event ?hg (N := 20) ?hd (cs := #[.int .i64 0, .int .i64 0, .bool false, .bool false]) (t := 168) ?hr ?_; (case hd => rfl); (case hg => rfl); (case hr => first | (go_simp; done) | (go_simp; rfl)); intro q hq w7 k16 hb; have hqb := zbs (j := 3) (v := .bool true) (zbs (j := 2) (v := .bool slo) (zbs (j := 1) (v := .int .i64 sf) (zbs (j := 0) (v := .int .i64 sc) hb (Nat.le_of_eq hq.symm)) (Nat.le_of_eq hq.symm)) (Nat.le_of_eq hq.symm)) (Nat.le_of_eq hq.symm); have T8 := zam (HT.out.step hqb); have KQ := zam (blk_set (blk_set (blk_set (blk_set k16 0 (.int .i64 sc)) 1 (.int .i64 sf)) 2 (.bool slo)) 3 (.bool true)); have hq0 : w7.cell? ⟨q, 0, none⟩ = some (.int .i64 0) := zkc k16 0; have hq1 : w7.cell? ⟨q, 1, none⟩ = some (.int .i64 0) := zkc k16 1; have hq2 : w7.cell? ⟨q, 2, none⟩ = some (.bool false) := zkc k16 2; have hq3 : w7.cell? ⟨q, 3, none⟩ = some (.bool false) := zkc k16 3; have hqf0 := zkz k16 0; have hqf1 := zkz k16 1; have hqf2 := zkz k16 2; have hqf3 := zkz k16 3; clear hq k16 hb hqb))
     clear hq0 hq1 hq2 hq3 hqf0 hqf1 hqf2 hqf3 hs0 hs1 hs2 hs3
     have hq0 := (zkc KQ.out 0).trans (show _ = some (Value.int .i64 sc) from rfl)
     have hq1 := (zkc KQ.out 1).trans (show _ = some (Value.int .i64 sf) from rfl)
     have hq2 := (zkc KQ.out 2).trans (show _ = some (Value.bool slo) from rfl)
     have hq3 := (zkc KQ.out 3).trans (show _ = some (Value.bool true) from rfl)
     clear KQ
     generalize (((w7.setCell _ _).setCell _ _).setCell _ _).setCell _ _ = W8 at *
     have hti : W8.cell? ⟨bt, l.length, none⟩ = some (.slice (some ⟨gl, 0, none⟩) (n + 1) (n + 1)) := (zkc T8.out.ht l.length).trans zq27
     have hec : W8.cell? ⟨gl, eN * 4, none⟩ = some (.int .i64 ec) := (zkc (T8.out.rows l.length gl HGL.out).2 (eN * 4)).trans ((List.getElem?_toArray).trans HEC.out)
     have hvb : W8.cell? ⟨bv, 0, none⟩ = some (.func (.func _) #[] #[]) := zkc T8.out.hv 0
     have hbb : W8.cell? ⟨bb, 0, none⟩ = some (.func (.func _) #[] #[]) := zkc T8.out.hb 0
     have p5 : ((l.length : Int) < (l.length : Int) + 1) = True := eq_true (by omega)
     have p6 : (l.length < l.length + 1) = True := eq_true (by omega)
     go_quiet (first | (go_at_call 114; exact Calls.quiet_of_same (bst_less _ _ _)) | exact Calls.quiet_of_same (HVV.out.2 _ _))
     go_wp2
     go_roundw
     case rel => exact ⟨k + 1, by first | rfl | go_num, by rw [UP.out], ⟨HLT2.out⟩, ⟨T8.out.step ⟨rfl, rfl, rfl, Nat.le_refl _, fun _ _ => rfl⟩⟩⟩
     case measure => (have a2 := HLT2.out; simp only [intOf]; omega)
   have hk : k = n + 1 := by have := HK.out; omega
   subst hk
   clear HK hlt
   have d1 : decide (((n + 1 : Nat) : Int) < (n : Int) + 1) = false := zdf (by omega)
   have h := H.out
   unfold Bst.best at h
   have hll := Bst.last_lt val (Bst.tab val n l l.length) (n + 1)
   generalize Bst.last val (Bst.tab val n l l.length) (n + 1) = e at *
   by_cases he : e < 0
   ·rw [if_pos he] at h
    cases h
   rw [if_neg he] at h
   obtain ⟨b1, hb1, h⟩ := Option.bind_eq_some_iff.mp h
   simp only [Option.some.injEq, Prod.mk.injEq] at h
   obtain ⟨rfl, hr⟩ := h
   obtain ⟨eN, rfl⟩ : ∃ eN : Nat, e = (eN : Int) := ⟨e.toNat, by omega⟩
   have hen : eN < n + 1 := by omega
   rw [Int.toNat_natCast] at hr
   have hrow := (HT.out.rows l.length gl HGL.out).2
   have hec := (zkc hrow (eN * 4)).trans ((List.getElem?_toArray).trans (Bst.flat_get (Bst.tab val n l l.length) eN (by rw [Bst.tab_len]; exact hen)).1)
   rw [hr] at hec
   have hti : wr.cell? ⟨bt, l.length, none⟩ = some (.slice (some ⟨gl, 0, none⟩) (n + 1) (n + 1)) := (zkc HT.out.ht l.length).trans zq27
   have p1 : ((eN : Int) < (n : Int) + 1) = True := eq_true (by omega)
   have p2 : (eN < n + 1) = True := eq_true hen
   have p5 : ((l.length : Int) < (l.length : Int) + 1) = True := eq_true (by omega)
   have p6 : (l.length < l.length + 1) = True := eq_true (by omega)
   have HB1 := zam hb1
   clear hb1 hr hrow hll he hen H
   go_wp2_with (first | ((with_reducible refine zgd (N := 155) rfl ?_); refine bst_make (N := 155) ?hg ?hd 71 4 _ _ rfl (l.length) _ rfl rfl (by first | rfl | (push_cast; rfl) | omega) Try.underlying71 (.bool false) 1 1 bst_info_bool (by omega) (by omega) ((List.replicate l.length false).map Value.bool) (bst_made_bools _) ?_; (case hd => rfl); (case hg => rfl); intro C hC w9 k155 hb; have LC : Aside0 (w.heap.size ≤ C) := ⟨by rw [hC]; exact HT.out.below.size⟩; have n0_ := zam (HT.out.step hb); have KC := zam k155; clear HT hC k155 hb; have HT := n0_; clear n0_))
   clear hec hti p1 p2 p5 p6 d1
   have H0 : Aside0 (b1.length = l.length) := ⟨Bst.back_len HB1.out⟩
   go_loopw [18, 23] (fun v18 v wr => ∃ (m : Nat) (e : Int) (c1 c2 : List Bool), v = .int .i64 (m : Int) ∧ v18 = .int .i64 e ∧ Aside0 (m ≤ l.length) ∧ Aside0 (Bst.back (Bst.tab val n l) n m e = some c1) ∧ Aside0 (b1 = c1 ++ c2 ∧ c1.length = m) ∧ Aside0 (wr.heap[C]? = some (.cells ((List.replicate m false ++ c2).map Value.bool).toArray 4 (0, 0))) ∧ Aside0 (Bst.Tab fv val n l w bv bb bt gs wr)) (fun _ v _ => (intOf v).toNat)
   case atStart => exact ⟨l.length, (eN : Int), b1, [], rfl, rfl, ⟨Nat.le_refl _⟩, HB1, ⟨by simp, Bst.back_len HB1.out⟩, ⟨by rw [List.append_nil]; exact KC.out⟩, HT⟩
   case round =>
    clear HB1 KC HT
    obtain ⟨m, e, c1, c2, rfl, rfl, HM, HBK, HC12, KC, HT⟩ := hrel
    by_cases hm0 : m = 0
    ·subst hm0
     have hbk := HBK.out
     rw [Bst.back, Option.some.injEq] at hbk
     subst hbk
     obtain ⟨rfl, -⟩ := HC12.out
     rw [List.nil_append] at HC12
     clear HBK HC12 HM
     go_wp2
     go_ret2
     refine ⟨.slice (some ⟨C, 0, none⟩) l.length l.length, rfl, Kd.R_of_own ?_ (fun _ _ => trivial), HT.out.below⟩
     have hbl : b1.length = l.length := by
      have h := H0.out
      exact h
     refine ⟨by simp [encs], .inr ⟨C, l.length, (b1.map Value.bool).toArray, by rw [hbl], LC.out, by simpa using KC.out, Nat.le_of_eq hbl, ?_, by simp [hbl], ?_⟩⟩
     ·have := HLEN.out
      simp [maxLen]
      omega
     simp [encs, List.take_of_length_le]
    obtain ⟨p, rfl⟩ : ∃ p, m = p + 1 := ⟨m - 1, by omega⟩
    have hbk := HBK.out
    rw [Bst.back] at hbk
    by_cases hc : 0 ≤ e ∧ e < (n : Int) + 1
    ·rw [if_pos hc] at hbk
     obtain ⟨eN, rfl⟩ : ∃ eN : Nat, e = (eN : Int) := ⟨e.toNat, by omega⟩
     have hen : eN < n + 1 := by omega
     rw [Int.toNat_natCast] at hbk
     obtain ⟨b0, hb0, hbk⟩ := Option.bind_eq_some_iff.mp hbk
     rw [Option.some.injEq] at hbk
     have HM1 : Aside0 (p + 1 < gs.length) := ⟨by have := HG.out; have := HM.out; omega⟩
     have hrow := (HT.out.rows (p + 1) (gs[p + 1]'HM1.out) (List.getElem?_eq_getElem HM1.out)).2
     obtain ⟨c0, c1_, c2_, c3⟩ := Bst.flat_get (Bst.tab val n l (p + 1)) eN (by rw [Bst.tab_len]; exact hen)
     have hs0 := (zkc hrow (eN * 4)).trans ((List.getElem?_toArray).trans c0)
     have hs1 := (zkc hrow (eN * 4 + 1)).trans ((List.getElem?_toArray).trans c1_)
     have hs2 := (zkc hrow (eN * 4 + 2)).trans ((List.getElem?_toArray).trans c2_)
     have hs3 := (zkc hrow (eN * 4 + 3)).trans ((List.getElem?_toArray).trans c3)
     have hti := (zkc HT.out.ht (p + 1)).trans (show _ = some (Value.slice (some ⟨gs[p + 1]'HM1.out, 0, none⟩) (n + 1) (n + 1)) by have e_ := Bst.tc_get n (l.length + 1) gs (p + 1) HM1.out; unfold Bst.sl at e_; rw [List.getElem?_toArray, e_])
     generalize hgm : gs[p + 1]'HM1.out = gm at *
     generalize hgk : Bst.get (Bst.tab val n l (p + 1)) eN = s at *
     obtain ⟨sc, sf, slo, sth⟩ := s
     dsimp only at hs0 hs1 hs2 hs3 hb0 hbk
     have HB0 := zam hb0
     have HBQ := zam hbk
     clear hb0 hbk c0 c1_ c2_ c3 hrow hgk hgm hc HBK
     obtain ⟨m, hm⟩ : ∃ m : Nat, m = p + 1 := ⟨_, rfl⟩
     have HMP := zam hm
     rw [← hm] at hti ⊢
     have hml : m ≤ l.length := by have := HM.out; omega
     have wm : IntKind.i64.wrap ((m : Int) - 1) = (p : Int) := by rw [i64_w, wrap_id (by omega) (by omega)]; omega
     have q1 : decide (0 < (m : Int)) = true := zdt (by omega)
     have q2 : (0 < m) = True := eq_true (by omega)
     have q3 : ((m : Int) < (l.length : Int) + 1) = True := eq_true (by omega)
     have q4 : (m < l.length + 1) = True := eq_true (by omega)
     have q5 : ((p : Int) < (l.length : Int)) = True := eq_true (by omega)
     have q6 : (p < l.length) = True := eq_true (by omega)
     have q7 : ((eN : Int) < (n : Int) + 1) = True := eq_true (by omega)
     have q8 : (eN < n + 1) = True := eq_true hen
     clear hm hml hen hm0 d1
     go_wp2_with (first | ((with_reducible refine zgd (N := 24) rfl ?_); refine box_event ?hg (N := 24) ?hd (cs := #[.int .i64 0, .int .i64 0, .bool false, .bool false]) (t := 168) ?hr ?_; (case hd => rfl); (case hg => rfl); (case hr => first | (go_simp; done) | (go_simp; rfl)); intro q hq w7 k16 hb; have hqb := zbs (j := 3) (v := .bool sth) (zbs (j := 2) (v := .bool slo) (zbs (j := 1) (v := .int .i64 sf) (zbs (j := 0) (v := .int .i64 sc) hb (Nat.le_of_eq hq.symm)) (Nat.le_of_eq hq.symm)) (Nat.le_of_eq hq.symm)) (Nat.le_of_eq hq.symm); have T8 := zam (HT.out.step hqb); have KC8 := zam (zkb KC.out hqb); have KQ := zam (blk_set (blk_set (blk_set (blk_set k16 0 (.int .i64 sc)) 1 (.int .i64 sf)) 2 (.bool slo)) 3 (.bool sth)); have hq0 : w7.cell? ⟨q, 0, none⟩ = some (.int .i64 0) := zkc k16 0; have hq1 : w7.cell? ⟨q, 1, none⟩ = some (.int .i64 0) := zkc k16 1; have hq2 : w7.cell? ⟨q, 2, none⟩ = some (.bool false) := zkc k16 2; have hq3 : w7.cell? ⟨q, 3, none⟩ = some (.bool false) := zkc k16 3; have hqf0 := zkz k16 0; have hqf1 := zkz k16 1; have hqf2 := zkz k16 2; have hqf3 := zkz k16 3; clear hq k16 hb hqb))
     clear hq0 hq1 hq2 hq3 hqf0 hqf1 hqf2 hqf3 hs0 hs1 hs2 hs3 hti q2 q3 q4 q7 q8
     have hq1 := (zkc KQ.out 1).trans (show _ = some (Value.int .i64 sf) from rfl)
     have hq2 := (zkc KQ.out 2).trans (show _ = some (Value.bool slo) from rfl)
     have hcq : C ≠ q := blk_ne KC8.out KQ.out (by decide)
     have hqc := Ne.symm hcq
     have hcp := (zkc KC8.out p).trans (show _ = some (Value.bool false) by simp [List.getElem?_append_left])
     have hcf := zkz KC8.out p
     clear KQ
     generalize (((w7.setCell _ _).setCell _ _).setCell _ _).setCell _ _ = W8 at *
     try simp only [Act.put, zsa, zsz, zss]
     go_region
     go_wp2
     have T9 : Aside0 (Bst.Tab fv val n l w bv bb bt gs (W8.drew.setCell ⟨C, p, none⟩ (.bool slo))) := ⟨(T8.out.step (W' := W8.drew) ⟨rfl, rfl, rfl, Nat.le_refl _, fun _ _ => rfl⟩).far LC.out (blk_ne T8.out.hv KC8.out (by decide)) (blk_ne T8.out.hb KC8.out (by decide)) (blk_ne T8.out.ht KC8.out (by decide)) (fun g hg => by obtain ⟨j, hj⟩ := List.getElem?_of_mem hg; exact blk_ne (T8.out.rows j g hj).2 KC8.out (by decide)) _ _⟩
     have KC9 : Aside0 ((W8.drew.setCell ⟨C, p, none⟩ (.bool slo)).heap[C]? = some (.cells ((List.replicate p false ++ slo :: c2).map Value.bool).toArray 4 (0, 0))) := ⟨blk_put (w := W8.drew) KC8.out p (.bool slo) (by
      rw [List.replicate_succ', List.append_assoc, List.map_append, List.map_append, List.map_append]
      simp [List.set_append_right])⟩
     go_roundw
     case rel => exact ⟨p, sf, b0, slo :: c2, rfl, rfl, ⟨by have := HM.out; omega⟩, HB0, ⟨by have h := HC12.out; rw [← HBQ.out] at h; rw [h.1]; simp, Bst.back_len HB0.out⟩, KC9, T9⟩
     case measure => (have := HMP.out; simp only [intOf]; omega)
    rw [if_neg hc] at hbk
    cases hbk
def sound_fewest.f (_k : Nat) (l : List Int) (n : Int) : Option (List Bool × Int) := if 0 ≤ n ∧ n ≤ 256 ∧ l.length ≤ 256 then Bst.best (fun c => c) l n.toNat else none
def sound_most.f (_k : Nat) (l : List Int) (n : Int) : Option (List Bool × Int) := if 0 ≤ n ∧ n ≤ 256 ∧ l.length ≤ 256 then Bst.best (fun c => wrap64 (-c)) l n.toNat else none
set_option maxHeartbeats 4000000 in
theorem sound_fewest.calls (k : Nat) (A0 : Option Addr) (c0 : Nat) (l0 : List Int) (a1 : Int) (r1 : List Bool) (r2 : Int) (w : World) (hr0 : Kd.C (Kd.int .i64) w A0 l0.length l0) (hc0 : l0.length ≤ c0) (h : sound_fewest.f k l0 a1 = some (r1, r2)) :
  Calls Try.prog 74 #[.slice A0 l0.length c0, .int .i64 a1] w fun e w' => ∃ v0_ : Value, e = .returned (.tuple #[v0_, .int .i64 r2]) ∧ Kd.R Kd.bool 4 w' w.heap.size (fun _ => True) v0_ r1 ∧ Below w.heap.size w w' := by
 unfold sound_fewest.f at h
 split at h
 ·next hc =>
  obtain ⟨n, rfl⟩ : ∃ n : Nat, a1 = (n : Int) := ⟨a1.toNat, by omega⟩
  rw [Int.toNat_natCast] at h
  have BC := zam (sound_best_calls (fun c => c) 113 bst_val_few A0 c0 l0 n r1 r2 w hr0 hc0 (by omega) (by omega) h)
  clear hr0 hc0 h hc
  go_enter Try.func74, Try.ntmps74
  go_wp2_with (go_at_call 112; refine BC.out.mono ?_; rintro e w9 ⟨v, rfl, hR, hb⟩; have HR := zam hR; have HB := zam hb; clear hR hb BC)
  go_ret2
  exact ⟨v, rfl, HR.out, HB.out⟩
 cases h
set_option maxHeartbeats 4000000 in
theorem sound_most.calls (k : Nat) (A0 : Option Addr) (c0 : Nat) (l0 : List Int) (a1 : Int) (r1 : List Bool) (r2 : Int) (w : World) (hr0 : Kd.C (Kd.int .i64) w A0 l0.length l0) (hc0 : l0.length ≤ c0) (h : sound_most.f k l0 a1 = some (r1, r2)) :
  Calls Try.prog 75 #[.slice A0 l0.length c0, .int .i64 a1] w fun e w' => ∃ v0_ : Value, e = .returned (.tuple #[v0_, .int .i64 r2]) ∧ Kd.R Kd.bool 4 w' w.heap.size (fun _ => True) v0_ r1 ∧ Below w.heap.size w w' := by
 unfold sound_most.f at h
 split at h
 ·next hc =>
  obtain ⟨n, rfl⟩ : ∃ n : Nat, a1 = (n : Int) := ⟨a1.toNat, by omega⟩
  rw [Int.toNat_natCast] at h
  have BC := zam (sound_best_calls (fun c => wrap64 (-c)) 115 bst_val_most A0 c0 l0 n r1 r2 w hr0 hc0 (by omega) (by omega) h)
  clear hr0 hc0 h hc
  go_enter Try.func75, Try.ntmps75
  go_wp2_with (go_at_call 112; refine BC.out.mono ?_; rintro e w9 ⟨v, rfl, hR, hb⟩; have HR := zam hR; have HB := zam hb; clear hR hb BC)
  go_ret2
  exact ⟨v, rfl, HR.out, HB.out⟩
 cases h
def sound_Count.f (k : Nat) (l0 : List Int) (a1 : Int) : Option (Int × Int × Int) := (sound_checkAnswers.f k l0 a1).bind fun t102 => (if t102 = 0 then ((sound_fewest.f k l0 a1).bind fun bt103 => ((sound_most.f k l0 a1).bind fun bt107 => (some (bt103.2, bt107.2, 0)))) else (some (0, 0, t102)))
set_option maxHeartbeats 8000000 in
set_option maxRecDepth 100000 in
theorem sound_Count.calls (k : Nat) (A0 : Option Addr) (c0 : Nat) (l0 : List Int) (a1 : Int) (r1 : Int) (r2 : Int) (r3 : Int) (w : World) (hr0 : Kd.C (Kd.int .i64) w A0 l0.length l0) (hc0 : l0.length ≤ c0) (h : sound_Count.f k l0 a1 = some (r1, r2, r3)) :
  Calls Try.prog 30 #[.slice A0 l0.length c0, .int .i64 a1] w fun e w' => e = .returned (.tuple #[.agg #[.int .i64 r1, .int .i64 r2], .int .i64 r3]) ∧ Below w.heap.size w w' := by
 have hu24 := Try.underlying24
 have HR0 := zam hr0
 have HC0 := zam hc0
 clear hr0 hc0
 have HB := zam (Below.refl w.heap.size w)
 have H : ((sound_checkAnswers.f k l0 a1).bind fun t102 => (if t102 = 0 then ((sound_fewest.f k l0 a1).bind fun bt103 => ((sound_most.f k l0 a1).bind fun bt107 => (some (bt103.2, bt107.2, 0)))) else (some (0, 0, t102)))) = some (r1, r2, r3) := h
 clear h
 replace H := Option.bind_eq_some_iff.mp H
 obtain ⟨t102, A30, H⟩ := H
 replace H : (if t102 = 0 then ((sound_fewest.f k l0 a1).bind fun bt103 => ((sound_most.f k l0 a1).bind fun bt107 => (some (bt103.2, bt107.2, 0)))) else (some (0, 0, t102))) = some (r1, r2, r3) := H
 have A3 := zam A30
 clear A30
 by_cases c4 : t102 = 0
 ·rw [if_pos c4] at H
  have c4b0 : (t102 == 0) = true := beq_iff_eq.mpr c4
  have c4b1 : (t102 != 0) = false := bne_eq_false_iff_eq.mpr c4
  clear c4
  replace H := Option.bind_eq_some_iff.mp H
  obtain ⟨⟨t103, t104⟩, A50, H⟩ := H
  replace H : ((sound_most.f k l0 a1).bind fun bt107 => (some (t104, bt107.2, 0))) = some (r1, r2, r3) := H
  have A5 := zam A50
  clear A50
  replace H := Option.bind_eq_some_iff.mp H
  obtain ⟨⟨t107, t108⟩, A60, H⟩ := H
  replace H : (some (t104, t108, 0)) = some (r1, r2, r3) := H
  have A6 := zam A60
  clear A60
  simp only [Option.some.injEq, Prod.mk.injEq] at H
  obtain ⟨rfl, rfl, rfl⟩ := H
  go_enter Try.func30, Try.ntmps30
  go_wp2_with (first | ((with_reducible refine zgd (N := 4) rfl ?_); refine box_event ?hg (N := 4) ?hd (cs := #[.int .i64 0, .int .i64 0]) (t := 24) ?hr ?_; (case hd => rfl); (case hg => rfl); (case hr => first | (go_simp; done) | (go_simp; rfl)); intro gb101 hg w7 hbox hb; have n0_ := zam (zbt zq1 hb); have n1_ := zam (hbox); have n2_ := zam ((by rw [hg]; exact (zbz zq1) : w.heap.size ≤ gb101)); have n3_ := zam ((by rw [hg]; exact (zbz zq1) : w.heap.size ≤ gb101)); clear HB; have HB := n0_; have BK101 := n1_; have GW101 := n2_; have GE101 := n3_; clear n0_ n1_ n2_ n3_; clear hb hbox hg) | ((with_reducible refine zgc (f := 73) rfl ?_); refine goesL_ (some 13) rfl rfl Try.func73 (by kernel_rfl) rfl #[.slice A0 l0.length c0, .int .i64 a1] rfl zq5 ?_; (with_reducible refine (sound_checkAnswers.calls k _ _ l0 a1 t102 _ ?side1 ?side2 A3.out).mono ?_); (case side1 => repeat (first | exact (Kd.C_below HR0.out HB.out) | (with_reducible refine Kd.C_alloc ?_ _) | (with_reducible refine Kd.C_drewN ?_ _) | (with_reducible refine Kd.C_drew ?_))); (case side2 => exact HC0.out); rintro e w' ⟨rfl, ⟨nd, rfl⟩⟩; refine ⟨_, rfl, ?_⟩; (try (rw [drewN_self w7]; generalize hq_ : World.drewN w7 _ = w7; have n0_ : Aside0 (w7.heap[gb101]? = some (.cells #[.int .i64 0, .int .i64 0] 24 (0, 0))) := ⟨by rw [← hq_]; exact zq0⟩; have n1_ : Aside0 (Below w.heap.size w w7) := ⟨by rw [← hq_]; exact zq2⟩; clear BK101 HB hq_; have BK101 := n0_; have HB := n1_; clear n0_ n1_))) | ((with_reducible refine zgc (f := 74) rfl ?_); refine goesL_ (some 21) rfl rfl Try.func74 (by kernel_rfl) rfl #[.slice A0 l0.length c0, .int .i64 a1] rfl zq5 ?_; (with_reducible refine (sound_fewest.calls k _ _ l0 a1 t103 t104 _ ?side1 ?side2 A5.out).mono ?_); (case side1 => repeat (first | exact (Kd.C_below HR0.out HB.out) | (with_reducible refine Kd.C_alloc ?_ _) | (with_reducible refine Kd.C_drewN ?_ _) | (with_reducible refine Kd.C_drew ?_))); (case side2 => exact HC0.out); rintro e w8 ⟨v105, rfl, ho0, hb⟩; refine ⟨_, rfl, ?_⟩; have n0_ := zam (Kd.R_lower ho0 (zbz zq2)); have n1_ := zam (zkb (g := gb101) (o := .cells #[.int .i64 0, .int .i64 0] 24 (0, 0)) zq0 hb); have n2_ := zam (zbt zq2 hb); clear BK101; clear HB; have HO106 := n0_; have BK101 := n1_; have HB := n2_; clear n0_ n1_ n2_; (try clear hb); (try clear hb2); (try clear hk); (try clear hi); (try clear ho0)) | ((with_reducible refine zgc (f := 75) rfl ?_); refine goesL_ (some 27) rfl rfl Try.func75 (by kernel_rfl) rfl #[.slice A0 l0.length c0, .int .i64 a1] rfl zq5 ?_; (with_reducible refine (sound_most.calls k _ _ l0 a1 t107 t108 _ ?side1 ?side2 A6.out).mono ?_); (case side1 => repeat (first | exact (Kd.C_below HR0.out HB.out) | (with_reducible refine Kd.C_alloc ?_ _) | (with_reducible refine Kd.C_drewN ?_ _) | (with_reducible refine Kd.C_drew ?_))); (case side2 => exact HC0.out); rintro e w9 ⟨v109, rfl, ho0, hb⟩; refine ⟨_, rfl, ?_⟩; have n0_ := zam (Kd.R_elder' (by (with_reducible repeat (first | apply zRa | apply zRn | apply zRd)); exact HO106.out) (Kd.R_base ho0) hb); have n1_ := zam (Kd.R_lower (Kd.R_new' ho0 (Kd.R_lt (by (with_reducible repeat (first | apply zRa | apply zRn | apply zRd)); exact HO106.out))) (zbz zq2)); have n2_ := zam (zkb (g := gb101) (o := .cells #[.int .i64 0, .int .i64 0] 24 (0, 0)) zq0 hb); have n3_ := zam (zbt zq2 hb); clear HO106; clear BK101; clear HB; have HO106 := n0_; have HO110 := n1_; have BK101 := n2_; have HB := n3_; clear n0_ n1_ n2_ n3_; (try clear hb); (try clear hb2); (try clear hk); (try clear hi); (try clear ho0); have hcz10_0 : w9.cell? ⟨gb101, 0, none⟩ = some (.int .i64 0) := (zkc BK101.out 0).trans rfl; have hcz10_1 : w9.cell? ⟨gb101, 1, none⟩ = some (.int .i64 0) := (zkc BK101.out 1).trans rfl; have hfz10_0 := zkz BK101.out 0; have hfz10_1 := zkz BK101.out 1))
  refine bodyPost_ret (results_ct rfl _ _ gb101 24 #[.int .i64 t104, .int .i64 t108] (0, 0) _ rfl (by (with_reducible repeat (first | refine zkn ?_ _ | refine zkd ?_ | refine zka ?_ _)); refine blk_put (cs := #[.int .i64 t104, .int .i64 0]) ?_ 1 _ rfl; (with_reducible repeat (first | refine zkn ?_ _ | refine zkd ?_ | refine zka ?_ _)); refine blk_put (cs := #[.int .i64 0, .int .i64 0]) ?_ 0 _ rfl; (with_reducible repeat (first | refine zkn ?_ _ | refine zkd ?_ | refine zka ?_ _)); exact BK101.out) Try.underlying24 rfl (by kernel_rfl)) rfl ?_
  exact ⟨by first | rfl | (simp [errW_none, errW_some] <;> rfl) | (simp [*, errW_none, errW_some] <;> rfl), by repeat (first | (with_reducible first | exact HB.out | apply zba | apply zbn | apply zb1 | refine zbs ?_ GE101.out) | exact HB.out)⟩
 rw [if_neg c4] at H
 have c4b0 : (t102 == 0) = false := beq_eq_false_iff_ne.mpr c4
 have c4b1 : (t102 != 0) = true := bne_iff_ne.mpr c4
 simp only [Option.some.injEq, Prod.mk.injEq] at H
 obtain ⟨rfl, rfl, rfl⟩ := H
 go_enter Try.func30, Try.ntmps30
 go_wp2_with (first | ((with_reducible refine zgd (N := 4) rfl ?_); refine box_event ?hg (N := 4) ?hd (cs := #[.int .i64 0, .int .i64 0]) (t := 24) ?hr ?_; (case hd => rfl); (case hg => rfl); (case hr => first | (go_simp; done) | (go_simp; rfl)); intro gb101 hg w11 hbox hb; have n0_ := zam (zbt zq1 hb); have n1_ := zam (hbox); have n2_ := zam ((by rw [hg]; exact (zbz zq1) : w.heap.size ≤ gb101)); have n3_ := zam ((by rw [hg]; exact (zbz zq1) : w.heap.size ≤ gb101)); clear HB; have HB := n0_; have BK101 := n1_; have GW101 := n2_; have GE101 := n3_; clear n0_ n1_ n2_ n3_; clear hb hbox hg) | ((with_reducible refine zgc (f := 73) rfl ?_); refine goesL_ (some 13) rfl rfl Try.func73 (by kernel_rfl) rfl #[.slice A0 l0.length c0, .int .i64 a1] rfl zq5 ?_; (with_reducible refine (sound_checkAnswers.calls k _ _ l0 a1 t102 _ ?side1 ?side2 A3.out).mono ?_); (case side1 => repeat (first | exact (Kd.C_below HR0.out HB.out) | (with_reducible refine Kd.C_alloc ?_ _) | (with_reducible refine Kd.C_drewN ?_ _) | (with_reducible refine Kd.C_drew ?_))); (case side2 => exact HC0.out); rintro e w' ⟨rfl, ⟨nd, rfl⟩⟩; refine ⟨_, rfl, ?_⟩; (try (rw [drewN_self w11]; generalize hq_ : World.drewN w11 _ = w11; have n0_ : Aside0 (w11.heap[gb101]? = some (.cells #[.int .i64 0, .int .i64 0] 24 (0, 0))) := ⟨by rw [← hq_]; exact zq0⟩; have n1_ : Aside0 (Below w.heap.size w w11) := ⟨by rw [← hq_]; exact zq2⟩; clear BK101 HB hq_; have BK101 := n0_; have HB := n1_; clear n0_ n1_)); have hcz12_0 : w11.cell? ⟨gb101, 0, none⟩ = some (.int .i64 0) := (zkc BK101.out 0).trans rfl; have hcz12_1 : w11.cell? ⟨gb101, 1, none⟩ = some (.int .i64 0) := (zkc BK101.out 1).trans rfl; have hfz12_0 := zkz BK101.out 0; have hfz12_1 := zkz BK101.out 1))
 refine bodyPost_ret (results_ct rfl _ _ gb101 24 #[.int .i64 0, .int .i64 0] (0, 0) _ rfl (by (with_reducible repeat (first | refine zkn ?_ _ | refine zkd ?_ | refine zka ?_ _)); refine blk_put (cs := #[.int .i64 0, .int .i64 0]) ?_ 1 _ rfl; (with_reducible repeat (first | refine zkn ?_ _ | refine zkd ?_ | refine zka ?_ _)); refine blk_put (cs := #[.int .i64 0, .int .i64 0]) ?_ 0 _ rfl; (with_reducible repeat (first | refine zkn ?_ _ | refine zkd ?_ | refine zka ?_ _)); exact BK101.out) Try.underlying24 rfl (by kernel_rfl)) rfl ?_
 exact ⟨by first | rfl | (simp [errW_none, errW_some] <;> rfl) | (simp [*, errW_none, errW_some] <;> rfl), by repeat (first | (with_reducible first | exact HB.out | apply zba | apply zbn | apply zb1 | refine zbs ?_ GE101.out) | exact HB.out)⟩
def Bst.nxt (n r : Nat) (b : Bool) : Nat := if b = true then min (r + 1) n else 0
def Bst.inc (n r : Nat) (b : Bool) : Int := if b = true ∧ r + 1 = n then 1 else 0
def Bst.may (x : Int) (b : Bool) : Prop := if b = true then x ≠ 0 else x ≠ 2
def Bst.walk (n : Nat) (b : List Bool) : Nat × Int := b.foldl (fun s x => (Bst.nxt n s.1 x, s.2 + Bst.inc n s.1 x)) (0, 0)
def Bst.Fit (l : List Int) (i : Nat) (b : List Bool) : Prop := b.length = i ∧ ∀ j, j < i → Bst.may (l.getD j 0) (b.getD j false)
theorem Bst.walk_snoc (n : Nat) (b : List Bool) (x : Bool) : Bst.walk n (b ++ [x]) = (Bst.nxt n (Bst.walk n b).1 x, (Bst.walk n b).2 + Bst.inc n (Bst.walk n b).1 x) := by simp [Bst.walk]
theorem Bst.inc_01 (n r : Nat) (b : Bool) : 0 ≤ Bst.inc n r b ∧ Bst.inc n r b ≤ 1 := by
 unfold Bst.inc
 split <;> omega
theorem Bst.nxt_le (n r : Nat) (b : Bool) : Bst.nxt n r b < n + 1 := by
 unfold Bst.nxt
 split <;> omega
theorem Bst.fit_snoc {l : List Int} {i : Nat} {b : List Bool} {x : Bool} (h : Bst.Fit l i b) (hx : Bst.may (l.getD i 0) x) : Bst.Fit l (i + 1) (b ++ [x]) := by
 refine ⟨by simp [h.1], fun j hj => ?_⟩
 by_cases e : j = i
 ·subst e
  simpa [List.getD, h.1] using hx
 have := h.2 j (by omega)
 have e2 : (b ++ [x]).getD j false = b.getD j false := by
  unfold List.getD
  rw [List.getElem?_append_left (by have := h.1; omega)]
 rw [e2]
 exact this
theorem Bst.fit_init {l : List Int} {i : Nat} {b : List Bool} (h : Bst.Fit l (i + 1) b) : ∃ b' x, b = b' ++ [x] ∧ Bst.Fit l i b' ∧ Bst.may (l.getD i 0) x := by
 have hne : b ≠ [] := by
  rintro rfl
  have := h.1
  simp at this
 obtain ⟨b', x, rfl⟩ : ∃ b' x, b = b' ++ [x] := ⟨b.dropLast, b.getLast hne, (List.dropLast_concat_getLast hne).symm⟩
 have hl : b'.length = i := by
  have := h.1
  simp at this
  exact this
 refine ⟨b', x, rfl, ⟨hl, fun j hj => ?_⟩, ?_⟩
 ·have := h.2 j (by omega)
  have e2 : (b' ++ [x]).getD j false = b'.getD j false := by
   unfold List.getD
   rw [List.getElem?_append_left (by omega)]
  rw [e2] at this
  exact this
 have := h.2 i (by omega)
 subst hl
 simpa [List.getD] using this
theorem Bst.walk_bd (n : Nat) : ∀ (i : Nat) (b : List Bool), b.length = i → (Bst.walk n b).1 < n + 1 ∧ 0 ≤ (Bst.walk n b).2 ∧ (Bst.walk n b).2 ≤ (i : Int)
 | 0, b, h => by
  have : b = [] := by cases b <;> simp_all
  subst this
  simp [Bst.walk]
 | i + 1, b, h => by
  have hne : b ≠ [] := by
   rintro rfl
   simp at h
  obtain ⟨b', x, rfl⟩ : ∃ b' x, b = b' ++ [x] := ⟨b.dropLast, b.getLast hne, (List.dropLast_concat_getLast hne).symm⟩
  have := Bst.walk_bd n i b' (by simpa using h)
  have h1 := Bst.inc_01 n (Bst.walk n b').1 x
  rw [Bst.walk_snoc]
  refine ⟨Bst.nxt_le _ _ _, ?_, ?_⟩
  ·show 0 ≤ (Bst.walk n b').2 + _
   omega
  show (Bst.walk n b').2 + _ ≤ _
  omega
def Bst.Ord (val : Int → Int) : Prop := (∀ c, 0 ≤ c → c ≤ 1000 → val c = c) ∨ (∀ c, 0 ≤ c → c ≤ 1000 → val c = -c)
theorem Bst.ord_few : Bst.Ord (fun c => c) := .inl fun _ _ _ => rfl
theorem Bst.ord_most : Bst.Ord (fun c => wrap64 (-c)) := .inr fun c h1 h2 => wrap_id (by omega) (by omega)
theorem Bst.ord_add {val : Int → Int} (h : Bst.Ord val) {a b d : Int} (ha : 0 ≤ a) (ha' : a ≤ 900) (hb : 0 ≤ b) (hb' : b ≤ 900) (hd : 0 ≤ d) (hd' : d ≤ 1) (hn : ¬ val a < val b) : ¬ val (a + d) < val (b + d) := by
 rcases h with h | h
 ·rw [h _ ha (by omega), h _ hb (by omega)] at hn
  rw [h _ (by omega) (by omega), h _ (by omega) (by omega)]
  omega
 rw [h _ ha (by omega), h _ hb (by omega)] at hn
 rw [h _ (by omega) (by omega), h _ (by omega) (by omega)]
 omega
theorem Bst.get_set (row : List Bst.Step) (run j : Nat) (s : Bst.Step) (hr : run < row.length) : Bst.get (row.set run s) j = if j = run then s else Bst.get row j := by
 unfold Bst.get
 simp only [List.getD, List.getElem?_set]
 by_cases e : run = j
 ·subst e
  simp [hr]
 rw [if_neg e, if_neg (Ne.symm e)]
theorem Bst.put_cases (val : Int → Int) (row : List Bst.Step) (run : Nat) (s : Bst.Step) (hr : run < row.length) (hs : s.there = true) : (∀ j, j ≠ run → Bst.get (Bst.put val row run s) j = Bst.get row j) ∧
  ((Bst.get (Bst.put val row run s) run = s ∧ ((Bst.get row run).there = true → val s.calls < val (Bst.get row run).calls)) ∨ (Bst.get (Bst.put val row run s) run = Bst.get row run ∧ (Bst.get row run).there = true ∧ ¬ val s.calls < val (Bst.get row run).calls)) := by
 unfold Bst.put
 by_cases h1 : (Bst.get row run).there = false
 ·rw [if_pos h1]
  refine ⟨fun j hj => by rw [Bst.get_set _ _ _ _ hr, if_neg hj], .inl ⟨by rw [Bst.get_set _ _ _ _ hr, if_pos rfl], fun e => ?_⟩⟩
  rw [h1] at e
  cases e
 rw [if_neg h1]
 by_cases h2 : val s.calls < val (Bst.get row run).calls
 ·rw [if_pos h2]
  exact ⟨fun j hj => by rw [Bst.get_set _ _ _ _ hr, if_neg hj], .inl ⟨by rw [Bst.get_set _ _ _ _ hr, if_pos rfl], fun _ => h2⟩⟩
 rw [if_neg h2]
 exact ⟨fun _ _ => rfl, .inr ⟨rfl, by simpa using h1, h2⟩⟩
def Bst.Up (val : Int → Int) (row row' : List Bst.Step) : Prop := ∀ j, (Bst.get row j).there = true → (Bst.get row' j).there = true ∧ ¬ val (Bst.get row j).calls < val (Bst.get row' j).calls
theorem Bst.Up.refl (val : Int → Int) (row : List Bst.Step) : Bst.Up val row row := fun _ h => ⟨h, by omega⟩
theorem Bst.Up.trans {val : Int → Int} {a b c : List Bst.Step} (h : Bst.Up val a b) (k : Bst.Up val b c) : Bst.Up val a c := fun j hj => by
 have h1 := h j hj
 have h2 := k j h1.1
 exact ⟨h2.1, by omega⟩
theorem Bst.put_up (val : Int → Int) (row : List Bst.Step) (run : Nat) (s : Bst.Step) (hr : run < row.length) (hs : s.there = true) : Bst.Up val row (Bst.put val row run s) := by
 intro j hj
 obtain ⟨h1, h2⟩ := Bst.put_cases val row run s hr hs
 by_cases e : j = run
 ·subst e
  rcases h2 with ⟨a, b⟩ | ⟨a, b, c⟩
  ·have := b hj
   rw [a]
   exact ⟨hs, by omega⟩
  rw [a]
  exact ⟨b, by omega⟩
 rw [h1 j e]
 exact ⟨hj, by omega⟩
theorem Bst.put_at (val : Int → Int) (row : List Bst.Step) (run : Nat) (s : Bst.Step) (hr : run < row.length) (hs : s.there = true) : (Bst.get (Bst.put val row run s) run).there = true ∧ ¬ val s.calls < val (Bst.get (Bst.put val row run s) run).calls := by
 obtain ⟨_, h2⟩ := Bst.put_cases val row run s hr hs
 rcases h2 with ⟨a, b⟩ | ⟨a, b, c⟩
 ·rw [a]
  exact ⟨hs, by omega⟩
 rw [a]
 exact ⟨b, c⟩
theorem Bst.put_all (val : Int → Int) (row : List Bst.Step) (run : Nat) (s : Bst.Step) (hr : run < row.length) (hs : s.there = true) (P : Nat → Bst.Step → Prop) (h : ∀ j, (Bst.get row j).there = true → P j (Bst.get row j)) (hp : P run s) : ∀ j, (Bst.get (Bst.put val row run s) j).there = true → P j (Bst.get (Bst.put val row run s) j) := by
 intro j hj
 obtain ⟨h1, h2⟩ := Bst.put_cases val row run s hr hs
 by_cases e : j = run
 ·subst e
  rcases h2 with ⟨a, b⟩ | ⟨a, b, c⟩
  ·rw [a]
   exact hp
  rw [a]
  exact h _ b
 rw [h1 j e] at hj ⊢
 exact h j hj
def Bst.From (n : Nat) (x : Int) (prev : List Bst.Step) (k j : Nat) (s : Bst.Step) : Prop := ∃ r : Nat, r < k ∧ (Bst.get prev r).there = true ∧ s.src = (r : Int) ∧ Bst.may x s.loud ∧ Bst.nxt n r s.loud = j ∧ s.calls = (Bst.get prev r).calls + Bst.inc n r s.loud
theorem Bst.From.more {n : Nat} {x : Int} {prev : List Bst.Step} {k j : Nat} {s : Bst.Step} (h : Bst.From n x prev k j s) : Bst.From n x prev (k + 1) j s := h.elim fun r hr => ⟨r, by omega, hr.2⟩
theorem Bst.get_zeros (n j : Nat) : (Bst.get (List.replicate n Bst.zero) j).there = false := by
 unfold Bst.get
 simp only [List.getD, List.getElem?_replicate]
 split <;> rfl
theorem Bst.upto_ok (val : Int → Int) (n : Nat) (x : Int) (prev : List Bst.Step) (hp : ∀ j, (Bst.get prev j).there = true → 0 ≤ (Bst.get prev j).calls ∧ (Bst.get prev j).calls ≤ 800) : ∀ k, k ≤ n + 1 →
  (∀ j, (Bst.get (Bst.upto val n x prev k) j).there = true → Bst.From n x prev k j (Bst.get (Bst.upto val n x prev k) j)) ∧
  (∀ r, r < k → (Bst.get prev r).there = true → ∀ b, Bst.may x b → (Bst.get (Bst.upto val n x prev k) (Bst.nxt n r b)).there = true ∧ ¬ val ((Bst.get prev r).calls + Bst.inc n r b) < val (Bst.get (Bst.upto val n x prev k) (Bst.nxt n r b)).calls)
 | 0, _ => ⟨fun j hj => (by rw [Bst.upto, Bst.get_zeros] at hj; cases hj), fun r hr => (by omega)⟩
 | k + 1, hk => by
  obtain ⟨h1, h2⟩ := Bst.upto_ok val n x prev hp k (by omega)
  have hl := Bst.upto_len val n x prev k
  rw [Bst.upto]
  generalize Bst.upto val n x prev k = row at *
  unfold Bst.round
  by_cases ht : (Bst.get prev k).there = false
  ·rw [if_pos ht]
   refine ⟨fun j hj => (h1 j hj).more, fun r hr hrt b hb => ?_⟩
   have : r ≠ k := by
    rintro rfl
    rw [ht] at hrt
    cases hrt
   exact h2 r (by omega) hrt b hb
  rw [if_neg ht]
  have ht : (Bst.get prev k).there = true := by simpa using ht
  have hb := hp k ht
  have hw : wrap64 ((Bst.get prev k).calls + 1) = (Bst.get prev k).calls + 1 := wrap_id (by omega) (by omega)
  -- the loud one
  have A : Bst.Up val row (Bst.loud val n x row k (Bst.get prev k)) ∧ (∀ j, (Bst.get (Bst.loud val n x row k (Bst.get prev k)) j).there = true → Bst.From n x prev (k + 1) j (Bst.get (Bst.loud val n x row k (Bst.get prev k)) j)) ∧
    (Bst.may x true → (Bst.get (Bst.loud val n x row k (Bst.get prev k)) (Bst.nxt n k true)).there = true ∧ ¬ val ((Bst.get prev k).calls + Bst.inc n k true) < val (Bst.get (Bst.loud val n x row k (Bst.get prev k)) (Bst.nxt n k true)).calls) := by
   have e1 : Bst.nxt n k true = min (k + 1) n := rfl
   have e2 : (if k + 1 = n then wrap64 ((Bst.get prev k).calls + 1) else (Bst.get prev k).calls) = (Bst.get prev k).calls + Bst.inc n k true := by
    unfold Bst.inc
    by_cases e : k + 1 = n
    ·rw [if_pos e, if_pos ⟨rfl, e⟩, hw]
    rw [if_neg e, if_neg (fun h => e h.2)]
    omega
   unfold Bst.loud
   by_cases hx : x = 0
   ·rw [if_pos hx]
    exact ⟨Bst.Up.refl _ _, fun j hj => (h1 j hj).more, fun h => absurd hx (by simpa [Bst.may] using h)⟩
   rw [if_neg hx, e2, e1]
   have hlt : min (k + 1) n < row.length := by omega
   refine ⟨Bst.put_up _ _ _ _ hlt rfl, Bst.put_all _ _ _ _ hlt rfl (Bst.From n x prev (k + 1)) (fun j hj => (h1 j hj).more) ⟨k, by omega, ht, rfl, by simpa [Bst.may] using hx, rfl, rfl⟩, fun _ => Bst.put_at _ _ _ _ hlt rfl⟩
  obtain ⟨a1, a2, a3⟩ := A
  have hl2 : (Bst.loud val n x row k (Bst.get prev k)).length = n + 1 := by rw [Bst.loud_len, hl]
  generalize Bst.loud val n x row k (Bst.get prev k) = row2 at *
  have B : Bst.Up val row2 (Bst.still val x row2 k (Bst.get prev k)) ∧ (∀ j, (Bst.get (Bst.still val x row2 k (Bst.get prev k)) j).there = true → Bst.From n x prev (k + 1) j (Bst.get (Bst.still val x row2 k (Bst.get prev k)) j)) ∧
    (Bst.may x false → (Bst.get (Bst.still val x row2 k (Bst.get prev k)) (Bst.nxt n k false)).there = true ∧ ¬ val ((Bst.get prev k).calls + Bst.inc n k false) < val (Bst.get (Bst.still val x row2 k (Bst.get prev k)) (Bst.nxt n k false)).calls) := by
   have e1 : Bst.nxt n k false = 0 := rfl
   have e2 : (Bst.get prev k).calls + Bst.inc n k false = (Bst.get prev k).calls := by
    unfold Bst.inc
    rw [if_neg (fun h => by cases h.1)]
    omega
   unfold Bst.still
   by_cases hx : x = 2
   ·rw [if_pos hx]
    exact ⟨Bst.Up.refl _ _, a2, fun h => absurd hx (by simpa [Bst.may] using h)⟩
   rw [if_neg hx, e2, e1]
   have hlt : 0 < row2.length := by omega
   refine ⟨Bst.put_up _ _ _ _ hlt rfl, Bst.put_all _ _ _ _ hlt rfl (Bst.From n x prev (k + 1)) a2 ⟨k, by omega, ht, rfl, by simpa [Bst.may] using hx, rfl, e2.symm⟩, fun _ => Bst.put_at _ _ _ _ hlt rfl⟩
  obtain ⟨b1, b2, b3⟩ := B
  refine ⟨b2, fun r hr hrt b hb => ?_⟩
  by_cases e : r = k
  ·subst e
   cases b
   ·exact b3 hb
   have h3 := a3 hb
   have h4 := b1 _ h3.1
   exact ⟨h4.1, by omega⟩
  have h3 := h2 r (by omega) hrt b hb
  have h4 := (a1.trans b1) _ h3.1
  exact ⟨h4.1, by omega⟩
theorem Bst.may_one (x : Int) : ∃ b, Bst.may x b := by
 by_cases h : x = 0
 ·exact ⟨false, by simp [Bst.may, h]⟩
 exact ⟨true, by simpa [Bst.may] using h⟩
theorem Bst.tab_ok (val : Int → Int) (hv : Bst.Ord val) (n : Nat) (l : List Int) : ∀ i, i ≤ 700 →
  (∀ j, (Bst.get (Bst.tab val n l i) j).there = true → ∃ b, Bst.Fit l i b ∧ Bst.walk n b = (j, (Bst.get (Bst.tab val n l i) j).calls)) ∧
  (∀ b, Bst.Fit l i b → (Bst.get (Bst.tab val n l i) (Bst.walk n b).1).there = true ∧ ¬ val (Bst.walk n b).2 < val (Bst.get (Bst.tab val n l i) (Bst.walk n b).1).calls)
 | 0, _ => by
  have g : ∀ j, Bst.get (Bst.tab val n l 0) j = if j = 0 then Bst.one else Bst.get (List.replicate (n + 1) Bst.zero) j := fun j => by
   rw [Bst.tab, Bst.get_set _ _ _ _ (by simp)]
  refine ⟨fun j hj => ?_, fun b hb => ?_⟩
  ·rw [g] at hj ⊢
   by_cases e : j = 0
   ·subst e
    exact ⟨[], ⟨rfl, fun j hj => by omega⟩, rfl⟩
   rw [if_neg e, Bst.get_zeros] at hj
   cases hj
  have : b = [] := by
   have := hb.1
   cases b <;> simp_all
  subst this
  rw [g]
  exact ⟨rfl, by show ¬ val 0 < val 0; omega⟩
 | i + 1, hi => by
  obtain ⟨h1, h2⟩ := Bst.tab_ok val hv n l i (by omega)
  have hp : ∀ j, (Bst.get (Bst.tab val n l i) j).there = true → 0 ≤ (Bst.get (Bst.tab val n l i) j).calls ∧ (Bst.get (Bst.tab val n l i) j).calls ≤ 800 := fun j hj => by
   obtain ⟨b, hb, he⟩ := h1 j hj
   have := Bst.walk_bd n i b hb.1
   rw [he] at this
   exact ⟨this.2.1, by have := this.2.2; omega⟩
  obtain ⟨u1, u2⟩ := Bst.upto_ok val n (l.getD i 0) (Bst.tab val n l i) hp (n + 1) (Nat.le_refl _)
  rw [Bst.tab]
  refine ⟨fun j hj => ?_, fun b hb => ?_⟩
  ·obtain ⟨r, hr, hrt, hsrc, hm, hn, hc⟩ := u1 j hj
   obtain ⟨b, hb, he⟩ := h1 r hrt
   refine ⟨b ++ [_], Bst.fit_snoc hb hm, ?_⟩
   rw [Bst.walk_snoc, he, hc]
   show (Bst.nxt n r _, _) = _
   rw [hn]
  obtain ⟨b', x, rfl, hb', hx⟩ := Bst.fit_init hb
  have hw := Bst.walk_bd n i b' hb'.1
  obtain ⟨h3, h4⟩ := h2 b' hb'
  have h5 := u2 (Bst.walk n b').1 hw.1 h3 x hx
  rw [Bst.walk_snoc]
  refine ⟨h5.1, ?_⟩
  have hi01 := Bst.inc_01 n (Bst.walk n b').1 x
  have hcp := hp _ h3
  have h6 := Bst.ord_add hv (d := Bst.inc n (Bst.walk n b').1 x) hw.2.1 (by omega) hcp.1 (by omega) hi01.1 hi01.2 h4
  show ¬ val ((Bst.walk n b').2 + Bst.inc n (Bst.walk n b').1 x) < val (Bst.get (Bst.upto val n (l.getD i 0) (Bst.tab val n l i) (n + 1)) (Bst.nxt n (Bst.walk n b').1 x)).calls
  have := h5.2
  omega
theorem Bst.back_ok (val : Int → Int) (hv : Bst.Ord val) (n : Nat) (l : List Int) : ∀ i, i ≤ 700 → ∀ j, (Bst.get (Bst.tab val n l i) j).there = true → j < n + 1 → ∃ b, Bst.back (Bst.tab val n l) n i (j : Int) = some b ∧ Bst.Fit l i b ∧ Bst.walk n b = (j, (Bst.get (Bst.tab val n l i) j).calls)
 | 0, _, j, hj, _ => by
  have g : ∀ j, Bst.get (Bst.tab val n l 0) j = if j = 0 then Bst.one else Bst.get (List.replicate (n + 1) Bst.zero) j := fun j => by
   rw [Bst.tab, Bst.get_set _ _ _ _ (by simp)]
  rw [g] at hj ⊢
  by_cases e : j = 0
  ·subst e
   exact ⟨[], rfl, ⟨rfl, fun j hj => by omega⟩, rfl⟩
  rw [if_neg e, Bst.get_zeros] at hj
  cases hj
 | i + 1, hi, j, hj, hjn => by
  have hp : ∀ j, (Bst.get (Bst.tab val n l i) j).there = true → 0 ≤ (Bst.get (Bst.tab val n l i) j).calls ∧ (Bst.get (Bst.tab val n l i) j).calls ≤ 800 := fun j hj => by
   obtain ⟨b, hb, he⟩ := (Bst.tab_ok val hv n l i (by omega)).1 j hj
   have := Bst.walk_bd n i b hb.1
   rw [he] at this
   exact ⟨this.2.1, by have := this.2.2; omega⟩
  obtain ⟨u1, -⟩ := Bst.upto_ok val n (l.getD i 0) (Bst.tab val n l i) hp (n + 1) (Nat.le_refl _)
  have hj' := hj
  rw [Bst.tab] at hj'
  obtain ⟨r, hr, hrt, hsrc, hm, hn, hc⟩ := u1 j hj'
  obtain ⟨b, hb1, hb2, hb3⟩ := Bst.back_ok val hv n l i (by omega) r hrt hr
  rw [Bst.back, if_pos ⟨by omega, by omega⟩, Int.toNat_natCast]
  have e : Bst.get (Bst.tab val n l (i + 1)) j = Bst.get (Bst.upto val n (l.getD i 0) (Bst.tab val n l i) (n + 1)) j := rfl
  rw [e, hsrc, hb1]
  refine ⟨_, rfl, Bst.fit_snoc hb2 hm, ?_⟩
  rw [Bst.walk_snoc, hb3, hc]
  show (Bst.nxt n r _, _) = _
  rw [hn]
theorem Bst.last_ok (val : Int → Int) (row : List Bst.Step) : ∀ k, (Bst.last val row k < 0 → ∀ r, r < k → (Bst.get row r).there = false) ∧ (0 ≤ Bst.last val row k → (Bst.get row (Bst.last val row k).toNat).there = true ∧ ∀ r, r < k → (Bst.get row r).there = true → ¬ val (Bst.get row r).calls < val (Bst.get row (Bst.last val row k).toNat).calls)
 | 0 => ⟨fun _ r hr => by omega, fun h => by simp [Bst.last] at h⟩
 | k + 1 => by
  obtain ⟨h1, h2⟩ := Bst.last_ok val row k
  rw [Bst.last]
  by_cases ht : (Bst.get row k).there = false
  ·rw [if_pos ht]
   refine ⟨fun h r hr => ?_, fun h => ⟨(h2 h).1, fun r hr hrt => ?_⟩⟩
   ·by_cases e : r = k
    ·rw [e, ht]
    exact h1 h r (by omega)
   have : r ≠ k := by
    rintro rfl
    rw [ht] at hrt
    cases hrt
   exact (h2 h).2 r (by omega) hrt
  rw [if_neg ht]
  have ht : (Bst.get row k).there = true := by simpa using ht
  by_cases hn : Bst.last val row k < 0
  ·rw [if_pos hn]
   refine ⟨fun h => by omega, fun _ => ⟨by simpa using ht, fun r hr hrt => ?_⟩⟩
   by_cases e : r = k
   ·subst e
    simp
   rw [h1 hn r (by omega)] at hrt
   cases hrt
  rw [if_neg hn]
  obtain ⟨h3, h4⟩ := h2 (by omega)
  by_cases hb : val (Bst.get row k).calls < val (Bst.get row (Bst.last val row k).toNat).calls
  ·rw [if_pos hb]
   refine ⟨fun h => by omega, fun _ => ⟨by simpa using ht, fun r hr hrt => ?_⟩⟩
   simp only [Int.toNat_natCast]
   by_cases e : r = k
   ·subst e
    omega
   have := h4 r (by omega) hrt
   omega
  rw [if_neg hb]
  refine ⟨fun h => absurd h hn, fun _ => ⟨h3, fun r hr hrt => ?_⟩⟩
  by_cases e : r = k
  ·subst e
   exact hb
  exact h4 r (by omega) hrt
theorem Bst.fit_any (l : List Int) : ∀ i, ∃ b, Bst.Fit l i b
 | 0 => ⟨[], rfl, fun j hj => by omega⟩
 | i + 1 => by
  obtain ⟨b, hb⟩ := Bst.fit_any l i
  obtain ⟨x, hx⟩ := Bst.may_one (l.getD i 0)
  exact ⟨b ++ [x], Bst.fit_snoc hb hx⟩
theorem Bst.best_ok (val : Int → Int) (hv : Bst.Ord val) (n : Nat) (l : List Int) (hl : l.length ≤ 700) : ∃ b c, Bst.best val l n = some (b, c) ∧ Bst.Fit l l.length b ∧ (Bst.walk n b).2 = c ∧ ∀ b', Bst.Fit l l.length b' → ¬ val (Bst.walk n b').2 < val c := by
 obtain ⟨t1, t2⟩ := Bst.tab_ok val hv n l l.length hl
 obtain ⟨h1, h2⟩ := Bst.last_ok val (Bst.tab val n l l.length) (n + 1)
 obtain ⟨b0, hb0⟩ := Bst.fit_any l l.length
 have hw0 := Bst.walk_bd n l.length b0 hb0.1
 have hge : ¬ Bst.last val (Bst.tab val n l l.length) (n + 1) < 0 := fun h => by
  have := h1 h _ hw0.1
  rw [(t2 b0 hb0).1] at this
  cases this
 have hlt := Bst.last_lt val (Bst.tab val n l l.length) (n + 1)
 obtain ⟨h3, h4⟩ := h2 (by omega)
 unfold Bst.best
 rw [if_neg hge]
 obtain ⟨b, e1, e2, e3⟩ := Bst.back_ok val hv n l l.length hl (Bst.last val (Bst.tab val n l l.length) (n + 1)).toNat h3 (by omega)
 rw [Int.toNat_of_nonneg (by omega)] at e1
 refine ⟨b, _, by rw [e1]; rfl, e2, by rw [e3], fun b' hb' => ?_⟩
 have hw := Bst.walk_bd n l.length b' hb'.1
 have h5 := t2 b' hb'
 have h6 := h4 _ hw.1 h5.1
 have := h5.2
 omega
theorem Sp.walk_from (n : Nat) : ∀ (b : List Bool) (r : Nat) (c : Int), (b.foldl (fun s x => (Bst.nxt n s.1 x, s.2 + Bst.inc n s.1 x)) (min r n, c)).2 = c + Sp.cnt (n : Int) (r : Int) b
 | [], r, c => by simp [Sp.cnt]
 | true :: b, r, c => by
  rw [List.foldl_cons, Sp.cnt]
  have e1 : Bst.nxt n (min r n) true = min (r + 1) n := by
   show min (min r n + 1) n = _
   omega
  have e2 : Bst.inc n (min r n) true = if (r : Int) + 1 = (n : Int) then 1 else 0 := by
   unfold Bst.inc
   by_cases h : (r : Int) + 1 = (n : Int)
   ·rw [if_pos h, if_pos ⟨rfl, by omega⟩]
   rw [if_neg h, if_neg (fun hh => h (by omega))]
  rw [e1, e2, Sp.walk_from n b (r + 1)]
  have e3 : ((r + 1 : Nat) : Int) = (r : Int) + 1 := by omega
  rw [e3]
  omega
 | false :: b, r, c => by
  rw [List.foldl_cons, Sp.cnt]
  have e1 : Bst.nxt n (min r n) false = min 0 n := by
   show 0 = _
   omega
  have e2 : Bst.inc n (min r n) false = 0 := by
   unfold Bst.inc
   rw [if_neg (fun h => by cases h.1)]
  rw [e1, e2, Sp.walk_from n b 0]
  simp
theorem Sp.walk_cnt (n : Nat) (b : List Bool) : (Bst.walk n b).2 = Sp.cnt (n : Int) 0 b := by
 have h := Sp.walk_from n b 0 0
 rw [Nat.zero_min, Int.zero_add] at h
 exact h
theorem Sp.fold_shift (n : Nat) : ∀ (b : List Bool) (r : Nat) (c : Int), (b.foldl (fun s x => (Bst.nxt n s.1 x, s.2 + Bst.inc n s.1 x)) (r, c)).2 = c + (b.foldl (fun s x => (Bst.nxt n s.1 x, s.2 + Bst.inc n s.1 x)) (r, (0 : Int))).2
 | [], r, c => by simp
 | x :: b, r, c => by
  rw [List.foldl_cons, List.foldl_cons, Sp.fold_shift n b _ (c + _), Sp.fold_shift n b _ (0 + _)]
  show c + Bst.inc n r x + (b.foldl (fun s x => (Bst.nxt n s.1 x, s.2 + Bst.inc n s.1 x)) (Bst.nxt n r x, (0 : Int))).2 = c + (0 + Bst.inc n r x + (b.foldl (fun s x => (Bst.nxt n s.1 x, s.2 + Bst.inc n s.1 x)) (Bst.nxt n r x, (0 : Int))).2)
  omega
theorem Sp.fit_cons {x : Int} {xs : List Int} {b : List Bool} : Bst.Fit (x :: xs) (xs.length + 1) b ↔ ∃ y b', b = y :: b' ∧ Bst.may x y ∧ Bst.Fit xs xs.length b' := by
 constructor
 ·rintro ⟨h1, h2⟩
  cases b with
  | nil => simp at h1
  | cons y b' =>
   refine ⟨y, b', rfl, ?_, by simpa using h1, fun j hj => ?_⟩
   ·have := h2 0 (by omega)
    simpa using this
   have := h2 (j + 1) (by omega)
   simpa using this
 rintro ⟨y, b', rfl, hm, h1, h2⟩
 refine ⟨by simp [h1], fun j hj => ?_⟩
 cases j with
 | zero => simpa using hm
 | succ j => simpa using h2 j (by omega)
theorem Sp.ext_opt (n : Nat) (most : Bool) : ∀ (l : List Int) (r : Nat),
  (∃ b, Bst.Fit l l.length b ∧ (b.foldl (fun s x => (Bst.nxt n s.1 x, s.2 + Bst.inc n s.1 x)) (r, (0 : Int))).2 = Sp.ext n most l r) ∧
  ∀ b, Bst.Fit l l.length b → (most = true → (b.foldl (fun s x => (Bst.nxt n s.1 x, s.2 + Bst.inc n s.1 x)) (r, (0 : Int))).2 ≤ Sp.ext n most l r) ∧ (most = false → Sp.ext n most l r ≤ (b.foldl (fun s x => (Bst.nxt n s.1 x, s.2 + Bst.inc n s.1 x)) (r, (0 : Int))).2)
 | [], r => by
  refine ⟨⟨[], ⟨rfl, fun j hj => by simp at hj⟩, rfl⟩, fun b hb => ?_⟩
  have : b = [] := by
   have := hb.1
   cases b <;> simp_all
  subst this
  exact ⟨fun _ => Int.le_refl _, fun _ => Int.le_refl _⟩
 | x :: xs, r => by
  have hL := Sp.ext_opt n most xs (min (r + 1) n)
  have hS := Sp.ext_opt n most xs 0
  have step : ∀ (y : Bool) (b : List Bool), ((y :: b).foldl (fun s x => (Bst.nxt n s.1 x, s.2 + Bst.inc n s.1 x)) (r, (0 : Int))).2 = Bst.inc n r y + (b.foldl (fun s x => (Bst.nxt n s.1 x, s.2 + Bst.inc n s.1 x)) (Bst.nxt n r y, (0 : Int))).2 := fun y b => by
   rw [List.foldl_cons, Sp.fold_shift]
   simp
  have i1 : Bst.inc n r true = if r + 1 = n then 1 else 0 := by
   unfold Bst.inc
   by_cases h : r + 1 = n
   ·rw [if_pos h, if_pos ⟨rfl, h⟩]
   rw [if_neg h, if_neg (fun hh => h hh.2)]
  have i0 : Bst.inc n r false = 0 := by
   unfold Bst.inc
   rw [if_neg (fun h => by cases h.1)]
  have n1 : Bst.nxt n r true = min (r + 1) n := rfl
  have n0 : Bst.nxt n r false = 0 := rfl
  obtain ⟨⟨bl, hbl, cl⟩, ol⟩ := hL
  obtain ⟨⟨bs, hbs, cs⟩, os⟩ := hS
  have T : (if r + 1 = n then Sp.ext n most xs (min (r + 1) n) + 1 else Sp.ext n most xs (min (r + 1) n)) = Bst.inc n r true + Sp.ext n most xs (min (r + 1) n) := by
   rw [i1]
   split <;> omega
  rw [Sp.ext, T]
  generalize Sp.ext n most xs (min (r + 1) n) = EL at *
  generalize Sp.ext n most xs 0 = ES at *
  -- both kinds of choices
  have exL : x ≠ 0 → ∃ b, Bst.Fit (x :: xs) (x :: xs).length b ∧ (b.foldl (fun s x => (Bst.nxt n s.1 x, s.2 + Bst.inc n s.1 x)) (r, (0 : Int))).2 = Bst.inc n r true + EL := fun h => ⟨true :: bl, Sp.fit_cons.2 ⟨true, bl, rfl, h, hbl⟩, by rw [step, n1, cl]⟩
  have exS : x ≠ 2 → ∃ b, Bst.Fit (x :: xs) (x :: xs).length b ∧ (b.foldl (fun s x => (Bst.nxt n s.1 x, s.2 + Bst.inc n s.1 x)) (r, (0 : Int))).2 = ES := fun h => ⟨false :: bs, Sp.fit_cons.2 ⟨false, bs, rfl, h, hbs⟩, by rw [step, n0, cs, i0, Int.zero_add]⟩
  have bd : ∀ b, Bst.Fit (x :: xs) (x :: xs).length b → (x ≠ 0 ∧ (most = true → (b.foldl (fun s x => (Bst.nxt n s.1 x, s.2 + Bst.inc n s.1 x)) (r, (0 : Int))).2 ≤ Bst.inc n r true + EL) ∧ (most = false → Bst.inc n r true + EL ≤ (b.foldl (fun s x => (Bst.nxt n s.1 x, s.2 + Bst.inc n s.1 x)) (r, (0 : Int))).2)) ∨
    (x ≠ 2 ∧ (most = true → (b.foldl (fun s x => (Bst.nxt n s.1 x, s.2 + Bst.inc n s.1 x)) (r, (0 : Int))).2 ≤ ES) ∧ (most = false → ES ≤ (b.foldl (fun s x => (Bst.nxt n s.1 x, s.2 + Bst.inc n s.1 x)) (r, (0 : Int))).2)) := fun b hb => by
   obtain ⟨y, b', rfl, hm, hb'⟩ := Sp.fit_cons.1 hb
   rw [step]
   cases y
   ·right
    have := os b' hb'
    rw [n0, i0, Int.zero_add]
    exact ⟨hm, this⟩
   left
   have := ol b' hb'
   rw [n1]
   exact ⟨hm, fun h => by have := this.1 h; omega, fun h => by have := this.2 h; omega⟩
  by_cases x2 : x = 2
  ·rw [if_pos x2]
   refine ⟨exL (by omega), fun b hb => ?_⟩
   rcases bd b hb with h | h
   ·exact h.2
   exact absurd x2 h.1
  rw [if_neg x2]
  by_cases x0 : x = 0
  ·rw [if_pos x0]
   refine ⟨exS x2, fun b hb => ?_⟩
   rcases bd b hb with h | h
   ·exact absurd x0 h.1
   exact h.2
  rw [if_neg x0]
  cases most
  ·rw [if_neg (by decide)]
   refine ⟨?_, fun b hb => ⟨fun h => (by cases h), fun _ => ?_⟩⟩
   ·rcases Int.le_total (Bst.inc n r true + EL) ES with h | h
    ·rw [Int.min_eq_left h]
     exact exL x0
    rw [Int.min_eq_right h]
    exact exS x2
   rcases bd b hb with h | h
   ·have := h.2.2 rfl
    omega
   have := h.2.2 rfl
   omega
  rw [if_pos rfl]
  refine ⟨?_, fun b hb => ⟨fun _ => ?_, fun h => (by cases h)⟩⟩
  ·rcases Int.le_total (Bst.inc n r true + EL) ES with h | h
   ·rw [Int.max_eq_right h]
    exact exS x2
   rw [Int.max_eq_left h]
   exact exL x0
  rcases bd b hb with h | h
  ·have := h.2.1 rfl
   omega
  have := h.2.1 rfl
  omega
theorem Sp.cnt_between (n : Nat) (l : List Int) (b : List Bool) (hb : Bst.Fit l l.length b) : Sp.ext n false l 0 ≤ Sp.cnt (n : Int) 0 b ∧ Sp.cnt (n : Int) 0 b ≤ Sp.ext n true l 0 := by
 rw [← Sp.walk_cnt]
 exact ⟨((Sp.ext_opt n false l 0).2 b hb).2 rfl, ((Sp.ext_opt n true l 0).2 b hb).1 rfl⟩
theorem Sp.cnt_reached (n : Nat) (most : Bool) (l : List Int) : ∃ b, Bst.Fit l l.length b ∧ Sp.cnt (n : Int) 0 b = Sp.ext n most l 0 := by
 obtain ⟨b, hb, hc⟩ := (Sp.ext_opt n most l 0).1
 refine ⟨b, hb, ?_⟩
 rw [← Sp.walk_cnt]
 exact hc
theorem Sp.cnt_bd (n : Int) : ∀ (b : List Bool) (r : Int), 0 ≤ Sp.cnt n r b ∧ Sp.cnt n r b ≤ (b.length : Int)
 | [], r => by simp [Sp.cnt]
 | true :: b, r => by
  have := Sp.cnt_bd n b (r + 1)
  rw [Sp.cnt, List.length_cons]
  split <;> omega
 | false :: b, r => by
  have := Sp.cnt_bd n b 0
  rw [Sp.cnt, List.length_cons]
  omega
theorem Sp.few (l : List Int) (n : Int) (k : Nat) (hl : l.length ≤ 256) (h1 : 1 ≤ n) (h2 : n ≤ 256) : ∃ b, sound_fewest.f k l n = some (b, Sp.ext n.toNat false l 0) ∧ Bst.Fit l l.length b ∧ Sp.cnt n 0 b = Sp.ext n.toNat false l 0 := by
 obtain ⟨m, rfl⟩ : ∃ m : Nat, n = (m : Int) := ⟨n.toNat, by omega⟩
 obtain ⟨b, c, hb, hf, hc, ho⟩ := Bst.best_ok (fun c => c) Bst.ord_few m l (by omega)
 have e : c = Sp.ext m false l 0 := by
  obtain ⟨b', hb', hc'⟩ := Sp.cnt_reached m false l
  have h3 := ho b' hb'
  rw [Sp.walk_cnt] at h3 hc
  have h4 := (Sp.cnt_between m l b hf).1
  omega
 refine ⟨b, ?_, hf, ?_⟩
 ·unfold sound_fewest.f
  rw [if_pos ⟨by omega, h2, hl⟩, Int.toNat_natCast, hb, e]
 rw [Int.toNat_natCast, ← e, ← hc, Sp.walk_cnt]
theorem Sp.mst (l : List Int) (n : Int) (k : Nat) (hl : l.length ≤ 256) (h1 : 1 ≤ n) (h2 : n ≤ 256) : ∃ b, sound_most.f k l n = some (b, Sp.ext n.toNat true l 0) ∧ Bst.Fit l l.length b ∧ Sp.cnt n 0 b = Sp.ext n.toNat true l 0 := by
 obtain ⟨m, rfl⟩ : ∃ m : Nat, n = (m : Int) := ⟨n.toNat, by omega⟩
 obtain ⟨b, c, hb, hf, hc, ho⟩ := Bst.best_ok (fun c => wrap64 (-c)) Bst.ord_most m l (by omega)
 have e : c = Sp.ext m true l 0 := by
  obtain ⟨b', hb', hc'⟩ := Sp.cnt_reached m true l
  have h3 := ho b' hb'
  rw [Sp.walk_cnt] at h3 hc
  have h4 := (Sp.cnt_between m l b hf).2
  have h5 := Sp.cnt_bd m b 0
  have h6 := Sp.cnt_bd m b' 0
  rw [hf.1] at h5
  rw [hb'.1] at h6
  rw [wrap_id (by omega) (by omega), wrap_id (by omega) (by omega)] at h3
  omega
 refine ⟨b, ?_, hf, ?_⟩
 ·unfold sound_most.f
  rw [if_pos ⟨by omega, h2, hl⟩, Int.toNat_natCast, hb, e]
 rw [Int.toNat_natCast, ← e, ← hc, Sp.walk_cnt]
theorem Sp.count_b (l : List Int) (n : Int) {k : Nat} (hk : 300 ≤ k) : sound_Count.f k l n = some (Sp.count l n) := by
 unfold sound_Count.f Sp.count
 rw [Sp.ans_b l n hk, Option.bind_some]
 by_cases h : Sp.ans l n = 0
 ·obtain ⟨h1, _, h3, h4⟩ := Sp.ans_ok h
  obtain ⟨b1, e1, _⟩ := Sp.few l n k h1 h3 h4
  obtain ⟨b2, e2, _⟩ := Sp.mst l n k h1 h3 h4
  rw [if_pos h, if_pos h, e1, e2]
  rfl
 rw [if_neg h, if_neg h]
theorem Sp.i64 {n : Int} (h : (Lit.int .i64 n).wf = true) : -9223372036854775808 ≤ n ∧ n ≤ 9223372036854775807 := by
 have e : (decide ((-9223372036854775808 : Int) ≤ n) && decide (n ≤ 9223372036854775807)) = true := h
 simp at e
 omega
theorem Sp.u8 {n : Int} (h : (Lit.int .u8 n).wf = true) : 0 ≤ n ∧ n ≤ 255 := by
 have e : (decide ((0 : Int) ≤ n) && decide (n ≤ 255)) = true := h
 simp at e
 omega
section
open Ieee
theorem rt_log2_le {m k : Nat} (h0 : m ≠ 0) (h : m < 2 ^ (k + 1)) : m.log2 ≤ k := by
 have := (Nat.log2_lt h0).2 h
 omega
theorem rt_bool_le (b : Bool) : b.toNat ≤ 1 := by cases b <;> decide
theorem kept_lt (m : Nat) (h0 : m ≠ 0) (up drop : Nat) (hd : m.log2 + up = 52 + drop) (hud : up = 0 ∨ drop = 0) : 2 ^ 52 ≤ Toward.even.cut false (m <<< up) drop ∧ Toward.even.cut false (m <<< up) drop ≤ 2 ^ 53 := by
 have hlo : 2 ^ m.log2 ≤ m := Nat.log2_self_le h0
 have hhi : m < 2 ^ (m.log2 + 1) := Nat.lt_log2_self
 unfold Toward.cut
 rcases hud with rfl | rfl
 ·rw [Nat.shiftLeft_zero]
  have e : m.log2 = 52 + drop := by omega
  have hmin : min drop (m.log2 + 2) = drop := by omega
  simp only [hmin, Nat.one_shiftLeft]
  rw [e, Nat.pow_add] at hlo
  rw [e, show 52 + drop + 1 = 53 + drop by omega, Nat.pow_add] at hhi
  have hp : 0 < 2 ^ drop := Nat.two_pow_pos _
  have h1 : 2 ^ 52 ≤ m / 2 ^ drop := (Nat.le_div_iff_mul_le hp).2 hlo
  have h2 : m / 2 ^ drop < 2 ^ 53 := (Nat.div_lt_iff_lt_mul hp).2 hhi
  generalize m / 2 ^ drop = q at h1 h2 ⊢
  have hb := fun b : Bool => rt_bool_le b
  refine ⟨Nat.le_trans h1 (Nat.le_add_right _ _), ?_⟩
  exact Nat.le_trans (Nat.add_le_add_left (hb _) q) h2
 have e : m.log2 + up = 52 := by omega
 have hmin : min 0 ((m <<< up).log2 + 2) = 0 := by omega
 simp only [hmin, Nat.shiftLeft_zero, Nat.div_one, Nat.mod_one, Nat.mul_zero]
 rw [Nat.shiftLeft_eq]
 have h1 : 2 ^ m.log2 * 2 ^ up ≤ m * 2 ^ up := Nat.mul_le_mul_right _ hlo
 rw [← Nat.pow_add, e] at h1
 have h2 : m * 2 ^ up < 2 ^ (m.log2 + 1) * 2 ^ up := Nat.mul_lt_mul_of_pos_right hhi (Nat.two_pow_pos _)
 rw [← Nat.pow_add, show m.log2 + 1 + up = 53 by omega] at h2
 refine ⟨Nat.le_trans h1 (Nat.le_add_right _ _), ?_⟩
 exact Nat.le_trans (Nat.add_le_add_left (rt_bool_le _) _) h2
theorem read_write (m : Nat) (p : Int) (h0 : m ≠ 0) (h1 : -1000 ≤ p + m.log2) (h2 : p + m.log2 ≤ 900) : ∃ (k : Nat) (i : Int), double.read (double.nearest false m p) = .number false k i ∧ 4503599627370496 ≤ k ∧ ((i = p + m.log2 - 52 ∧ k < 9007199254740992) ∨ (i = p + m.log2 - 51 ∧ k = 4503599627370496)) := by
 have e1 : ((double.fractionBits : Nat) : Int) = 52 := rfl
 have e2 : double.leastPlace = -1074 := by decide
 have e3 : double.binade = 4503599627370496 := by decide
 have e4 : double.infRung = 9218868437227405312 := by decide
 have e5 : double.signWeight = 9223372036854775808 := by decide
 obtain ⟨last, hl⟩ : ∃ last : Int, last = p + m.log2 - 52 := ⟨_, rfl⟩
 obtain ⟨c, hc⟩ : ∃ c, c = Toward.even.cut false (m <<< (p - last).toNat) (last - p).toNat := ⟨_, rfl⟩
 have hk := kept_lt m h0 (p - last).toNat (last - p).toNat (by omega) (by omega)
 rw [← hc, show (2 : Nat) ^ 52 = 4503599627370496 by decide, show (2 : Nat) ^ 53 = 9007199254740992 by decide] at hk
 have hlast : max (p + (m.log2 : Int) - (double.fractionBits : Nat)) double.leastPlace = last := by
  rw [e1, e2]
  omega
 obtain ⟨u, hu⟩ : ∃ u : Nat, (last + 1074).toNat = u := ⟨_, rfl⟩
 have hub : 20 ≤ u ∧ u ≤ 1930 := by omega
 have hue : last = (u : Int) - 1074 := by omega
 have hn : double.nearest false m p = u * 4503599627370496 + c := by
  unfold Format.nearest
  rw [if_neg h0]
  simp only [hlast]
  rw [← hc, e2, e3, e4]
  unfold Format.word
  have : (last - -1074).toNat = u := by omega
  rw [this, if_neg (by decide)]
  exact Nat.min_eq_left (by clear hu hl hc hlast hue; omega)
 rw [hn]
 clear hn hc
 unfold Format.read
 simp only [e2, e3, e4, e5]
 have r1 : (u * 4503599627370496 + c) / 9223372036854775808 % 2 = 0 := by omega
 have r2 : (u * 4503599627370496 + c) % 9223372036854775808 = u * 4503599627370496 + c := by omega
 rw [r1, r2]
 rw [if_neg (by omega), if_pos (by omega)]
 by_cases hc3 : c = 9007199254740992
 ·refine ⟨4503599627370496, last + 1, ?_, Nat.le_refl _, .inr ⟨by omega, rfl⟩⟩
  have a1 : (u * 4503599627370496 + c) % 4503599627370496 = 0 := by omega
  have a2 : (u * 4503599627370496 + c) / 4503599627370496 - 1 = u + 1 := by omega
  rw [a1, a2, hue]
  have a3 : (-1074 : Int) + ((u + 1 : Nat) : Int) = (u : Int) - 1074 + 1 := by omega
  rw [a3]
  rfl
 refine ⟨c, last, ?_, hk.1, .inl ⟨hl, by omega⟩⟩
 have a1 : 4503599627370496 + (u * 4503599627370496 + c) % 4503599627370496 = c := by omega
 have a2 : (u * 4503599627370496 + c) / 4503599627370496 - 1 = u := by omega
 rw [a1, a2, hue]
 have a3 : (-1074 : Int) + (u : Int) = (u : Int) - 1074 := by omega
 rw [a3]
 rfl
theorem rootFrom_lt (n : Nat) : ∀ (todo root : Nat), Datum.rootFrom n todo root < root + 2 ^ todo
 | 0, root => by simp [Datum.rootFrom]
 | todo + 1, root => by
  unfold Datum.rootFrom
  have h := rootFrom_lt n todo
  simp only [Nat.one_shiftLeft]
  have e : 2 ^ (todo + 1) = 2 ^ todo + 2 ^ todo := by rw [Nat.pow_succ]; omega
  have hp := Nat.two_pow_pos todo
  by_cases q : (root + 2 ^ todo) * (root + 2 ^ todo) ≤ n
  ·rw [if_pos q]
   have := h (root + 2 ^ todo)
   omega
  rw [if_neg q]
  have := h root
  omega
theorem root_start (n : Nat) (hn : n < 2 ^ 61) : ∃ (r : Nat) (q : Nat), double.sqrt (double.nearest false n 0) = some r ∧ (double.read r).toInt .zero = some (q : Int) ∧ q ≤ 2 ^ 31 := by
 by_cases h0 : n = 0
 ·subst h0
  exact ⟨0, 0, by decide, by decide, by decide⟩
 have hL : n.log2 ≤ 60 := rt_log2_le h0 hn
 obtain ⟨k, i, hr, hk, hki⟩ := read_write n 0 h0 (by omega) (by omega)
 have hk3 : k < 2 ^ 53 := by rw [show (2 : Nat) ^ 53 = 9007199254740992 by decide]; omega
 have hk0 : k ≠ 0 := by omega
 have hkl : k.log2 = 52 := by
  have a := rt_log2_le (k := 52) hk0 hk3
  have b := (Nat.le_log2 hk0 (k := 52)).2 (by rw [show (2 : Nat) ^ 52 = 4503599627370496 by decide]; exact hk)
  omega
 have hi : -52 ≤ i ∧ i ≤ 9 := by omega
 unfold Format.sqrt
 rw [hr]
 simp only [Datum.root, if_neg hk0]
 have e1 : double.fractionBits + 2 = 54 := rfl
 rw [e1, hkl]
 simp only [Bool.false_eq_true, if_false]
 obtain ⟨more, hm⟩ : ∃ more, 2 * 54 - 52 + ((i - ((2 * 54 - 52 : Nat) : Int)) % 2).toNat = more := ⟨_, rfl⟩
 rw [hm]
 have hmb : 56 ≤ more ∧ more ≤ 57 ∧ (i - (more : Int)) % 2 = 0 := by omega
 obtain ⟨N, hN⟩ : ∃ N, k <<< more = N := ⟨_, rfl⟩
 rw [hN]
 have hNb : N < 2 ^ 110 := by
  rw [← hN, Nat.shiftLeft_eq]
  calc k * 2 ^ more < 2 ^ 53 * 2 ^ more := Nat.mul_lt_mul_of_pos_right hk3 (Nat.two_pow_pos _)
   _ ≤ 2 ^ 53 * 2 ^ 57 := Nat.mul_le_mul_left _ (Nat.pow_le_pow_right (by decide) hmb.2.1)
   _ = 2 ^ 110 := by decide
 have hN0 : N ≠ 0 := by
  rw [← hN, Nat.shiftLeft_eq]
  have := Nat.mul_pos (show 0 < k by omega) (Nat.two_pow_pos more)
  omega
 have hNl : N.log2 ≤ 109 := rt_log2_le hN0 hNb
 have hwl := rootFrom_lt N (N.log2 / 2 + 1) 0
 obtain ⟨W, hW⟩ : ∃ W, Datum.rootFrom N (N.log2 / 2 + 1) 0 = W := ⟨_, rfl⟩
 rw [hW] at hwl ⊢
 have hWb : W < 2 ^ 55 := by
  refine Nat.lt_of_lt_of_le hwl ?_
  rw [Nat.zero_add]
  exact Nat.pow_le_pow_right (by decide) (by omega)
 obtain ⟨M, hM⟩ : ∃ M, 2 * W + (W * W != N).toNat = M := ⟨_, rfl⟩
 rw [hM]
 have hMb : M < 2 ^ 56 := by
  have := rt_bool_le (W * W != N)
  omega
 obtain ⟨p, hp⟩ : ∃ p, (i - (more : Int)) / 2 - 1 = p := ⟨_, rfl⟩
 rw [hp]
 have hpb : -60 ≤ p ∧ p ≤ -25 := by omega
 simp only [Option.map_some]
 refine ⟨double.write (.number false M p), ?_⟩
 by_cases hM0 : M = 0
 ·refine ⟨0, rfl, ?_, by decide⟩
  have : Format.write double (.number false M p) = 0 := by
   rw [hM0]
   simp only [Format.write, Format.nearest, if_true]
   rfl
  rw [this]
  decide
 have hML : M.log2 ≤ 55 := rt_log2_le hM0 hMb
 obtain ⟨k2, i2, hr2, hk2, hki2⟩ := read_write M p hM0 (by omega) (by omega)
 have hi2 : i2 ≤ -21 := by omega
 have hk20 : k2 ≠ 0 := by omega
 have hk23 : k2 < 2 ^ 53 := by rw [show (2 : Nat) ^ 53 = 9007199254740992 by decide]; omega
 refine ⟨k2 / 2 ^ (min (-i2).toNat 54), rfl, ?_, ?_⟩
 ·show (double.read (double.nearest false M p)).toInt .zero = _
  rw [hr2]
  unfold Datum.toInt Datum.integral Toward.cut
  have hkl2 : k2.log2 = 52 := by
   have a := rt_log2_le (k := 52) hk20 hk23
   have b := (Nat.le_log2 hk20 (k := 52)).2 (by rw [show (2 : Nat) ^ 52 = 4503599627370496 by decide]; exact hk2)
   omega
  have t0 : i2.toNat = 0 := by omega
  simp [t0, hkl2, signed, Nat.one_shiftLeft]
 by_cases h54 : 54 ≤ (-i2).toNat
 ·rw [Nat.min_eq_right h54, Nat.div_eq_of_lt (by omega)]
  decide
 rw [Nat.min_eq_left (by omega)]
 obtain ⟨d, hd⟩ : ∃ d, (-i2).toNat = d := ⟨_, rfl⟩
 rw [hd]
 by_cases hd22 : 22 ≤ d
 ·have : k2 / 2 ^ d ≤ k2 / 2 ^ 22 := Nat.div_le_div_left (Nat.pow_le_pow_right (by decide) hd22) (by decide)
  refine Nat.le_trans this ?_
  omega
 have hd21 : d = 21 := by omega
 have hk52 : k2 = 4503599627370496 := by omega
 rw [hd21, hk52]
 decide
end
def Rt.IsRoot (n r : Int) : Prop := 0 ≤ r ∧ r * r ≤ n ∧ n < (r + 1) * (r + 1)
theorem Rt.sq_le {a b : Int} (h : 0 ≤ a) (h1 : a ≤ b) : a * a ≤ b * b := Int.mul_le_mul h1 h1 h (by omega)
theorem Rt.lt_of_sq {a b : Int} (hb : 0 ≤ b) (h : a * a < b * b) : a < b := by
 rcases Int.lt_or_le a b with h1 | h1
 ·exact h1
 have := Rt.sq_le hb h1
 omega
theorem Rt.IsRoot.unique {n r s : Int} (h : Rt.IsRoot n r) (h' : Rt.IsRoot n s) : r = s := by
 have a : r < s + 1 := Rt.lt_of_sq (by have := h'.1; omega) (Int.lt_of_le_of_lt h.2.1 h'.2.2)
 have b : s < r + 1 := Rt.lt_of_sq (by have := h.1; omega) (Int.lt_of_le_of_lt h'.2.1 h.2.2)
 omega
def Rt.sq (n : Nat) : Nat → Nat
 | 0 => 0
 | m + 1 => if (m + 1) * (m + 1) ≤ n then m + 1 else Rt.sq n m
theorem Rt.sq_spec (n : Nat) : ∀ m : Nat, Rt.sq n m ≤ m ∧ Rt.sq n m * Rt.sq n m ≤ n ∧ (n < (m + 1) * (m + 1) → n < (Rt.sq n m + 1) * (Rt.sq n m + 1))
 | 0 => ⟨Nat.le_refl _, by simp [Rt.sq], id⟩
 | m + 1 => by
  unfold Rt.sq
  by_cases q : (m + 1) * (m + 1) ≤ n
  ·rw [if_pos q]
   exact ⟨Nat.le_refl _, q, id⟩
  rw [if_neg q]
  obtain ⟨a, b, c⟩ := Rt.sq_spec n m
  exact ⟨by omega, b, fun _ => c (by omega)⟩
def Rt.root (n : Int) : Int := (Rt.sq n.toNat n.toNat : Nat)
def Rt.rootUp (n : Int) : Int := if Rt.root n * Rt.root n < n then Rt.root n + 1 else Rt.root n
theorem Rt.root_is {n : Int} (h0 : 0 ≤ n) : Rt.IsRoot n (Rt.root n) := by
 obtain ⟨a, b, c⟩ := Rt.sq_spec n.toNat n.toNat
 have c := c (by
  have := Nat.mul_le_mul (show 1 ≤ n.toNat + 1 by omega) (Nat.le_refl (n.toNat + 1))
  omega)
 unfold Rt.root
 obtain ⟨r, hr⟩ : ∃ r, Rt.sq n.toNat n.toNat = r := ⟨_, rfl⟩
 rw [hr] at b c ⊢
 refine ⟨by omega, ?_, ?_⟩
 ·have : ((r * r : Nat) : Int) ≤ ((n.toNat : Nat) : Int) := by exact_mod_cast b
  rw [Int.natCast_mul] at this
  omega
 have : ((n.toNat : Nat) : Int) < (((r + 1) * (r + 1) : Nat) : Int) := by exact_mod_cast c
 rw [Int.natCast_mul] at this
 push_cast at this
 omega
theorem Rt.root_of {n r : Int} (h : Rt.IsRoot n r) (h0 : 0 ≤ n) : Rt.root n = r := (Rt.root_is h0).unique h
end Go.Proofs.Ytaheamdoldiojaa.P
namespace Go.Proofs.Ytaheamdoldiojaa.P
open Go.RowKit Go.Proofs.YtaheamdoldiojaaW.PrintWords Go.Proofs.YtaheamdoldiojaaW.PrintLast Go.Proofs.YtaheamdoldiojaaW.PrintMore
attribute [local go_sem] max2_int min2_int max_two min_two max_three min_three max_four min_four   -- for this text's walks alone
set_option linter.unusedVariables false
set_option linter.unusedSimpArgs false
theorem conv_float (n : Nat) (w : World) : (convert 2 177 (.int .i64 (n : Int))).run Try.prog w = .ok (.float .f64 (Ieee.double.nearest false n 0)) w := by
 have e : FloatKind.f64.nearest (n : Int) = Ieee.double.nearest false n 0 := by
  show Ieee.double.nearest (decide ((n : Int) < 0)) (n : Int).natAbs 0 = _
  rw [zdf (by omega), Int.natAbs_natCast]
 have h0 : ∀ (n : Int) (w : World), (convert 2 177 (.int .i64 n)).run Try.prog w = .ok (.float .f64 (FloatKind.f64.nearest n)) w := fun _ _ => by kernel_rfl
 rw [h0, e]
theorem conv_int (r q : Nat) (h : (Ieee.double.read r).toInt .zero = some (q : Int)) (hq : q ≤ 2147483648) (w : World) : (convert 177 2 (.float .f64 r)).run Try.prog w = .ok (.int .i64 (q : Int)) w := by
 have e : (Conv.floatToInt .f64 r .i64).run Try.prog w = .ok (.int .i64 (q : Int)) w := by
  unfold Conv.floatToInt
  have h2 : (FloatKind.f64.decode r).toInt .zero = some (q : Int) := h
  simp only [h2]
  have h3 : IntKind.i64.min ≤ (q : Int) ∧ (q : Int) ≤ IntKind.i64.max := by
   have e1 : IntKind.i64.min = -9223372036854775808 := by decide
   have e2 : IntKind.i64.max = 9223372036854775807 := by decide
   rw [e1, e2]
   omega
  rw [if_pos h3]
  rfl
 have h0 : ∀ (r : Nat) (w : World), (convert 177 2 (.float .f64 r)).run Try.prog w = (Conv.floatToInt .f64 r .i64).run Try.prog w := fun _ _ => by kernel_rfl
 rw [h0, e]
theorem call_sqrt (x r : Nat) (h : Ieee.double.sqrt x = some r) (w : World) : (callFunc 138 #[.float .f64 x]).run Try.prog w = .ok (.value (.float .f64 r)) w := by
 rw [run_callFunc_extern Try.func138 (by kernel_rfl) (by kernel_rfl) (by kernel_rfl) (e := Extern.MathSqrt.sqrt) (by kernel_rfl)]
 have e : (Extern.MathSqrt.sqrt #[.float .f64 x]).run Try.prog w = .ok (.float .f64 r) w := by
  have h2 : FloatKind.f64.format.sqrt x = some r := h
  have h0 : ∀ (x : Nat) (w : World), (Extern.MathSqrt.sqrt #[.float .f64 x]).run Try.prog w = ((match FloatKind.f64.format.sqrt x with | some r => pure (.float .f64 r) | none => do pure (.float .f64 (← choose (.nanBits .f64 x x)))) : Sem Value).run Try.prog w := fun _ _ => by kernel_rfl
  rw [h0, h2]
  rfl
 rw [e]
 rfl
theorem math_Sqrt.calls (x r : Nat) (h : Ieee.double.sqrt x = some r) (w : World) : Calls Try.prog 136 #[.float .f64 x] w fun e w' => e = .returned (.float .f64 r) ∧ w' = w := by
 have hs := fun w => call_sqrt x r h w
 go_enter Try.func136, Try.ntmps136
 go_wp2
 go_ret
 exact ⟨rfl, rfl⟩
theorem rt_measure (M s : Nat) (h2 : s < M) (x : Int) (hx : x = (s : Int) + 1) : M - (intOf (.int .i64 x)).toNat < M - (intOf (.int .i64 (s : Int))).toNat := by
 subst hx
 have h3 : ((s : Int) + 1).toNat = s + 1 := (by omega)
 simp only [intOf, h3, Int.toNat_natCast]
 omega
def bound_round_root.f (a0_0 : Bool) (a1 : Int) : Option Int := if 0 ≤ a1 ∧ a1 < 2305843009213693952 then some (if a0_0 = true then Rt.rootUp a1 else Rt.root a1) else none
set_option maxHeartbeats 8000000 in
set_option maxRecDepth 100000 in
theorem bound_round_root.calls (a0_0 : Bool) (a1 : Int) (r : Int) (w : World) (h : bound_round_root.f a0_0 a1 = some r) :
  Calls Try.prog 133 #[.agg #[.bool a0_0], .int .i64 a1] w fun e w' => e = .returned (.int .i64 r) ∧ Below w.heap.size w w' := by
 have hu110 := Try.underlying173
 unfold bound_round_root.f at h
 by_cases c : 0 ≤ a1 ∧ a1 < 2305843009213693952
 ·rw [if_pos c] at h
  obtain rfl := zsi h
  obtain ⟨n, rfl⟩ : ∃ n : Nat, a1 = (n : Int) := ⟨a1.toNat, by omega⟩
  obtain ⟨x, q, hx, hq, hql⟩ := root_start n (by omega)
  have hql2 : q ≤ 2147483648 := by simpa using hql
  have HC := zam c
  have HQL := zam hql2
  have hc1 := conv_float n
  have hc2 := conv_int x q hq hql2
  clear hq hql c h
  have SQ := zam (fun w => math_Sqrt.calls _ x hx w)
  clear hx hql2
  go_enter Try.func133, Try.ntmps133
  go_wp2_with (first | ((with_reducible refine zgd (N := 2) rfl ?_); refine box_event ?hg (N := 2) ?hd (cs := #[.bool a0_0]) (t := 173) ?hr ?_; (case hd => rfl); (case hg => rfl); (case hr => first | (go_simp; done) | (go_simp; rfl)); intro gm hgm w1 hbk hb0; have BM := zam hbk; have HB := zam hb0; clear hgm hbk hb0) | (go_at_call 136; (with_reducible refine (SQ.out _).mono ?_); rintro e w2 ⟨rfl, rfl⟩))
  clear hc1 hc2 SQ
  obtain ⟨M, hM⟩ : ∃ M : Nat, M = 2147483648 := ⟨_, rfl⟩
  have HM := zam hM
  clear hM
  go_loopw [5] (fun v wr => ∃ p : Nat, p ≤ 2147483648 ∧ v = .int .i64 (p : Int) ∧ wr.heap[gm]? = some (.cells #[.bool a0_0] 173 (0, 0)) ∧ Below w.heap.size w wr) (fun v _ => (intOf v).toNat)
  case atStart => exact ⟨q, HQL.out, rfl, BM.out, HB.out⟩
  case round =>
   clear BM HB
   obtain ⟨p, hp, rfl, hbm, hb⟩ := hrel
   have BM := zam hbm
   have HB := zam hb
   have pp := Nat.mul_le_mul hp hp
   have wm : wrap64 ((p : Int) * (p : Int)) = (p : Int) * (p : Int) := wrap_id (by rw [← Int.natCast_mul]; omega) (by rw [← Int.natCast_mul]; omega)
   by_cases hlt : (n : Int) < (p : Int) * (p : Int)
   ·have dl : decide ((n : Int) < (p : Int) * (p : Int)) = true := zdt hlt
    have hp0 : p ≠ 0 := fun e => by subst e; simp at hlt; omega
    have ws : wrap64 ((p : Int) - 1) = ((p - 1 : Nat) : Int) := by rw [wrap_id (by omega) (by omega)]; omega
    clear hbm hb
    go_wp2
    go_roundw
    case rel => exact ⟨p - 1, by omega, congrArg (Value.int .i64) (by omega), BM.out, HB.out⟩
    case measure => (simp only [intOf]; omega)
   have dl : decide ((n : Int) < (p : Int) * (p : Int)) = false := zdf hlt
   have HLE : Aside0 ((p : Int) * (p : Int) ≤ (n : Int)) := ⟨by omega⟩
   clear hbm hb hlt
   go_wp2
   clear dl wm pp
   have HP := zam hp
   clear hp
   go_loopw [5] (fun v wr => ∃ s : Nat, (s : Int) * (s : Int) ≤ (n : Int) ∧ v = .int .i64 (s : Int) ∧ wr.heap[gm]? = some (.cells #[.bool a0_0] 173 (0, 0)) ∧ Below w.heap.size w wr) (fun v _ => M - (intOf v).toNat)
   case atStart => exact ⟨p, HLE.out, rfl, BM.out, HB.out⟩
   case round =>
    clear BM HB
    obtain ⟨s, hs, rfl, hbm, hb⟩ := hrel
    have BM := zam hbm
    have HB := zam hb
    have s31 : (s : Int) < 2147483648 := Rt.lt_of_sq (by omega) (by have := HC.out; omega)
    have s32 : s + 1 ≤ 2147483648 := by omega
    have pp := Nat.mul_le_mul s32 s32
    have pq : ((s : Int) + 1) * ((s : Int) + 1) ≤ 2147483648 * 2147483648 := by
     have : (((s + 1) * (s + 1) : Nat) : Int) ≤ 2147483648 * 2147483648 := by omega
     rw [Int.natCast_mul] at this
     push_cast at this
     exact this
    have p0 : 0 ≤ ((s : Int) + 1) * ((s : Int) + 1) := Int.mul_nonneg (by omega) (by omega)
    have wm : wrap64 (((s : Int) + 1) * ((s : Int) + 1)) = ((s : Int) + 1) * ((s : Int) + 1) := wrap_id (by omega) (by omega)
    have ws : wrap64 ((s : Int) + 1) = (s : Int) + 1 := wrap_id (by omega) (by omega)
    have HS := zam hs
    have S31 := zam s31
    by_cases hlt : ((s : Int) + 1) * ((s : Int) + 1) ≤ (n : Int)
    ·have dl : decide (((s : Int) + 1) * ((s : Int) + 1) ≤ (n : Int)) = true := zdt hlt
     have HLT := zam hlt
     clear hbm hb hs s31 s32 pp pq p0 hlt
     go_wp2
     go_roundw
     case rel => exact ⟨s + 1, (by rw [show ((s + 1 : Nat) : Int) = (s : Int) + 1 by omega]; exact HLT.out), congrArg (Value.int .i64) (by omega), BM.out, HB.out⟩
     case measure => exact rt_measure M s (by have := S31.out; have := HM.out; omega) _ ws
    have dl : decide (((s : Int) + 1) * ((s : Int) + 1) ≤ (n : Int)) = false := zdf hlt
    have HR : Aside0 (Rt.root (n : Int) = (s : Int)) := ⟨Rt.root_of ⟨by omega, hs, by omega⟩ (by omega)⟩
    have hz0 := (zkc hbm 0).trans rfl
    have w0 : 0 ≤ (s : Int) * (s : Int) := Int.mul_nonneg (by omega) (by omega)
    have wm2 : wrap64 ((s : Int) * (s : Int)) = (s : Int) * (s : Int) := wrap_id (by omega) (by have := HC.out; omega)
    have EU : Aside0 (Rt.rootUp (n : Int) = if (s : Int) * (s : Int) < (n : Int) then (s : Int) + 1 else (s : Int)) := ⟨by unfold Rt.rootUp; rw [HR.out]⟩
    clear hbm hb hs s31 s32 pp pq p0 hlt w0
    cases a0_0 with
    | false =>
     go_wp2
     go_ret
     exact ⟨by (rw [HR.out]) <;> rfl, HB.out⟩
    | true =>
     by_cases hu : (s : Int) * (s : Int) < (n : Int)
     ·have du : decide ((s : Int) * (s : Int) < (n : Int)) = true := zdt hu
      have HU := zam hu
      clear hu
      go_wp2
      go_ret
      exact ⟨by (rw [EU.out, if_pos HU.out]) <;> rfl, HB.out⟩
     have du : decide ((s : Int) * (s : Int) < (n : Int)) = false := zdf hu
     have HU := zam hu
     clear hu
     go_wp2
     go_ret
     exact ⟨by (rw [EU.out, if_neg (by have := HU.out; omega)]) <;> rfl, HB.out⟩
 rw [if_neg c] at h
 cases h
def isobathref01_Sqrt.l0 : Nat → Int → Int → Int → Option (Int)
 | 0, _, _, _ => none
 | k + 1, x0, x3, x4 => if x3 < x4 then (if (wrap64 ((wrap64 (Int.tdiv (wrap64 ((wrap64 (x3 + x4)) + 1)) 2)) * (wrap64 (Int.tdiv (wrap64 ((wrap64 (x3 + x4)) + 1)) 2)))) ≤ x0 then (isobathref01_Sqrt.l0 k x0 (wrap64 (Int.tdiv (wrap64 ((wrap64 (x3 + x4)) + 1)) 2)) x4) else (isobathref01_Sqrt.l0 k x0 x3 (wrap64 ((wrap64 (Int.tdiv (wrap64 ((wrap64 (x3 + x4)) + 1)) 2)) - 1)))) else (some x3)
def isobathref01_Sqrt.f (k : Nat) (a0 : Int) : Option (Int) := isobathref01_Sqrt.l0 k a0 0 2147483648
def isobathref01_SqrtUp.f (k : Nat) (a0 : Int) : Option (Int) := (isobathref01_Sqrt.f k a0).bind fun t101 => (if (wrap64 (t101 * t101)) < a0 then (some (wrap64 (t101 + 1))) else (some t101))
theorem Bo.sq_lt {a b : Int} (h : 0 ≤ a) (h1 : a < b) : a * a < b * b := Int.lt_of_le_of_lt (Int.mul_le_mul_of_nonneg_left (show a ≤ b by omega) h) (Int.mul_lt_mul_of_pos_right h1 (by omega))
theorem Bo.root_is {n : Int} (h0 : 0 ≤ n) : 0 ≤ Rt.root n ∧ Rt.root n * Rt.root n ≤ n ∧ n < (Rt.root n + 1) * (Rt.root n + 1) := Rt.root_is h0
theorem Bo.root_le {n M : Int} (hM : 0 ≤ M) (h : n < (M + 1) * (M + 1)) (h0 : 0 ≤ n) : Rt.root n ≤ M := by
 have h1 := Bo.root_is h0
 have := Rt.lt_of_sq (a := Rt.root n) (b := M + 1) (by omega) (by omega)
 omega
theorem Bo.rootUp_le {n M : Int} (hM : 0 ≤ M) (h : n ≤ M * M) (h0 : 0 ≤ n) : 0 ≤ Rt.rootUp n ∧ Rt.rootUp n ≤ M := by
 have h1 := Bo.root_is h0
 unfold Rt.rootUp
 split
 ·next h2 =>
  have := Rt.lt_of_sq (a := Rt.root n) (b := M) hM (by omega)
  omega
 have h2 : M * M < (M + 1) * (M + 1) := Bo.sq_lt hM (by omega)
 have := Bo.root_le hM (by omega) h0
 omega
theorem Bo.root_b {n : Int} (h0 : 0 ≤ n) (h1 : n < 2305843009213693952) : bound_round_root.f false n = some (Rt.root n) := by
 unfold bound_round_root.f
 rw [if_pos ⟨h0, h1⟩, if_neg (by simp)]
theorem Bo.rootUp_b {n : Int} (h0 : 0 ≤ n) (h1 : n < 2305843009213693952) : bound_round_root.f true n = some (Rt.rootUp n) := by
 unfold bound_round_root.f
 rw [if_pos ⟨h0, h1⟩, if_pos rfl]
theorem Bo.sqrt_l0 {n : Int} (h0 : 0 ≤ n) : ∀ (d k : Nat) (lo hi : Int), 0 ≤ lo → lo ≤ hi → hi ≤ 2147483648 → hi - lo < 2 ^ d → d < k → lo * lo ≤ n → n < (hi + 1) * (hi + 1) → isobathref01_Sqrt.l0 k n lo hi = some (Rt.root n) := by
 intro d
 induction d with
 | zero =>
  intro k lo hi a b c e hk h1 h2
  obtain ⟨k, rfl⟩ : ∃ m, k = m + 1 := ⟨k - 1, by omega⟩
  have : hi = lo := by simp at e; omega
  subst this
  rw [isobathref01_Sqrt.l0, if_neg (by omega), Rt.root_of ⟨a, h1, h2⟩ h0]
 | succ d ih =>
  intro k lo hi a b c e hk h1 h2
  obtain ⟨k, rfl⟩ : ∃ m, k = m + 1 := ⟨k - 1, by omega⟩
  rw [isobathref01_Sqrt.l0]
  by_cases q : lo < hi
  ·rw [if_pos q]
   obtain ⟨m, hm⟩ : ∃ m, (lo + hi + 1) / 2 = m := ⟨_, rfl⟩
   have w1 : wrap64 (lo + hi) = lo + hi := wrap_id (by omega) (by omega)
   have w2 : wrap64 (lo + hi + 1) = lo + hi + 1 := wrap_id (by omega) (by omega)
   have w3 : wrap64 (Int.tdiv (lo + hi + 1) 2) = m := by
    rw [tdiv_pos (by omega), hm]
    exact wrap_id (by omega) (by omega)
   have hb : 0 ≤ m ∧ m ≤ 2147483648 := by omega
   have hq : m * m ≤ 2147483648 * 2147483648 := Int.mul_le_mul hb.2 hb.2 hb.1 (by omega)
   have hq0 : 0 ≤ m * m := Int.mul_nonneg hb.1 hb.1
   have w4 : wrap64 (m * m) = m * m := wrap_id (by omega) (by omega)
   have w5 : wrap64 (m - 1) = m - 1 := wrap_id (by omega) (by omega)
   have e2 : (2 : Int) ^ (d + 1) = 2 * 2 ^ d := by rw [Int.pow_succ]; omega
   rw [w1, w2, w3, w4, w5]
   by_cases p : m * m ≤ n
   ·rw [if_pos p]
    exact ih k m hi hb.1 (by omega) c (by omega) (by omega) p h2
   rw [if_neg p]
   refine ih k lo (m - 1) a (by omega) (by omega) (by omega) (by omega) h1 ?_
   rw [show m - 1 + 1 = m by omega]
   omega
  rw [if_neg q]
  have : hi = lo := by omega
  subst this
  rw [Rt.root_of ⟨a, h1, h2⟩ h0]
theorem Bo.sqrt_f {n : Int} (h0 : 0 ≤ n) (h1 : n ≤ 4611686018427387904) {k : Nat} (hk : 40 ≤ k) : isobathref01_Sqrt.f k n = some (Rt.root n) := by
 unfold isobathref01_Sqrt.f
 exact Bo.sqrt_l0 h0 32 k 0 2147483648 (by omega) (by omega) (by omega) (by decide) (by omega) (by omega) (by omega)
theorem Bo.sqrtUp_f {n : Int} (h0 : 0 ≤ n) (h1 : n ≤ 4611686018427387904) {k : Nat} (hk : 40 ≤ k) : isobathref01_SqrtUp.f k n = some (Rt.rootUp n) := by
 have hr := Bo.root_is h0
 have hm := Bo.root_le (M := 2147483648) (by omega) (by omega) h0
 unfold isobathref01_SqrtUp.f Rt.rootUp
 have w1 : wrap64 (Rt.root n * Rt.root n) = Rt.root n * Rt.root n := wrap_id (by have := Int.mul_nonneg hr.1 hr.1; omega) (by omega)
 have w2 : wrap64 (Rt.root n + 1) = Rt.root n + 1 := wrap_id (by omega) (by omega)
 rw [Bo.sqrt_f h0 h1 hk, Option.bind_some, w1, w2]
 split <;> rfl
def Bo.root (a0 a1 : Int) : Int × Int × Int := if Bo.v a0 a1 then (if a0 < 0 then (0, 0, 3) else (Rt.root a0, Rt.rootUp a1, 0)) else (0, 0, 2)
def bound_amount.f (a0 : Int) : Option (Int) := some (mx a0 (wrap64 (-a0)))
set_option maxHeartbeats 8000000 in
set_option maxRecDepth 100000 in
theorem bound_amount.calls (a0 : Int) (r : Int) (w : World) (h : bound_amount.f a0 = some r) :
  Calls Try.prog 118 #[.int .i64 a0] w fun e w' => e = .returned (.int .i64 r) ∧ Below w.heap.size w w' := by
 have HB := zam (Below.refl w.heap.size w)
 have H : (some (mx a0 (wrap64 (-a0)))) = some r := h
 clear h
 obtain ⟨ji2, hji2⟩ : ∃ j_ : Int, (mx a0 (wrap64 (-a0))) = j_ := ⟨_, rfl⟩
 replace H : (some ji2) = some r := by first | (rw [hji2] at H; exact H) | (simp only [hji2] at H ⊢; exact H)
 have hji2_ : (if a0 < (wrap64 (-a0)) then (wrap64 (-a0)) else a0) = ji2 := hji2
 obtain rfl := zsi H
 go_enter Try.func118, Try.ntmps118
 go_wp2
 go_ret
 exact ⟨by first | rfl | (simp [errW_none, errW_some] <;> rfl) | (simp only [← hji2]; first | rfl | (simp [errW_none, errW_some] <;> rfl)) | (simp [*, errW_none, errW_some] <;> rfl), by repeat (first | (with_reducible first | exact HB.out | apply zba | apply zbn | apply zb1) | exact HB.out)⟩
def bound_CheckBox.f (k : Nat) (a0_0 : Int) (a0_1 : Int) (a0_2 : Int) (a0_3 : Int) : Option (Int) := (bound_check.f k (([(⟨a0_0, a0_1⟩ : S24), (⟨a0_2, a0_3⟩ : S24)] : List (S24)))).bind fun t105 => (if t105 = 0 then ((bound_amount.f a0_0).bind fun t106 => ((bound_amount.f a0_1).bind fun t107 => ((bound_amount.f a0_2).bind fun t108 => ((bound_amount.f a0_3).bind fun t109 => (if (mx (mx (mx t106 t107) t108) t109) > 268435456 then (some 2) else (some 0)))))) else (some t105))
def bound_CheckBox.T4 : Bool × List (List Nat × List Nat) := (true, [([], []), ([0], [0]), ([1], [1]), ([2], [2]), ([], []), ([4], [4]), ([5], [5]), ([6, 3], [6]), ([], []), ([8], [8]), ([9], [9]), ([10, 7], [10]), ([], []), ([12], [12]), ([13], [13]), ([14, 11], [14]), ([3, 7, 11, 15], [3, 7, 11, 15]), ([16], [16])])
def bound_CheckBox.B4 : List Nat := [0, 1, 3, 7, 0, 16, 48, 127, 0, 256, 768, 2047, 0, 4096, 12288, 32767, 65535, 131071]
theorem bound_CheckBox.tab4 : rtab .any (opsOf Try.f79 4) = bound_CheckBox.T4 := by kernel_rfl
theorem bound_CheckBox.bits4 : waitsOk bound_CheckBox.T4.2 bound_CheckBox.B4 = true := by kernel_rfl
set_option maxHeartbeats 8000000 in
set_option maxRecDepth 100000 in
theorem bound_CheckBox.calls (k : Nat) (a0_0 : Int) (a0_1 : Int) (a0_2 : Int) (a0_3 : Int) (r : Int) (w : World) (h : bound_CheckBox.f k a0_0 a0_1 a0_2 a0_3 = some r) :
  Calls Try.prog 79 #[.agg #[.int .i64 a0_0, .int .i64 a0_1, .int .i64 a0_2, .int .i64 a0_3]] w fun e w' => e = .returned (.int .i64 r) ∧ Below w.heap.size w w' := by
 have hu29 := Try.underlying29
 have hu24 := Try.underlying24
 have HB := zam (Below.refl w.heap.size w)
 have H : ((bound_check.f k (([(⟨a0_0, a0_1⟩ : S24), (⟨a0_2, a0_3⟩ : S24)] : List (S24)))).bind fun t105 => (if t105 = 0 then ((bound_amount.f a0_0).bind fun t106 => ((bound_amount.f a0_1).bind fun t107 => ((bound_amount.f a0_2).bind fun t108 => ((bound_amount.f a0_3).bind fun t109 => (if (mx (mx (mx t106 t107) t108) t109) > 268435456 then (some 2) else (some 0)))))) else (some t105))) = some r := h
 clear h
 obtain ⟨y102, hy102⟩ : ∃ y_ : List (S24), y_ = (([(⟨a0_0, a0_1⟩ : S24), (⟨a0_2, a0_3⟩ : S24)] : List (S24))) := ⟨_, rfl⟩
 replace H : ((bound_check.f k y102).bind fun t105 => (if t105 = 0 then ((bound_amount.f a0_0).bind fun t106 => ((bound_amount.f a0_1).bind fun t107 => ((bound_amount.f a0_2).bind fun t108 => ((bound_amount.f a0_3).bind fun t109 => (if (mx (mx (mx t106 t107) t108) t109) > 268435456 then (some 2) else (some 0)))))) else (some t105))) = some r := by first | (rw [hy102]; with_reducible exact H) | (have H2_ := (Option.bind_some _ _).symm.trans H; rw [hy102]; with_reducible exact H2_) | (have H2_ := (Option.bind_some _ _).symm.trans H; with_reducible exact H2_) | with_reducible exact H | (rw [hy102]; exact H) | exact H
 have Ny102 := zam hy102
 clear hy102
 replace H := Option.bind_eq_some_iff.mp H
 obtain ⟨t105, A20, H⟩ := H
 replace H : (if t105 = 0 then ((bound_amount.f a0_0).bind fun t106 => ((bound_amount.f a0_1).bind fun t107 => ((bound_amount.f a0_2).bind fun t108 => ((bound_amount.f a0_3).bind fun t109 => (if (mx (mx (mx t106 t107) t108) t109) > 268435456 then (some 2) else (some 0)))))) else (some t105)) = some r := H
 have A2 := zam A20
 clear A20
 by_cases c3 : t105 = 0
 ·rw [if_pos c3] at H
  have c3b0 : (t105 == 0) = true := beq_iff_eq.mpr c3
  have c3b1 : (t105 != 0) = false := bne_eq_false_iff_eq.mpr c3
  clear c3
  replace H := Option.bind_eq_some_iff.mp H
  obtain ⟨t106, A40, H⟩ := H
  replace H : ((bound_amount.f a0_1).bind fun t107 => ((bound_amount.f a0_2).bind fun t108 => ((bound_amount.f a0_3).bind fun t109 => (if (mx (mx (mx t106 t107) t108) t109) > 268435456 then (some 2) else (some 0))))) = some r := H
  have A4 := zam A40
  clear A40
  replace H := Option.bind_eq_some_iff.mp H
  obtain ⟨t107, A50, H⟩ := H
  replace H : ((bound_amount.f a0_2).bind fun t108 => ((bound_amount.f a0_3).bind fun t109 => (if (mx (mx (mx t106 t107) t108) t109) > 268435456 then (some 2) else (some 0)))) = some r := H
  have A5 := zam A50
  clear A50
  replace H := Option.bind_eq_some_iff.mp H
  obtain ⟨t108, A60, H⟩ := H
  replace H : ((bound_amount.f a0_3).bind fun t109 => (if (mx (mx (mx t106 t107) t108) t109) > 268435456 then (some 2) else (some 0))) = some r := H
  have A6 := zam A60
  clear A60
  replace H := Option.bind_eq_some_iff.mp H
  obtain ⟨t109, A70, H⟩ := H
  replace H : (if (mx (mx (mx t106 t107) t108) t109) > 268435456 then (some 2) else (some 0)) = some r := H
  have A7 := zam A70
  clear A70
  obtain ⟨ji8, hji8⟩ : ∃ j_ : Int, (mx t106 t107) = j_ := ⟨_, rfl⟩
  replace H : (if (mx (mx (ji8) t108) t109) > 268435456 then (some 2) else (some 0)) = some r := by first | (rw [hji8] at H; exact H) | (simp only [hji8] at H ⊢; exact H)
  (try rw [hji8] at A2)
  (try rw [hji8] at A4)
  (try rw [hji8] at A5)
  (try rw [hji8] at A6)
  (try rw [hji8] at A7)
  have hji8_ : (if t106 < t107 then t107 else t106) = ji8 := hji8
  obtain ⟨ji9, hji9⟩ : ∃ j_ : Int, (mx (ji8) t108) = j_ := ⟨_, rfl⟩
  replace H : (if (mx (ji9) t109) > 268435456 then (some 2) else (some 0)) = some r := by first | (rw [hji9] at H; exact H) | (simp only [hji9] at H ⊢; exact H)
  (try rw [hji9] at A2)
  (try rw [hji9] at A4)
  (try rw [hji9] at A5)
  (try rw [hji9] at A6)
  (try rw [hji9] at A7)
  have hji9_ : (if (ji8) < t108 then t108 else (ji8)) = ji9 := hji9
  obtain ⟨ji10, hji10⟩ : ∃ j_ : Int, (mx (ji9) t109) = j_ := ⟨_, rfl⟩
  replace H : (if (ji10) > 268435456 then (some 2) else (some 0)) = some r := by first | (rw [hji10] at H; exact H) | (simp only [hji10] at H ⊢; exact H)
  (try rw [hji10] at A2)
  (try rw [hji10] at A4)
  (try rw [hji10] at A5)
  (try rw [hji10] at A6)
  (try rw [hji10] at A7)
  have hji10_ : (if (ji9) < t109 then t109 else (ji9)) = ji10 := hji10
  by_cases c11 : (ji10) > 268435456
  ·rw [if_pos c11] at H
   have c11b0 : decide (268435456 < (ji10)) = true := zdt c11
   clear c11
   obtain rfl := zsi H
   go_enter Try.func79, Try.ntmps79
   try go_wp2_with (first | ((with_reducible refine zgd (N := 1) rfl ?_); refine box_event ?hg (N := 1) ?hd (cs := #[.int .i64 a0_0, .int .i64 a0_1, .int .i64 a0_2, .int .i64 a0_3]) (t := 29) ?hr ?_; (case hd => rfl); (case hg => rfl); (case hr => first | (go_simp; done) | (go_simp; rfl)); intro gb101 hg w12 hbox hb; have n0_ := zam (zbt zq1 hb); have n1_ := zam (hbox); have n2_ := zam ((by rw [hg]; exact (zbz zq1) : w.heap.size ≤ gb101)); have n3_ := zam ((by rw [hg]; exact (zbz zq1) : w.heap.size ≤ gb101)); clear HB; have HB := n0_; have BK101 := n1_; have GW101 := n2_; have GE101 := n3_; clear n0_ n1_ n2_ n3_; clear hb hbox hg; have hcz13_0 : w12.cell? ⟨gb101, 0, none⟩ = some (.int .i64 a0_0) := (zkc BK101.out 0).trans rfl; have hcz13_1 : w12.cell? ⟨gb101, 1, none⟩ = some (.int .i64 a0_1) := (zkc BK101.out 1).trans rfl; have hcz13_2 : w12.cell? ⟨gb101, 2, none⟩ = some (.int .i64 a0_2) := (zkc BK101.out 2).trans rfl; have hcz13_3 : w12.cell? ⟨gb101, 3, none⟩ = some (.int .i64 a0_3) := (zkc BK101.out 3).trans rfl; have hfz13_0 := zkz BK101.out 0; have hfz13_1 := zkz BK101.out 1; have hfz13_2 := zkz BK101.out 2; have hfz13_3 := zkz BK101.out 3) | ((with_reducible refine zgd (N := 8) rfl ?_); refine Kd.R_lit k24 _ 24 ?hg (N := 8) ?hd (xs := ([(⟨a0_0, a0_1⟩ : S24), (⟨a0_2, a0_3⟩ : S24)] : List (S24))) (inner := [.int .i64 a0_0, .int .i64 a0_1, .int .i64 a0_2, .int .i64 a0_3]) (ok := fun _ => True) (okp := fun _ => True) ?hr ?hp (fun _ hk => hk) trivial (Below.refl _ _) (Nat.le_refl _) (by simp) ?_; (case hd => rfl); (case hg => rfl); (case hr => first | (go_simp; done) | (go_simp; rfl)); (case hp => exact (Reps.c2 (show Kd.M k24 _ _ _ (⟨a0_0, a0_1⟩ : S24) [.int .i64 a0_0, .int .i64 a0_1] from (k24_mkM _ _ _ (⟨a0_0, a0_1⟩ : S24) )) (Reps.c2 (show Kd.M k24 _ _ _ (⟨a0_2, a0_3⟩ : S24) [.int .i64 a0_2, .int .i64 a0_3] from (k24_mkM _ _ _ (⟨a0_2, a0_3⟩ : S24) )) (Reps.none _ _)))); intro v103 w14 ho15 hb hg_ hnew_; clear hg_ hnew_; (first | rw [← Ny102.out] at ho15 | (simp only [Int.reduceToNat] at ho15; rw [← Ny102.out] at ho15)); have n0_ := zam (Kd.R_lower ho15 (zbz zq2)); have n1_ := zam (zkb (g := gb101) (o := .cells #[.int .i64 a0_0, .int .i64 a0_1, .int .i64 a0_2, .int .i64 a0_3] 29 (0, 0)) zq0 hb); have n2_ := zam (zbt zq2 hb); clear BK101; clear HB; have HO104 := n0_; have BK101 := n1_; have HB := n2_; clear n0_ n1_ n2_; clear hb ho15; obtain ⟨Ao16, co16, eo16⟩ := Kd.R_slice HO104.out; subst eo16) | ((with_reducible refine zgc (f := 117) rfl ?_); refine goesL_ (some 9) rfl rfl Try.func117 (by kernel_rfl) rfl #[.slice Ao16 y102.length co16] rfl zq5 ?_; (with_reducible refine (bound_check.calls k _ _ y102 t105 _ ?side1 ?side2 A2.out).mono ?_); (case side1 => repeat (first | exact (Kd.R_reads' HO104.out).2.2 | (with_reducible refine Kd.C_alloc ?_ _) | (with_reducible refine Kd.C_drewN ?_ _) | (with_reducible refine Kd.C_drew ?_))); (case side2 => exact (Kd.R_reads' HO104.out).2.1); rintro e w17 ⟨rfl, hb⟩; refine ⟨_, rfl, ?_⟩; have n0_ := zam (Kd.R_below zq17 hb); have n1_ := zam (zkb (g := gb101) (o := .cells #[.int .i64 a0_0, .int .i64 a0_1, .int .i64 a0_2, .int .i64 a0_3] 29 (0, 0)) zq0 hb); have n2_ := zam (zbt zq2 hb); clear HO104; clear BK101; clear HB; have HO104 := n0_; have BK101 := n1_; have HB := n2_; clear n0_ n1_ n2_; (try clear hb); (try clear hb2); (try clear hk); (try clear hi)))
   have n0_ := zam (zRd HO104.out)
   have n1_ := zam (zkd BK101.out)
   have n2_ := zam (zb1 HB.out)
   clear HO104
   clear BK101
   clear HB
   have HO104 := n0_
   have BK101 := n1_
   have HB := n2_
   clear n0_ n1_ n2_
   refine start_ (n := 18) (S := fun w' => w'.cell? ⟨gb101, 0, none⟩ = some (.int .i64 a0_0) ∧ w'.cell? ⟨gb101, 1, none⟩ = some (.int .i64 a0_1) ∧ w'.cell? ⟨gb101, 2, none⟩ = some (.int .i64 a0_2) ∧ w'.cell? ⟨gb101, 3, none⟩ = some (.int .i64 a0_3)) (ds := []) #[false, false, false, false, false, false, false, false, false, false, false, false, false, false, false, false, false, false] (by kernel_rfl) rfl rfl ⟨(zkc BK101.out 0).trans rfl, (zkc BK101.out 1).trans rfl, (zkc BK101.out 2).trans rfl, (zkc BK101.out 3).trans rfl⟩ (fun hHeld => ?_); refine with_tabW bound_CheckBox.tab4 bound_CheckBox.bits4 (fun HT_ HW_ => ?_)
   generalize w17.drew = w18 at HO104 BK101 HB hHeld ⊢
   refine pure_ (i := 0) (N := some 13) (v := ?_) (a' := ?_) #[true, false, false, false, false, false, false, false, false, false, false, false, false, false, false, false, false, false] rfl rfl (any_of HT_.out (by kernel_rfl)) (fun _ _ _ h => h) (Or.inl ⟨by rfl, ?_⟩) ?_ ?_
   rotate_left
   ·intro w'
    go_simp
    with_reducible rfl
   rotate_left
   ·simp only [Act.put, zsa, zsz, zss, i64_w, i32_w]
    rfl
   refine pure_ (i := 1) (N := some 14) (v := ?_) (a' := ?_) #[true, true, false, false, false, false, false, false, false, false, false, false, false, false, false, false, false, false] rfl rfl (any_of HT_.out (by kernel_rfl)) (fun _ _ _ h => h) (Or.inl ⟨by rfl, ?_⟩) ?_ ?_
   rotate_left
   ·intro w'
    go_simp
    with_reducible rfl
   rotate_left
   ·simp only [Act.put, zsa, zsz, zss, i64_w, i32_w]
    rfl
   refine pure_ (i := 4) (N := some 17) (v := ?_) (a' := ?_) #[true, true, false, false, true, false, false, false, false, false, false, false, false, false, false, false, false, false] rfl rfl (any_of HT_.out (by kernel_rfl)) (fun _ _ _ h => h) (Or.inl ⟨by rfl, ?_⟩) ?_ ?_
   rotate_left
   ·intro w'
    go_simp
    with_reducible rfl
   rotate_left
   ·simp only [Act.put, zsa, zsz, zss, i64_w, i32_w]
    rfl
   refine pure_ (i := 5) (N := some 18) (v := ?_) (a' := ?_) #[true, true, false, false, true, true, false, false, false, false, false, false, false, false, false, false, false, false] rfl rfl (any_of HT_.out (by kernel_rfl)) (fun _ _ _ h => h) (Or.inl ⟨by rfl, ?_⟩) ?_ ?_
   rotate_left
   ·intro w'
    go_simp
    with_reducible rfl
   rotate_left
   ·simp only [Act.put, zsa, zsz, zss, i64_w, i32_w]
    rfl
   refine pure_ (i := 8) (N := some 21) (v := ?_) (a' := ?_) #[true, true, false, false, true, true, false, false, true, false, false, false, false, false, false, false, false, false] rfl rfl (any_of HT_.out (by kernel_rfl)) (fun _ _ _ h => h) (Or.inl ⟨by rfl, ?_⟩) ?_ ?_
   rotate_left
   ·intro w'
    go_simp
    with_reducible rfl
   rotate_left
   ·simp only [Act.put, zsa, zsz, zss, i64_w, i32_w]
    rfl
   refine pure_ (i := 9) (N := some 22) (v := ?_) (a' := ?_) #[true, true, false, false, true, true, false, false, true, true, false, false, false, false, false, false, false, false] rfl rfl (any_of HT_.out (by kernel_rfl)) (fun _ _ _ h => h) (Or.inl ⟨by rfl, ?_⟩) ?_ ?_
   rotate_left
   ·intro w'
    go_simp
    with_reducible rfl
   rotate_left
   ·simp only [Act.put, zsa, zsz, zss, i64_w, i32_w]
    rfl
   refine pure_ (i := 12) (N := some 25) (v := ?_) (a' := ?_) #[true, true, false, false, true, true, false, false, true, true, false, false, true, false, false, false, false, false] rfl rfl (any_of HT_.out (by kernel_rfl)) (fun _ _ _ h => h) (Or.inl ⟨by rfl, ?_⟩) ?_ ?_
   rotate_left
   ·intro w'
    go_simp
    with_reducible rfl
   rotate_left
   ·simp only [Act.put, zsa, zsz, zss, i64_w, i32_w]
    rfl
   refine pure_ (i := 13) (N := some 26) (v := ?_) (a' := ?_) #[true, true, false, false, true, true, false, false, true, true, false, false, true, true, false, false, false, false] rfl rfl (any_of HT_.out (by kernel_rfl)) (fun _ _ _ h => h) (Or.inl ⟨by rfl, ?_⟩) ?_ ?_
   rotate_left
   ·intro w'
    go_simp
    with_reducible rfl
   rotate_left
   ·simp only [Act.put, zsa, zsz, zss, i64_w, i32_w]
    rfl
   refine take_ (i := 2) (N := some 15) (v := ?_) (a' := ?_) #[true, true, true, false, true, true, false, false, true, true, false, false, true, true, false, false, false, false] rfl rfl (take_ofW HT_.out HW_.out (by kernel_rfl)) (fun _ _ _ h => h) (Or.inl ⟨by rfl, ?_⟩) hHeld ?_ ?_
   rotate_left
   ·rintro w' ⟨s0, s1, s2, s3⟩
    go_simp
    with_reducible rfl
   rotate_left
   ·simp only [Act.put, zsa, zsz, zss, i64_w, i32_w]
    rfl
   refine take_ (i := 6) (N := some 19) (v := ?_) (a' := ?_) #[true, true, true, false, true, true, true, false, true, true, false, false, true, true, false, false, false, false] rfl rfl (take_ofW HT_.out HW_.out (by kernel_rfl)) (fun _ _ _ h => h) (Or.inl ⟨by rfl, ?_⟩) hHeld ?_ ?_
   rotate_left
   ·rintro w' ⟨s0, s1, s2, s3⟩
    go_simp
    with_reducible rfl
   rotate_left
   ·simp only [Act.put, zsa, zsz, zss, i64_w, i32_w]
    rfl
   refine take_ (i := 10) (N := some 23) (v := ?_) (a' := ?_) #[true, true, true, false, true, true, true, false, true, true, true, false, true, true, false, false, false, false] rfl rfl (take_ofW HT_.out HW_.out (by kernel_rfl)) (fun _ _ _ h => h) (Or.inl ⟨by rfl, ?_⟩) hHeld ?_ ?_
   rotate_left
   ·rintro w' ⟨s0, s1, s2, s3⟩
    go_simp
    with_reducible rfl
   rotate_left
   ·simp only [Act.put, zsa, zsz, zss, i64_w, i32_w]
    rfl
   refine take_ (i := 14) (N := some 27) (v := ?_) (a' := ?_) #[true, true, true, false, true, true, true, false, true, true, true, false, true, true, true, false, false, false] rfl rfl (take_ofW HT_.out HW_.out (by kernel_rfl)) (fun _ _ _ h => h) (Or.inl ⟨by rfl, ?_⟩) hHeld ?_ ?_
   rotate_left
   ·rintro w' ⟨s0, s1, s2, s3⟩
    go_simp
    with_reducible rfl
   rotate_left
   ·simp only [Act.put, zsa, zsz, zss, i64_w, i32_w]
    rfl
   refine one_ (i := 3) (N := some 16) #[true, true, true, true, true, true, true, false, true, true, true, false, true, true, true, false, false, false] rfl rfl (one_of HT_.out (by kernel_rfl)) (by decide) (fun K hK => ?_)
   refine goes_ Try.func118 (by kernel_rfl) rfl #[.int .i64 a0_0] (by rfl) rfl rfl zq5 ?_
   with_reducible refine (bound_amount.calls a0_0 t106 _ A4.out).mono ?_
   rintro e w19 ⟨rfl, hb⟩
   refine ⟨_, rfl, ?_⟩
   have n0_ := zam (Kd.R_below zq17 hb)
   have n1_ := zam (zkb (g := gb101) (o := .cells #[.int .i64 a0_0, .int .i64 a0_1, .int .i64 a0_2, .int .i64 a0_3] 29 (0, 0)) zq0 hb)
   have n2_ := zam (zbt zq2 hb)
   clear HO104
   clear BK101
   clear HB
   have HO104 := n0_
   have BK101 := n1_
   have HB := n2_
   clear n0_ n1_ n2_
   (try clear hb)
   (try clear hb2)
   (try clear hk)
   (try clear hi)
   refine hK.out _ _ ⟨(zkc BK101.out 0).trans rfl, (zkc BK101.out 1).trans rfl, (zkc BK101.out 2).trans rfl, (zkc BK101.out 3).trans rfl⟩ (fun hHeld => ?_)
   clear hK K
   refine norm_ (a' := ?_) ?_ ?_
   rotate_left
   ·show Act.put _ (some 16) _ = _
    simp only [Act.put, zsa, zsz, zss, i64_w, i32_w]
    rfl
   refine one_ (i := 7) (N := some 20) #[true, true, true, true, true, true, true, true, true, true, true, false, true, true, true, false, false, false] rfl rfl (one_of HT_.out (by kernel_rfl)) (by decide) (fun K hK => ?_)
   refine goes_ Try.func118 (by kernel_rfl) rfl #[.int .i64 a0_1] (by rfl) rfl rfl zq5 ?_
   with_reducible refine (bound_amount.calls a0_1 t107 _ A5.out).mono ?_
   rintro e w20 ⟨rfl, hb⟩
   refine ⟨_, rfl, ?_⟩
   have n0_ := zam (Kd.R_below zq17 hb)
   have n1_ := zam (zkb (g := gb101) (o := .cells #[.int .i64 a0_0, .int .i64 a0_1, .int .i64 a0_2, .int .i64 a0_3] 29 (0, 0)) zq0 hb)
   have n2_ := zam (zbt zq2 hb)
   clear HO104
   clear BK101
   clear HB
   have HO104 := n0_
   have BK101 := n1_
   have HB := n2_
   clear n0_ n1_ n2_
   (try clear hb)
   (try clear hb2)
   (try clear hk)
   (try clear hi)
   refine hK.out _ _ ⟨(zkc BK101.out 0).trans rfl, (zkc BK101.out 1).trans rfl, (zkc BK101.out 2).trans rfl, (zkc BK101.out 3).trans rfl⟩ (fun hHeld => ?_)
   clear hK K
   refine norm_ (a' := ?_) ?_ ?_
   rotate_left
   ·show Act.put _ (some 20) _ = _
    simp only [Act.put, zsa, zsz, zss, i64_w, i32_w]
    rfl
   refine one_ (i := 11) (N := some 24) #[true, true, true, true, true, true, true, true, true, true, true, true, true, true, true, false, false, false] rfl rfl (one_of HT_.out (by kernel_rfl)) (by decide) (fun K hK => ?_)
   refine goes_ Try.func118 (by kernel_rfl) rfl #[.int .i64 a0_2] (by rfl) rfl rfl zq5 ?_
   with_reducible refine (bound_amount.calls a0_2 t108 _ A6.out).mono ?_
   rintro e w21 ⟨rfl, hb⟩
   refine ⟨_, rfl, ?_⟩
   have n0_ := zam (Kd.R_below zq17 hb)
   have n1_ := zam (zkb (g := gb101) (o := .cells #[.int .i64 a0_0, .int .i64 a0_1, .int .i64 a0_2, .int .i64 a0_3] 29 (0, 0)) zq0 hb)
   have n2_ := zam (zbt zq2 hb)
   clear HO104
   clear BK101
   clear HB
   have HO104 := n0_
   have BK101 := n1_
   have HB := n2_
   clear n0_ n1_ n2_
   (try clear hb)
   (try clear hb2)
   (try clear hk)
   (try clear hi)
   refine hK.out _ _ ⟨(zkc BK101.out 0).trans rfl, (zkc BK101.out 1).trans rfl, (zkc BK101.out 2).trans rfl, (zkc BK101.out 3).trans rfl⟩ (fun hHeld => ?_)
   clear hK K
   refine norm_ (a' := ?_) ?_ ?_
   rotate_left
   ·show Act.put _ (some 24) _ = _
    simp only [Act.put, zsa, zsz, zss, i64_w, i32_w]
    rfl
   refine one_ (i := 15) (N := some 28) #[true, true, true, true, true, true, true, true, true, true, true, true, true, true, true, true, false, false] rfl rfl (one_of HT_.out (by kernel_rfl)) (by decide) (fun K hK => ?_)
   refine goes_ Try.func118 (by kernel_rfl) rfl #[.int .i64 a0_3] (by rfl) rfl rfl zq5 ?_
   with_reducible refine (bound_amount.calls a0_3 t109 _ A7.out).mono ?_
   rintro e w22 ⟨rfl, hb⟩
   refine ⟨_, rfl, ?_⟩
   have n0_ := zam (Kd.R_below zq17 hb)
   have n1_ := zam (zkb (g := gb101) (o := .cells #[.int .i64 a0_0, .int .i64 a0_1, .int .i64 a0_2, .int .i64 a0_3] 29 (0, 0)) zq0 hb)
   have n2_ := zam (zbt zq2 hb)
   clear HO104
   clear BK101
   clear HB
   have HO104 := n0_
   have BK101 := n1_
   have HB := n2_
   clear n0_ n1_ n2_
   (try clear hb)
   (try clear hb2)
   (try clear hk)
   (try clear hi)
   refine hK.out _ _ ⟨(zkc BK101.out 0).trans rfl, (zkc BK101.out 1).trans rfl, (zkc BK101.out 2).trans rfl, (zkc BK101.out 3).trans rfl⟩ (fun hHeld => ?_)
   clear hK K
   refine norm_ (a' := ?_) ?_ ?_
   rotate_left
   ·show Act.put _ (some 28) _ = _
    simp only [Act.put, zsa, zsz, zss, i64_w, i32_w]
    rfl
   refine pure_ (i := 16) (N := some 29) (v := ?_) (a' := ?_) #[true, true, true, true, true, true, true, true, true, true, true, true, true, true, true, true, true, false] rfl rfl (any_of HT_.out (by kernel_rfl)) (fun _ _ _ h => h) (Or.inl ⟨by rfl, ?_⟩) ?_ ?_
   rotate_left
   ·intro w'
    go_simp
    with_reducible rfl
   rotate_left
   ·simp only [Act.put, zsa, zsz, zss, i64_w, i32_w]
    rfl
   refine pure_ (i := 17) (N := some 30) (v := ?_) (a' := ?_) #[true, true, true, true, true, true, true, true, true, true, true, true, true, true, true, true, true, true] rfl rfl (any_of HT_.out (by kernel_rfl)) (fun _ _ _ h => h) (Or.inl ⟨by rfl, ?_⟩) ?_ ?_
   rotate_left
   ·intro w'
    go_simp
    with_reducible rfl
   rotate_left
   ·simp only [Act.put, zsa, zsz, zss, i64_w, i32_w]
    rfl
   refine done_ (done_of HT_.out (by kernel_rfl)) ?_
   try go_wp2
   go_ret
   exact ⟨by first | rfl | (simp [errW_none, errW_some] <;> rfl) | (simp only [← hji8, ← hji9, ← hji10]; first | rfl | (simp [errW_none, errW_some] <;> rfl)) | (simp [*, errW_none, errW_some] <;> rfl), by repeat (first | (with_reducible first | exact HB.out | apply zba | apply zbn | apply zb1 | refine zbs ?_ GE101.out) | exact HB.out)⟩
  rw [if_neg c11] at H
  have c11b0 : decide (268435456 < (ji10)) = false := zdf c11
  clear c11
  obtain rfl := zsi H
  go_enter Try.func79, Try.ntmps79
  try go_wp2_with (first | ((with_reducible refine zgd (N := 1) rfl ?_); refine box_event ?hg (N := 1) ?hd (cs := #[.int .i64 a0_0, .int .i64 a0_1, .int .i64 a0_2, .int .i64 a0_3]) (t := 29) ?hr ?_; (case hd => rfl); (case hg => rfl); (case hr => first | (go_simp; done) | (go_simp; rfl)); intro gb101 hg w23 hbox hb; have n0_ := zam (zbt zq1 hb); have n1_ := zam (hbox); have n2_ := zam ((by rw [hg]; exact (zbz zq1) : w.heap.size ≤ gb101)); have n3_ := zam ((by rw [hg]; exact (zbz zq1) : w.heap.size ≤ gb101)); clear HB; have HB := n0_; have BK101 := n1_; have GW101 := n2_; have GE101 := n3_; clear n0_ n1_ n2_ n3_; clear hb hbox hg; have hcz24_0 : w23.cell? ⟨gb101, 0, none⟩ = some (.int .i64 a0_0) := (zkc BK101.out 0).trans rfl; have hcz24_1 : w23.cell? ⟨gb101, 1, none⟩ = some (.int .i64 a0_1) := (zkc BK101.out 1).trans rfl; have hcz24_2 : w23.cell? ⟨gb101, 2, none⟩ = some (.int .i64 a0_2) := (zkc BK101.out 2).trans rfl; have hcz24_3 : w23.cell? ⟨gb101, 3, none⟩ = some (.int .i64 a0_3) := (zkc BK101.out 3).trans rfl; have hfz24_0 := zkz BK101.out 0; have hfz24_1 := zkz BK101.out 1; have hfz24_2 := zkz BK101.out 2; have hfz24_3 := zkz BK101.out 3) | ((with_reducible refine zgd (N := 8) rfl ?_); refine Kd.R_lit k24 _ 24 ?hg (N := 8) ?hd (xs := ([(⟨a0_0, a0_1⟩ : S24), (⟨a0_2, a0_3⟩ : S24)] : List (S24))) (inner := [.int .i64 a0_0, .int .i64 a0_1, .int .i64 a0_2, .int .i64 a0_3]) (ok := fun _ => True) (okp := fun _ => True) ?hr ?hp (fun _ hk => hk) trivial (Below.refl _ _) (Nat.le_refl _) (by simp) ?_; (case hd => rfl); (case hg => rfl); (case hr => first | (go_simp; done) | (go_simp; rfl)); (case hp => exact (Reps.c2 (show Kd.M k24 _ _ _ (⟨a0_0, a0_1⟩ : S24) [.int .i64 a0_0, .int .i64 a0_1] from (k24_mkM _ _ _ (⟨a0_0, a0_1⟩ : S24) )) (Reps.c2 (show Kd.M k24 _ _ _ (⟨a0_2, a0_3⟩ : S24) [.int .i64 a0_2, .int .i64 a0_3] from (k24_mkM _ _ _ (⟨a0_2, a0_3⟩ : S24) )) (Reps.none _ _)))); intro v103 w25 ho26 hb hg_ hnew_; clear hg_ hnew_; (first | rw [← Ny102.out] at ho26 | (simp only [Int.reduceToNat] at ho26; rw [← Ny102.out] at ho26)); have n0_ := zam (Kd.R_lower ho26 (zbz zq2)); have n1_ := zam (zkb (g := gb101) (o := .cells #[.int .i64 a0_0, .int .i64 a0_1, .int .i64 a0_2, .int .i64 a0_3] 29 (0, 0)) zq0 hb); have n2_ := zam (zbt zq2 hb); clear BK101; clear HB; have HO104 := n0_; have BK101 := n1_; have HB := n2_; clear n0_ n1_ n2_; clear hb ho26; obtain ⟨Ao27, co27, eo27⟩ := Kd.R_slice HO104.out; subst eo27) | ((with_reducible refine zgc (f := 117) rfl ?_); refine goesL_ (some 9) rfl rfl Try.func117 (by kernel_rfl) rfl #[.slice Ao27 y102.length co27] rfl zq5 ?_; (with_reducible refine (bound_check.calls k _ _ y102 t105 _ ?side1 ?side2 A2.out).mono ?_); (case side1 => repeat (first | exact (Kd.R_reads' HO104.out).2.2 | (with_reducible refine Kd.C_alloc ?_ _) | (with_reducible refine Kd.C_drewN ?_ _) | (with_reducible refine Kd.C_drew ?_))); (case side2 => exact (Kd.R_reads' HO104.out).2.1); rintro e w28 ⟨rfl, hb⟩; refine ⟨_, rfl, ?_⟩; have n0_ := zam (Kd.R_below zq17 hb); have n1_ := zam (zkb (g := gb101) (o := .cells #[.int .i64 a0_0, .int .i64 a0_1, .int .i64 a0_2, .int .i64 a0_3] 29 (0, 0)) zq0 hb); have n2_ := zam (zbt zq2 hb); clear HO104; clear BK101; clear HB; have HO104 := n0_; have BK101 := n1_; have HB := n2_; clear n0_ n1_ n2_; (try clear hb); (try clear hb2); (try clear hk); (try clear hi)))
  have n0_ := zam (zRd HO104.out)
  have n1_ := zam (zkd BK101.out)
  have n2_ := zam (zb1 HB.out)
  clear HO104
  clear BK101
  clear HB
  have HO104 := n0_
  have BK101 := n1_
  have HB := n2_
  clear n0_ n1_ n2_
  refine start_ (n := 18) (S := fun w' => w'.cell? ⟨gb101, 0, none⟩ = some (.int .i64 a0_0) ∧ w'.cell? ⟨gb101, 1, none⟩ = some (.int .i64 a0_1) ∧ w'.cell? ⟨gb101, 2, none⟩ = some (.int .i64 a0_2) ∧ w'.cell? ⟨gb101, 3, none⟩ = some (.int .i64 a0_3)) (ds := []) #[false, false, false, false, false, false, false, false, false, false, false, false, false, false, false, false, false, false] (by kernel_rfl) rfl rfl ⟨(zkc BK101.out 0).trans rfl, (zkc BK101.out 1).trans rfl, (zkc BK101.out 2).trans rfl, (zkc BK101.out 3).trans rfl⟩ (fun hHeld => ?_); refine with_tabW bound_CheckBox.tab4 bound_CheckBox.bits4 (fun HT_ HW_ => ?_)
  generalize w28.drew = w29 at HO104 BK101 HB hHeld ⊢
  refine pure_ (i := 0) (N := some 13) (v := ?_) (a' := ?_) #[true, false, false, false, false, false, false, false, false, false, false, false, false, false, false, false, false, false] rfl rfl (any_of HT_.out (by kernel_rfl)) (fun _ _ _ h => h) (Or.inl ⟨by rfl, ?_⟩) ?_ ?_
  rotate_left
  ·intro w'
   go_simp
   with_reducible rfl
  rotate_left
  ·simp only [Act.put, zsa, zsz, zss, i64_w, i32_w]
   rfl
  refine pure_ (i := 1) (N := some 14) (v := ?_) (a' := ?_) #[true, true, false, false, false, false, false, false, false, false, false, false, false, false, false, false, false, false] rfl rfl (any_of HT_.out (by kernel_rfl)) (fun _ _ _ h => h) (Or.inl ⟨by rfl, ?_⟩) ?_ ?_
  rotate_left
  ·intro w'
   go_simp
   with_reducible rfl
  rotate_left
  ·simp only [Act.put, zsa, zsz, zss, i64_w, i32_w]
   rfl
  refine pure_ (i := 4) (N := some 17) (v := ?_) (a' := ?_) #[true, true, false, false, true, false, false, false, false, false, false, false, false, false, false, false, false, false] rfl rfl (any_of HT_.out (by kernel_rfl)) (fun _ _ _ h => h) (Or.inl ⟨by rfl, ?_⟩) ?_ ?_
  rotate_left
  ·intro w'
   go_simp
   with_reducible rfl
  rotate_left
  ·simp only [Act.put, zsa, zsz, zss, i64_w, i32_w]
   rfl
  refine pure_ (i := 5) (N := some 18) (v := ?_) (a' := ?_) #[true, true, false, false, true, true, false, false, false, false, false, false, false, false, false, false, false, false] rfl rfl (any_of HT_.out (by kernel_rfl)) (fun _ _ _ h => h) (Or.inl ⟨by rfl, ?_⟩) ?_ ?_
  rotate_left
  ·intro w'
   go_simp
   with_reducible rfl
  rotate_left
  ·simp only [Act.put, zsa, zsz, zss, i64_w, i32_w]
   rfl
  refine pure_ (i := 8) (N := some 21) (v := ?_) (a' := ?_) #[true, true, false, false, true, true, false, false, true, false, false, false, false, false, false, false, false, false] rfl rfl (any_of HT_.out (by kernel_rfl)) (fun _ _ _ h => h) (Or.inl ⟨by rfl, ?_⟩) ?_ ?_
  rotate_left
  ·intro w'
   go_simp
   with_reducible rfl
  rotate_left
  ·simp only [Act.put, zsa, zsz, zss, i64_w, i32_w]
   rfl
  refine pure_ (i := 9) (N := some 22) (v := ?_) (a' := ?_) #[true, true, false, false, true, true, false, false, true, true, false, false, false, false, false, false, false, false] rfl rfl (any_of HT_.out (by kernel_rfl)) (fun _ _ _ h => h) (Or.inl ⟨by rfl, ?_⟩) ?_ ?_
  rotate_left
  ·intro w'
   go_simp
   with_reducible rfl
  rotate_left
  ·simp only [Act.put, zsa, zsz, zss, i64_w, i32_w]
   rfl
  refine pure_ (i := 12) (N := some 25) (v := ?_) (a' := ?_) #[true, true, false, false, true, true, false, false, true, true, false, false, true, false, false, false, false, false] rfl rfl (any_of HT_.out (by kernel_rfl)) (fun _ _ _ h => h) (Or.inl ⟨by rfl, ?_⟩) ?_ ?_
  rotate_left
  ·intro w'
   go_simp
   with_reducible rfl
  rotate_left
  ·simp only [Act.put, zsa, zsz, zss, i64_w, i32_w]
   rfl
  refine pure_ (i := 13) (N := some 26) (v := ?_) (a' := ?_) #[true, true, false, false, true, true, false, false, true, true, false, false, true, true, false, false, false, false] rfl rfl (any_of HT_.out (by kernel_rfl)) (fun _ _ _ h => h) (Or.inl ⟨by rfl, ?_⟩) ?_ ?_
  rotate_left
  ·intro w'
   go_simp
   with_reducible rfl
  rotate_left
  ·simp only [Act.put, zsa, zsz, zss, i64_w, i32_w]
   rfl
  refine take_ (i := 2) (N := some 15) (v := ?_) (a' := ?_) #[true, true, true, false, true, true, false, false, true, true, false, false, true, true, false, false, false, false] rfl rfl (take_ofW HT_.out HW_.out (by kernel_rfl)) (fun _ _ _ h => h) (Or.inl ⟨by rfl, ?_⟩) hHeld ?_ ?_
  rotate_left
  ·rintro w' ⟨s0, s1, s2, s3⟩
   go_simp
   with_reducible rfl
  rotate_left
  ·simp only [Act.put, zsa, zsz, zss, i64_w, i32_w]
   rfl
  refine take_ (i := 6) (N := some 19) (v := ?_) (a' := ?_) #[true, true, true, false, true, true, true, false, true, true, false, false, true, true, false, false, false, false] rfl rfl (take_ofW HT_.out HW_.out (by kernel_rfl)) (fun _ _ _ h => h) (Or.inl ⟨by rfl, ?_⟩) hHeld ?_ ?_
  rotate_left
  ·rintro w' ⟨s0, s1, s2, s3⟩
   go_simp
   with_reducible rfl
  rotate_left
  ·simp only [Act.put, zsa, zsz, zss, i64_w, i32_w]
   rfl
  refine take_ (i := 10) (N := some 23) (v := ?_) (a' := ?_) #[true, true, true, false, true, true, true, false, true, true, true, false, true, true, false, false, false, false] rfl rfl (take_ofW HT_.out HW_.out (by kernel_rfl)) (fun _ _ _ h => h) (Or.inl ⟨by rfl, ?_⟩) hHeld ?_ ?_
  rotate_left
  ·rintro w' ⟨s0, s1, s2, s3⟩
   go_simp
   with_reducible rfl
  rotate_left
  ·simp only [Act.put, zsa, zsz, zss, i64_w, i32_w]
   rfl
  refine take_ (i := 14) (N := some 27) (v := ?_) (a' := ?_) #[true, true, true, false, true, true, true, false, true, true, true, false, true, true, true, false, false, false] rfl rfl (take_ofW HT_.out HW_.out (by kernel_rfl)) (fun _ _ _ h => h) (Or.inl ⟨by rfl, ?_⟩) hHeld ?_ ?_
  rotate_left
  ·rintro w' ⟨s0, s1, s2, s3⟩
   go_simp
   with_reducible rfl
  rotate_left
  ·simp only [Act.put, zsa, zsz, zss, i64_w, i32_w]
   rfl
  refine one_ (i := 3) (N := some 16) #[true, true, true, true, true, true, true, false, true, true, true, false, true, true, true, false, false, false] rfl rfl (one_of HT_.out (by kernel_rfl)) (by decide) (fun K hK => ?_)
  refine goes_ Try.func118 (by kernel_rfl) rfl #[.int .i64 a0_0] (by rfl) rfl rfl zq5 ?_
  with_reducible refine (bound_amount.calls a0_0 t106 _ A4.out).mono ?_
  rintro e w30 ⟨rfl, hb⟩
  refine ⟨_, rfl, ?_⟩
  have n0_ := zam (Kd.R_below zq17 hb)
  have n1_ := zam (zkb (g := gb101) (o := .cells #[.int .i64 a0_0, .int .i64 a0_1, .int .i64 a0_2, .int .i64 a0_3] 29 (0, 0)) zq0 hb)
  have n2_ := zam (zbt zq2 hb)
  clear HO104
  clear BK101
  clear HB
  have HO104 := n0_
  have BK101 := n1_
  have HB := n2_
  clear n0_ n1_ n2_
  (try clear hb)
  (try clear hb2)
  (try clear hk)
  (try clear hi)
  refine hK.out _ _ ⟨(zkc BK101.out 0).trans rfl, (zkc BK101.out 1).trans rfl, (zkc BK101.out 2).trans rfl, (zkc BK101.out 3).trans rfl⟩ (fun hHeld => ?_)
  clear hK K
  refine norm_ (a' := ?_) ?_ ?_
  rotate_left
  ·show Act.put _ (some 16) _ = _
   simp only [Act.put, zsa, zsz, zss, i64_w, i32_w]
   rfl
  refine one_ (i := 7) (N := some 20) #[true, true, true, true, true, true, true, true, true, true, true, false, true, true, true, false, false, false] rfl rfl (one_of HT_.out (by kernel_rfl)) (by decide) (fun K hK => ?_)
  refine goes_ Try.func118 (by kernel_rfl) rfl #[.int .i64 a0_1] (by rfl) rfl rfl zq5 ?_
  with_reducible refine (bound_amount.calls a0_1 t107 _ A5.out).mono ?_
  rintro e w31 ⟨rfl, hb⟩
  refine ⟨_, rfl, ?_⟩
  have n0_ := zam (Kd.R_below zq17 hb)
  have n1_ := zam (zkb (g := gb101) (o := .cells #[.int .i64 a0_0, .int .i64 a0_1, .int .i64 a0_2, .int .i64 a0_3] 29 (0, 0)) zq0 hb)
  have n2_ := zam (zbt zq2 hb)
  clear HO104
  clear BK101
  clear HB
  have HO104 := n0_
  have BK101 := n1_
  have HB := n2_
  clear n0_ n1_ n2_
  (try clear hb)
  (try clear hb2)
  (try clear hk)
  (try clear hi)
  refine hK.out _ _ ⟨(zkc BK101.out 0).trans rfl, (zkc BK101.out 1).trans rfl, (zkc BK101.out 2).trans rfl, (zkc BK101.out 3).trans rfl⟩ (fun hHeld => ?_)
  clear hK K
  refine norm_ (a' := ?_) ?_ ?_
  rotate_left
  ·show Act.put _ (some 20) _ = _
   simp only [Act.put, zsa, zsz, zss, i64_w, i32_w]
   rfl
  refine one_ (i := 11) (N := some 24) #[true, true, true, true, true, true, true, true, true, true, true, true, true, true, true, false, false, false] rfl rfl (one_of HT_.out (by kernel_rfl)) (by decide) (fun K hK => ?_)
  refine goes_ Try.func118 (by kernel_rfl) rfl #[.int .i64 a0_2] (by rfl) rfl rfl zq5 ?_
  with_reducible refine (bound_amount.calls a0_2 t108 _ A6.out).mono ?_
  rintro e w32 ⟨rfl, hb⟩
  refine ⟨_, rfl, ?_⟩
  have n0_ := zam (Kd.R_below zq17 hb)
  have n1_ := zam (zkb (g := gb101) (o := .cells #[.int .i64 a0_0, .int .i64 a0_1, .int .i64 a0_2, .int .i64 a0_3] 29 (0, 0)) zq0 hb)
  have n2_ := zam (zbt zq2 hb)
  clear HO104
  clear BK101
  clear HB
  have HO104 := n0_
  have BK101 := n1_
  have HB := n2_
  clear n0_ n1_ n2_
  (try clear hb)
  (try clear hb2)
  (try clear hk)
  (try clear hi)
  refine hK.out _ _ ⟨(zkc BK101.out 0).trans rfl, (zkc BK101.out 1).trans rfl, (zkc BK101.out 2).trans rfl, (zkc BK101.out 3).trans rfl⟩ (fun hHeld => ?_)
  clear hK K
  refine norm_ (a' := ?_) ?_ ?_
  rotate_left
  ·show Act.put _ (some 24) _ = _
   simp only [Act.put, zsa, zsz, zss, i64_w, i32_w]
   rfl
  refine one_ (i := 15) (N := some 28) #[true, true, true, true, true, true, true, true, true, true, true, true, true, true, true, true, false, false] rfl rfl (one_of HT_.out (by kernel_rfl)) (by decide) (fun K hK => ?_)
  refine goes_ Try.func118 (by kernel_rfl) rfl #[.int .i64 a0_3] (by rfl) rfl rfl zq5 ?_
  with_reducible refine (bound_amount.calls a0_3 t109 _ A7.out).mono ?_
  rintro e w33 ⟨rfl, hb⟩
  refine ⟨_, rfl, ?_⟩
  have n0_ := zam (Kd.R_below zq17 hb)
  have n1_ := zam (zkb (g := gb101) (o := .cells #[.int .i64 a0_0, .int .i64 a0_1, .int .i64 a0_2, .int .i64 a0_3] 29 (0, 0)) zq0 hb)
  have n2_ := zam (zbt zq2 hb)
  clear HO104
  clear BK101
  clear HB
  have HO104 := n0_
  have BK101 := n1_
  have HB := n2_
  clear n0_ n1_ n2_
  (try clear hb)
  (try clear hb2)
  (try clear hk)
  (try clear hi)
  refine hK.out _ _ ⟨(zkc BK101.out 0).trans rfl, (zkc BK101.out 1).trans rfl, (zkc BK101.out 2).trans rfl, (zkc BK101.out 3).trans rfl⟩ (fun hHeld => ?_)
  clear hK K
  refine norm_ (a' := ?_) ?_ ?_
  rotate_left
  ·show Act.put _ (some 28) _ = _
   simp only [Act.put, zsa, zsz, zss, i64_w, i32_w]
   rfl
  refine pure_ (i := 16) (N := some 29) (v := ?_) (a' := ?_) #[true, true, true, true, true, true, true, true, true, true, true, true, true, true, true, true, true, false] rfl rfl (any_of HT_.out (by kernel_rfl)) (fun _ _ _ h => h) (Or.inl ⟨by rfl, ?_⟩) ?_ ?_
  rotate_left
  ·intro w'
   go_simp
   with_reducible rfl
  rotate_left
  ·simp only [Act.put, zsa, zsz, zss, i64_w, i32_w]
   rfl
  refine pure_ (i := 17) (N := some 30) (v := ?_) (a' := ?_) #[true, true, true, true, true, true, true, true, true, true, true, true, true, true, true, true, true, true] rfl rfl (any_of HT_.out (by kernel_rfl)) (fun _ _ _ h => h) (Or.inl ⟨by rfl, ?_⟩) ?_ ?_
  rotate_left
  ·intro w'
   go_simp
   with_reducible rfl
  rotate_left
  ·simp only [Act.put, zsa, zsz, zss, i64_w, i32_w]
   rfl
  refine done_ (done_of HT_.out (by kernel_rfl)) ?_
  try go_wp2
  go_ret
  exact ⟨by first | rfl | (simp [errW_none, errW_some] <;> rfl) | (simp only [← hji8, ← hji9, ← hji10]; first | rfl | (simp [errW_none, errW_some] <;> rfl)) | (simp [*, errW_none, errW_some] <;> rfl), by repeat (first | (with_reducible first | exact HB.out | apply zba | apply zbn | apply zb1 | refine zbs ?_ GE101.out) | exact HB.out)⟩
 rw [if_neg c3] at H
 have c3b0 : (t105 == 0) = false := beq_eq_false_iff_ne.mpr c3
 have c3b1 : (t105 != 0) = true := bne_iff_ne.mpr c3
 obtain rfl := zsi H
 go_enter Try.func79, Try.ntmps79
 go_wp2_with (first | ((with_reducible refine zgd (N := 1) rfl ?_); refine box_event ?hg (N := 1) ?hd (cs := #[.int .i64 a0_0, .int .i64 a0_1, .int .i64 a0_2, .int .i64 a0_3]) (t := 29) ?hr ?_; (case hd => rfl); (case hg => rfl); (case hr => first | (go_simp; done) | (go_simp; rfl)); intro gb101 hg w34 hbox hb; have n0_ := zam (zbt zq1 hb); have n1_ := zam (hbox); have n2_ := zam ((by rw [hg]; exact (zbz zq1) : w.heap.size ≤ gb101)); have n3_ := zam ((by rw [hg]; exact (zbz zq1) : w.heap.size ≤ gb101)); clear HB; have HB := n0_; have BK101 := n1_; have GW101 := n2_; have GE101 := n3_; clear n0_ n1_ n2_ n3_; clear hb hbox hg; have hcz35_0 : w34.cell? ⟨gb101, 0, none⟩ = some (.int .i64 a0_0) := (zkc BK101.out 0).trans rfl; have hcz35_1 : w34.cell? ⟨gb101, 1, none⟩ = some (.int .i64 a0_1) := (zkc BK101.out 1).trans rfl; have hcz35_2 : w34.cell? ⟨gb101, 2, none⟩ = some (.int .i64 a0_2) := (zkc BK101.out 2).trans rfl; have hcz35_3 : w34.cell? ⟨gb101, 3, none⟩ = some (.int .i64 a0_3) := (zkc BK101.out 3).trans rfl; have hfz35_0 := zkz BK101.out 0; have hfz35_1 := zkz BK101.out 1; have hfz35_2 := zkz BK101.out 2; have hfz35_3 := zkz BK101.out 3) | ((with_reducible refine zgd (N := 8) rfl ?_); refine Kd.R_lit k24 _ 24 ?hg (N := 8) ?hd (xs := ([(⟨a0_0, a0_1⟩ : S24), (⟨a0_2, a0_3⟩ : S24)] : List (S24))) (inner := [.int .i64 a0_0, .int .i64 a0_1, .int .i64 a0_2, .int .i64 a0_3]) (ok := fun _ => True) (okp := fun _ => True) ?hr ?hp (fun _ hk => hk) trivial (Below.refl _ _) (Nat.le_refl _) (by simp) ?_; (case hd => rfl); (case hg => rfl); (case hr => first | (go_simp; done) | (go_simp; rfl)); (case hp => exact (Reps.c2 (show Kd.M k24 _ _ _ (⟨a0_0, a0_1⟩ : S24) [.int .i64 a0_0, .int .i64 a0_1] from (k24_mkM _ _ _ (⟨a0_0, a0_1⟩ : S24) )) (Reps.c2 (show Kd.M k24 _ _ _ (⟨a0_2, a0_3⟩ : S24) [.int .i64 a0_2, .int .i64 a0_3] from (k24_mkM _ _ _ (⟨a0_2, a0_3⟩ : S24) )) (Reps.none _ _)))); intro v103 w36 ho37 hb hg_ hnew_; clear hg_ hnew_; (first | rw [← Ny102.out] at ho37 | (simp only [Int.reduceToNat] at ho37; rw [← Ny102.out] at ho37)); have n0_ := zam (Kd.R_lower ho37 (zbz zq2)); have n1_ := zam (zkb (g := gb101) (o := .cells #[.int .i64 a0_0, .int .i64 a0_1, .int .i64 a0_2, .int .i64 a0_3] 29 (0, 0)) zq0 hb); have n2_ := zam (zbt zq2 hb); clear BK101; clear HB; have HO104 := n0_; have BK101 := n1_; have HB := n2_; clear n0_ n1_ n2_; clear hb ho37; obtain ⟨Ao38, co38, eo38⟩ := Kd.R_slice HO104.out; subst eo38) | ((with_reducible refine zgc (f := 117) rfl ?_); refine goesL_ (some 9) rfl rfl Try.func117 (by kernel_rfl) rfl #[.slice Ao38 y102.length co38] rfl zq5 ?_; (with_reducible refine (bound_check.calls k _ _ y102 t105 _ ?side1 ?side2 A2.out).mono ?_); (case side1 => repeat (first | exact (Kd.R_reads' HO104.out).2.2 | (with_reducible refine Kd.C_alloc ?_ _) | (with_reducible refine Kd.C_drewN ?_ _) | (with_reducible refine Kd.C_drew ?_))); (case side2 => exact (Kd.R_reads' HO104.out).2.1); rintro e w39 ⟨rfl, hb⟩; refine ⟨_, rfl, ?_⟩; have n0_ := zam (Kd.R_below zq17 hb); have n1_ := zam (zkb (g := gb101) (o := .cells #[.int .i64 a0_0, .int .i64 a0_1, .int .i64 a0_2, .int .i64 a0_3] 29 (0, 0)) zq0 hb); have n2_ := zam (zbt zq2 hb); clear HO104; clear BK101; clear HB; have HO104 := n0_; have BK101 := n1_; have HB := n2_; clear n0_ n1_ n2_; (try clear hb); (try clear hb2); (try clear hk); (try clear hi)))
 go_ret
 exact ⟨by first | rfl | (simp [errW_none, errW_some] <;> rfl) | (simp [*, errW_none, errW_some] <;> rfl), by repeat (first | (with_reducible first | exact HB.out | apply zba | apply zbn | apply zb1 | refine zbs ?_ GE101.out) | exact HB.out)⟩
def bound_apart.f (a0_0 : Int) (a0_1 : Int) (a1_0 : Int) (a1_1 : Int) : Option (Int × Int) := some (mx (mx 0 (wrap64 (a0_0 - a1_1))) (wrap64 (a1_0 - a0_1)), mx (wrap64 (a0_1 - a1_0)) (wrap64 (a1_1 - a0_0)))
set_option maxHeartbeats 8000000 in
set_option maxRecDepth 100000 in
theorem bound_apart.calls (a0_0 : Int) (a0_1 : Int) (a1_0 : Int) (a1_1 : Int) (r1 : Int) (r2 : Int) (w : World) (h : bound_apart.f a0_0 a0_1 a1_0 a1_1 = some (r1, r2)) :
  Calls Try.prog 135 #[.agg #[.int .i64 a0_0, .int .i64 a0_1], .agg #[.int .i64 a1_0, .int .i64 a1_1]] w fun e w' => e = .returned (.tuple #[.int .i64 r1, .int .i64 r2]) ∧ Below w.heap.size w w' := by
 have hu24 := Try.underlying24
 have HB := zam (Below.refl w.heap.size w)
 have H : (some (mx (mx 0 (wrap64 (a0_0 - a1_1))) (wrap64 (a1_0 - a0_1)), mx (wrap64 (a0_1 - a1_0)) (wrap64 (a1_1 - a0_0)))) = some (r1, r2) := h
 clear h
 obtain ⟨ji3, hji3⟩ : ∃ j_ : Int, (mx 0 (wrap64 (a0_0 - a1_1))) = j_ := ⟨_, rfl⟩
 replace H : (some (mx (ji3) (wrap64 (a1_0 - a0_1)), mx (wrap64 (a0_1 - a1_0)) (wrap64 (a1_1 - a0_0)))) = some (r1, r2) := by first | (rw [hji3] at H; exact H) | (simp only [hji3] at H ⊢; exact H)
 (try (have hji3l : 0 ≤ ji3 := by (rw [← hji3]; unfold mx; (repeat' split) <;> omega)))
 (try (have hji3m : 0 ≤ ji3 := by omega))
 have hji3_ : (if 0 < (wrap64 (a0_0 - a1_1)) then (wrap64 (a0_0 - a1_1)) else 0) = ji3 := hji3
 obtain ⟨ji4, hji4⟩ : ∃ j_ : Int, (mx (ji3) (wrap64 (a1_0 - a0_1))) = j_ := ⟨_, rfl⟩
 replace H : (some (ji4, mx (wrap64 (a0_1 - a1_0)) (wrap64 (a1_1 - a0_0)))) = some (r1, r2) := by first | (rw [hji4] at H; exact H) | (simp only [hji4] at H ⊢; exact H)
 have hji4_ : (if (ji3) < (wrap64 (a1_0 - a0_1)) then (wrap64 (a1_0 - a0_1)) else (ji3)) = ji4 := hji4
 obtain ⟨ji5, hji5⟩ : ∃ j_ : Int, (mx (wrap64 (a0_1 - a1_0)) (wrap64 (a1_1 - a0_0))) = j_ := ⟨_, rfl⟩
 replace H : (some (ji4, ji5)) = some (r1, r2) := by first | (rw [hji5] at H; exact H) | (simp only [hji5] at H ⊢; exact H)
 have hji5_ : (if (wrap64 (a0_1 - a1_0)) < (wrap64 (a1_1 - a0_0)) then (wrap64 (a1_1 - a0_0)) else (wrap64 (a0_1 - a1_0))) = ji5 := hji5
 simp only [Option.some.injEq, Prod.mk.injEq] at H
 obtain ⟨rfl, rfl⟩ := H
 go_enter Try.func135, Try.ntmps135
 go_wp2_with (first | ((with_reducible refine zgd (N := 2) rfl ?_); refine box_event ?hg (N := 2) ?hd (cs := #[.int .i64 a0_0, .int .i64 a0_1]) (t := 24) ?hr ?_; (case hd => rfl); (case hg => rfl); (case hr => first | (go_simp; done) | (go_simp; rfl)); intro gb101 hg w6 hbox hb; have n0_ := zam (zbt zq1 hb); have n1_ := zam (hbox); have n2_ := zam ((by rw [hg]; exact (zbz zq1) : w.heap.size ≤ gb101)); have n3_ := zam ((by rw [hg]; exact (zbz zq1) : w.heap.size ≤ gb101)); clear HB; have HB := n0_; have BK101 := n1_; have GW101 := n2_; have GE101 := n3_; clear n0_ n1_ n2_ n3_; clear hb hbox hg) | ((with_reducible refine zgd (N := 3) rfl ?_); refine box_event ?hg (N := 3) ?hd (cs := #[.int .i64 a1_0, .int .i64 a1_1]) (t := 24) ?hr ?_; (case hd => rfl); (case hg => rfl); (case hr => first | (go_simp; done) | (go_simp; rfl)); intro gb102 hg w7 hbox hb; have n0_ := zam (zkb (g := gb101) (o := .cells #[.int .i64 a0_0, .int .i64 a0_1] 24 (0, 0)) zq0 hb); have n1_ := zam (zbt zq2 hb); have n2_ := zam (hbox); have n3_ := zam ((by rw [hg]; exact (zbz zq2) : w.heap.size ≤ gb102)); have n4_ := zam ((by rw [hg]; exact (zbz zq2) : w.heap.size ≤ gb102)); have n5_ := zam ((by rw [hg]; exact Nat.ne_of_lt (blk_lt (g := gb101) (o := .cells #[.int .i64 a0_0, .int .i64 a0_1] 24 (0, 0)) zq0) : gb101 ≠ gb102)); have n6_ := zam ((by rw [hg]; exact Nat.ne_of_gt (blk_lt (g := gb101) (o := .cells #[.int .i64 a0_0, .int .i64 a0_1] 24 (0, 0)) zq0) : gb102 ≠ gb101)); clear BK101; clear HB; have BK101 := n0_; have HB := n1_; have BK102 := n2_; have GW102 := n3_; have GE102 := n4_; have NB101_102 := n5_; have NB102_101 := n6_; clear n0_ n1_ n2_ n3_ n4_ n5_ n6_; clear hb hbox hg; have hnb8 := NB101_102.out; have hnc8 := NB102_101.out; have hcz9_0 : w7.cell? ⟨gb101, 0, none⟩ = some (.int .i64 a0_0) := (zkc BK101.out 0).trans rfl; have hcz9_1 : w7.cell? ⟨gb101, 1, none⟩ = some (.int .i64 a0_1) := (zkc BK101.out 1).trans rfl; have hfz9_0 := zkz BK101.out 0; have hfz9_1 := zkz BK101.out 1; have hcz10_0 : w7.cell? ⟨gb102, 0, none⟩ = some (.int .i64 a1_0) := (zkc BK102.out 0).trans rfl; have hcz10_1 : w7.cell? ⟨gb102, 1, none⟩ = some (.int .i64 a1_1) := (zkc BK102.out 1).trans rfl; have hfz10_0 := zkz BK102.out 0; have hfz10_1 := zkz BK102.out 1))
 repeat (go_quiet (first | ((with_reducible refine zgd (N := 2) rfl ?_); refine box_event ?hg (N := 2) ?hd (cs := #[.int .i64 a0_0, .int .i64 a0_1]) (t := 24) ?hr ?_; (case hd => rfl); (case hg => rfl); (case hr => first | (go_simp; done) | (go_simp; rfl)); intro gb101 hg w6 hbox hb; have n0_ := zam (zbt zq1 hb); have n1_ := zam (hbox); have n2_ := zam ((by rw [hg]; exact (zbz zq1) : w.heap.size ≤ gb101)); have n3_ := zam ((by rw [hg]; exact (zbz zq1) : w.heap.size ≤ gb101)); clear HB; have HB := n0_; have BK101 := n1_; have GW101 := n2_; have GE101 := n3_; clear n0_ n1_ n2_ n3_; clear hb hbox hg) | ((with_reducible refine zgd (N := 3) rfl ?_); refine box_event ?hg (N := 3) ?hd (cs := #[.int .i64 a1_0, .int .i64 a1_1]) (t := 24) ?hr ?_; (case hd => rfl); (case hg => rfl); (case hr => first | (go_simp; done) | (go_simp; rfl)); intro gb102 hg w7 hbox hb; have n0_ := zam (zkb (g := gb101) (o := .cells #[.int .i64 a0_0, .int .i64 a0_1] 24 (0, 0)) zq0 hb); have n1_ := zam (zbt zq2 hb); have n2_ := zam (hbox); have n3_ := zam ((by rw [hg]; exact (zbz zq2) : w.heap.size ≤ gb102)); have n4_ := zam ((by rw [hg]; exact (zbz zq2) : w.heap.size ≤ gb102)); have n5_ := zam ((by rw [hg]; exact Nat.ne_of_lt (blk_lt (g := gb101) (o := .cells #[.int .i64 a0_0, .int .i64 a0_1] 24 (0, 0)) zq0) : gb101 ≠ gb102)); have n6_ := zam ((by rw [hg]; exact Nat.ne_of_gt (blk_lt (g := gb101) (o := .cells #[.int .i64 a0_0, .int .i64 a0_1] 24 (0, 0)) zq0) : gb102 ≠ gb101)); clear BK101; clear HB; have BK101 := n0_; have HB := n1_; have BK102 := n2_; have GW102 := n3_; have GE102 := n4_; have NB101_102 := n5_; have NB102_101 := n6_; clear n0_ n1_ n2_ n3_ n4_ n5_ n6_; clear hb hbox hg; have hnb8 := NB101_102.out; have hnc8 := NB102_101.out; have hcz9_0 : w7.cell? ⟨gb101, 0, none⟩ = some (.int .i64 a0_0) := (zkc BK101.out 0).trans rfl; have hcz9_1 : w7.cell? ⟨gb101, 1, none⟩ = some (.int .i64 a0_1) := (zkc BK101.out 1).trans rfl; have hfz9_0 := zkz BK101.out 0; have hfz9_1 := zkz BK101.out 1; have hcz10_0 : w7.cell? ⟨gb102, 0, none⟩ = some (.int .i64 a1_0) := (zkc BK102.out 0).trans rfl; have hcz10_1 : w7.cell? ⟨gb102, 1, none⟩ = some (.int .i64 a1_1) := (zkc BK102.out 1).trans rfl; have hfz10_0 := zkz BK102.out 0; have hfz10_1 := zkz BK102.out 1)); try go_wp2_with (first | ((with_reducible refine zgd (N := 2) rfl ?_); refine box_event ?hg (N := 2) ?hd (cs := #[.int .i64 a0_0, .int .i64 a0_1]) (t := 24) ?hr ?_; (case hd => rfl); (case hg => rfl); (case hr => first | (go_simp; done) | (go_simp; rfl)); intro gb101 hg w6 hbox hb; have n0_ := zam (zbt zq1 hb); have n1_ := zam (hbox); have n2_ := zam ((by rw [hg]; exact (zbz zq1) : w.heap.size ≤ gb101)); have n3_ := zam ((by rw [hg]; exact (zbz zq1) : w.heap.size ≤ gb101)); clear HB; have HB := n0_; have BK101 := n1_; have GW101 := n2_; have GE101 := n3_; clear n0_ n1_ n2_ n3_; clear hb hbox hg) | ((with_reducible refine zgd (N := 3) rfl ?_); refine box_event ?hg (N := 3) ?hd (cs := #[.int .i64 a1_0, .int .i64 a1_1]) (t := 24) ?hr ?_; (case hd => rfl); (case hg => rfl); (case hr => first | (go_simp; done) | (go_simp; rfl)); intro gb102 hg w7 hbox hb; have n0_ := zam (zkb (g := gb101) (o := .cells #[.int .i64 a0_0, .int .i64 a0_1] 24 (0, 0)) zq0 hb); have n1_ := zam (zbt zq2 hb); have n2_ := zam (hbox); have n3_ := zam ((by rw [hg]; exact (zbz zq2) : w.heap.size ≤ gb102)); have n4_ := zam ((by rw [hg]; exact (zbz zq2) : w.heap.size ≤ gb102)); have n5_ := zam ((by rw [hg]; exact Nat.ne_of_lt (blk_lt (g := gb101) (o := .cells #[.int .i64 a0_0, .int .i64 a0_1] 24 (0, 0)) zq0) : gb101 ≠ gb102)); have n6_ := zam ((by rw [hg]; exact Nat.ne_of_gt (blk_lt (g := gb101) (o := .cells #[.int .i64 a0_0, .int .i64 a0_1] 24 (0, 0)) zq0) : gb102 ≠ gb101)); clear BK101; clear HB; have BK101 := n0_; have HB := n1_; have BK102 := n2_; have GW102 := n3_; have GE102 := n4_; have NB101_102 := n5_; have NB102_101 := n6_; clear n0_ n1_ n2_ n3_ n4_ n5_ n6_; clear hb hbox hg; have hnb8 := NB101_102.out; have hnc8 := NB102_101.out; have hcz9_0 : w7.cell? ⟨gb101, 0, none⟩ = some (.int .i64 a0_0) := (zkc BK101.out 0).trans rfl; have hcz9_1 : w7.cell? ⟨gb101, 1, none⟩ = some (.int .i64 a0_1) := (zkc BK101.out 1).trans rfl; have hfz9_0 := zkz BK101.out 0; have hfz9_1 := zkz BK101.out 1; have hcz10_0 : w7.cell? ⟨gb102, 0, none⟩ = some (.int .i64 a1_0) := (zkc BK102.out 0).trans rfl; have hcz10_1 : w7.cell? ⟨gb102, 1, none⟩ = some (.int .i64 a1_1) := (zkc BK102.out 1).trans rfl; have hfz10_0 := zkz BK102.out 0; have hfz10_1 := zkz BK102.out 1)))
 go_ret2
 exact ⟨by first | rfl | (simp [errW_none, errW_some] <;> rfl) | (simp only [← hji3, ← hji4, ← hji5]; first | rfl | (simp [errW_none, errW_some] <;> rfl)) | (simp [*, errW_none, errW_some] <;> rfl), by repeat (first | (with_reducible first | exact HB.out | apply zba | apply zbn | apply zb1 | refine zbs ?_ GE101.out | refine zbs ?_ GE102.out) | exact HB.out)⟩
def bound_Square.j0 : Nat → Bool → Int → Int → Int → Int → Int → Int → Int → Int → Option (Int × Int × Int)
 | 0, _, _, _, _, _, _, _, _, _ => none
 | k + 1, x18, x102000, x102001, x102002, x102003, x103000, x103001, x103002, x103003 => if x18 = true then (some (0, 0, 2)) else ((bound_apart.f x102000 x102001 x103000 x103001).bind fun bt105 => ((bound_apart.f x102002 x102003 x103002 x103003).bind fun bt107 => (some (wrap64 ((wrap64 (bt105.1 * bt105.1)) + (wrap64 (bt107.1 * bt107.1))), wrap64 ((wrap64 (bt105.2 * bt105.2)) + (wrap64 (bt107.2 * bt107.2))), 0))))
def bound_Square.f (k : Nat) (a0_0 : Int) (a0_1 : Int) (a0_2 : Int) (a0_3 : Int) (a1_0 : Int) (a1_1 : Int) (a1_2 : Int) (a1_3 : Int) : Option (Int × Int × Int) := (bound_CheckBox.f k a0_0 a0_1 a0_2 a0_3).bind fun t103 => (if t103 = 0 then ((bound_CheckBox.f k a1_0 a1_1 a1_2 a1_3).bind fun t104 => (bound_Square.j0 k (t104 != 0) a0_0 a0_1 a0_2 a0_3 a1_0 a1_1 a1_2 a1_3)) else (bound_Square.j0 k true a0_0 a0_1 a0_2 a0_3 a1_0 a1_1 a1_2 a1_3))
set_option maxHeartbeats 8000000 in
set_option maxRecDepth 100000 in
theorem bound_Square.calls (k : Nat) (a0_0 : Int) (a0_1 : Int) (a0_2 : Int) (a0_3 : Int) (a1_0 : Int) (a1_1 : Int) (a1_2 : Int) (a1_3 : Int) (r1 : Int) (r2 : Int) (r3 : Int) (w : World) (h : bound_Square.f k a0_0 a0_1 a0_2 a0_3 a1_0 a1_1 a1_2 a1_3 = some (r1, r2, r3)) :
  Calls Try.prog 132 #[.agg #[.int .i64 a0_0, .int .i64 a0_1, .int .i64 a0_2, .int .i64 a0_3], .agg #[.int .i64 a1_0, .int .i64 a1_1, .int .i64 a1_2, .int .i64 a1_3]] w fun e w' => e = .returned (.tuple #[.int .i64 r1, .int .i64 r2, .int .i64 r3]) ∧ Below w.heap.size w w' := by
 have hu29 := Try.underlying29
 have hu24 := Try.underlying24
 have HB := zam (Below.refl w.heap.size w)
 have H : ((bound_CheckBox.f k a0_0 a0_1 a0_2 a0_3).bind fun t103 => (if t103 = 0 then ((bound_CheckBox.f k a1_0 a1_1 a1_2 a1_3).bind fun t104 => (bound_Square.j0 k (t104 != 0) a0_0 a0_1 a0_2 a0_3 a1_0 a1_1 a1_2 a1_3)) else (bound_Square.j0 k true a0_0 a0_1 a0_2 a0_3 a1_0 a1_1 a1_2 a1_3))) = some (r1, r2, r3) := h
 clear h
 have HC3 := zam H
 clear H
 go_enter Try.func132, Try.ntmps132
 go_upto_region 1 with (first | ((with_reducible refine zgd (N := 2) rfl ?_); refine box_event ?hg (N := 2) ?hd (cs := #[.int .i64 a0_0, .int .i64 a0_1, .int .i64 a0_2, .int .i64 a0_3]) (t := 29) ?hr ?_; (case hd => rfl); (case hg => rfl); (case hr => first | (go_simp; done) | (go_simp; rfl)); intro gb101 hg w4 hbox hb; have n0_ := zam (zbt zq1 hb); have n1_ := zam (hbox); have n2_ := zam ((by rw [hg]; exact (zbz zq1) : w.heap.size ≤ gb101)); have n3_ := zam ((by rw [hg]; exact (zbz zq1) : w.heap.size ≤ gb101)); clear HB; have HB := n0_; have BK101 := n1_; have GW101 := n2_; have GE101 := n3_; clear n0_ n1_ n2_ n3_; clear hb hbox hg) | ((with_reducible refine zgd (N := 3) rfl ?_); refine box_event ?hg (N := 3) ?hd (cs := #[.int .i64 a1_0, .int .i64 a1_1, .int .i64 a1_2, .int .i64 a1_3]) (t := 29) ?hr ?_; (case hd => rfl); (case hg => rfl); (case hr => first | (go_simp; done) | (go_simp; rfl)); intro gb102 hg w5 hbox hb; have n0_ := zam (zkb (g := gb101) (o := .cells #[.int .i64 a0_0, .int .i64 a0_1, .int .i64 a0_2, .int .i64 a0_3] 29 (0, 0)) zq0 hb); have n1_ := zam (zbt zq2 hb); have n2_ := zam (hbox); have n3_ := zam ((by rw [hg]; exact (zbz zq2) : w.heap.size ≤ gb102)); have n4_ := zam ((by rw [hg]; exact (zbz zq2) : w.heap.size ≤ gb102)); have n5_ := zam ((by rw [hg]; exact Nat.ne_of_lt (blk_lt (g := gb101) (o := .cells #[.int .i64 a0_0, .int .i64 a0_1, .int .i64 a0_2, .int .i64 a0_3] 29 (0, 0)) zq0) : gb101 ≠ gb102)); have n6_ := zam ((by rw [hg]; exact Nat.ne_of_gt (blk_lt (g := gb101) (o := .cells #[.int .i64 a0_0, .int .i64 a0_1, .int .i64 a0_2, .int .i64 a0_3] 29 (0, 0)) zq0) : gb102 ≠ gb101)); clear BK101; clear HB; have BK101 := n0_; have HB := n1_; have BK102 := n2_; have GW102 := n3_; have GE102 := n4_; have NB101_102 := n5_; have NB102_101 := n6_; clear n0_ n1_ n2_ n3_ n4_ n5_ n6_; clear hb hbox hg))
 (try simp only [Act.put, zsa, zsz, zss])
 go_cut [18] (fun v18 wc => ∃ (kq : Nat) (x18_2 : Bool), v18 = .bool x18_2 ∧ Aside0 (bound_Square.j0 kq x18_2 a0_0 a0_1 a0_2 a0_3 a1_0 a1_1 a1_2 a1_3 = some (r1, r2, r3)) ∧ Aside0 (kq ≤ k) ∧ Aside0 (wc.heap[gb101]? = some (.cells #[.int .i64 a0_0, .int .i64 a0_1, .int .i64 a0_2, .int .i64 a0_3] 29 (0, 0))) ∧ Aside0 (wc.heap[gb102]? = some (.cells #[.int .i64 a1_0, .int .i64 a1_1, .int .i64 a1_2, .int .i64 a1_3] 29 (0, 0))) ∧ Aside0 (Below w.heap.size w wc))
 case first =>
  have H := HC3.out
  clear HC3
  replace H := Option.bind_eq_some_iff.mp H
  obtain ⟨t103, A60, H⟩ := H
  replace H : (if t103 = 0 then ((bound_CheckBox.f k a1_0 a1_1 a1_2 a1_3).bind fun t104 => (bound_Square.j0 k (t104 != 0) a0_0 a0_1 a0_2 a0_3 a1_0 a1_1 a1_2 a1_3)) else (bound_Square.j0 k true a0_0 a0_1 a0_2 a0_3 a1_0 a1_1 a1_2 a1_3)) = some (r1, r2, r3) := H
  have A6 := zam A60
  clear A60
  by_cases c7 : t103 = 0
  ·rw [if_pos c7] at H
   have c7b0 : (t103 == 0) = true := beq_iff_eq.mpr c7
   have c7b1 : (t103 != 0) = false := bne_eq_false_iff_eq.mpr c7
   clear c7
   (first | rw [c7b0] | (simp only [i64_w, i32_w]; rw [c7b0]) | skip)
   replace H := Option.bind_eq_some_iff.mp H
   obtain ⟨t104, A80, H⟩ := H
   replace H : (bound_Square.j0 k (t104 != 0) a0_0 a0_1 a0_2 a0_3 a1_0 a1_1 a1_2 a1_3) = some (r1, r2, r3) := H
   have A8 := zam A80
   clear A80
   have H' := zam H
   clear H
   have hnb9 := NB101_102.out
   have hnc9 := NB102_101.out
   have hcz10_0 : w5.cell? ⟨gb101, 0, none⟩ = some (.int .i64 a0_0) := (zkc BK101.out 0).trans rfl
   have hcz10_1 : w5.cell? ⟨gb101, 1, none⟩ = some (.int .i64 a0_1) := (zkc BK101.out 1).trans rfl
   have hcz10_2 : w5.cell? ⟨gb101, 2, none⟩ = some (.int .i64 a0_2) := (zkc BK101.out 2).trans rfl
   have hcz10_3 : w5.cell? ⟨gb101, 3, none⟩ = some (.int .i64 a0_3) := (zkc BK101.out 3).trans rfl
   have hfz10_0 := zkz BK101.out 0
   have hfz10_1 := zkz BK101.out 1
   have hfz10_2 := zkz BK101.out 2
   have hfz10_3 := zkz BK101.out 3
   go_wp2_with (first | ((with_reducible refine zgc (f := 79) rfl ?_); refine goesL_ (some 12) rfl rfl Try.func79 (by kernel_rfl) rfl #[.agg #[.int .i64 a0_0, .int .i64 a0_1, .int .i64 a0_2, .int .i64 a0_3]] rfl zq5 ?_; (with_reducible refine (bound_CheckBox.calls k a0_0 a0_1 a0_2 a0_3 t103 _ A6.out).mono ?_); rintro e w11 ⟨rfl, hb⟩; refine ⟨_, rfl, ?_⟩; have n0_ := zam (zkb (g := gb101) (o := .cells #[.int .i64 a0_0, .int .i64 a0_1, .int .i64 a0_2, .int .i64 a0_3] 29 (0, 0)) zq0 hb); have n1_ := zam (zkb (g := gb102) (o := .cells #[.int .i64 a1_0, .int .i64 a1_1, .int .i64 a1_2, .int .i64 a1_3] 29 (0, 0)) zq4 hb); have n2_ := zam (zbt zq11 hb); clear BK101; clear BK102; clear HB; have BK101 := n0_; have BK102 := n1_; have HB := n2_; clear n0_ n1_ n2_; (try clear hb); (try clear hb2); (try clear hk); (try clear hi); have hcz12_0 : w11.cell? ⟨gb102, 0, none⟩ = some (.int .i64 a1_0) := (zkc BK102.out 0).trans rfl; have hcz12_1 : w11.cell? ⟨gb102, 1, none⟩ = some (.int .i64 a1_1) := (zkc BK102.out 1).trans rfl; have hcz12_2 : w11.cell? ⟨gb102, 2, none⟩ = some (.int .i64 a1_2) := (zkc BK102.out 2).trans rfl; have hcz12_3 : w11.cell? ⟨gb102, 3, none⟩ = some (.int .i64 a1_3) := (zkc BK102.out 3).trans rfl; have hfz12_0 := zkz BK102.out 0; have hfz12_1 := zkz BK102.out 1; have hfz12_2 := zkz BK102.out 2; have hfz12_3 := zkz BK102.out 3) | (go_at_call 79; (with_reducible refine (bound_CheckBox.calls k a1_0 a1_1 a1_2 a1_3 t104 _ A8.out).mono ?_); rintro e w13 ⟨rfl, hb⟩; have n0_ := zam (zkb (g := gb101) (o := .cells #[.int .i64 a0_0, .int .i64 a0_1, .int .i64 a0_2, .int .i64 a0_3] 29 (0, 0)) zq0 hb); have n1_ := zam (zkb (g := gb102) (o := .cells #[.int .i64 a1_0, .int .i64 a1_1, .int .i64 a1_2, .int .i64 a1_3] 29 (0, 0)) zq4 hb); have n2_ := zam (zbt zq11 hb); clear BK101; clear BK102; clear HB; have BK101 := n0_; have BK102 := n1_; have HB := n2_; clear n0_ n1_ n2_; (try clear hb); (try clear hb2); (try clear hk); (try clear hi)))
   go_meet
   case rel => exact ⟨_, ((t104 != 0)), zq10, H', ⟨by first | omega | exact Nat.le_refl _⟩, ⟨by (with_reducible repeat (first | refine zkn ?_ _ | refine zkd ?_ | refine zka ?_ _)); exact BK101.out⟩, ⟨by (with_reducible repeat (first | refine zkn ?_ _ | refine zkd ?_ | refine zka ?_ _)); exact BK102.out⟩, ⟨by repeat (first | (with_reducible first | exact HB.out | apply zba | apply zbn | apply zb1 | refine zbs ?_ GE101.out | refine zbs ?_ GE102.out) | exact HB.out)⟩⟩
  rw [if_neg c7] at H
  have c7b0 : (t103 == 0) = false := beq_eq_false_iff_ne.mpr c7
  have c7b1 : (t103 != 0) = true := bne_iff_ne.mpr c7
  (first | rw [c7b0] | (simp only [i64_w, i32_w]; rw [c7b0]) | skip)
  have H' := zam H
  clear H
  have hnb14 := NB101_102.out
  have hnc14 := NB102_101.out
  have hcz15_0 : w5.cell? ⟨gb101, 0, none⟩ = some (.int .i64 a0_0) := (zkc BK101.out 0).trans rfl
  have hcz15_1 : w5.cell? ⟨gb101, 1, none⟩ = some (.int .i64 a0_1) := (zkc BK101.out 1).trans rfl
  have hcz15_2 : w5.cell? ⟨gb101, 2, none⟩ = some (.int .i64 a0_2) := (zkc BK101.out 2).trans rfl
  have hcz15_3 : w5.cell? ⟨gb101, 3, none⟩ = some (.int .i64 a0_3) := (zkc BK101.out 3).trans rfl
  have hfz15_0 := zkz BK101.out 0
  have hfz15_1 := zkz BK101.out 1
  have hfz15_2 := zkz BK101.out 2
  have hfz15_3 := zkz BK101.out 3
  go_wp2_with (first | ((with_reducible refine zgc (f := 79) rfl ?_); refine goesL_ (some 12) rfl rfl Try.func79 (by kernel_rfl) rfl #[.agg #[.int .i64 a0_0, .int .i64 a0_1, .int .i64 a0_2, .int .i64 a0_3]] rfl zq5 ?_; (with_reducible refine (bound_CheckBox.calls k a0_0 a0_1 a0_2 a0_3 t103 _ A6.out).mono ?_); rintro e w16 ⟨rfl, hb⟩; refine ⟨_, rfl, ?_⟩; have n0_ := zam (zkb (g := gb101) (o := .cells #[.int .i64 a0_0, .int .i64 a0_1, .int .i64 a0_2, .int .i64 a0_3] 29 (0, 0)) zq0 hb); have n1_ := zam (zkb (g := gb102) (o := .cells #[.int .i64 a1_0, .int .i64 a1_1, .int .i64 a1_2, .int .i64 a1_3] 29 (0, 0)) zq4 hb); have n2_ := zam (zbt zq11 hb); clear BK101; clear BK102; clear HB; have BK101 := n0_; have BK102 := n1_; have HB := n2_; clear n0_ n1_ n2_; (try clear hb); (try clear hb2); (try clear hk); (try clear hi)))
  go_meet
  case rel => exact ⟨_, (true), zq10, H', ⟨by first | omega | exact Nat.le_refl _⟩, ⟨by (with_reducible repeat (first | refine zkn ?_ _ | refine zkd ?_ | refine zka ?_ _)); exact BK101.out⟩, ⟨by (with_reducible repeat (first | refine zkn ?_ _ | refine zkd ?_ | refine zka ?_ _)); exact BK102.out⟩, ⟨by repeat (first | (with_reducible first | exact HB.out | apply zba | apply zbn | apply zb1 | refine zbs ?_ GE101.out | refine zbs ?_ GE102.out) | exact HB.out)⟩⟩
 case rest =>
  clear HC3
  try clear c1
  try clear p2
  try clear c7
  try clear c7b0
  try clear c7b1
  try clear c9
  try clear c13
  try clear c14
  try clear hcz10_0
  try clear hcz10_1
  try clear hcz10_2
  try clear hcz10_3
  try clear hcz12_0
  try clear hcz12_1
  try clear hcz12_2
  try clear hcz12_3
  try clear hcz15_0
  try clear hcz15_1
  try clear hcz15_2
  try clear hcz15_3
  try clear hfz10_0
  try clear hfz10_1
  try clear hfz10_2
  try clear hfz10_3
  try clear hfz12_0
  try clear hfz12_1
  try clear hfz12_2
  try clear hfz12_3
  try clear hfz15_0
  try clear hfz15_1
  try clear hfz15_2
  try clear hfz15_3
  obtain ⟨kq, x18_2, rfl, HA, HJ2, BK101, BK102, HB⟩ := hcut
  cases kq with
  | zero => exact absurd HA.out (by simp [bound_Square.j0])
  | succ kj2 =>
   have H := HA.out
   clear HA
   simp only [bound_Square.j0] at H
   by_cases c17 : x18_2 = true
   ·subst c17
    have H1 : (some (0, 0, 2)) = some (r1, r2, r3) := by rw [if_pos rfl] at H; exact H
    clear H
    have H := H1
    clear H1
    simp only [Option.some.injEq, Prod.mk.injEq] at H
    obtain ⟨rfl, rfl, rfl⟩ := H
    go_wp2
    go_ret3
    exact ⟨by first | rfl | (simp [errW_none, errW_some] <;> rfl) | (simp [*, errW_none, errW_some] <;> rfl), by repeat (first | (with_reducible first | exact HB.out | apply zba | apply zbn | apply zb1 | refine zbs ?_ GE101.out | refine zbs ?_ GE102.out) | exact HB.out)⟩
   replace c17 := Bool.eq_false_iff.mpr c17
   subst c17
   have H1 : ((bound_apart.f a0_0 a0_1 a1_0 a1_1).bind fun bt105 => ((bound_apart.f a0_2 a0_3 a1_2 a1_3).bind fun bt107 => (some (wrap64 ((wrap64 (bt105.1 * bt105.1)) + (wrap64 (bt107.1 * bt107.1))), wrap64 ((wrap64 (bt105.2 * bt105.2)) + (wrap64 (bt107.2 * bt107.2))), 0)))) = some (r1, r2, r3) := by rw [if_neg (show ¬ (false = true) by decide)] at H; exact H
   clear H
   have H := H1
   clear H1
   replace H := Option.bind_eq_some_iff.mp H
   obtain ⟨⟨t105, t106⟩, A180, H⟩ := H
   replace H : ((bound_apart.f a0_2 a0_3 a1_2 a1_3).bind fun bt107 => (some (wrap64 ((wrap64 (t105 * t105)) + (wrap64 (bt107.1 * bt107.1))), wrap64 ((wrap64 (t106 * t106)) + (wrap64 (bt107.2 * bt107.2))), 0))) = some (r1, r2, r3) := H
   have A18 := zam A180
   clear A180
   replace H := Option.bind_eq_some_iff.mp H
   obtain ⟨⟨t107, t108⟩, A190, H⟩ := H
   replace H : (some (wrap64 ((wrap64 (t105 * t105)) + (wrap64 (t107 * t107))), wrap64 ((wrap64 (t106 * t106)) + (wrap64 (t108 * t108))), 0)) = some (r1, r2, r3) := H
   have A19 := zam A190
   clear A190
   simp only [Option.some.injEq, Prod.mk.injEq] at H
   obtain ⟨rfl, rfl, rfl⟩ := H
   have hnb20 := NB101_102.out
   have hnc20 := NB102_101.out
   have hcz21_0 : wc.cell? ⟨gb101, 0, none⟩ = some (.int .i64 a0_0) := (zkc BK101.out 0).trans rfl
   have hcz21_1 : wc.cell? ⟨gb101, 1, none⟩ = some (.int .i64 a0_1) := (zkc BK101.out 1).trans rfl
   have hcz21_2 : wc.cell? ⟨gb101, 2, none⟩ = some (.int .i64 a0_2) := (zkc BK101.out 2).trans rfl
   have hcz21_3 : wc.cell? ⟨gb101, 3, none⟩ = some (.int .i64 a0_3) := (zkc BK101.out 3).trans rfl
   have hfz21_0 := zkz BK101.out 0
   have hfz21_1 := zkz BK101.out 1
   have hfz21_2 := zkz BK101.out 2
   have hfz21_3 := zkz BK101.out 3
   have hcz22_0 : wc.cell? ⟨gb102, 0, none⟩ = some (.int .i64 a1_0) := (zkc BK102.out 0).trans rfl
   have hcz22_1 : wc.cell? ⟨gb102, 1, none⟩ = some (.int .i64 a1_1) := (zkc BK102.out 1).trans rfl
   have hcz22_2 : wc.cell? ⟨gb102, 2, none⟩ = some (.int .i64 a1_2) := (zkc BK102.out 2).trans rfl
   have hcz22_3 : wc.cell? ⟨gb102, 3, none⟩ = some (.int .i64 a1_3) := (zkc BK102.out 3).trans rfl
   have hfz22_0 := zkz BK102.out 0
   have hfz22_1 := zkz BK102.out 1
   have hfz22_2 := zkz BK102.out 2
   have hfz22_3 := zkz BK102.out 3
   go_wp2_with (first | ((with_reducible refine zgc (f := 135) rfl ?_); refine goesL_ (some 24) rfl rfl Try.func135 (by kernel_rfl) rfl #[.agg #[.int .i64 a0_0, .int .i64 a0_1], .agg #[.int .i64 a1_0, .int .i64 a1_1]] rfl zq5 ?_; (with_reducible refine (bound_apart.calls a0_0 a0_1 a1_0 a1_1 t105 t106 _ A18.out).mono ?_); rintro e w23 ⟨rfl, hb⟩; refine ⟨_, rfl, ?_⟩; have n0_ := zam (zkb (g := gb101) (o := .cells #[.int .i64 a0_0, .int .i64 a0_1, .int .i64 a0_2, .int .i64 a0_3] 29 (0, 0)) zq0 hb); have n1_ := zam (zkb (g := gb102) (o := .cells #[.int .i64 a1_0, .int .i64 a1_1, .int .i64 a1_2, .int .i64 a1_3] 29 (0, 0)) zq4 hb); have n2_ := zam (zbt zq11 hb); clear BK101; clear BK102; clear HB; have BK101 := n0_; have BK102 := n1_; have HB := n2_; clear n0_ n1_ n2_; (try clear hb); (try clear hb2); (try clear hk); (try clear hi); have hcz24_0 : w23.cell? ⟨gb101, 0, none⟩ = some (.int .i64 a0_0) := (zkc BK101.out 0).trans rfl; have hcz24_1 : w23.cell? ⟨gb101, 1, none⟩ = some (.int .i64 a0_1) := (zkc BK101.out 1).trans rfl; have hcz24_2 : w23.cell? ⟨gb101, 2, none⟩ = some (.int .i64 a0_2) := (zkc BK101.out 2).trans rfl; have hcz24_3 : w23.cell? ⟨gb101, 3, none⟩ = some (.int .i64 a0_3) := (zkc BK101.out 3).trans rfl; have hfz24_0 := zkz BK101.out 0; have hfz24_1 := zkz BK101.out 1; have hfz24_2 := zkz BK101.out 2; have hfz24_3 := zkz BK101.out 3; have hcz25_0 : w23.cell? ⟨gb102, 0, none⟩ = some (.int .i64 a1_0) := (zkc BK102.out 0).trans rfl; have hcz25_1 : w23.cell? ⟨gb102, 1, none⟩ = some (.int .i64 a1_1) := (zkc BK102.out 1).trans rfl; have hcz25_2 : w23.cell? ⟨gb102, 2, none⟩ = some (.int .i64 a1_2) := (zkc BK102.out 2).trans rfl; have hcz25_3 : w23.cell? ⟨gb102, 3, none⟩ = some (.int .i64 a1_3) := (zkc BK102.out 3).trans rfl; have hfz25_0 := zkz BK102.out 0; have hfz25_1 := zkz BK102.out 1; have hfz25_2 := zkz BK102.out 2; have hfz25_3 := zkz BK102.out 3) | ((with_reducible refine zgc (f := 135) rfl ?_); refine goesL_ (some 32) rfl rfl Try.func135 (by kernel_rfl) rfl #[.agg #[.int .i64 a0_2, .int .i64 a0_3], .agg #[.int .i64 a1_2, .int .i64 a1_3]] rfl zq5 ?_; (with_reducible refine (bound_apart.calls a0_2 a0_3 a1_2 a1_3 t107 t108 _ A19.out).mono ?_); rintro e w26 ⟨rfl, hb⟩; refine ⟨_, rfl, ?_⟩; have n0_ := zam (zkb (g := gb101) (o := .cells #[.int .i64 a0_0, .int .i64 a0_1, .int .i64 a0_2, .int .i64 a0_3] 29 (0, 0)) zq0 hb); have n1_ := zam (zkb (g := gb102) (o := .cells #[.int .i64 a1_0, .int .i64 a1_1, .int .i64 a1_2, .int .i64 a1_3] 29 (0, 0)) zq4 hb); have n2_ := zam (zbt zq11 hb); clear BK101; clear BK102; clear HB; have BK101 := n0_; have BK102 := n1_; have HB := n2_; clear n0_ n1_ n2_; (try clear hb); (try clear hb2); (try clear hk); (try clear hi)))
   go_ret3
   exact ⟨by first | rfl | (simp [errW_none, errW_some] <;> rfl) | (simp [*, errW_none, errW_some] <;> rfl), by repeat (first | (with_reducible first | exact HB.out | apply zba | apply zbn | apply zb1 | refine zbs ?_ GE101.out | refine zbs ?_ GE102.out) | exact HB.out)⟩
def bound_Distance.f (k : Nat) (a0_0 : Int) (a0_1 : Int) (a0_2 : Int) (a0_3 : Int) (a1_0 : Int) (a1_1 : Int) (a1_2 : Int) (a1_3 : Int) : Option (Int × Int × Int) := (bound_Square.f k a0_0 a0_1 a0_2 a0_3 a1_0 a1_1 a1_2 a1_3).bind fun bt104 => (if bt104.2.2 = 0 then ((bound_round_root.f false bt104.1).bind fun t107 => ((bound_round_root.f true bt104.2.1).bind fun t108 => (some (t107, t108, 0)))) else (some (0, 0, bt104.2.2)))
set_option maxHeartbeats 8000000 in
set_option maxRecDepth 100000 in
theorem bound_Distance.calls (k : Nat) (a0_0 : Int) (a0_1 : Int) (a0_2 : Int) (a0_3 : Int) (a1_0 : Int) (a1_1 : Int) (a1_2 : Int) (a1_3 : Int) (r1 : Int) (r2 : Int) (r3 : Int) (w : World) (h : bound_Distance.f k a0_0 a0_1 a0_2 a0_3 a1_0 a1_1 a1_2 a1_3 = some (r1, r2, r3)) :
  Calls Try.prog 120 #[.agg #[.int .i64 a0_0, .int .i64 a0_1, .int .i64 a0_2, .int .i64 a0_3], .agg #[.int .i64 a1_0, .int .i64 a1_1, .int .i64 a1_2, .int .i64 a1_3]] w fun e w' => e = .returned (.tuple #[.agg #[.int .i64 r1, .int .i64 r2], .int .i64 r3]) ∧ Below w.heap.size w w' := by
 have hu29 := Try.underlying29
 have hu24 := Try.underlying24
 have hu173 := Try.underlying173
 have HB := zam (Below.refl w.heap.size w)
 have H : ((bound_Square.f k a0_0 a0_1 a0_2 a0_3 a1_0 a1_1 a1_2 a1_3).bind fun bt104 => (if bt104.2.2 = 0 then ((bound_round_root.f false bt104.1).bind fun t107 => ((bound_round_root.f true bt104.2.1).bind fun t108 => (some (t107, t108, 0)))) else (some (0, 0, bt104.2.2)))) = some (r1, r2, r3) := h
 clear h
 replace H := Option.bind_eq_some_iff.mp H
 obtain ⟨⟨t104, t105, t106⟩, A30, H⟩ := H
 replace H : (if t106 = 0 then ((bound_round_root.f false t104).bind fun t107 => ((bound_round_root.f true t105).bind fun t108 => (some (t107, t108, 0)))) else (some (0, 0, t106))) = some (r1, r2, r3) := H
 have A3 := zam A30
 clear A30
 by_cases c4 : t106 = 0
 ·rw [if_pos c4] at H
  have c4b0 : (t106 == 0) = true := beq_iff_eq.mpr c4
  have c4b1 : (t106 != 0) = false := bne_eq_false_iff_eq.mpr c4
  clear c4
  replace H := Option.bind_eq_some_iff.mp H
  obtain ⟨t107, A50, H⟩ := H
  replace H : ((bound_round_root.f true t105).bind fun t108 => (some (t107, t108, 0))) = some (r1, r2, r3) := H
  have A5 := zam A50
  clear A50
  replace H := Option.bind_eq_some_iff.mp H
  obtain ⟨t108, A60, H⟩ := H
  replace H : (some (t107, t108, 0)) = some (r1, r2, r3) := H
  have A6 := zam A60
  clear A60
  simp only [Option.some.injEq, Prod.mk.injEq] at H
  obtain ⟨rfl, rfl, rfl⟩ := H
  go_enter Try.func120, Try.ntmps120
  go_wp2_with (first | ((with_reducible refine zgd (N := 2) rfl ?_); refine box_event ?hg (N := 2) ?hd (cs := #[.int .i64 a0_0, .int .i64 a0_1, .int .i64 a0_2, .int .i64 a0_3]) (t := 29) ?hr ?_; (case hd => rfl); (case hg => rfl); (case hr => first | (go_simp; done) | (go_simp; rfl)); intro gb101 hg w7 hbox hb; have n0_ := zam (zbt zq1 hb); have n1_ := zam (hbox); have n2_ := zam ((by rw [hg]; exact (zbz zq1) : w.heap.size ≤ gb101)); have n3_ := zam ((by rw [hg]; exact (zbz zq1) : w.heap.size ≤ gb101)); clear HB; have HB := n0_; have BK101 := n1_; have GW101 := n2_; have GE101 := n3_; clear n0_ n1_ n2_ n3_; clear hb hbox hg) | ((with_reducible refine zgd (N := 3) rfl ?_); refine box_event ?hg (N := 3) ?hd (cs := #[.int .i64 a1_0, .int .i64 a1_1, .int .i64 a1_2, .int .i64 a1_3]) (t := 29) ?hr ?_; (case hd => rfl); (case hg => rfl); (case hr => first | (go_simp; done) | (go_simp; rfl)); intro gb102 hg w8 hbox hb; have n0_ := zam (zkb (g := gb101) (o := .cells #[.int .i64 a0_0, .int .i64 a0_1, .int .i64 a0_2, .int .i64 a0_3] 29 (0, 0)) zq0 hb); have n1_ := zam (zbt zq2 hb); have n2_ := zam (hbox); have n3_ := zam ((by rw [hg]; exact (zbz zq2) : w.heap.size ≤ gb102)); have n4_ := zam ((by rw [hg]; exact (zbz zq2) : w.heap.size ≤ gb102)); have n5_ := zam ((by rw [hg]; exact Nat.ne_of_lt (blk_lt (g := gb101) (o := .cells #[.int .i64 a0_0, .int .i64 a0_1, .int .i64 a0_2, .int .i64 a0_3] 29 (0, 0)) zq0) : gb101 ≠ gb102)); have n6_ := zam ((by rw [hg]; exact Nat.ne_of_gt (blk_lt (g := gb101) (o := .cells #[.int .i64 a0_0, .int .i64 a0_1, .int .i64 a0_2, .int .i64 a0_3] 29 (0, 0)) zq0) : gb102 ≠ gb101)); clear BK101; clear HB; have BK101 := n0_; have HB := n1_; have BK102 := n2_; have GW102 := n3_; have GE102 := n4_; have NB101_102 := n5_; have NB102_101 := n6_; clear n0_ n1_ n2_ n3_ n4_ n5_ n6_; clear hb hbox hg) | ((with_reducible refine zgd (N := 4) rfl ?_); refine box_event ?hg (N := 4) ?hd (cs := #[.int .i64 0, .int .i64 0]) (t := 24) ?hr ?_; (case hd => rfl); (case hg => rfl); (case hr => first | (go_simp; done) | (go_simp; rfl)); intro gb103 hg w9 hbox hb; have n0_ := zam (zkb (g := gb101) (o := .cells #[.int .i64 a0_0, .int .i64 a0_1, .int .i64 a0_2, .int .i64 a0_3] 29 (0, 0)) zq0 hb); have n1_ := zam (zkb (g := gb102) (o := .cells #[.int .i64 a1_0, .int .i64 a1_1, .int .i64 a1_2, .int .i64 a1_3] 29 (0, 0)) zq4 hb); have n2_ := zam (zbt zq11 hb); have n3_ := zam (hbox); have n4_ := zam ((by rw [hg]; exact (zbz zq11) : w.heap.size ≤ gb103)); have n5_ := zam ((by rw [hg]; exact (zbz zq11) : w.heap.size ≤ gb103)); have n6_ := zam ((by rw [hg]; exact Nat.ne_of_lt (blk_lt (g := gb101) (o := .cells #[.int .i64 a0_0, .int .i64 a0_1, .int .i64 a0_2, .int .i64 a0_3] 29 (0, 0)) zq0) : gb101 ≠ gb103)); have n7_ := zam ((by rw [hg]; exact Nat.ne_of_gt (blk_lt (g := gb101) (o := .cells #[.int .i64 a0_0, .int .i64 a0_1, .int .i64 a0_2, .int .i64 a0_3] 29 (0, 0)) zq0) : gb103 ≠ gb101)); have n8_ := zam ((by rw [hg]; exact Nat.ne_of_lt (blk_lt (g := gb102) (o := .cells #[.int .i64 a1_0, .int .i64 a1_1, .int .i64 a1_2, .int .i64 a1_3] 29 (0, 0)) zq4) : gb102 ≠ gb103)); have n9_ := zam ((by rw [hg]; exact Nat.ne_of_gt (blk_lt (g := gb102) (o := .cells #[.int .i64 a1_0, .int .i64 a1_1, .int .i64 a1_2, .int .i64 a1_3] 29 (0, 0)) zq4) : gb103 ≠ gb102)); clear BK101; clear BK102; clear HB; have BK101 := n0_; have BK102 := n1_; have HB := n2_; have BK103 := n3_; have GW103 := n4_; have GE103 := n5_; have NB101_103 := n6_; have NB103_101 := n7_; have NB102_103 := n8_; have NB103_102 := n9_; clear n0_ n1_ n2_ n3_ n4_ n5_ n6_ n7_ n8_ n9_; clear hb hbox hg; have hnb10 := NB101_102.out; have hnc10 := NB102_101.out; have hnb11 := NB101_103.out; have hnc11 := NB103_101.out; have hcz12_0 : w9.cell? ⟨gb101, 0, none⟩ = some (.int .i64 a0_0) := (zkc BK101.out 0).trans rfl; have hcz12_1 : w9.cell? ⟨gb101, 1, none⟩ = some (.int .i64 a0_1) := (zkc BK101.out 1).trans rfl; have hcz12_2 : w9.cell? ⟨gb101, 2, none⟩ = some (.int .i64 a0_2) := (zkc BK101.out 2).trans rfl; have hcz12_3 : w9.cell? ⟨gb101, 3, none⟩ = some (.int .i64 a0_3) := (zkc BK101.out 3).trans rfl; have hfz12_0 := zkz BK101.out 0; have hfz12_1 := zkz BK101.out 1; have hfz12_2 := zkz BK101.out 2; have hfz12_3 := zkz BK101.out 3; have hnb13 := NB102_103.out; have hnc13 := NB103_102.out; have hcz14_0 : w9.cell? ⟨gb102, 0, none⟩ = some (.int .i64 a1_0) := (zkc BK102.out 0).trans rfl; have hcz14_1 : w9.cell? ⟨gb102, 1, none⟩ = some (.int .i64 a1_1) := (zkc BK102.out 1).trans rfl; have hcz14_2 : w9.cell? ⟨gb102, 2, none⟩ = some (.int .i64 a1_2) := (zkc BK102.out 2).trans rfl; have hcz14_3 : w9.cell? ⟨gb102, 3, none⟩ = some (.int .i64 a1_3) := (zkc BK102.out 3).trans rfl; have hfz14_0 := zkz BK102.out 0; have hfz14_1 := zkz BK102.out 1; have hfz14_2 := zkz BK102.out 2; have hfz14_3 := zkz BK102.out 3) | ((with_reducible refine zgc (f := 132) rfl ?_); refine goesL_ (some 12) rfl rfl Try.func132 (by kernel_rfl) rfl #[.agg #[.int .i64 a0_0, .int .i64 a0_1, .int .i64 a0_2, .int .i64 a0_3], .agg #[.int .i64 a1_0, .int .i64 a1_1, .int .i64 a1_2, .int .i64 a1_3]] rfl zq5 ?_; (with_reducible refine (bound_Square.calls k a0_0 a0_1 a0_2 a0_3 a1_0 a1_1 a1_2 a1_3 t104 t105 t106 _ A3.out).mono ?_); rintro e w15 ⟨rfl, hb⟩; refine ⟨_, rfl, ?_⟩; have n0_ := zam (zkb (g := gb101) (o := .cells #[.int .i64 a0_0, .int .i64 a0_1, .int .i64 a0_2, .int .i64 a0_3] 29 (0, 0)) zq0 hb); have n1_ := zam (zkb (g := gb102) (o := .cells #[.int .i64 a1_0, .int .i64 a1_1, .int .i64 a1_2, .int .i64 a1_3] 29 (0, 0)) zq4 hb); have n2_ := zam (zkb (g := gb103) (o := .cells #[.int .i64 0, .int .i64 0] 24 (0, 0)) zq6 hb); have n3_ := zam (zbt zq15 hb); clear BK101; clear BK102; clear BK103; clear HB; have BK101 := n0_; have BK102 := n1_; have BK103 := n2_; have HB := n3_; clear n0_ n1_ n2_ n3_; (try clear hb); (try clear hb2); (try clear hk); (try clear hi)) | ((with_reducible refine zgc (f := 133) rfl ?_); refine goesL_ (some 22) rfl rfl Try.func133 (by kernel_rfl) rfl #[.agg #[.bool false], .int .i64 t104] rfl zq5 ?_; (with_reducible refine (bound_round_root.calls false t104 t107 _ A5.out).mono ?_); rintro e w16 ⟨rfl, hb⟩; refine ⟨_, rfl, ?_⟩; have n0_ := zam (zkb (g := gb101) (o := .cells #[.int .i64 a0_0, .int .i64 a0_1, .int .i64 a0_2, .int .i64 a0_3] 29 (0, 0)) zq0 hb); have n1_ := zam (zkb (g := gb102) (o := .cells #[.int .i64 a1_0, .int .i64 a1_1, .int .i64 a1_2, .int .i64 a1_3] 29 (0, 0)) zq4 hb); have n2_ := zam (zkb (g := gb103) (o := .cells #[.int .i64 0, .int .i64 0] 24 (0, 0)) zq6 hb); have n3_ := zam (zbt zq15 hb); clear BK101; clear BK102; clear BK103; clear HB; have BK101 := n0_; have BK102 := n1_; have BK103 := n2_; have HB := n3_; clear n0_ n1_ n2_ n3_; (try clear hb); (try clear hb2); (try clear hk); (try clear hi)) | ((with_reducible refine zgc (f := 133) rfl ?_); refine goesL_ (some 25) rfl rfl Try.func133 (by kernel_rfl) rfl #[.agg #[.bool true], .int .i64 t105] rfl zq5 ?_; (with_reducible refine (bound_round_root.calls true t105 t108 _ A6.out).mono ?_); rintro e w17 ⟨rfl, hb⟩; refine ⟨_, rfl, ?_⟩; have n0_ := zam (zkb (g := gb101) (o := .cells #[.int .i64 a0_0, .int .i64 a0_1, .int .i64 a0_2, .int .i64 a0_3] 29 (0, 0)) zq0 hb); have n1_ := zam (zkb (g := gb102) (o := .cells #[.int .i64 a1_0, .int .i64 a1_1, .int .i64 a1_2, .int .i64 a1_3] 29 (0, 0)) zq4 hb); have n2_ := zam (zkb (g := gb103) (o := .cells #[.int .i64 0, .int .i64 0] 24 (0, 0)) zq6 hb); have n3_ := zam (zbt zq15 hb); clear BK101; clear BK102; clear BK103; clear HB; have BK101 := n0_; have BK102 := n1_; have BK103 := n2_; have HB := n3_; clear n0_ n1_ n2_ n3_; (try clear hb); (try clear hb2); (try clear hk); (try clear hi); have hcz18_0 : w17.cell? ⟨gb103, 0, none⟩ = some (.int .i64 0) := (zkc BK103.out 0).trans rfl; have hcz18_1 : w17.cell? ⟨gb103, 1, none⟩ = some (.int .i64 0) := (zkc BK103.out 1).trans rfl; have hfz18_0 := zkz BK103.out 0; have hfz18_1 := zkz BK103.out 1))
  refine bodyPost_ret (results_ct rfl _ _ gb103 24 #[.int .i64 t107, .int .i64 t108] (0, 0) _ rfl (by (with_reducible repeat (first | refine zkn ?_ _ | refine zkd ?_ | refine zka ?_ _)); refine blk_put (cs := #[.int .i64 t107, .int .i64 0]) ?_ 1 _ rfl; (with_reducible repeat (first | refine zkn ?_ _ | refine zkd ?_ | refine zka ?_ _)); refine blk_put (cs := #[.int .i64 0, .int .i64 0]) ?_ 0 _ rfl; (with_reducible repeat (first | refine zkn ?_ _ | refine zkd ?_ | refine zka ?_ _)); exact BK103.out) Try.underlying24 rfl (by kernel_rfl)) rfl ?_
  exact ⟨by first | rfl | (simp [errW_none, errW_some] <;> rfl) | (simp [*, errW_none, errW_some] <;> rfl), by repeat (first | (with_reducible first | exact HB.out | apply zba | apply zbn | apply zb1 | refine zbs ?_ GE101.out | refine zbs ?_ GE102.out | refine zbs ?_ GE103.out) | exact HB.out)⟩
 rw [if_neg c4] at H
 have c4b0 : (t106 == 0) = false := beq_eq_false_iff_ne.mpr c4
 have c4b1 : (t106 != 0) = true := bne_iff_ne.mpr c4
 simp only [Option.some.injEq, Prod.mk.injEq] at H
 obtain ⟨rfl, rfl, rfl⟩ := H
 go_enter Try.func120, Try.ntmps120
 go_wp2_with (first | ((with_reducible refine zgd (N := 2) rfl ?_); refine box_event ?hg (N := 2) ?hd (cs := #[.int .i64 a0_0, .int .i64 a0_1, .int .i64 a0_2, .int .i64 a0_3]) (t := 29) ?hr ?_; (case hd => rfl); (case hg => rfl); (case hr => first | (go_simp; done) | (go_simp; rfl)); intro gb101 hg w19 hbox hb; have n0_ := zam (zbt zq1 hb); have n1_ := zam (hbox); have n2_ := zam ((by rw [hg]; exact (zbz zq1) : w.heap.size ≤ gb101)); have n3_ := zam ((by rw [hg]; exact (zbz zq1) : w.heap.size ≤ gb101)); clear HB; have HB := n0_; have BK101 := n1_; have GW101 := n2_; have GE101 := n3_; clear n0_ n1_ n2_ n3_; clear hb hbox hg) | ((with_reducible refine zgd (N := 3) rfl ?_); refine box_event ?hg (N := 3) ?hd (cs := #[.int .i64 a1_0, .int .i64 a1_1, .int .i64 a1_2, .int .i64 a1_3]) (t := 29) ?hr ?_; (case hd => rfl); (case hg => rfl); (case hr => first | (go_simp; done) | (go_simp; rfl)); intro gb102 hg w20 hbox hb; have n0_ := zam (zkb (g := gb101) (o := .cells #[.int .i64 a0_0, .int .i64 a0_1, .int .i64 a0_2, .int .i64 a0_3] 29 (0, 0)) zq0 hb); have n1_ := zam (zbt zq2 hb); have n2_ := zam (hbox); have n3_ := zam ((by rw [hg]; exact (zbz zq2) : w.heap.size ≤ gb102)); have n4_ := zam ((by rw [hg]; exact (zbz zq2) : w.heap.size ≤ gb102)); have n5_ := zam ((by rw [hg]; exact Nat.ne_of_lt (blk_lt (g := gb101) (o := .cells #[.int .i64 a0_0, .int .i64 a0_1, .int .i64 a0_2, .int .i64 a0_3] 29 (0, 0)) zq0) : gb101 ≠ gb102)); have n6_ := zam ((by rw [hg]; exact Nat.ne_of_gt (blk_lt (g := gb101) (o := .cells #[.int .i64 a0_0, .int .i64 a0_1, .int .i64 a0_2, .int .i64 a0_3] 29 (0, 0)) zq0) : gb102 ≠ gb101)); clear BK101; clear HB; have BK101 := n0_; have HB := n1_; have BK102 := n2_; have GW102 := n3_; have GE102 := n4_; have NB101_102 := n5_; have NB102_101 := n6_; clear n0_ n1_ n2_ n3_ n4_ n5_ n6_; clear hb hbox hg) | ((with_reducible refine zgd (N := 4) rfl ?_); refine box_event ?hg (N := 4) ?hd (cs := #[.int .i64 0, .int .i64 0]) (t := 24) ?hr ?_; (case hd => rfl); (case hg => rfl); (case hr => first | (go_simp; done) | (go_simp; rfl)); intro gb103 hg w21 hbox hb; have n0_ := zam (zkb (g := gb101) (o := .cells #[.int .i64 a0_0, .int .i64 a0_1, .int .i64 a0_2, .int .i64 a0_3] 29 (0, 0)) zq0 hb); have n1_ := zam (zkb (g := gb102) (o := .cells #[.int .i64 a1_0, .int .i64 a1_1, .int .i64 a1_2, .int .i64 a1_3] 29 (0, 0)) zq4 hb); have n2_ := zam (zbt zq11 hb); have n3_ := zam (hbox); have n4_ := zam ((by rw [hg]; exact (zbz zq11) : w.heap.size ≤ gb103)); have n5_ := zam ((by rw [hg]; exact (zbz zq11) : w.heap.size ≤ gb103)); have n6_ := zam ((by rw [hg]; exact Nat.ne_of_lt (blk_lt (g := gb101) (o := .cells #[.int .i64 a0_0, .int .i64 a0_1, .int .i64 a0_2, .int .i64 a0_3] 29 (0, 0)) zq0) : gb101 ≠ gb103)); have n7_ := zam ((by rw [hg]; exact Nat.ne_of_gt (blk_lt (g := gb101) (o := .cells #[.int .i64 a0_0, .int .i64 a0_1, .int .i64 a0_2, .int .i64 a0_3] 29 (0, 0)) zq0) : gb103 ≠ gb101)); have n8_ := zam ((by rw [hg]; exact Nat.ne_of_lt (blk_lt (g := gb102) (o := .cells #[.int .i64 a1_0, .int .i64 a1_1, .int .i64 a1_2, .int .i64 a1_3] 29 (0, 0)) zq4) : gb102 ≠ gb103)); have n9_ := zam ((by rw [hg]; exact Nat.ne_of_gt (blk_lt (g := gb102) (o := .cells #[.int .i64 a1_0, .int .i64 a1_1, .int .i64 a1_2, .int .i64 a1_3] 29 (0, 0)) zq4) : gb103 ≠ gb102)); clear BK101; clear BK102; clear HB; have BK101 := n0_; have BK102 := n1_; have HB := n2_; have BK103 := n3_; have GW103 := n4_; have GE103 := n5_; have NB101_103 := n6_; have NB103_101 := n7_; have NB102_103 := n8_; have NB103_102 := n9_; clear n0_ n1_ n2_ n3_ n4_ n5_ n6_ n7_ n8_ n9_; clear hb hbox hg; have hnb22 := NB101_102.out; have hnc22 := NB102_101.out; have hnb23 := NB101_103.out; have hnc23 := NB103_101.out; have hcz24_0 : w21.cell? ⟨gb101, 0, none⟩ = some (.int .i64 a0_0) := (zkc BK101.out 0).trans rfl; have hcz24_1 : w21.cell? ⟨gb101, 1, none⟩ = some (.int .i64 a0_1) := (zkc BK101.out 1).trans rfl; have hcz24_2 : w21.cell? ⟨gb101, 2, none⟩ = some (.int .i64 a0_2) := (zkc BK101.out 2).trans rfl; have hcz24_3 : w21.cell? ⟨gb101, 3, none⟩ = some (.int .i64 a0_3) := (zkc BK101.out 3).trans rfl; have hfz24_0 := zkz BK101.out 0; have hfz24_1 := zkz BK101.out 1; have hfz24_2 := zkz BK101.out 2; have hfz24_3 := zkz BK101.out 3; have hnb25 := NB102_103.out; have hnc25 := NB103_102.out; have hcz26_0 : w21.cell? ⟨gb102, 0, none⟩ = some (.int .i64 a1_0) := (zkc BK102.out 0).trans rfl; have hcz26_1 : w21.cell? ⟨gb102, 1, none⟩ = some (.int .i64 a1_1) := (zkc BK102.out 1).trans rfl; have hcz26_2 : w21.cell? ⟨gb102, 2, none⟩ = some (.int .i64 a1_2) := (zkc BK102.out 2).trans rfl; have hcz26_3 : w21.cell? ⟨gb102, 3, none⟩ = some (.int .i64 a1_3) := (zkc BK102.out 3).trans rfl; have hfz26_0 := zkz BK102.out 0; have hfz26_1 := zkz BK102.out 1; have hfz26_2 := zkz BK102.out 2; have hfz26_3 := zkz BK102.out 3) | ((with_reducible refine zgc (f := 132) rfl ?_); refine goesL_ (some 12) rfl rfl Try.func132 (by kernel_rfl) rfl #[.agg #[.int .i64 a0_0, .int .i64 a0_1, .int .i64 a0_2, .int .i64 a0_3], .agg #[.int .i64 a1_0, .int .i64 a1_1, .int .i64 a1_2, .int .i64 a1_3]] rfl zq5 ?_; (with_reducible refine (bound_Square.calls k a0_0 a0_1 a0_2 a0_3 a1_0 a1_1 a1_2 a1_3 t104 t105 t106 _ A3.out).mono ?_); rintro e w27 ⟨rfl, hb⟩; refine ⟨_, rfl, ?_⟩; have n0_ := zam (zkb (g := gb101) (o := .cells #[.int .i64 a0_0, .int .i64 a0_1, .int .i64 a0_2, .int .i64 a0_3] 29 (0, 0)) zq0 hb); have n1_ := zam (zkb (g := gb102) (o := .cells #[.int .i64 a1_0, .int .i64 a1_1, .int .i64 a1_2, .int .i64 a1_3] 29 (0, 0)) zq4 hb); have n2_ := zam (zkb (g := gb103) (o := .cells #[.int .i64 0, .int .i64 0] 24 (0, 0)) zq6 hb); have n3_ := zam (zbt zq15 hb); clear BK101; clear BK102; clear BK103; clear HB; have BK101 := n0_; have BK102 := n1_; have BK103 := n2_; have HB := n3_; clear n0_ n1_ n2_ n3_; (try clear hb); (try clear hb2); (try clear hk); (try clear hi); have hcz28_0 : w27.cell? ⟨gb103, 0, none⟩ = some (.int .i64 0) := (zkc BK103.out 0).trans rfl; have hcz28_1 : w27.cell? ⟨gb103, 1, none⟩ = some (.int .i64 0) := (zkc BK103.out 1).trans rfl; have hfz28_0 := zkz BK103.out 0; have hfz28_1 := zkz BK103.out 1))
 refine bodyPost_ret (results_ct rfl _ _ gb103 24 #[.int .i64 0, .int .i64 0] (0, 0) _ rfl (by (with_reducible repeat (first | refine zkn ?_ _ | refine zkd ?_ | refine zka ?_ _)); refine blk_put (cs := #[.int .i64 0, .int .i64 0]) ?_ 1 _ rfl; (with_reducible repeat (first | refine zkn ?_ _ | refine zkd ?_ | refine zka ?_ _)); refine blk_put (cs := #[.int .i64 0, .int .i64 0]) ?_ 0 _ rfl; (with_reducible repeat (first | refine zkn ?_ _ | refine zkd ?_ | refine zka ?_ _)); exact BK103.out) Try.underlying24 rfl (by kernel_rfl)) rfl ?_
 exact ⟨by first | rfl | (simp [errW_none, errW_some] <;> rfl) | (simp [*, errW_none, errW_some] <;> rfl), by repeat (first | (with_reducible first | exact HB.out | apply zba | apply zbn | apply zb1 | refine zbs ?_ GE101.out | refine zbs ?_ GE102.out | refine zbs ?_ GE103.out) | exact HB.out)⟩
def isobathref01_ValidBox.f (a0_0 : Int) (a0_1 : Int) (a0_2 : Int) (a0_3 : Int) : Option (Bool) := (isobathref01_Valid.f a0_0 a0_1).bind fun t102 => (if t102 = true then ((isobathref01_Valid.f a0_2 a0_3).bind fun t103 => (if t103 = true then ((isobathref01_Within.f a0_0 (-268435456) 268435456).bind fun t104 => (if t104 = true then ((isobathref01_Within.f a0_1 (-268435456) 268435456).bind fun t105 => (if t105 = true then ((isobathref01_Within.f a0_2 (-268435456) 268435456).bind fun t106 => (if t106 = true then ((isobathref01_Within.f a0_3 (-268435456) 268435456).bind fun t107 => (some t107)) else (some false))) else (some false))) else (some false))) else (some false))) else (some false))
def isobathref01_gap.f (a0_0 : Int) (a0_1 : Int) (a1_0 : Int) (a1_1 : Int) : Option (Int × Int) := some (mx (mx 0 (wrap64 (a0_0 - a1_1))) (wrap64 (a1_0 - a0_1)), mx (wrap64 (a0_1 - a1_0)) (wrap64 (a1_1 - a0_0)))
def isobathref01_Square.j0 : Nat → Bool → Int → Int → Int → Int → Int → Int → Int → Int → Option (Int × Int × Int)
 | 0, _, _, _, _, _, _, _, _, _ => none
 | k + 1, x18, x102000, x102001, x102002, x102003, x103000, x103001, x103002, x103003 => if x18 = true then (some (0, 0, 2)) else ((isobathref01_gap.f x102000 x102001 x103000 x103001).bind fun bt105 => ((isobathref01_gap.f x102002 x102003 x103002 x103003).bind fun bt107 => (some (wrap64 ((wrap64 (bt105.1 * bt105.1)) + (wrap64 (bt107.1 * bt107.1))), wrap64 ((wrap64 (bt105.2 * bt105.2)) + (wrap64 (bt107.2 * bt107.2))), 0))))
def isobathref01_Square.f (k : Nat) (a0_0 : Int) (a0_1 : Int) (a0_2 : Int) (a0_3 : Int) (a1_0 : Int) (a1_1 : Int) (a1_2 : Int) (a1_3 : Int) : Option (Int × Int × Int) := (isobathref01_ValidBox.f a0_0 a0_1 a0_2 a0_3).bind fun t103 => (if t103 = true then ((isobathref01_ValidBox.f a1_0 a1_1 a1_2 a1_3).bind fun t104 => (isobathref01_Square.j0 k (!t104) a0_0 a0_1 a0_2 a0_3 a1_0 a1_1 a1_2 a1_3)) else (isobathref01_Square.j0 k true a0_0 a0_1 a0_2 a0_3 a1_0 a1_1 a1_2 a1_3))
def isobathref01_Distance.f (k : Nat) (a0_0 : Int) (a0_1 : Int) (a0_2 : Int) (a0_3 : Int) (a1_0 : Int) (a1_1 : Int) (a1_2 : Int) (a1_3 : Int) : Option (Int × Int × Int) := (isobathref01_Square.f k a0_0 a0_1 a0_2 a0_3 a1_0 a1_1 a1_2 a1_3).bind fun bt104 => (if bt104.2.2 = 0 then ((isobathref01_Sqrt.f k bt104.1).bind fun t107 => ((isobathref01_SqrtUp.f k bt104.2.1).bind fun t108 => (some (t107, t108, 0)))) else (some (0, 0, bt104.2.2)))
def Bo.ansB (x : Int) : Bool := decide (0 ≤ x) && decide (x ≤ 2)
def Bo.ans (l : List Int) : Int := if (l.length : Int) > 256 then 6 else if l.all Bo.ansB = true then 0 else 2
def Bo.all (l : List Int) : Int × Int := if Bo.ans l = 0 then (l.foldl min 2, 0) else (0, Bo.ans l)
def Bo.any (l : List Int) : Int × Int := if Bo.ans l = 0 then (l.foldl max 0, 0) else (0, Bo.ans l)
def Bo.vb (a0 a1 a2 a3 : Int) : Prop := Bo.v a0 a1 ∧ Bo.v a2 a3 ∧ -268435456 ≤ a0 ∧ a1 ≤ 268435456 ∧ -268435456 ≤ a2 ∧ a3 ≤ 268435456
instance Bo.vbDec (a0 a1 a2 a3 : Int) : Decidable (Bo.vb a0 a1 a2 a3) := inferInstanceAs (Decidable (_ ∧ _))
theorem Bo.vb_r (a0 a1 a2 a3 : Int) : isobathref01_ValidBox.f a0 a1 a2 a3 = some (decide (Bo.vb a0 a1 a2 a3)) := by
 unfold isobathref01_ValidBox.f
 rw [Bo.valid, Bo.valid]
 simp only [Bo.within, Option.bind_some, decide_eq_true_eq]
 by_cases h1 : Bo.v a0 a1
 ·by_cases h2 : Bo.v a2 a3
  ·rw [if_pos h1, if_pos h2]
   obtain ⟨p1, p2, p3⟩ := id h1
   obtain ⟨p4, p5, p6⟩ := id h2
   by_cases q1 : -268435456 ≤ a0 ∧ a0 ≤ 268435456
   ·rw [if_pos q1]
    by_cases q2 : -268435456 ≤ a1 ∧ a1 ≤ 268435456
    ·rw [if_pos q2]
     by_cases q3 : -268435456 ≤ a2 ∧ a2 ≤ 268435456
     ·rw [if_pos q3]
      congr 1
      refine decide_eq_decide.2 ⟨fun h => ⟨h1, h2, by omega, by omega, by omega, by omega⟩, fun h => ?_⟩
      have := h.2.2
      omega
     rw [if_neg q3, zdf]
     intro h
     have := h.2.2
     omega
    rw [if_neg q2, zdf]
    intro h
    have := h.2.2
    omega
   rw [if_neg q1, zdf]
   intro h
   have := h.2.2
   omega
  rw [if_pos h1, if_neg h2, zdf (fun h => h2 h.2.1)]
 rw [if_neg h1, zdf (fun h => h1 h.1)]
theorem Bo.vb_b (a0 a1 a2 a3 : Int) {k : Nat} (hk : 20 ≤ k) : bound_CheckBox.f k a0 a1 a2 a3 = some (if Bo.vb a0 a1 a2 a3 then 0 else 2) := by
 unfold bound_CheckBox.f bound_amount.f
 rw [Bo.check2 _ _ _ _ hk, Option.bind_some]
 simp only [Option.bind_some, Bo.mxE]
 by_cases h : Bo.v a0 a1 ∧ Bo.v a2 a3
 ·obtain ⟨⟨h1, h2, h3⟩, h4, h5, h6⟩ := id h
  rw [if_pos h, if_pos rfl, wrap_id (by omega) (by omega), wrap_id (by omega) (by omega), wrap_id (by omega) (by omega), wrap_id (by omega) (by omega)]
  by_cases q : max (max (max (max a0 (-a0)) (max a1 (-a1))) (max a2 (-a2))) (max a3 (-a3)) > 268435456
  ·rw [if_pos q, if_neg]
   intro h
   have := h.2.2
   omega
  rw [if_neg q, if_pos]
  exact ⟨h.1, h.2, by omega, by omega, by omega, by omega⟩
 rw [if_neg h, if_neg (by decide), if_neg (fun e => h ⟨e.1, e.2.1⟩)]
def Bo.near (a0 a1 b0 b1 : Int) : Int := max (max 0 (a0 - b1)) (b0 - a1)
def Bo.far (a0 a1 b0 b1 : Int) : Int := max (a1 - b0) (b1 - a0)
def Bo.sqLo (a0 a1 a2 a3 b0 b1 b2 b3 : Int) : Int := Bo.near a0 a1 b0 b1 * Bo.near a0 a1 b0 b1 + Bo.near a2 a3 b2 b3 * Bo.near a2 a3 b2 b3
def Bo.sqHi (a0 a1 a2 a3 b0 b1 b2 b3 : Int) : Int := Bo.far a0 a1 b0 b1 * Bo.far a0 a1 b0 b1 + Bo.far a2 a3 b2 b3 * Bo.far a2 a3 b2 b3
def Bo.square (a0 a1 a2 a3 b0 b1 b2 b3 : Int) : Int × Int × Int := if Bo.vb a0 a1 a2 a3 ∧ Bo.vb b0 b1 b2 b3 then (Bo.sqLo a0 a1 a2 a3 b0 b1 b2 b3, Bo.sqHi a0 a1 a2 a3 b0 b1 b2 b3, 0) else (0, 0, 2)
theorem Bo.sq_range {x : Int} (h0 : 0 ≤ x) (h1 : x ≤ 536870912) : 0 ≤ x * x ∧ x * x ≤ 288230376151711744 := by
 refine ⟨Int.mul_nonneg h0 h0, ?_⟩
 have := Int.mul_le_mul h1 h1 h0 (by omega)
 omega
theorem Bo.near_range {a0 a1 b0 b1 : Int} (h1 : a0 ≤ a1) (h2 : b0 ≤ b1) (h3 : -268435456 ≤ a0) (h4 : a1 ≤ 268435456) (h5 : -268435456 ≤ b0) (h6 : b1 ≤ 268435456) : 0 ≤ Bo.near a0 a1 b0 b1 ∧ Bo.near a0 a1 b0 b1 ≤ 536870912 := by
 unfold Bo.near
 omega
theorem Bo.far_range {a0 a1 b0 b1 : Int} (h1 : a0 ≤ a1) (h2 : b0 ≤ b1) (h3 : -268435456 ≤ a0) (h4 : a1 ≤ 268435456) (h5 : -268435456 ≤ b0) (h6 : b1 ≤ 268435456) : 0 ≤ Bo.far a0 a1 b0 b1 ∧ Bo.far a0 a1 b0 b1 ≤ 536870912 := by
 unfold Bo.far
 omega
theorem Bo.near_far {a0 a1 b0 b1 : Int} (h1 : a0 ≤ a1) (h2 : b0 ≤ b1) : Bo.near a0 a1 b0 b1 ≤ Bo.far a0 a1 b0 b1 := by
 unfold Bo.near Bo.far
 omega
theorem Bo.square_core {a0 a1 a2 a3 b0 b1 b2 b3 : Int} (ha : Bo.vb a0 a1 a2 a3) (hb : Bo.vb b0 b1 b2 b3) :
  (some (mx (mx 0 (wrap64 (a0 - b1))) (wrap64 (b0 - a1)), mx (wrap64 (a1 - b0)) (wrap64 (b1 - a0))) : Option (Int × Int)) = some (Bo.near a0 a1 b0 b1, Bo.far a0 a1 b0 b1) := by
 obtain ⟨⟨h1, -, -⟩, -, h3, h4, -, -⟩ := ha
 obtain ⟨⟨g1, -, -⟩, -, g3, g4, -, -⟩ := hb
 rw [Bo.mxE, Bo.mxE, Bo.mxE, wrap_id (by omega) (by omega), wrap_id (by omega) (by omega), wrap_id (by omega) (by omega), wrap_id (by omega) (by omega)]
 rfl
theorem Bo.vb_swap {a0 a1 a2 a3 : Int} (h : Bo.vb a0 a1 a2 a3) : Bo.vb a2 a3 a0 a1 := ⟨h.2.1, h.1, h.2.2.2.2.1, h.2.2.2.2.2, h.2.2.1, h.2.2.2.1⟩
theorem Bo.square_w {a0 a1 a2 a3 b0 b1 b2 b3 : Int} (ha : Bo.vb a0 a1 a2 a3) (hb : Bo.vb b0 b1 b2 b3) :
  wrap64 (wrap64 (Bo.near a0 a1 b0 b1 * Bo.near a0 a1 b0 b1) + wrap64 (Bo.near a2 a3 b2 b3 * Bo.near a2 a3 b2 b3)) = Bo.sqLo a0 a1 a2 a3 b0 b1 b2 b3 ∧ wrap64 (wrap64 (Bo.far a0 a1 b0 b1 * Bo.far a0 a1 b0 b1) + wrap64 (Bo.far a2 a3 b2 b3 * Bo.far a2 a3 b2 b3)) = Bo.sqHi a0 a1 a2 a3 b0 b1 b2 b3 ∧
  0 ≤ Bo.sqLo a0 a1 a2 a3 b0 b1 b2 b3 ∧ Bo.sqLo a0 a1 a2 a3 b0 b1 b2 b3 ≤ Bo.sqHi a0 a1 a2 a3 b0 b1 b2 b3 ∧ Bo.sqHi a0 a1 a2 a3 b0 b1 b2 b3 ≤ 576460752303423488 := by
 obtain ⟨⟨h1, -, -⟩, ⟨h2, -, -⟩, h3, h4, h5, h6⟩ := ha
 obtain ⟨⟨g1, -, -⟩, ⟨g2, -, -⟩, g3, g4, g5, g6⟩ := hb
 have n1 := Bo.near_range h1 g1 h3 h4 g3 g4
 have n2 := Bo.near_range h2 g2 h5 h6 g5 g6
 have f1 := Bo.far_range h1 g1 h3 h4 g3 g4
 have f2 := Bo.far_range h2 g2 h5 h6 g5 g6
 have m1 := Bo.near_far h1 g1
 have m2 := Bo.near_far h2 g2
 have q1 := Bo.sq_range n1.1 n1.2
 have q2 := Bo.sq_range n2.1 n2.2
 have q3 := Bo.sq_range f1.1 f1.2
 have q4 := Bo.sq_range f2.1 f2.2
 have q5 := Rt.sq_le n1.1 m1
 have q6 := Rt.sq_le n2.1 m2
 unfold Bo.sqLo Bo.sqHi
 refine ⟨?_, ?_, by omega, by omega, by omega⟩
 ·rw [wrap_id (n := Bo.near a0 a1 b0 b1 * Bo.near a0 a1 b0 b1) (by omega) (by omega), wrap_id (n := Bo.near a2 a3 b2 b3 * Bo.near a2 a3 b2 b3) (by omega) (by omega), wrap_id (by omega) (by omega)]
 rw [wrap_id (n := Bo.far a0 a1 b0 b1 * Bo.far a0 a1 b0 b1) (by omega) (by omega), wrap_id (n := Bo.far a2 a3 b2 b3 * Bo.far a2 a3 b2 b3) (by omega) (by omega), wrap_id (by omega) (by omega)]
theorem Bo.square_r (a0 a1 a2 a3 b0 b1 b2 b3 : Int) {k : Nat} (hk : 20 ≤ k) : isobathref01_Square.f k a0 a1 a2 a3 b0 b1 b2 b3 = some (Bo.square a0 a1 a2 a3 b0 b1 b2 b3) := by
 obtain ⟨k, rfl⟩ : ∃ m, k = m + 1 := ⟨k - 1, by omega⟩
 unfold isobathref01_Square.f Bo.square
 simp only [isobathref01_Square.j0, isobathref01_gap.f]
 rw [Bo.vb_r, Bo.vb_r, Option.bind_some, Option.bind_some]
 simp only [decide_eq_true_eq]
 by_cases ha : Bo.vb a0 a1 a2 a3
 ·by_cases hb : Bo.vb b0 b1 b2 b3
  ·have w := Bo.square_w ha hb
   rw [if_pos ha, zdt hb, if_neg (by simp), if_pos ⟨ha, hb⟩, Bo.square_core ha hb, Bo.square_core (Bo.vb_swap ha) (Bo.vb_swap hb)]
   simp only [Option.bind_some]
   rw [w.1, w.2.1]
  rw [if_pos ha, zdf hb, if_pos (by rfl), if_neg (fun h => hb h.2)]
 rw [if_neg ha, if_pos trivial, if_neg (fun h => ha h.1)]
theorem Bo.square_b (a0 a1 a2 a3 b0 b1 b2 b3 : Int) {k : Nat} (hk : 20 ≤ k) : bound_Square.f k a0 a1 a2 a3 b0 b1 b2 b3 = some (Bo.square a0 a1 a2 a3 b0 b1 b2 b3) := by
 unfold bound_Square.f Bo.square
 rw [Bo.vb_b _ _ _ _ hk, Bo.vb_b _ _ _ _ hk, Option.bind_some, Option.bind_some]
 obtain ⟨k, rfl⟩ : ∃ m, k = m + 1 := ⟨k - 1, by omega⟩
 simp only [bound_Square.j0, bound_apart.f]
 by_cases ha : Bo.vb a0 a1 a2 a3
 ·by_cases hb : Bo.vb b0 b1 b2 b3
  ·have w := Bo.square_w ha hb
   rw [if_pos ha, if_pos hb, if_pos rfl, if_neg (by simp), if_pos ⟨ha, hb⟩, Bo.square_core ha hb, Bo.square_core (Bo.vb_swap ha) (Bo.vb_swap hb)]
   simp only [Option.bind_some]
   rw [w.1, w.2.1]
  rw [if_pos ha, if_neg hb, if_pos rfl, if_pos (by rfl), if_neg (fun h => hb h.2)]
 rw [if_neg ha, if_neg (by decide), if_pos trivial, if_neg (fun h => ha h.1)]
def Bo.distance (a0 a1 a2 a3 b0 b1 b2 b3 : Int) : Int × Int × Int := if Bo.vb a0 a1 a2 a3 ∧ Bo.vb b0 b1 b2 b3 then (Rt.root (Bo.sqLo a0 a1 a2 a3 b0 b1 b2 b3), Rt.rootUp (Bo.sqHi a0 a1 a2 a3 b0 b1 b2 b3), 0) else (0, 0, 2)
theorem Bo.distance_b (a0 a1 a2 a3 b0 b1 b2 b3 : Int) {k : Nat} (hk : 20 ≤ k) : bound_Distance.f k a0 a1 a2 a3 b0 b1 b2 b3 = some (Bo.distance a0 a1 a2 a3 b0 b1 b2 b3) := by
 unfold bound_Distance.f Bo.distance
 rw [Bo.square_b _ _ _ _ _ _ _ _ hk, Option.bind_some]
 unfold Bo.square
 by_cases h : Bo.vb a0 a1 a2 a3 ∧ Bo.vb b0 b1 b2 b3
 ·have w := Bo.square_w h.1 h.2
  rw [if_pos h, if_pos h]
  simp only [if_true]
  rw [Bo.root_b (by omega) (by omega), Option.bind_some, Bo.rootUp_b (by omega) (by omega)]
  rfl
 rw [if_neg h, if_neg h]
 rfl
theorem Bo.distance_r (a0 a1 a2 a3 b0 b1 b2 b3 : Int) {k : Nat} (hk : 40 ≤ k) : isobathref01_Distance.f k a0 a1 a2 a3 b0 b1 b2 b3 = some (Bo.distance a0 a1 a2 a3 b0 b1 b2 b3) := by
 unfold isobathref01_Distance.f Bo.distance
 rw [Bo.square_r _ _ _ _ _ _ _ _ (by omega), Option.bind_some]
 unfold Bo.square
 by_cases h : Bo.vb a0 a1 a2 a3 ∧ Bo.vb b0 b1 b2 b3
 ·have w := Bo.square_w h.1 h.2
  rw [if_pos h, if_pos h]
  simp only [if_true]
  rw [Bo.sqrt_f (by omega) (by omega) hk, Option.bind_some, Bo.sqrtUp_f (by omega) (by omega) hk]
  rfl
 rw [if_neg h, if_neg h]
 rfl
mutual
def isobathref07_CheckNet.j0 : Nat → Bool → List (S29) → Int → Int → Option (Int)
 | 0, _, _, _, _ => none
 | k + 1, x31, x102000, x102001, x102002 => if x31 = true then (some 2) else (isobathref07_CheckNet.l0 k 0 x102000 x102001 x102002)
def isobathref07_CheckNet.l0 : Nat → Int → List (S29) → Int → Int → Option (Int)
 | 0, _, _, _, _ => none
 | k + 1, x3, x102000, x102001, x102002 => if x3 < (x102000.length : Int) then (if 0 ≤ x3 then ((isobathref01_ValidBox.f ((rd_T29 x102000 x3).f0.f0) ((rd_T29 x102000 x3).f0.f1) ((rd_T29 x102000 x3).f1.f0) ((rd_T29 x102000 x3).f1.f1)).bind fun t104 => (if t104 = true then (isobathref07_CheckNet.l0 k (wrap64 (x3 + 1)) x102000 x102001 x102002) else (some 2))) else (none)) else (some 0)
end
def isobathref07_CheckNet.f (k : Nat) (l0_0 : List (S29)) (a0_1 : Int) (a0_2 : Int) : Option (Int) := if (l0_0.length : Int) < 2 then (isobathref07_CheckNet.j0 k true l0_0 a0_1 a0_2) else (if (l0_0.length : Int) > 8 then (isobathref07_CheckNet.j0 k true l0_0 a0_1 a0_2) else ((isobathref01_Valid.f a0_1 a0_2).bind fun t102 => (if t102 = true then (if a0_1 < 1 then (isobathref07_CheckNet.j0 k true l0_0 a0_1 a0_2) else (isobathref07_CheckNet.j0 k (decide (a0_2 > 20000)) l0_0 a0_1 a0_2)) else (isobathref07_CheckNet.j0 k true l0_0 a0_1 a0_2))))
def isobathref07_travel.f (k : Nat) (a0_0 : Int) (a0_1 : Int) (a1_0 : Int) (a1_1 : Int) (a1_2 : Int) (a1_3 : Int) (a2_0 : Int) (a2_1 : Int) (a2_2 : Int) (a2_3 : Int) : Option (Int × Int) := (isobathref01_Distance.f k a1_0 a1_1 a1_2 a1_3 a2_0 a2_1 a2_2 a2_3).bind fun bt105 => ((isobathref01_Down.f k (wrap64 (1000 * bt105.1)) a0_1).bind fun t109 => ((isobathref01_Up.f k (wrap64 (1000 * bt105.2.1)) a0_0).bind fun t110 => (some (t109, t110))))
def sound_CheckNet_1.f (k : Nat) (a0_0 : Int) (a0_1 : Int) (a0_2 : Int) (a0_3 : Int) : Option (Bool) := (bound_CheckBox.f k a0_0 a0_1 a0_2 a0_3).bind fun t102 => (some (t102 != 0))
set_option maxHeartbeats 8000000 in
set_option maxRecDepth 100000 in
theorem sound_CheckNet_1.calls (k : Nat) (a0_0 : Int) (a0_1 : Int) (a0_2 : Int) (a0_3 : Int) (r : Bool) (w : World) (h : sound_CheckNet_1.f k a0_0 a0_1 a0_2 a0_3 = some r) :
  Calls Try.prog 98 #[.agg #[.int .i64 a0_0, .int .i64 a0_1, .int .i64 a0_2, .int .i64 a0_3]] w fun e w' => e = .returned (.bool r) ∧ Below w.heap.size w w' := by
 have hu29 := Try.underlying29
 have HB := zam (Below.refl w.heap.size w)
 have H : ((bound_CheckBox.f k a0_0 a0_1 a0_2 a0_3).bind fun t102 => (some (t102 != 0))) = some r := h
 clear h
 replace H := Option.bind_eq_some_iff.mp H
 obtain ⟨t102, A20, H⟩ := H
 replace H : (some (t102 != 0)) = some r := H
 have A2 := zam A20
 clear A20
 obtain rfl := zsi H
 go_enter Try.func98, Try.ntmps98
 go_wp2_with (first | ((with_reducible refine zgd (N := 1) rfl ?_); refine box_event ?hg (N := 1) ?hd (cs := #[.int .i64 a0_0, .int .i64 a0_1, .int .i64 a0_2, .int .i64 a0_3]) (t := 29) ?hr ?_; (case hd => rfl); (case hg => rfl); (case hr => first | (go_simp; done) | (go_simp; rfl)); intro gb101 hg w3 hbox hb; have n0_ := zam (zbt zq1 hb); have n1_ := zam (hbox); have n2_ := zam ((by rw [hg]; exact (zbz zq1) : w.heap.size ≤ gb101)); have n3_ := zam ((by rw [hg]; exact (zbz zq1) : w.heap.size ≤ gb101)); clear HB; have HB := n0_; have BK101 := n1_; have GW101 := n2_; have GE101 := n3_; clear n0_ n1_ n2_ n3_; clear hb hbox hg; have hcz4_0 : w3.cell? ⟨gb101, 0, none⟩ = some (.int .i64 a0_0) := (zkc BK101.out 0).trans rfl; have hcz4_1 : w3.cell? ⟨gb101, 1, none⟩ = some (.int .i64 a0_1) := (zkc BK101.out 1).trans rfl; have hcz4_2 : w3.cell? ⟨gb101, 2, none⟩ = some (.int .i64 a0_2) := (zkc BK101.out 2).trans rfl; have hcz4_3 : w3.cell? ⟨gb101, 3, none⟩ = some (.int .i64 a0_3) := (zkc BK101.out 3).trans rfl; have hfz4_0 := zkz BK101.out 0; have hfz4_1 := zkz BK101.out 1; have hfz4_2 := zkz BK101.out 2; have hfz4_3 := zkz BK101.out 3) | ((with_reducible refine zgc (f := 79) rfl ?_); refine goesL_ (some 4) rfl rfl Try.func79 (by kernel_rfl) rfl #[.agg #[.int .i64 a0_0, .int .i64 a0_1, .int .i64 a0_2, .int .i64 a0_3]] rfl zq5 ?_; (with_reducible refine (bound_CheckBox.calls k a0_0 a0_1 a0_2 a0_3 t102 _ A2.out).mono ?_); rintro e w5 ⟨rfl, hb⟩; refine ⟨_, rfl, ?_⟩; have n0_ := zam (zkb (g := gb101) (o := .cells #[.int .i64 a0_0, .int .i64 a0_1, .int .i64 a0_2, .int .i64 a0_3] 29 (0, 0)) zq0 hb); have n1_ := zam (zbt zq2 hb); clear BK101; clear HB; have BK101 := n0_; have HB := n1_; clear n0_ n1_; (try clear hb); (try clear hb2); (try clear hk); (try clear hi)))
 go_ret
 exact ⟨by first | rfl | (simp [errW_none, errW_some] <;> rfl) | (simp [*, errW_none, errW_some] <;> rfl), by repeat (first | (with_reducible first | exact HB.out | apply zba | apply zbn | apply zb1 | refine zbs ?_ GE101.out) | exact HB.out)⟩
def slices_IndexFunc_Box_sound_CheckNet_1.l0 : Nat → List (S29) → Int → Int → Option (Int)
 | 0, _, _, _ => none
 | k + 1, x0, x7, x8 => if x8 < x7 then (if 0 ≤ x8 then (if x8 < (x0.length : Int) then ((sound_CheckNet_1.f k ((rd_T29 x0 x8).f0.f0) ((rd_T29 x0 x8).f0.f1) ((rd_T29 x0 x8).f1.f0) ((rd_T29 x0 x8).f1.f1)).bind fun t102 => (if t102 = true then (some x8) else (slices_IndexFunc_Box_sound_CheckNet_1.l0 k x0 x7 (wrap64 (x8 + 1))))) else (none)) else (none)) else (some (-1))
def slices_IndexFunc_Box_sound_CheckNet_1.f (k : Nat) (l0 : List (S29))  : Option (Int) := slices_IndexFunc_Box_sound_CheckNet_1.l0 k l0 (l0.length : Int) 0
set_option maxHeartbeats 8000000 in
set_option maxRecDepth 100000 in
theorem slices_IndexFunc_Box_sound_CheckNet_1.calls (k : Nat) (A0 : Option Addr) (c0 : Nat) (l0 : List (S29))  (r : Int) (w : World) (hr0 : Kd.C k29 w A0 l0.length l0) (hc0 : l0.length ≤ c0) (h : slices_IndexFunc_Box_sound_CheckNet_1.f k l0 = some r) :
  Calls Try.prog 124 #[.slice A0 l0.length c0, .func (.func 98) #[] #[]] w fun e w' => e = .returned (.int .i64 r) ∧ Below w.heap.size w w' := by
 have hu29 := Try.underlying29
 have HR0 := zam hr0
 have HC0 := zam hc0
 clear hr0 hc0
 have HB := zam (Below.refl w.heap.size w)
 have H : (slices_IndexFunc_Box_sound_CheckNet_1.l0 k l0 (l0.length : Int) 0) = some r := h
 clear h
 have H' := zam H
 clear H
 go_enter Try.func124, Try.ntmps124
 go_wp2
 go_loopg [8] k (fun kq v8 w' => ∃ (x8_1 : Int), v8 = .int .i64 x8_1 ∧ Aside0 (slices_IndexFunc_Box_sound_CheckNet_1.l0 kq l0 (l0.length : Int) x8_1 = some r) ∧ Aside0 (kq ≤ k) ∧ Aside0 (Below w.heap.size w w'))
 case atStart => exact ⟨(0), zq10, H', ⟨Nat.le_refl _⟩, ⟨by repeat (first | (with_reducible first | exact HB.out | apply zba | apply zbn | apply zb1) | exact HB.out)⟩⟩
 case round =>
  clear H'
  try clear p2
  obtain ⟨x8_1, rfl, HA, HK1, HB⟩ := hrel
  cases gk with
  | zero => exact absurd HA.out (by simp [slices_IndexFunc_Box_sound_CheckNet_1.l0])
  | succ k1 =>
   have H := HA.out
   clear HA
   simp only [slices_IndexFunc_Box_sound_CheckNet_1.l0] at H
   by_cases c3 : x8_1 < (l0.length : Int)
   ·rw [if_pos c3] at H
    have c3b0 : decide (x8_1 < (l0.length : Int)) = true := zdt c3
    clear c3
    by_cases c4 : 0 ≤ x8_1
    ·rw [if_pos c4] at H
     have c4b0 : decide (0 ≤ x8_1) = true := zdt c4
     clear c4
     by_cases c5 : x8_1 < (l0.length : Int)
     ·rw [if_pos c5] at H
      have c5b0 : decide (x8_1 < (l0.length : Int)) = true := zdt c5
      clear c5
      replace H := Option.bind_eq_some_iff.mp H
      obtain ⟨t102, A60, H⟩ := H
      replace H : (if t102 = true then (some x8_1) else (slices_IndexFunc_Box_sound_CheckNet_1.l0 k1 l0 (l0.length : Int) (wrap64 (x8_1 + 1)))) = some r := H
      have A6 := zam A60
      clear A60
      by_cases c7 : t102 = true
      ·subst c7
       have H1 : (some x8_1) = some r := by rw [if_pos rfl] at H; exact H
       clear H
       have H := H1
       clear H1
       obtain rfl := zsi H
       have p101 : 0 ≤ (x8_1 : Int) := zod zq9
       have q101 : x8_1 < (l0.length : Int) := zod zq9
       obtain ⟨ad101, e101, hx101_0, hx101_1, hx101_2, hx101_3⟩ := at_T29 HR0.out x8_1 p101 q101
       cases e101
       replace hx101_0 := (HB.out.cell (zwb w _ hx101_0)).trans hx101_0
       replace hx101_1 := (HB.out.cell (zwb w _ hx101_1)).trans hx101_1
       replace hx101_2 := (HB.out.cell (zwb w _ hx101_2)).trans hx101_2
       replace hx101_3 := (HB.out.cell (zwb w _ hx101_3)).trans hx101_3
       replace p101 := eq_true p101
       replace q101 := eq_true q101
       go_wp2_with (first | (go_at_call 98; (with_reducible refine (sound_CheckNet_1.calls k1 ((rd_T29 l0 x8_1).f0.f0) ((rd_T29 l0 x8_1).f0.f1) ((rd_T29 l0 x8_1).f1.f0) ((rd_T29 l0 x8_1).f1.f1) true _ A6.out).mono ?_); rintro e w8 ⟨rfl, hb⟩; have n0_ := zam (zbt zq1 hb); clear HB; have HB := n0_; clear n0_; (try clear hb); (try clear hb2); (try clear hk); (try clear hi)))
       go_ret
       exact ⟨by first | rfl | (simp [errW_none, errW_some] <;> rfl) | (simp [*, errW_none, errW_some] <;> rfl), by repeat (first | (with_reducible first | exact HB.out | apply zba | apply zbn | apply zb1) | exact HB.out)⟩
      replace c7 := Bool.eq_false_iff.mpr c7
      subst c7
      have H1 : (slices_IndexFunc_Box_sound_CheckNet_1.l0 k1 l0 (l0.length : Int) (wrap64 (x8_1 + 1))) = some r := by rw [if_neg (show ¬ (false = true) by decide)] at H; exact H
      clear H
      have H := H1
      clear H1
      have H' := zam H
      clear H
      have p101 : 0 ≤ (x8_1 : Int) := zod zq9
      have q101 : x8_1 < (l0.length : Int) := zod zq9
      obtain ⟨ad101, e101, hx101_0, hx101_1, hx101_2, hx101_3⟩ := at_T29 HR0.out x8_1 p101 q101
      cases e101
      replace hx101_0 := (HB.out.cell (zwb w _ hx101_0)).trans hx101_0
      replace hx101_1 := (HB.out.cell (zwb w _ hx101_1)).trans hx101_1
      replace hx101_2 := (HB.out.cell (zwb w _ hx101_2)).trans hx101_2
      replace hx101_3 := (HB.out.cell (zwb w _ hx101_3)).trans hx101_3
      replace p101 := eq_true p101
      replace q101 := eq_true q101
      go_wp2_with (first | (go_at_call 98; (with_reducible refine (sound_CheckNet_1.calls k1 ((rd_T29 l0 x8_1).f0.f0) ((rd_T29 l0 x8_1).f0.f1) ((rd_T29 l0 x8_1).f1.f0) ((rd_T29 l0 x8_1).f1.f1) false _ A6.out).mono ?_); rintro e w9 ⟨rfl, hb⟩; have n0_ := zam (zbt zq1 hb); clear HB; have HB := n0_; clear n0_; (try clear hb); (try clear hb2); (try clear hk); (try clear hi)))
      go_roundg k1
      case measure => have := HK1.out; omega
      case rel => exact ⟨(wrap64 (x8_1 + 1)), zq10, H', ⟨by have := HK1.out; omega⟩, ⟨by repeat (first | (with_reducible first | exact HB.out | apply zba | apply zbn | apply zb1) | exact HB.out)⟩⟩
     rw [if_neg c5] at H
     exact absurd H (by simp)
    rw [if_neg c4] at H
    exact absurd H (by simp)
   rw [if_neg c3] at H
   have c3b0 : decide (x8_1 < (l0.length : Int)) = false := zdf c3
   clear c3
   obtain rfl := zsi H
   go_wp2
   go_ret
   exact ⟨by first | rfl | (simp [errW_none, errW_some] <;> rfl) | (simp [*, errW_none, errW_some] <;> rfl), by repeat (first | (with_reducible first | exact HB.out | apply zba | apply zbn | apply zb1) | exact HB.out)⟩
def slices_ContainsFunc_Box_sound_CheckNet_1.f (k : Nat) (l0 : List (S29))  : Option (Bool) := (slices_IndexFunc_Box_sound_CheckNet_1.f k l0).bind fun t101 => (some (decide (t101 ≥ 0)))
set_option maxHeartbeats 8000000 in
set_option maxRecDepth 100000 in
theorem slices_ContainsFunc_Box_sound_CheckNet_1.calls (k : Nat) (A0 : Option Addr) (c0 : Nat) (l0 : List (S29))  (r : Bool) (w : World) (hr0 : Kd.C k29 w A0 l0.length l0) (hc0 : l0.length ≤ c0) (h : slices_ContainsFunc_Box_sound_CheckNet_1.f k l0 = some r) :
  Calls Try.prog 97 #[.slice A0 l0.length c0, .func (.func 98) #[] #[]] w fun e w' => e = .returned (.bool r) ∧ Below w.heap.size w w' := by
 have HR0 := zam hr0
 have HC0 := zam hc0
 clear hr0 hc0
 have HB := zam (Below.refl w.heap.size w)
 have H : ((slices_IndexFunc_Box_sound_CheckNet_1.f k l0).bind fun t101 => (some (decide (t101 ≥ 0)))) = some r := h
 clear h
 replace H := Option.bind_eq_some_iff.mp H
 obtain ⟨t101, A30, H⟩ := H
 replace H : (some (decide (t101 ≥ 0))) = some r := H
 have A3 := zam A30
 clear A30
 obtain rfl := zsi H
 go_enter Try.func97, Try.ntmps97
 go_wp2_with (first | ((with_reducible refine zgc (f := 124) rfl ?_); refine goesL_ (some 7) rfl rfl Try.func124 (by kernel_rfl) rfl #[.slice A0 l0.length c0, .func (.func 98) #[] #[]] rfl zq5 ?_; (with_reducible refine (slices_IndexFunc_Box_sound_CheckNet_1.calls k _ _ l0  t101 _ ?side1 ?side2 A3.out).mono ?_); (case side1 => repeat (first | exact HR0.out | (with_reducible refine Kd.C_alloc ?_ _) | (with_reducible refine Kd.C_drewN ?_ _) | (with_reducible refine Kd.C_drew ?_))); (case side2 => exact HC0.out); rintro e w4 ⟨rfl, hb⟩; refine ⟨_, rfl, ?_⟩; have n0_ := zam (zbt zq1 hb); clear HB; have HB := n0_; clear n0_; (try clear hb); (try clear hb2); (try clear hk); (try clear hi)))
 go_ret
 exact ⟨by first | rfl | (simp [errW_none, errW_some] <;> rfl) | (simp [*, errW_none, errW_some] <;> rfl), by repeat (first | (with_reducible first | exact HB.out | apply zba | apply zbn | apply zb1) | exact HB.out)⟩
end Go.Proofs.Ytaheamdoldiojaa.P
