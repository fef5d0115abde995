/- wherever an object drifts without being found, the cell where it is after each hour is one of Where, or it has left the area, which is told. (as MooringSearches) Part 6 of 7. -/
-- Put together by wip/tools/shake.py, a program of this work: out of the words that the kit's print tool (print.sh) writes for a claim and what wip/tools/xprint.py prints, those that this claim reaches, and this work's own texts.
import Derived.Deep.Slices
import Derived.OpenShut
import Derived.Test.YtebcmhajbjkojaaRows
import Derived.WalkKit
import Derived.ProofKit
import Derived.ShutString
import Derived.ChangeOld
import Derived.Below
import Derived.SizedLaws
import Derived.Carry
import Derived.KernelRfl
import Derived.Test.YtebcmhajbjkojaaKMooringWays4
namespace Go.Proofs.Ytebcmhajbjkojaa.P
open Go.RowKit Go.Proofs.YtebcmhajbjkojaaW.PrintWords Go.Proofs.YtebcmhajbjkojaaW.PrintLast Go.Proofs.YtebcmhajbjkojaaW.PrintMore
attribute [local go_sem] max2_int min2_int max_two min_two max_three min_three max_four min_four   -- for this text's walks alone
set_option linter.unusedVariables false
set_option linter.unusedSimpArgs false
mutual
def isobathlaw02_MooringWays.j0 : Nat → List Int → List (S79) → Int → List (S80) → Bool → Int → Int → Option (Bool)
 | 0, _, _, _, _, _, _, _ => none
 | k + 1, x1, x2, x3, x4, x41, x102000, x102001 => if x41 = true then ((isobathlaw02_fine.f k).bind fun t103 => (some t103)) else ((isobathref02_Where.f k x102000 x102001 x1 x2).bind fun bt104 => (if bt104.2.2 = 0 then (if (x1.length : Int) = 0 then (none) else (if 0 ≤ (Int.tmod (wrap64 (x3)) (x1.length : Int)) then (if (Int.tmod (wrap64 (x3)) (x1.length : Int)) < (x1.length : Int) then (isobathlaw02_MooringWays.l0 k x1 x2 x4 (rd x1 (Int.tmod (wrap64 (x3)) (x1.length : Int))) 0 x102000 x102001) else (none)) else (none))) else ((isobathlaw02_fine.f k).bind fun t109 => (some t109))))
def isobathlaw02_MooringWays.l0 : Nat → List Int → List (S79) → List (S80) → Int → Int → Int → Int → Option (Bool)
 | 0, _, _, _, _, _, _, _ => none
 | k + 1, x1, x2, x4, x14, x15, x102000, x102001 => if x15 ≤ (x2.length : Int) then (if 0 ≤ x15 then ((mooring_Where.f k x102000 x102001 x1 (x2.take (x15 : Int).toNat)).bind fun bt116 => (if bt116.2.2 = 0 then (isobathlaw02_MooringWays.l1 k x1 x2 x4 x14 x15 bt116.1 false 0 x102000 x102001) else (none))) else (none)) else ((isobathlaw02_fine.f k).bind fun t111 => (some t111))
def isobathlaw02_MooringWays.l1 : Nat → List Int → List (S79) → List (S80) → Int → Int → List Int → Bool → Int → Int → Int → Option (Bool)
 | 0, _, _, _, _, _, _, _, _, _, _ => none
 | k + 1, x1, x2, x4, x14, x15, x16, x19, x20, x102000, x102001 => if x20 < (x16.length : Int) then (if x19 = true then (isobathlaw02_MooringWays.l1 k x1 x2 x4 x14 x15 x16 true (wrap64 (x20 + 1)) x102000 x102001) else (if 0 ≤ x20 then (isobathlaw02_MooringWays.l1 k x1 x2 x4 x14 x15 x16 ((rd x16 x20) == x14) (wrap64 (x20 + 1)) x102000 x102001) else (none))) else (if x19 = true then (if x15 = (x2.length : Int) then ((isobathlaw02_fine.f k).bind fun t122 => (some t122)) else (if 0 ≤ x15 then (if x15 < (x2.length : Int) then (if x15 < (x4.length : Int) then (isobathlaw02_MooringWays.j3 k x1 x2 x4 x14 x15 x102000 x102001 ((rd_T79 x2 x15).f0.f0) ((rd_T79 x2 x15).f0.f1) ((rd_T79 x2 x15).f1.f0) ((rd_T79 x2 x15).f1.f1) ((rd_T79 x2 x15).f2) ((rd_T80 x4 x15).f0) ((rd_T80 x4 x15).f1)) else (isobathlaw02_MooringWays.j3 k x1 x2 x4 x14 x15 x102000 x102001 ((rd_T79 x2 x15).f0.f0) ((rd_T79 x2 x15).f0.f1) ((rd_T79 x2 x15).f1.f0) ((rd_T79 x2 x15).f1.f1) ((rd_T79 x2 x15).f2) 0 0)) else (none)) else (none))) else (none))
def isobathlaw02_MooringWays.j3 : Nat → List Int → List (S79) → List (S80) → Int → Int → Int → Int → Int → Int → Int → Int → List Int → Int → Int → Option (Bool)
 | 0, _, _, _, _, _, _, _, _, _, _, _, _, _, _ => none
 | k + 1, x1, x2, x4, x14, x15, x102000, x102001, x125000, x125001, x125002, x125003, x125004, x126000, x126001 => if x102000 = 0 then (none) else (if (wrap64 ((wrap64 (x125001 - x125000)) + 1)) = 0 then (none) else (if (wrap64 ((wrap64 (x125003 - x125002)) + 1)) = 0 then (none) else (if (wrap64 ((wrap64 ((Int.tmod x14 x102000) + x125000)) + (Int.tmod (wrap64 (x126000)) (wrap64 ((wrap64 (x125001 - x125000)) + 1))))) < 0 then (isobathlaw02_MooringWays.j4 k x1 x2 x4 x15 (wrap64 ((wrap64 ((Int.tmod x14 x102000) + x125000)) + (Int.tmod (wrap64 (x126000)) (wrap64 ((wrap64 (x125001 - x125000)) + 1))))) (wrap64 ((wrap64 ((wrap64 (Int.tdiv x14 x102000)) + x125002)) + (Int.tmod (wrap64 (x126001)) (wrap64 ((wrap64 (x125003 - x125002)) + 1))))) true x102000 x102001 x125000 x125001 x125002 x125003 x125004) else (if (wrap64 ((wrap64 ((Int.tmod x14 x102000) + x125000)) + (Int.tmod (wrap64 (x126000)) (wrap64 ((wrap64 (x125001 - x125000)) + 1))))) ≥ x102000 then (isobathlaw02_MooringWays.j4 k x1 x2 x4 x15 (wrap64 ((wrap64 ((Int.tmod x14 x102000) + x125000)) + (Int.tmod (wrap64 (x126000)) (wrap64 ((wrap64 (x125001 - x125000)) + 1))))) (wrap64 ((wrap64 ((wrap64 (Int.tdiv x14 x102000)) + x125002)) + (Int.tmod (wrap64 (x126001)) (wrap64 ((wrap64 (x125003 - x125002)) + 1))))) true x102000 x102001 x125000 x125001 x125002 x125003 x125004) else (if (wrap64 ((wrap64 ((wrap64 (Int.tdiv x14 x102000)) + x125002)) + (Int.tmod (wrap64 (x126001)) (wrap64 ((wrap64 (x125003 - x125002)) + 1))))) < 0 then (isobathlaw02_MooringWays.j4 k x1 x2 x4 x15 (wrap64 ((wrap64 ((Int.tmod x14 x102000) + x125000)) + (Int.tmod (wrap64 (x126000)) (wrap64 ((wrap64 (x125001 - x125000)) + 1))))) (wrap64 ((wrap64 ((wrap64 (Int.tdiv x14 x102000)) + x125002)) + (Int.tmod (wrap64 (x126001)) (wrap64 ((wrap64 (x125003 - x125002)) + 1))))) true x102000 x102001 x125000 x125001 x125002 x125003 x125004) else (isobathlaw02_MooringWays.j4 k x1 x2 x4 x15 (wrap64 ((wrap64 ((Int.tmod x14 x102000) + x125000)) + (Int.tmod (wrap64 (x126000)) (wrap64 ((wrap64 (x125001 - x125000)) + 1))))) (wrap64 ((wrap64 ((wrap64 (Int.tdiv x14 x102000)) + x125002)) + (Int.tmod (wrap64 (x126001)) (wrap64 ((wrap64 (x125003 - x125002)) + 1))))) (decide ((wrap64 ((wrap64 ((wrap64 (Int.tdiv x14 x102000)) + x125002)) + (Int.tmod (wrap64 (x126001)) (wrap64 ((wrap64 (x125003 - x125002)) + 1))))) ≥ x102001)) x102000 x102001 x125000 x125001 x125002 x125003 x125004))))))
def isobathlaw02_MooringWays.j4 : Nat → List Int → List (S79) → List (S80) → Int → Int → Int → Bool → Int → Int → Int → Int → Int → Int → List Int → Option (Bool)
 | 0, _, _, _, _, _, _, _, _, _, _, _, _, _, _ => none
 | k + 1, x1, x2, x4, x15, x23, x24, x173, x102000, x102001, x125000, x125001, x125002, x125003, x125004 => if x173 = true then (if 0 ≤ (wrap64 (x15 + 1)) then (if (wrap64 (x15 + 1)) ≤ (x2.length : Int) then ((mooring_Where.f k x102000 x102001 x1 (x2.take ((wrap64 (x15 + 1)) : Int).toNat)).bind fun bt131 => (if bt131.2.2 = 0 then (if bt131.2.1 = true then ((isobathlaw02_fine.f k).bind fun t136 => (some t136)) else (none)) else (none))) else (none)) else (none)) else (isobathlaw02_MooringWays.l2 k x1 x2 x4 (wrap64 ((wrap64 (x24 * x102000)) + x23)) x15 0 x102000 x102001 x125000 x125001 x125002 x125003 x125004)
def isobathlaw02_MooringWays.l2 : Nat → List Int → List (S79) → List (S80) → Int → Int → Int → Int → Int → Int → Int → Int → Int → List Int → Option (Bool)
 | 0, _, _, _, _, _, _, _, _, _, _, _, _, _ => none
 | k + 1, x1, x2, x4, x14, x15, x28, x102000, x102001, x125000, x125001, x125002, x125003, x125004 => if x28 < (x125004.length : Int) then (if 0 ≤ x28 then (if (rd x125004 x28) = x14 then ((isobathlaw02_fine.f k).bind fun t138 => (some t138)) else (isobathlaw02_MooringWays.l2 k x1 x2 x4 x14 x15 (wrap64 (x28 + 1)) x102000 x102001 x125000 x125001 x125002 x125003 x125004)) else (none)) else (isobathlaw02_MooringWays.l0 k x1 x2 x4 x14 (wrap64 (x15 + 1)) x102000 x102001)
end
def isobathlaw02_MooringWays.f (k : Nat) (a0_0 : Int) (a0_1 : Int) (l1 : List Int) (l2 : List (S79)) (a3 : Int) (l4 : List (S80)) : Option (Bool) := (isobathlaw02_wide.f k l1 l2).bind fun t102 => (if t102 = true then (isobathlaw02_MooringWays.j0 k l1 l2 a3 l4 true a0_0 a0_1) else (if (l2.length : Int) > 8 then (isobathlaw02_MooringWays.j0 k l1 l2 a3 l4 true a0_0 a0_1) else (isobathlaw02_MooringWays.j0 k l1 l2 a3 l4 ((l1.length : Int) == 0) a0_0 a0_1)))
def isobathlaw02_MooringWays.T10 : Bool × List (List Nat × List Nat) := (true, [([], []), ([], []), ([], []), ([], []), ([2, 3], [2, 3]), ([0, 1, 4], [0, 1, 4]), ([5], [5]), ([6], [6]), ([6], [6]), ([6], [6]), ([7, 5, 0, 1, 2, 3, 4, 5, 6, 7], [7]), ([8, 10, 0, 1, 2, 3, 4, 5, 6, 7, 8, 10], [8]), ([9, 11, 0, 1, 2, 3, 4, 5, 6, 7, 8, 9, 10, 11], [9])])
def isobathlaw02_MooringWays.B10 : List Nat := [0, 0, 0, 0, 12, 31, 63, 127, 127, 127, 255, 1535, 4095]
theorem isobathlaw02_MooringWays.tab10 : rtab .any (opsOf Try.f11 10) = isobathlaw02_MooringWays.T10 := by kernel_rfl
theorem isobathlaw02_MooringWays.bits10 : waitsOk isobathlaw02_MooringWays.T10.2 isobathlaw02_MooringWays.B10 = true := by kernel_rfl
def isobathlaw02_MooringWays.T25 : Bool × List (List Nat × List Nat) := (true, [([], []), ([], []), ([1], [1]), ([0, 2], [0, 2]), ([], []), ([4], [4]), ([5], [5]), ([3, 6], [3, 6]), ([], []), ([8], [8]), ([9], [9]), ([], []), ([11], [11]), ([12], [12]), ([], []), ([14], [14]), ([15], [15]), ([13, 16], [13, 16]), ([17], [17]), ([10, 18], [10, 18]), ([7, 19], [7, 19]), ([20, 0, 1, 2, 3, 4, 5, 6, 7, 8, 9, 10, 11, 12, 13, 14, 15, 16, 17, 18, 19, 20], [20])])
def isobathlaw02_MooringWays.B25 : List Nat := [0, 0, 2, 7, 0, 16, 48, 127, 0, 256, 768, 0, 2048, 6144, 0, 16384, 49152, 129024, 260096, 524032, 1048575, 2097151]
theorem isobathlaw02_MooringWays.tab25 : rtab .any (opsOf Try.f11 25) = isobathlaw02_MooringWays.T25 := by kernel_rfl
theorem isobathlaw02_MooringWays.bits25 : waitsOk isobathlaw02_MooringWays.T25.2 isobathlaw02_MooringWays.B25 = true := by kernel_rfl
def isobathlaw02_MooringWays.T26 : Bool × List (List Nat × List Nat) := (true, [([], []), ([], []), ([1], [1]), ([0, 2], [0, 2]), ([], []), ([4], [4]), ([5], [5]), ([3, 6], [3, 6]), ([], []), ([8], [8]), ([9], [9]), ([], []), ([11], [11]), ([12], [12]), ([], []), ([14], [14]), ([15], [15]), ([13, 16], [13, 16]), ([17], [17]), ([10, 18], [10, 18]), ([7, 19], [7, 19]), ([20, 0, 1, 2, 3, 4, 5, 6, 7, 8, 9, 10, 11, 12, 13, 14, 15, 16, 17, 18, 19, 20], [20])])
def isobathlaw02_MooringWays.B26 : List Nat := [0, 0, 2, 7, 0, 16, 48, 127, 0, 256, 768, 0, 2048, 6144, 0, 16384, 49152, 129024, 260096, 524032, 1048575, 2097151]
theorem isobathlaw02_MooringWays.tab26 : rtab .any (opsOf Try.f11 26) = isobathlaw02_MooringWays.T26 := by kernel_rfl
theorem isobathlaw02_MooringWays.bits26 : waitsOk isobathlaw02_MooringWays.T26.2 isobathlaw02_MooringWays.B26 = true := by kernel_rfl
def isobathlaw02_MooringWays.T28 : Bool × List (List Nat × List Nat) := (true, [([], []), ([], []), ([], []), ([], []), ([3], [3]), ([2, 4], [2, 4]), ([0, 1, 5], [0, 1, 5]), ([6], [6]), ([7], [7]), ([7], [7]), ([7], [7]), ([8, 6, 0, 1, 2, 3, 4, 5, 6, 7, 8], [8]), ([9, 11, 0, 1, 2, 3, 4, 5, 6, 7, 8, 9, 11], [9]), ([10, 12, 0, 1, 2, 3, 4, 5, 6, 7, 8, 9, 10, 11, 12], [10])])
def isobathlaw02_MooringWays.B28 : List Nat := [0, 0, 0, 0, 8, 28, 63, 127, 255, 255, 255, 511, 3071, 8191]
theorem isobathlaw02_MooringWays.tab28 : rtab .any (opsOf Try.f11 28) = isobathlaw02_MooringWays.T28 := by kernel_rfl
theorem isobathlaw02_MooringWays.bits28 : waitsOk isobathlaw02_MooringWays.T28.2 isobathlaw02_MooringWays.B28 = true := by kernel_rfl
set_option maxHeartbeats 8000000 in
set_option maxRecDepth 100000 in
theorem isobathlaw02_MooringWays.calls (k : Nat) (a0_0 : Int) (a0_1 : Int) (A1 : Option Addr) (c1 : Nat) (l1 : List Int) (A2 : Option Addr) (c2 : Nat) (l2 : List (S79)) (a3 : Int) (A4 : Option Addr) (c4 : Nat) (l4 : List (S80)) (r : Bool) (w : World) (hr1 : Kd.C (Kd.int .i64) w A1 l1.length l1) (hc1 : l1.length ≤ c1) (hr2 : Kd.C k79 w A2 l2.length l2) (hc2 : l2.length ≤ c2) (hr4 : Kd.C k80 w A4 l4.length l4) (hc4 : l4.length ≤ c4) (h : isobathlaw02_MooringWays.f k a0_0 a0_1 l1 l2 a3 l4 = some r) :
  Calls Try.prog 11 #[.agg #[.int .i64 a0_0, .int .i64 a0_1], .slice A1 l1.length c1, .slice A2 l2.length c2, .int .u16 a3, .slice A4 l4.length c4] w fun e w' => e = .returned (.bool r) ∧ Below w.heap.size w w' := by
 have hu72 := Try.underlying72
 have hu79 := Try.underlying79
 have hu80 := Try.underlying80
 have HR1 := zam hr1
 have HC1 := zam hc1
 clear hr1 hc1
 have HR2 := zam hr2
 have HC2 := zam hc2
 clear hr2 hc2
 have HR4 := zam hr4
 have HC4 := zam hc4
 clear hr4 hc4
 have HB := zam (Below.refl w.heap.size w)
 have H : ((isobathlaw02_wide.f k l1 l2).bind fun t102 => (if t102 = true then (isobathlaw02_MooringWays.j0 k l1 l2 a3 l4 true a0_0 a0_1) else (if (l2.length : Int) > 8 then (isobathlaw02_MooringWays.j0 k l1 l2 a3 l4 true a0_0 a0_1) else (isobathlaw02_MooringWays.j0 k l1 l2 a3 l4 ((l1.length : Int) == 0) a0_0 a0_1)))) = some r := h
 clear h
 have HC6 := zam H
 clear H
 go_enter Try.func11, Try.ntmps11
 go_upto_region 1 with (first | ((with_reducible refine zgd (N := 5) rfl ?_); (try (refine gate_guard (by rfl) ?_; dsimp only)); refine box_event ?hg (N := 5) ?hd (cs := #[.int .i64 a0_0, .int .i64 a0_1]) (t := 72) ?hr ?_; (case hd => rfl); (case hg => rfl); (case hr => first | (go_simp; done) | (go_simp; rfl)); intro gb101 hg w7 hbox hb; have n0_ := zam (zbt (by repeat (first | (with_reducible first | exact HB.out | apply zba | apply zbn | apply zb1) | exact HB.out)) hb); have n1_ := zam (hbox); have n2_ := zam ((by rw [hg]; exact (zbz (by repeat (first | (with_reducible first | exact HB.out | apply zba | apply zbn | apply zb1) | exact HB.out))) : w.heap.size ≤ gb101)); have n3_ := zam ((by rw [hg]; exact (zbz (by repeat (first | (with_reducible first | exact HB.out | apply zba | apply zbn | apply zb1) | exact HB.out))) : w.heap.size ≤ gb101)); clear HB; have HB := n0_; have BK101 := n1_; have GW101 := n2_; have GE101 := n3_; clear n0_ n1_ n2_ n3_; clear hb hbox hg))
 (try simp only [Act.put, zsa, zsz, zss])
 go_cut [41] (fun v41 wc => ∃ (kq : Nat) (x41_5 : Bool), v41 = .bool x41_5 ∧ Aside0 (isobathlaw02_MooringWays.j0 kq l1 l2 a3 l4 x41_5 a0_0 a0_1 = some r) ∧ Aside0 (kq ≤ k) ∧ Aside0 (wc.heap[gb101]? = some (.cells #[.int .i64 a0_0, .int .i64 a0_1] 72 (0, 0))) ∧ Aside0 (Below w.heap.size w wc))
 case first =>
  have H := HC6.out
  clear HC6
  replace H := Option.bind_eq_some_iff.mp H
  obtain ⟨t102, A80, H⟩ := H
  replace H : (if t102 = true then (isobathlaw02_MooringWays.j0 k l1 l2 a3 l4 true a0_0 a0_1) else (if (l2.length : Int) > 8 then (isobathlaw02_MooringWays.j0 k l1 l2 a3 l4 true a0_0 a0_1) else (isobathlaw02_MooringWays.j0 k l1 l2 a3 l4 ((l1.length : Int) == 0) a0_0 a0_1))) = some r := H
  have A8 := zam A80
  clear A80
  by_cases c9 : t102 = true
  ·subst c9
   have H1 : (isobathlaw02_MooringWays.j0 k l1 l2 a3 l4 true a0_0 a0_1) = some r := by rw [if_pos rfl] at H; exact H
   clear H
   have H := H1
   clear H1
   as_aux_lemma =>
    have H' := zam H
    clear H
    go_wp2_with (first | ((with_reducible refine zgc (f := 46) rfl ?_); refine goesL_ (some 31) rfl rfl Try.func46 (by kernel_rfl) rfl #[.slice A1 l1.length c1, .slice A2 l2.length c2] rfl (by (try simp only [zmt, List.map_cons, List.map_nil]); first | done | rfl | (simp only [zld, zlt]; rfl)) ?_; (with_reducible refine (isobathlaw02_wide.calls k _ _ l1 _ _ l2 true _ ?side1 ?side2 ?side3 ?side4 A8.out).mono ?_); (case side1 => repeat (first | exact (Kd.C_below HR1.out HB.out) | (with_reducible refine Kd.C_alloc ?_ _) | (with_reducible refine Kd.C_drewN ?_ _) | (with_reducible refine Kd.C_drew ?_))); (case side2 => exact HC1.out); (case side3 => repeat (first | exact (Kd.C_below HR2.out HB.out) | (with_reducible refine Kd.C_alloc ?_ _) | (with_reducible refine Kd.C_drewN ?_ _) | (with_reducible refine Kd.C_drew ?_))); (case side4 => exact HC2.out); rintro e w' ⟨rfl, ⟨nd, rfl⟩⟩; refine ⟨_, rfl, ?_⟩))
    go_meet
    case rel => exact ⟨_, (true), (by first | rfl | (simp; done) | (simp [*]; done)), H', ⟨by first | omega | exact Nat.le_refl _⟩, ⟨by (with_reducible repeat (first | refine zkn ?_ _ | refine zkd ?_ | refine zka ?_ _)); exact BK101.out⟩, ⟨by repeat (first | (with_reducible first | exact HB.out | apply zba | apply zbn | apply zb1 | refine zbs ?_ GE101.out) | exact HB.out)⟩⟩
  replace c9 := Bool.eq_false_iff.mpr c9
  subst c9
  have H1 : (if (l2.length : Int) > 8 then (isobathlaw02_MooringWays.j0 k l1 l2 a3 l4 true a0_0 a0_1) else (isobathlaw02_MooringWays.j0 k l1 l2 a3 l4 ((l1.length : Int) == 0) a0_0 a0_1)) = some r := by rw [if_neg (show ¬ (false = true) by decide)] at H; exact H
  clear H
  have H := H1
  clear H1
  by_cases c10 : (l2.length : Int) > 8
  ·rw [if_pos c10] at H
   have c10b0 : decide (8 < (l2.length : Int)) = true := zdt c10
   have c10b1 : decide (8 < l2.length) = true := zdt (by omega)
   clear c10
   (first | rw [c10b0] | (simp only [i64_w, i32_w]; rw [c10b0]) | skip)
   as_aux_lemma =>
    have H' := zam H
    clear H
    go_wp2_with (first | ((with_reducible refine zgc (f := 46) rfl ?_); refine goesL_ (some 31) rfl rfl Try.func46 (by kernel_rfl) rfl #[.slice A1 l1.length c1, .slice A2 l2.length c2] rfl (by (try simp only [zmt, List.map_cons, List.map_nil]); first | done | rfl | (simp only [zld, zlt]; rfl)) ?_; (with_reducible refine (isobathlaw02_wide.calls k _ _ l1 _ _ l2 false _ ?side1 ?side2 ?side3 ?side4 A8.out).mono ?_); (case side1 => repeat (first | exact (Kd.C_below HR1.out HB.out) | (with_reducible refine Kd.C_alloc ?_ _) | (with_reducible refine Kd.C_drewN ?_ _) | (with_reducible refine Kd.C_drew ?_))); (case side2 => exact HC1.out); (case side3 => repeat (first | exact (Kd.C_below HR2.out HB.out) | (with_reducible refine Kd.C_alloc ?_ _) | (with_reducible refine Kd.C_drewN ?_ _) | (with_reducible refine Kd.C_drew ?_))); (case side4 => exact HC2.out); rintro e w' ⟨rfl, ⟨nd, rfl⟩⟩; refine ⟨_, rfl, ?_⟩))
    go_meet
    case rel => exact ⟨_, (true), (by first | rfl | (simp; done) | (simp [*]; done)), H', ⟨by first | omega | exact Nat.le_refl _⟩, ⟨by (with_reducible repeat (first | refine zkn ?_ _ | refine zkd ?_ | refine zka ?_ _)); exact BK101.out⟩, ⟨by repeat (first | (with_reducible first | exact HB.out | apply zba | apply zbn | apply zb1 | refine zbs ?_ GE101.out) | exact HB.out)⟩⟩
  rw [if_neg c10] at H
  have c10b0 : decide (8 < (l2.length : Int)) = false := zdf c10
  have c10b1 : decide (8 < l2.length) = false := zdf (by omega)
  clear c10
  (first | rw [c10b0] | (simp only [i64_w, i32_w]; rw [c10b0]) | skip)
  as_aux_lemma =>
   have H' := zam H
   clear H
   go_wp2_with (first | ((with_reducible refine zgc (f := 46) rfl ?_); refine goesL_ (some 31) rfl rfl Try.func46 (by kernel_rfl) rfl #[.slice A1 l1.length c1, .slice A2 l2.length c2] rfl (by (try simp only [zmt, List.map_cons, List.map_nil]); first | done | rfl | (simp only [zld, zlt]; rfl)) ?_; (with_reducible refine (isobathlaw02_wide.calls k _ _ l1 _ _ l2 false _ ?side1 ?side2 ?side3 ?side4 A8.out).mono ?_); (case side1 => repeat (first | exact (Kd.C_below HR1.out HB.out) | (with_reducible refine Kd.C_alloc ?_ _) | (with_reducible refine Kd.C_drewN ?_ _) | (with_reducible refine Kd.C_drew ?_))); (case side2 => exact HC1.out); (case side3 => repeat (first | exact (Kd.C_below HR2.out HB.out) | (with_reducible refine Kd.C_alloc ?_ _) | (with_reducible refine Kd.C_drewN ?_ _) | (with_reducible refine Kd.C_drew ?_))); (case side4 => exact HC2.out); rintro e w' ⟨rfl, ⟨nd, rfl⟩⟩; refine ⟨_, rfl, ?_⟩))
   go_meet
   case rel => exact ⟨_, (((l1.length : Int) == 0)), (by first | rfl | (simp; done) | (simp [*]; done)), H', ⟨by first | omega | exact Nat.le_refl _⟩, ⟨by (with_reducible repeat (first | refine zkn ?_ _ | refine zkd ?_ | refine zka ?_ _)); exact BK101.out⟩, ⟨by repeat (first | (with_reducible first | exact HB.out | apply zba | apply zbn | apply zb1 | refine zbs ?_ GE101.out) | exact HB.out)⟩⟩
 case rest =>
  clear HC6
  try clear c1
  try clear c2
  try clear p2
  try clear c4
  try clear c9
  try clear c10
  try clear c10b0
  try clear c10b1
  obtain ⟨kq, x41_5, rfl, HA, HJ5, BK101, HB⟩ := hcut
  as_aux_lemma =>
   cases kq with
   | zero => exact absurd HA.out (by simp [isobathlaw02_MooringWays.j0])
   | succ kj5 =>
    have H := HA.out
    clear HA
    simp only [isobathlaw02_MooringWays.j0] at H
    by_cases c11 : x41_5 = true
    ·subst c11
     have H1 : ((isobathlaw02_fine.f kj5).bind fun t103 => (some t103)) = some r := by rw [if_pos rfl] at H; exact H
     clear H
     have H := H1
     clear H1
     replace H := Option.bind_eq_some_iff.mp H
     obtain ⟨t103, A120, H⟩ := H
     replace H : (some t103) = some r := H
     have A12 := zam A120
     clear A120
     as_aux_lemma =>
      obtain rfl := zsi H
      go_wp2_with (first | ((with_reducible refine zgc (f := 14) rfl ?_); refine goesL_ (some 42) rfl rfl Try.func14 (by kernel_rfl) rfl #[] rfl (by (try simp only [zmt, List.map_cons, List.map_nil]); first | done | rfl | (simp only [zld, zlt]; rfl)) ?_; (with_reducible refine (isobathlaw02_fine.calls kj5  t103 _ A12.out).mono ?_); rintro e w13 ⟨rfl, hb⟩; refine ⟨_, rfl, ?_⟩; have n0_ := zam (zkb (g := gb101) (o := .cells #[.int .i64 a0_0, .int .i64 a0_1] 72 (0, 0)) (by (with_reducible repeat (first | refine zkn ?_ _ | refine zkd ?_ | refine zka ?_ _)); exact BK101.out) hb); have n1_ := zam (zbt (by repeat (first | (with_reducible first | exact HB.out | apply zba | apply zbn | apply zb1 | refine zbs ?_ GE101.out) | exact HB.out)) hb); clear BK101; clear HB; have BK101 := n0_; have HB := n1_; clear n0_ n1_; (try clear hb); (try clear hb2); (try clear hk); (try clear hi)))
      go_ret
      exact ⟨by first | rfl | (simp [errW_none, errW_some] <;> rfl) | (simp [*, errW_none, errW_some] <;> rfl), by repeat (first | (with_reducible first | exact HB.out | apply zba | apply zbn | apply zb1 | refine zbs ?_ GE101.out) | exact HB.out)⟩
    replace c11 := Bool.eq_false_iff.mpr c11
    subst c11
    have H1 : ((isobathref02_Where.f kj5 a0_0 a0_1 l1 l2).bind fun bt104 => (if bt104.2.2 = 0 then (if (l1.length : Int) = 0 then (none) else (if 0 ≤ (Int.tmod (wrap64 (a3)) (l1.length : Int)) then (if (Int.tmod (wrap64 (a3)) (l1.length : Int)) < (l1.length : Int) then (isobathlaw02_MooringWays.l0 kj5 l1 l2 l4 (rd l1 (Int.tmod (wrap64 (a3)) (l1.length : Int))) 0 a0_0 a0_1) else (none)) else (none))) else ((isobathlaw02_fine.f kj5).bind fun t109 => (some t109)))) = some r := by rw [if_neg (show ¬ (false = true) by decide)] at H; exact H
    clear H
    have H := H1
    clear H1
    replace H := Option.bind_eq_some_iff.mp H
    obtain ⟨⟨t104, t107, t108⟩, A140, H⟩ := H
    replace H : (if t108 = 0 then (if (l1.length : Int) = 0 then (none) else (if 0 ≤ (Int.tmod (wrap64 (a3)) (l1.length : Int)) then (if (Int.tmod (wrap64 (a3)) (l1.length : Int)) < (l1.length : Int) then (isobathlaw02_MooringWays.l0 kj5 l1 l2 l4 (rd l1 (Int.tmod (wrap64 (a3)) (l1.length : Int))) 0 a0_0 a0_1) else (none)) else (none))) else ((isobathlaw02_fine.f kj5).bind fun t109 => (some t109))) = some r := H
    have A14 := zam A140
    clear A140
    by_cases c15 : t108 = 0
    ·rw [if_pos c15] at H
     have c15b0 : (t108 == 0) = true := beq_iff_eq.mpr c15
     have c15b1 : (t108 != 0) = false := bne_eq_false_iff_eq.mpr c15
     clear c15
     by_cases c16 : (l1.length : Int) = 0
     ·rw [if_pos c16] at H
      exact absurd H (by simp)
     rw [if_neg c16] at H
     have c16b0 : ((l1.length : Int) == 0) = false := beq_eq_false_iff_ne.mpr c16
     have c16b1 : ((l1.length : Int) != 0) = true := bne_iff_ne.mpr c16
     have c16b2 : ¬ (l1 = []) := fun h_ => c16 (by rw [h_]; rfl)
     obtain ⟨ji17, hji17⟩ : ∃ j_ : Int, (Int.tmod (wrap64 (a3)) (l1.length : Int)) = j_ := ⟨_, rfl⟩
     replace H : (if 0 ≤ (ji17) then (if (ji17) < (l1.length : Int) then (isobathlaw02_MooringWays.l0 kj5 l1 l2 l4 (rd l1 (ji17)) 0 a0_0 a0_1) else (none)) else (none)) = some r := by first | (rw [hji17] at H; exact H) | (simp only [hji17] at H ⊢; exact H)
     (try rw [hji17] at A14)
     by_cases c18 : 0 ≤ (ji17)
     ·rw [if_pos c18] at H
      have c18b0 : decide (0 ≤ (ji17)) = true := zdt c18
      clear c18
      by_cases c19 : (ji17) < (l1.length : Int)
      ·rw [if_pos c19] at H
       have c19b0 : decide ((ji17) < (l1.length : Int)) = true := zdt c19
       clear c19
       have H' := zam H
       clear H
       have hcz20_0 : wc.cell? ⟨gb101, 0, none⟩ = some (.int .i64 a0_0) := (zkc BK101.out 0).trans rfl
       have hcz20_1 : wc.cell? ⟨gb101, 1, none⟩ = some (.int .i64 a0_1) := (zkc BK101.out 1).trans rfl
       have hfz20_0 := zkz BK101.out 0
       have hfz20_1 := zkz BK101.out 1
       go_wp2_with (first | ((with_reducible refine zgc (f := 47) rfl ?_); refine goesL_ (some 47) rfl rfl Try.func47 (by kernel_rfl) rfl #[.agg #[.int .i64 a0_0, .int .i64 a0_1], .slice A1 l1.length c1, .slice A2 l2.length c2] rfl (by (try simp only [zmt, List.map_cons, List.map_nil]); first | done | rfl | (simp only [zld, zlt]; rfl)) ?_; (with_reducible refine (isobathref02_Where.calls kj5 a0_0 a0_1 _ _ l1 _ _ l2 t104 t107 t108 _ ?side1 ?side2 ?side3 ?side4 A14.out).mono ?_); (case side1 => repeat (first | exact (Kd.C_below HR1.out HB.out) | (with_reducible refine Kd.C_alloc ?_ _) | (with_reducible refine Kd.C_drewN ?_ _) | (with_reducible refine Kd.C_drew ?_))); (case side2 => exact HC1.out); (case side3 => repeat (first | exact (Kd.C_below HR2.out HB.out) | (with_reducible refine Kd.C_alloc ?_ _) | (with_reducible refine Kd.C_drewN ?_ _) | (with_reducible refine Kd.C_drew ?_))); (case side4 => exact HC2.out); rintro e w21 ⟨v105, rfl, ho0, hb⟩; refine ⟨_, rfl, ?_⟩; have n0_ := zam (Kd.R_lower ho0 (zbz (by repeat (first | (with_reducible first | exact HB.out | apply zba | apply zbn | apply zb1 | refine zbs ?_ GE101.out) | exact HB.out)))); have n1_ := zam (zkb (g := gb101) (o := .cells #[.int .i64 a0_0, .int .i64 a0_1] 72 (0, 0)) (by (with_reducible repeat (first | refine zkn ?_ _ | refine zkd ?_ | refine zka ?_ _)); exact BK101.out) hb); have n2_ := zam (zbt (by repeat (first | (with_reducible first | exact HB.out | apply zba | apply zbn | apply zb1 | refine zbs ?_ GE101.out) | exact HB.out)) hb); clear BK101; clear HB; have HO106 := n0_; have BK101 := n1_; have HB := n2_; clear n0_ n1_ n2_; (try clear hb); (try clear hb2); (try clear hk); (try clear hi); (try clear ho0); have p110 : 0 ≤ ((ji17) : Int) := zod (by first | (with_reducible assumption) | assumption); have q110 : (ji17) < (l1.length : Int) := zod (by first | (with_reducible assumption) | assumption); obtain ⟨ad110, e110, hx110_0⟩ := Kd.at_int HR1.out (ji17) p110 q110; cases e110; replace hx110_0 := (HB.out.cell (zwb w _ hx110_0)).trans hx110_0; replace p110 := eq_true p110; replace q110 := eq_true q110))
       go_loopg [14, 15] kj5 (fun kq v14 v15 w' => ∃ (x14_2 : Int) (x15_2 : Int), v14 = .int .i64 x14_2 ∧ v15 = .int .i64 x15_2 ∧ Aside0 (isobathlaw02_MooringWays.l0 kq l1 l2 l4 x14_2 x15_2 a0_0 a0_1 = some r) ∧ Aside0 (kq ≤ kj5) ∧ Aside0 (w'.heap[gb101]? = some (.cells #[.int .i64 a0_0, .int .i64 a0_1] 72 (0, 0))) ∧ Aside0 (Below w.heap.size w w'))
       case atStart => exact ⟨(rd l1 (ji17)), (0), (by first | rfl | (simp; done) | (simp only [← hji17] <;> (first | rfl | simp)) | (simp [*]; done)), (by first | rfl | (simp; done) | (simp [*]; done)), H', ⟨Nat.le_refl _⟩, ⟨by (with_reducible repeat (first | refine zkn ?_ _ | refine zkd ?_ | refine zka ?_ _)); exact BK101.out⟩, ⟨by repeat (first | (with_reducible first | exact HB.out | apply zba | apply zbn | apply zb1 | refine zbs ?_ GE101.out) | exact HB.out)⟩⟩
       case round =>
        clear H'
        try clear c1
        try clear p1
        try clear q1
        try clear hx1
        try clear c2
        try clear p2
        try clear c4
        try clear p6
        try clear c9
        try clear c10
        try clear c10b0
        try clear c10b1
        try clear c11
        try clear p11
        try clear q11
        try clear hx11
        try clear c14
        try clear c15
        try clear c15b0
        try clear c15b1
        try clear c16
        try clear c16b0
        try clear c16b1
        try clear c16b2
        try clear c18
        try clear c18b0
        try clear c19
        try clear c19b0
        try clear hcz20_0
        try clear hcz20_1
        try clear hfz20_0
        try clear hfz20_1
        try clear hx110_0
        try clear p110
        try clear p2
        try clear q110
        obtain ⟨x14_2, x15_2, rfl, rfl, HA, HK2, BK101, HB⟩ := hrel
        as_aux_lemma =>
         cases gk with
         | zero => exact absurd HA.out (by simp [isobathlaw02_MooringWays.l0])
         | succ k2 =>
          have H := HA.out
          clear HA
          simp only [isobathlaw02_MooringWays.l0] at H
          by_cases c22 : x15_2 ≤ (l2.length : Int)
          ·rw [if_pos c22] at H
           have c22b0 : decide (x15_2 ≤ (l2.length : Int)) = true := zdt c22
           clear c22
           by_cases c23 : 0 ≤ x15_2
           ·rw [if_pos c23] at H
            have c23b0 := eq_true c23
            have c23b1 : decide (0 ≤ x15_2) = true := zdt c23
            clear c23
            have c24b0 := eq_true (zod (by first | (with_reducible assumption) | assumption) : x15_2 ≤ (l2.length : Int))
            obtain ⟨y112, hy112⟩ : ∃ y_ : List (S79), y_ = (l2.take (x15_2 : Int).toNat) := ⟨_, rfl⟩
            replace H : ((mooring_Where.f k2 a0_0 a0_1 l1 y112).bind fun bt116 => (if bt116.2.2 = 0 then (isobathlaw02_MooringWays.l1 k2 l1 l2 l4 x14_2 x15_2 bt116.1 false 0 a0_0 a0_1) else (none))) = some r := by first | (rw [hy112]; with_reducible exact H) | (have H2_ := (Option.bind_some _ _).symm.trans H; rw [hy112]; with_reducible exact H2_) | (have H2_ := (Option.bind_some _ _).symm.trans H; with_reducible exact H2_) | with_reducible exact H | (rw [hy112]; exact H) | exact H
            have Ny112 := zam hy112
            clear hy112
            replace H := Option.bind_eq_some_iff.mp H
            obtain ⟨⟨t116, t119, t120⟩, A250, H⟩ := H
            replace H : (if t120 = 0 then (isobathlaw02_MooringWays.l1 k2 l1 l2 l4 x14_2 x15_2 t116 false 0 a0_0 a0_1) else (none)) = some r := H
            have A25 := zam A250
            clear A250
            by_cases c26 : t120 = 0
            ·rw [if_pos c26] at H
             have c26b0 : (t120 == 0) = true := beq_iff_eq.mpr c26
             have c26b1 : (t120 != 0) = false := bne_eq_false_iff_eq.mpr c26
             clear c26
             have H' := zam H
             clear H
             try go_wp2
             have n0_ := zam (zkd BK101.out)
             have n1_ := zam (zb1 HB.out)
             clear BK101
             clear HB
             have BK101 := n0_
             have HB := n1_
             clear n0_ n1_
             have q28 : (x15_2 : Int) ≤ ((l2.length : Int) : Int) := zod (by first | (with_reducible assumption) | assumption)
             obtain ⟨i028, hi028, _, hsz28, _⟩ := info_parts info79
             have hroom28 : l2.length ≤ c2 := HC2.out
             have hC28 : Kd.C k79 _ A2 l2.length l2 := HR2.out
             have hcut28 := cut_to (P := Try.prog) 73 79 .i64 Try.underlying73 hi028 A2 l2.length c2 x15_2 (zod (by first | (with_reducible assumption) | assumption)) q28 hroom28
             have hr28 := Kd.C_take (m := (x15_2 : Int).toNat) hC28 (by omega)
             have hy28 : y112.length = (x15_2 : Int).toNat := (by rw [Ny112.out, zlt]; omega)
             rw [← Ny112.out] at hr28
             rw [← hy28] at hcut28
             have HR115 := zam hr28
             have HC115 := zam (show y112.length ≤ c2 from by omega)
             clear hr28 hC28 hroom28 hi028 hsz28
             have KY28 := zam hy28
             clear hy28
             replace q28 := eq_true q28
             (try (have q28x := q28; simp only [zld, zlt] at q28x))
             refine start_ (n := 13) (S := fun w' => w'.cell? ⟨gb101, 0, none⟩ = some (.int .i64 a0_0) ∧ w'.cell? ⟨gb101, 1, none⟩ = some (.int .i64 a0_1)) (ds := []) #[false, false, false, false, false, false, false, false, false, false, false, false, false] (by kernel_rfl) rfl rfl ⟨(zkc BK101.out 0).trans rfl, (zkc BK101.out 1).trans rfl⟩ (fun hHeld => ?_); refine with_tabW isobathlaw02_MooringWays.tab10 isobathlaw02_MooringWays.bits10 (fun HT_ HW_ => ?_)
             generalize wr.drew = w27 at BK101 HB HR115 hHeld ⊢
             refine pure_ (i := 1) (N := some 70) (v := ?_) (a' := ?_) #[false, true, false, false, false, false, false, false, false, false, false, false, false] rfl rfl (any_of HT_.out (by kernel_rfl)) (fun _ _ _ h => h) (Or.inl ⟨by rfl, ?_⟩) ?_ ?_
             rotate_left
             ·intro w'
              go_simp
              with_reducible rfl
             rotate_left
             ·simp only [Act.put, zsa, zsz, zss, i64_w, i32_w]
              rfl
             refine pure_ (i := 2) (N := some 71) (v := ?_) (a' := ?_) #[false, true, true, false, false, false, false, false, false, false, false, false, false] rfl rfl (any_of HT_.out (by kernel_rfl)) (fun _ _ _ h => h) (Or.inl ⟨by rfl, ?_⟩) ?_ ?_
             rotate_left
             ·intro w'
              go_simp
              with_reducible rfl
             rotate_left
             ·simp only [Act.put, zsa, zsz, zss, i64_w, i32_w]
              rfl
             refine pure_ (i := 3) (N := some 72) (v := ?_) (a' := ?_) #[false, true, true, true, false, false, false, false, false, false, false, false, false] rfl rfl (any_of HT_.out (by kernel_rfl)) (fun _ _ _ h => h) (Or.inl ⟨by rfl, ?_⟩) ?_ ?_
             rotate_left
             ·intro w'
              go_simp
              with_reducible rfl
             rotate_left
             ·simp only [Act.put, zsa, zsz, zss, i64_w, i32_w]
              rfl
             refine pure_ (i := 4) (N := some 73) (v := ?_) (a' := ?_) #[false, true, true, true, true, false, false, false, false, false, false, false, false] rfl rfl (any_of HT_.out (by kernel_rfl)) (fun _ _ _ h => h) (Or.inl ⟨by rfl, ?_⟩) ?_ ?_
             rotate_left
             ·intro w'
              go_simp
              with_reducible rfl
             rotate_left
             ·simp only [Act.put, zsa, zsz, zss, i64_w, i32_w]
              rfl
             refine take_ (i := 0) (N := some 69) (v := ?_) (a' := ?_) #[true, true, true, true, true, false, false, false, false, false, false, false, false] rfl rfl (take_ofW HT_.out HW_.out (by kernel_rfl)) (fun _ _ _ h => h) (Or.inl ⟨by rfl, ?_⟩) hHeld ?_ ?_
             rotate_left
             ·rintro w' ⟨s0, s1⟩
              go_simp
              with_reducible rfl
             rotate_left
             ·simp only [Act.put, zsa, zsz, zss, i64_w, i32_w]
              rfl
             refine one_ (i := 5) (N := some 74) #[true, true, true, true, true, true, false, false, false, false, false, false, false] rfl rfl (one_of HT_.out (by kernel_rfl)) (by decide) (fun K hK => ?_)
             refine goes_ Try.func48 (by kernel_rfl) rfl #[.agg #[.int .i64 a0_0, .int .i64 a0_1], .slice (some ad110) l1.length c1, .slice A2 y112.length c2] (by rfl) rfl rfl (by (try simp only [zmt, List.map_cons, List.map_nil]); first | done | rfl | (simp only [zld, zlt]; rfl)) ?_
             with_reducible refine (mooring_Where.calls k2 a0_0 a0_1 _ _ l1 _ _ y112 t116 t119 t120 _ ?side1 ?side2 ?side3 ?side4 A25.out).mono ?_
             (case side1 => repeat (first | exact (Kd.C_below HR1.out HB.out) | (with_reducible refine Kd.C_alloc ?_ _) | (with_reducible refine Kd.C_drewN ?_ _) | (with_reducible refine Kd.C_drew ?_)))
             (case side2 => exact HC1.out)
             (case side3 => repeat (first | exact (Kd.C_below HR115.out HB.out) | (with_reducible refine Kd.C_alloc ?_ _) | (with_reducible refine Kd.C_drewN ?_ _) | (with_reducible refine Kd.C_drew ?_)))
             (case side4 => exact HC115.out)
             rintro e w29 ⟨v117, rfl, ho0, hb⟩
             refine ⟨_, rfl, ?_⟩
             have n0_ := zam (Kd.R_lower ho0 (zbz (by repeat (first | (with_reducible first | exact HB.out | apply zba | apply zbn | apply zb1 | refine zbs ?_ GE101.out) | exact HB.out))))
             have n1_ := zam (zkb (g := gb101) (o := .cells #[.int .i64 a0_0, .int .i64 a0_1] 72 (0, 0)) (by (with_reducible repeat (first | refine zkn ?_ _ | refine zkd ?_ | refine zka ?_ _)); exact BK101.out) hb)
             have n2_ := zam (zbt (by repeat (first | (with_reducible first | exact HB.out | apply zba | apply zbn | apply zb1 | refine zbs ?_ GE101.out) | exact HB.out)) hb)
             clear BK101
             clear HB
             have HO118 := n0_
             have BK101 := n1_
             have HB := n2_
             clear n0_ n1_ n2_
             (try clear hb)
             (try clear hb2)
             (try clear hk)
             (try clear hi)
             (try clear ho0)
             refine hK.out _ _ ⟨(zkc BK101.out 0).trans rfl, (zkc BK101.out 1).trans rfl⟩ (fun hHeld => ?_)
             clear hK K
             refine norm_ (a' := ?_) ?_ ?_
             rotate_left
             ·show Act.put _ (some 74) _ = _
              simp only [Act.put, zsa, zsz, zss, i64_w, i32_w]
              rfl
             refine pure_ (i := 6) (N := some 68) (v := ?_) (a' := ?_) #[true, true, true, true, true, true, true, false, false, false, false, false, false] rfl rfl (any_of HT_.out (by kernel_rfl)) (fun _ _ _ h => h) (Or.inl ⟨by rfl, ?_⟩) ?_ ?_
             rotate_left
             ·intro w'
              go_simp
              with_reducible rfl
             rotate_left
             ·simp only [Act.put, zsa, zsz, zss, i64_w, i32_w]
              rfl
             refine pure_ (i := 7) (N := some 75) (v := ?_) (a' := ?_) #[true, true, true, true, true, true, true, true, false, false, false, false, false] rfl rfl (any_of HT_.out (by kernel_rfl)) (fun _ _ _ h => h) (Or.inl ⟨by rfl, ?_⟩) ?_ ?_
             rotate_left
             ·intro w'
              go_simp
              with_reducible rfl
             rotate_left
             ·simp only [Act.put, zsa, zsz, zss, i64_w, i32_w]
              rfl
             refine pure_ (i := 8) (N := some 76) (v := ?_) (a' := ?_) #[true, true, true, true, true, true, true, true, true, false, false, false, false] rfl rfl (any_of HT_.out (by kernel_rfl)) (fun _ _ _ h => h) (Or.inl ⟨by rfl, ?_⟩) ?_ ?_
             rotate_left
             ·intro w'
              go_simp
              with_reducible rfl
             rotate_left
             ·simp only [Act.put, zsa, zsz, zss, i64_w, i32_w]
              rfl
             refine pure_ (i := 9) (N := some 77) (v := ?_) (a' := ?_) #[true, true, true, true, true, true, true, true, true, true, false, false, false] rfl rfl (any_of HT_.out (by kernel_rfl)) (fun _ _ _ h => h) (Or.inl ⟨by rfl, ?_⟩) ?_ ?_
             rotate_left
             ·intro w'
              go_simp
              with_reducible rfl
             rotate_left
             ·simp only [Act.put, zsa, zsz, zss, i64_w, i32_w]
              rfl
             refine pure_ (i := 10) (N := some 16) (v := ?_) (a' := ?_) #[true, true, true, true, true, true, true, true, true, true, true, false, false] rfl rfl (any_of HT_.out (by kernel_rfl)) (fun _ _ _ h => h) (Or.inl ⟨by rfl, ?_⟩) ?_ ?_
             rotate_left
             ·intro w'
              go_simp
              with_reducible rfl
             rotate_left
             ·simp only [Act.put, zsa, zsz, zss, i64_w, i32_w]
              rfl
             refine pure_ (i := 11) (N := some 17) (v := ?_) (a' := ?_) #[true, true, true, true, true, true, true, true, true, true, true, true, false] rfl rfl (any_of HT_.out (by kernel_rfl)) (fun _ _ _ h => h) (Or.inl ⟨by rfl, ?_⟩) ?_ ?_
             rotate_left
             ·intro w'
              go_simp
              with_reducible rfl
             rotate_left
             ·simp only [Act.put, zsa, zsz, zss, i64_w, i32_w]
              rfl
             refine pure_ (i := 12) (N := some 18) (v := ?_) (a' := ?_) #[true, true, true, true, true, true, true, true, true, true, true, true, true] rfl rfl (any_of HT_.out (by kernel_rfl)) (fun _ _ _ h => h) (Or.inl ⟨by rfl, ?_⟩) ?_ ?_
             rotate_left
             ·intro w'
              go_simp
              with_reducible rfl
             rotate_left
             ·simp only [Act.put, zsa, zsz, zss, i64_w, i32_w]
              rfl
             refine done_ (done_of HT_.out (by kernel_rfl)) ?_
             try go_wp2
             go_loopg [19, 20] k2 (fun kq v19 v20 w' => ∃ (x19_3 : Bool) (x20_3 : Int), v19 = .bool x19_3 ∧ v20 = .int .i64 x20_3 ∧ Aside0 (isobathlaw02_MooringWays.l1 kq l1 l2 l4 x14_2 x15_2 t116 x19_3 x20_3 a0_0 a0_1 = some r) ∧ Aside0 (kq ≤ k2) ∧ Aside0 (Kd.R (Kd.int .i64) 3 w' w.heap.size (fun _ => True) v117 t116) ∧ Aside0 (w'.heap[gb101]? = some (.cells #[.int .i64 a0_0, .int .i64 a0_1] 72 (0, 0))) ∧ Aside0 (Below w.heap.size w w'))
             case atStart => exact ⟨(false), (0), (by first | rfl | (simp; done) | (simp [*]; done)), (by first | rfl | (simp; done) | (simp [*]; done)), H', ⟨Nat.le_refl _⟩, ⟨by (with_reducible repeat (first | apply zRa | apply zRn | apply zRd)); exact HO118.out⟩, ⟨by (with_reducible repeat (first | refine zkn ?_ _ | refine zkd ?_ | refine zka ?_ _)); exact BK101.out⟩, ⟨by repeat (first | (with_reducible first | exact HB.out | apply zba | apply zbn | apply zb1 | refine zbs ?_ GE101.out) | exact HB.out)⟩⟩
             case round =>
              clear H'
              try clear c1
              try clear p1
              try clear q1
              try clear hx1
              try clear c2
              try clear p2
              try clear q2
              try clear c4
              try clear p6
              try clear c9
              try clear c10
              try clear c10b0
              try clear c10b1
              try clear c11
              try clear p11
              try clear q11
              try clear hx11
              try clear c14
              try clear c15
              try clear c15b0
              try clear c15b1
              try clear c16
              try clear c16b0
              try clear c16b1
              try clear c16b2
              try clear c18
              try clear c18b0
              try clear c19
              try clear c19b0
              try clear c22
              try clear c22b0
              try clear c23
              try clear c23b0
              try clear c23b1
              try clear c24
              try clear c24b0
              try clear c26
              try clear c26b0
              try clear c26b1
              try clear q28
              try clear hcz20_0
              try clear hcz20_1
              try clear hfz20_0
              try clear hfz20_1
              try clear hx110_0
              try clear p1
              try clear p11
              try clear p110
              try clear p2
              try clear p6
              try clear q1
              try clear q11
              try clear q110
              try clear q28
              obtain ⟨x19_3, x20_3, rfl, rfl, HA, HK3, HO_16, BK101, HB⟩ := hrel
              as_aux_lemma =>
               cases gk with
               | zero => exact absurd HA.out (by simp [isobathlaw02_MooringWays.l1])
               | succ k3 =>
                have H := HA.out
                clear HA
                simp only [isobathlaw02_MooringWays.l1] at H
                by_cases c30 : x20_3 < (t116.length : Int)
                ·rw [if_pos c30] at H
                 have c30b0 : decide (x20_3 < (t116.length : Int)) = true := zdt c30
                 clear c30
                 by_cases c31 : x19_3 = true
                 ·subst c31
                  have H1 : (isobathlaw02_MooringWays.l1 k3 l1 l2 l4 x14_2 x15_2 t116 true (wrap64 (x20_3 + 1)) a0_0 a0_1) = some r := by rw [if_pos rfl] at H; exact H
                  clear H
                  have H := H1
                  clear H1
                  as_aux_lemma =>
                   have H' := zam H
                   clear H
                   obtain ⟨Ao32, co32, eo32⟩ := Kd.R_slice HO_16.out
                   subst eo32
                   go_wp2
                   go_roundg k3
                   case measure => have := HJ5.out; have := HK2.out; have := HK3.out; omega
                   case rel => exact ⟨(true), (wrap64 (x20_3 + 1)), (by first | rfl | (simp; done) | (simp [*]; done)), (by first | rfl | (simp; done) | (simp [*]; done)), H', ⟨by have := HJ5.out; have := HK2.out; have := HK3.out; omega⟩, ⟨by (with_reducible repeat (first | apply zRa | apply zRn | apply zRd)); exact HO_16.out⟩, ⟨by (with_reducible repeat (first | refine zkn ?_ _ | refine zkd ?_ | refine zka ?_ _)); exact BK101.out⟩, ⟨by repeat (first | (with_reducible first | exact HB.out | apply zba | apply zbn | apply zb1 | refine zbs ?_ GE101.out) | exact HB.out)⟩⟩
                 replace c31 := Bool.eq_false_iff.mpr c31
                 subst c31
                 have H1 : (if 0 ≤ x20_3 then (isobathlaw02_MooringWays.l1 k3 l1 l2 l4 x14_2 x15_2 t116 ((rd t116 x20_3) == x14_2) (wrap64 (x20_3 + 1)) a0_0 a0_1) else (none)) = some r := by rw [if_neg (show ¬ (false = true) by decide)] at H; exact H
                 clear H
                 have H := H1
                 clear H1
                 by_cases c33 : 0 ≤ x20_3
                 ·rw [if_pos c33] at H
                  have c33b0 : decide (0 ≤ x20_3) = true := zdt c33
                  clear c33
                  as_aux_lemma =>
                   have H' := zam H
                   clear H
                   obtain ⟨Ao34, co34, eo34⟩ := Kd.R_slice HO_16.out
                   subst eo34
                   have p121 : 0 ≤ (x20_3 : Int) := zod (by first | (with_reducible assumption) | assumption)
                   have q121 : x20_3 < (t116.length : Int) := zod (by first | (with_reducible assumption) | assumption)
                   obtain ⟨ad121, e121, hx121_0⟩ := Kd.at_int (Kd.R_reads' HO_16.out).2.2 x20_3 p121 q121
                   cases e121
                   replace p121 := eq_true p121
                   replace q121 := eq_true q121
                   (try (have q121x := q121; simp only [zld, zlt] at q121x))
                   go_wp2
                   go_roundg k3
                   case measure => have := HJ5.out; have := HK2.out; have := HK3.out; omega
                   case rel => exact ⟨(((rd t116 x20_3) == x14_2)), (wrap64 (x20_3 + 1)), (by first | rfl | (simp; done) | (simp [*]; done)), (by first | rfl | (simp; done) | (simp [*]; done)), H', ⟨by have := HJ5.out; have := HK2.out; have := HK3.out; omega⟩, ⟨by (with_reducible repeat (first | apply zRa | apply zRn | apply zRd)); exact HO_16.out⟩, ⟨by (with_reducible repeat (first | refine zkn ?_ _ | refine zkd ?_ | refine zka ?_ _)); exact BK101.out⟩, ⟨by repeat (first | (with_reducible first | exact HB.out | apply zba | apply zbn | apply zb1 | refine zbs ?_ GE101.out) | exact HB.out)⟩⟩
                 rw [if_neg c33] at H
                 exact absurd H (by simp)
                rw [if_neg c30] at H
                have c30b0 : decide (x20_3 < (t116.length : Int)) = false := zdf c30
                clear c30
                by_cases c35 : x19_3 = true
                ·subst c35
                 have H1 : (if x15_2 = (l2.length : Int) then ((isobathlaw02_fine.f k3).bind fun t122 => (some t122)) else (if 0 ≤ x15_2 then (if x15_2 < (l2.length : Int) then (if x15_2 < (l4.length : Int) then (isobathlaw02_MooringWays.j3 k3 l1 l2 l4 x14_2 x15_2 a0_0 a0_1 ((rd_T79 l2 x15_2).f0.f0) ((rd_T79 l2 x15_2).f0.f1) ((rd_T79 l2 x15_2).f1.f0) ((rd_T79 l2 x15_2).f1.f1) ((rd_T79 l2 x15_2).f2) ((rd_T80 l4 x15_2).f0) ((rd_T80 l4 x15_2).f1)) else (isobathlaw02_MooringWays.j3 k3 l1 l2 l4 x14_2 x15_2 a0_0 a0_1 ((rd_T79 l2 x15_2).f0.f0) ((rd_T79 l2 x15_2).f0.f1) ((rd_T79 l2 x15_2).f1.f0) ((rd_T79 l2 x15_2).f1.f1) ((rd_T79 l2 x15_2).f2) 0 0)) else (none)) else (none))) = some r := by rw [if_pos rfl] at H; exact H
                 clear H
                 have H := H1
                 clear H1
                 by_cases c36 : x15_2 = (l2.length : Int)
                 ·rw [if_pos c36] at H
                  have c36b0 : (x15_2 == (l2.length : Int)) = true := beq_iff_eq.mpr c36
                  have c36b1 : (x15_2 != (l2.length : Int)) = false := bne_eq_false_iff_eq.mpr c36
                  clear c36
                  replace H := Option.bind_eq_some_iff.mp H
                  obtain ⟨t122, A370, H⟩ := H
                  replace H : (some t122) = some r := H
                  have A37 := zam A370
                  clear A370
                  as_aux_lemma =>
                   obtain rfl := zsi H
                   obtain ⟨Ao38, co38, eo38⟩ := Kd.R_slice HO_16.out
                   subst eo38
                   go_wp2_with (first | ((with_reducible refine zgc (f := 14) rfl ?_); refine goesL_ (some 214) rfl rfl Try.func14 (by kernel_rfl) rfl #[] rfl (by (try simp only [zmt, List.map_cons, List.map_nil]); first | done | rfl | (simp only [zld, zlt]; rfl)) ?_; (with_reducible refine (isobathlaw02_fine.calls k3  t122 _ A37.out).mono ?_); rintro e w39 ⟨rfl, hb⟩; refine ⟨_, rfl, ?_⟩; have n0_ := zam (Kd.R_below (by (with_reducible repeat (first | apply zRa | apply zRn | apply zRd)); exact HO_16.out) hb); have n1_ := zam (zkb (g := gb101) (o := .cells #[.int .i64 a0_0, .int .i64 a0_1] 72 (0, 0)) (by (with_reducible repeat (first | refine zkn ?_ _ | refine zkd ?_ | refine zka ?_ _)); exact BK101.out) hb); have n2_ := zam (zbt (by repeat (first | (with_reducible first | exact HB.out | apply zba | apply zbn | apply zb1 | refine zbs ?_ GE101.out) | exact HB.out)) hb); clear HO_16; clear BK101; clear HB; have HO_16 := n0_; have BK101 := n1_; have HB := n2_; clear n0_ n1_ n2_; (try clear hb); (try clear hb2); (try clear hk); (try clear hi)))
                   go_ret
                   exact ⟨by first | rfl | (simp [errW_none, errW_some] <;> rfl) | (simp only [← hji17]; first | rfl | (simp [errW_none, errW_some] <;> rfl)) | (simp [*, errW_none, errW_some] <;> rfl), by repeat (first | (with_reducible first | exact HB.out | apply zba | apply zbn | apply zb1 | refine zbs ?_ GE101.out) | exact HB.out)⟩
                 rw [if_neg c36] at H
                 have c36b0 : (x15_2 == (l2.length : Int)) = false := beq_eq_false_iff_ne.mpr c36
                 have c36b1 : (x15_2 != (l2.length : Int)) = true := bne_iff_ne.mpr c36
                 by_cases c40 : 0 ≤ x15_2
                 ·rw [if_pos c40] at H
                  have c40b0 : decide (0 ≤ x15_2) = true := zdt c40
                  clear c40
                  by_cases c41 : x15_2 < (l2.length : Int)
                  ·rw [if_pos c41] at H
                   have c41b0 : decide (x15_2 < (l2.length : Int)) = true := zdt c41
                   clear c41
                   have HC42 := zam H
                   clear H
                   obtain ⟨Ao43, co43, eo43⟩ := Kd.R_slice HO_16.out
                   subst eo43
                   have p123 : 0 ≤ (x15_2 : Int) := zod (by first | (with_reducible assumption) | assumption)
                   have q123 : x15_2 < (l2.length : Int) := zod (by first | (with_reducible assumption) | assumption)
                   obtain ⟨ad123, A123_4, c123_4, e123, hx123_0, hx123_1, hx123_2, hx123_3, hx123_4, hl123_4, hi123_4⟩ := at_T79 HR2.out x15_2 p123 q123
                   cases e123
                   replace hx123_0 := (HB.out.cell (zwb w _ hx123_0)).trans hx123_0
                   replace hx123_1 := (HB.out.cell (zwb w _ hx123_1)).trans hx123_1
                   replace hx123_2 := (HB.out.cell (zwb w _ hx123_2)).trans hx123_2
                   replace hx123_3 := (HB.out.cell (zwb w _ hx123_3)).trans hx123_3
                   replace hx123_4 := (HB.out.cell (zwb w _ hx123_4)).trans hx123_4
                   have HR123_4 := zam hi123_4
                   have HC123_4 := zam hl123_4
                   clear hi123_4 hl123_4
                   replace p123 := eq_true p123
                   replace q123 := eq_true q123
                   (try (have q123x := q123; simp only [zld, zlt] at q123x))
                   go_upto_if 109 with (first | ((with_reducible refine zgd (N := 21) rfl ?_); (try (refine gate_guard (by rfl) ?_; dsimp only)); refine box_event ?hg (N := 21) ?hd (cs := #[.int .i64 0, .int .i64 0, .int .i64 0, .int .i64 0, .slice none 0 0]) (t := 79) ?hr ?_; (case hd => rfl); (case hg => rfl); (case hr => first | (go_simp; done) | (go_simp; rfl)); intro gb124 hg w44 hbox hb; have n0_ := zam (Kd.R_below (by (with_reducible repeat (first | apply zRa | apply zRn | apply zRd)); exact HO_16.out) hb); have n1_ := zam (zkb (g := gb101) (o := .cells #[.int .i64 a0_0, .int .i64 a0_1] 72 (0, 0)) (by (with_reducible repeat (first | refine zkn ?_ _ | refine zkd ?_ | refine zka ?_ _)); exact BK101.out) hb); have n2_ := zam (zbt (by repeat (first | (with_reducible first | exact HB.out | apply zba | apply zbn | apply zb1 | refine zbs ?_ GE101.out) | exact HB.out)) hb); have n3_ := zam (hbox); have n4_ := zam ((by rw [hg]; exact (zbz (by repeat (first | (with_reducible first | exact HB.out | apply zba | apply zbn | apply zb1 | refine zbs ?_ GE101.out) | exact HB.out))) : w.heap.size ≤ gb124)); have n5_ := zam ((by rw [hg]; exact (zbz (by repeat (first | (with_reducible first | exact HB.out | apply zba | apply zbn | apply zb1 | refine zbs ?_ GE101.out) | exact HB.out))) : w.heap.size ≤ gb124)); have n6_ := zam ((by rw [hg]; exact Nat.ne_of_lt (blk_lt (g := gb101) (o := .cells #[.int .i64 a0_0, .int .i64 a0_1] 72 (0, 0)) (by (with_reducible repeat (first | refine zkn ?_ _ | refine zkd ?_ | refine zka ?_ _)); exact BK101.out)) : gb101 ≠ gb124)); have n7_ := zam ((by rw [hg]; exact Nat.ne_of_gt (blk_lt (g := gb101) (o := .cells #[.int .i64 a0_0, .int .i64 a0_1] 72 (0, 0)) (by (with_reducible repeat (first | refine zkn ?_ _ | refine zkd ?_ | refine zka ?_ _)); exact BK101.out)) : gb124 ≠ gb101)); clear HO_16; clear BK101; clear HB; have HO_16 := n0_; have BK101 := n1_; have HB := n2_; have BK124 := n3_; have GW124 := n4_; have GE124 := n5_; have NB101_124 := n6_; have NB124_101 := n7_; clear n0_ n1_ n2_ n3_ n4_ n5_ n6_ n7_; clear hb hbox hg; have hnb45 := NB124_101.out; have hnc45 := NB101_124.out; have hcz46_0 : w44.cell? ⟨gb124, 0, none⟩ = some (.int .i64 0) := (zkc BK124.out 0).trans rfl; have hcz46_1 : w44.cell? ⟨gb124, 1, none⟩ = some (.int .i64 0) := (zkc BK124.out 1).trans rfl; have hcz46_2 : w44.cell? ⟨gb124, 2, none⟩ = some (.int .i64 0) := (zkc BK124.out 2).trans rfl; have hcz46_3 : w44.cell? ⟨gb124, 3, none⟩ = some (.int .i64 0) := (zkc BK124.out 3).trans rfl; have hcz46_4 : w44.cell? ⟨gb124, 4, none⟩ = some (.slice none 0 0) := (zkc BK124.out 4).trans rfl; have hfz46_0 := zkz BK124.out 0; have hfz46_1 := zkz BK124.out 1; have hfz46_2 := zkz BK124.out 2; have hfz46_3 := zkz BK124.out 3; have hfz46_4 := zkz BK124.out 4) | ((with_reducible refine zgd (N := 22) rfl ?_); (try (refine gate_guard (by rfl) ?_; dsimp only)); refine box_event ?hg (N := 22) ?hd (cs := #[.int .u8 0, .int .u8 0]) (t := 80) ?hr ?_; (case hd => rfl); (case hg => rfl); (case hr => first | (go_simp; done) | (go_simp; rfl)); intro gb125 hg w47 hbox hb; have n0_ := zam (Kd.R_below (by (with_reducible repeat (first | apply zRa | apply zRn | apply zRd)); exact (Kd.R_mono (Kd.R_far (p := ⟨gb124, 4, none⟩) (Kd.R_far (p := ⟨gb124, 3, none⟩) (Kd.R_far (p := ⟨gb124, 2, none⟩) (Kd.R_far (p := ⟨gb124, 1, none⟩) (Kd.R_far (p := ⟨gb124, 0, none⟩) (Kd.R_types HO_16.out BK124.out (by decide)) (fun _ hk => hk.2) (.int .i64 ((rd_T79 l2 x15_2).f0.f0))) (fun _ hk => hk.2) (.int .i64 ((rd_T79 l2 x15_2).f0.f1))) (fun _ hk => hk.2) (.int .i64 ((rd_T79 l2 x15_2).f1.f0))) (fun _ hk => hk.2) (.int .i64 ((rd_T79 l2 x15_2).f1.f1))) (fun _ hk => hk.2) (.slice A123_4 ((rd_T79 l2 x15_2).f2).length c123_4)) (fun _ h_ => h_.1))) hb); have n1_ := zam (zkb (g := gb101) (o := .cells #[.int .i64 a0_0, .int .i64 a0_1] 72 (0, 0)) (by (with_reducible repeat (first | refine zkn ?_ _ | refine zkd ?_ | refine zka ?_ _)); refine zkf ?_ NB101_124.out _; (with_reducible repeat (first | refine zkn ?_ _ | refine zkd ?_ | refine zka ?_ _)); refine zkf ?_ NB101_124.out _; (with_reducible repeat (first | refine zkn ?_ _ | refine zkd ?_ | refine zka ?_ _)); refine zkf ?_ NB101_124.out _; (with_reducible repeat (first | refine zkn ?_ _ | refine zkd ?_ | refine zka ?_ _)); refine zkf ?_ NB101_124.out _; (with_reducible repeat (first | refine zkn ?_ _ | refine zkd ?_ | refine zka ?_ _)); refine zkf ?_ NB101_124.out _; (with_reducible repeat (first | refine zkn ?_ _ | refine zkd ?_ | refine zka ?_ _)); exact BK101.out) hb); have n2_ := zam (zkb (g := gb124) (o := .cells #[.int .i64 ((rd_T79 l2 x15_2).f0.f0), .int .i64 ((rd_T79 l2 x15_2).f0.f1), .int .i64 ((rd_T79 l2 x15_2).f1.f0), .int .i64 ((rd_T79 l2 x15_2).f1.f1), .slice A123_4 ((rd_T79 l2 x15_2).f2).length c123_4] 79 (0, 0)) (by (with_reducible repeat (first | refine zkn ?_ _ | refine zkd ?_ | refine zka ?_ _)); refine blk_put (cs := #[.int .i64 ((rd_T79 l2 x15_2).f0.f0), .int .i64 ((rd_T79 l2 x15_2).f0.f1), .int .i64 ((rd_T79 l2 x15_2).f1.f0), .int .i64 ((rd_T79 l2 x15_2).f1.f1), .slice none 0 0]) ?_ 4 _ rfl; (with_reducible repeat (first | refine zkn ?_ _ | refine zkd ?_ | refine zka ?_ _)); refine blk_put (cs := #[.int .i64 ((rd_T79 l2 x15_2).f0.f0), .int .i64 ((rd_T79 l2 x15_2).f0.f1), .int .i64 ((rd_T79 l2 x15_2).f1.f0), .int .i64 0, .slice none 0 0]) ?_ 3 _ rfl; (with_reducible repeat (first | refine zkn ?_ _ | refine zkd ?_ | refine zka ?_ _)); refine blk_put (cs := #[.int .i64 ((rd_T79 l2 x15_2).f0.f0), .int .i64 ((rd_T79 l2 x15_2).f0.f1), .int .i64 0, .int .i64 0, .slice none 0 0]) ?_ 2 _ rfl; (with_reducible repeat (first | refine zkn ?_ _ | refine zkd ?_ | refine zka ?_ _)); refine blk_put (cs := #[.int .i64 ((rd_T79 l2 x15_2).f0.f0), .int .i64 0, .int .i64 0, .int .i64 0, .slice none 0 0]) ?_ 1 _ rfl; (with_reducible repeat (first | refine zkn ?_ _ | refine zkd ?_ | refine zka ?_ _)); refine blk_put (cs := #[.int .i64 0, .int .i64 0, .int .i64 0, .int .i64 0, .slice none 0 0]) ?_ 0 _ rfl; (with_reducible repeat (first | refine zkn ?_ _ | refine zkd ?_ | refine zka ?_ _)); exact BK124.out) hb); have n3_ := zam (zbt (by repeat (first | (with_reducible first | exact HB.out | apply zba | apply zbn | apply zb1 | refine zbs ?_ GE101.out | refine zbs ?_ GE124.out) | exact HB.out)) hb); have n4_ := zam (hbox); have n5_ := zam ((by rw [hg]; exact (zbz (by repeat (first | (with_reducible first | exact HB.out | apply zba | apply zbn | apply zb1 | refine zbs ?_ GE101.out | refine zbs ?_ GE124.out) | exact HB.out))) : w.heap.size ≤ gb125)); have n6_ := zam ((by rw [hg]; exact (zbz (by repeat (first | (with_reducible first | exact HB.out | apply zba | apply zbn | apply zb1 | refine zbs ?_ GE101.out | refine zbs ?_ GE124.out) | exact HB.out))) : w.heap.size ≤ gb125)); have n7_ := zam ((by rw [hg]; exact Nat.ne_of_lt (blk_lt (g := gb101) (o := .cells #[.int .i64 a0_0, .int .i64 a0_1] 72 (0, 0)) (by (with_reducible repeat (first | refine zkn ?_ _ | refine zkd ?_ | refine zka ?_ _)); refine zkf ?_ NB101_124.out _; (with_reducible repeat (first | refine zkn ?_ _ | refine zkd ?_ | refine zka ?_ _)); refine zkf ?_ NB101_124.out _; (with_reducible repeat (first | refine zkn ?_ _ | refine zkd ?_ | refine zka ?_ _)); refine zkf ?_ NB101_124.out _; (with_reducible repeat (first | refine zkn ?_ _ | refine zkd ?_ | refine zka ?_ _)); refine zkf ?_ NB101_124.out _; (with_reducible repeat (first | refine zkn ?_ _ | refine zkd ?_ | refine zka ?_ _)); refine zkf ?_ NB101_124.out _; (with_reducible repeat (first | refine zkn ?_ _ | refine zkd ?_ | refine zka ?_ _)); exact BK101.out)) : gb101 ≠ gb125)); have n8_ := zam ((by rw [hg]; exact Nat.ne_of_gt (blk_lt (g := gb101) (o := .cells #[.int .i64 a0_0, .int .i64 a0_1] 72 (0, 0)) (by (with_reducible repeat (first | refine zkn ?_ _ | refine zkd ?_ | refine zka ?_ _)); refine zkf ?_ NB101_124.out _; (with_reducible repeat (first | refine zkn ?_ _ | refine zkd ?_ | refine zka ?_ _)); refine zkf ?_ NB101_124.out _; (with_reducible repeat (first | refine zkn ?_ _ | refine zkd ?_ | refine zka ?_ _)); refine zkf ?_ NB101_124.out _; (with_reducible repeat (first | refine zkn ?_ _ | refine zkd ?_ | refine zka ?_ _)); refine zkf ?_ NB101_124.out _; (with_reducible repeat (first | refine zkn ?_ _ | refine zkd ?_ | refine zka ?_ _)); refine zkf ?_ NB101_124.out _; (with_reducible repeat (first | refine zkn ?_ _ | refine zkd ?_ | refine zka ?_ _)); exact BK101.out)) : gb125 ≠ gb101)); have n9_ := zam ((by rw [hg]; exact Nat.ne_of_lt (blk_lt (g := gb124) (o := .cells #[.int .i64 ((rd_T79 l2 x15_2).f0.f0), .int .i64 ((rd_T79 l2 x15_2).f0.f1), .int .i64 ((rd_T79 l2 x15_2).f1.f0), .int .i64 ((rd_T79 l2 x15_2).f1.f1), .slice A123_4 ((rd_T79 l2 x15_2).f2).length c123_4] 79 (0, 0)) (by (with_reducible repeat (first | refine zkn ?_ _ | refine zkd ?_ | refine zka ?_ _)); refine blk_put (cs := #[.int .i64 ((rd_T79 l2 x15_2).f0.f0), .int .i64 ((rd_T79 l2 x15_2).f0.f1), .int .i64 ((rd_T79 l2 x15_2).f1.f0), .int .i64 ((rd_T79 l2 x15_2).f1.f1), .slice none 0 0]) ?_ 4 _ rfl; (with_reducible repeat (first | refine zkn ?_ _ | refine zkd ?_ | refine zka ?_ _)); refine blk_put (cs := #[.int .i64 ((rd_T79 l2 x15_2).f0.f0), .int .i64 ((rd_T79 l2 x15_2).f0.f1), .int .i64 ((rd_T79 l2 x15_2).f1.f0), .int .i64 0, .slice none 0 0]) ?_ 3 _ rfl; (with_reducible repeat (first | refine zkn ?_ _ | refine zkd ?_ | refine zka ?_ _)); refine blk_put (cs := #[.int .i64 ((rd_T79 l2 x15_2).f0.f0), .int .i64 ((rd_T79 l2 x15_2).f0.f1), .int .i64 0, .int .i64 0, .slice none 0 0]) ?_ 2 _ rfl; (with_reducible repeat (first | refine zkn ?_ _ | refine zkd ?_ | refine zka ?_ _)); refine blk_put (cs := #[.int .i64 ((rd_T79 l2 x15_2).f0.f0), .int .i64 0, .int .i64 0, .int .i64 0, .slice none 0 0]) ?_ 1 _ rfl; (with_reducible repeat (first | refine zkn ?_ _ | refine zkd ?_ | refine zka ?_ _)); refine blk_put (cs := #[.int .i64 0, .int .i64 0, .int .i64 0, .int .i64 0, .slice none 0 0]) ?_ 0 _ rfl; (with_reducible repeat (first | refine zkn ?_ _ | refine zkd ?_ | refine zka ?_ _)); exact BK124.out)) : gb124 ≠ gb125)); have n10_ := zam ((by rw [hg]; exact Nat.ne_of_gt (blk_lt (g := gb124) (o := .cells #[.int .i64 ((rd_T79 l2 x15_2).f0.f0), .int .i64 ((rd_T79 l2 x15_2).f0.f1), .int .i64 ((rd_T79 l2 x15_2).f1.f0), .int .i64 ((rd_T79 l2 x15_2).f1.f1), .slice A123_4 ((rd_T79 l2 x15_2).f2).length c123_4] 79 (0, 0)) (by (with_reducible repeat (first | refine zkn ?_ _ | refine zkd ?_ | refine zka ?_ _)); refine blk_put (cs := #[.int .i64 ((rd_T79 l2 x15_2).f0.f0), .int .i64 ((rd_T79 l2 x15_2).f0.f1), .int .i64 ((rd_T79 l2 x15_2).f1.f0), .int .i64 ((rd_T79 l2 x15_2).f1.f1), .slice none 0 0]) ?_ 4 _ rfl; (with_reducible repeat (first | refine zkn ?_ _ | refine zkd ?_ | refine zka ?_ _)); refine blk_put (cs := #[.int .i64 ((rd_T79 l2 x15_2).f0.f0), .int .i64 ((rd_T79 l2 x15_2).f0.f1), .int .i64 ((rd_T79 l2 x15_2).f1.f0), .int .i64 0, .slice none 0 0]) ?_ 3 _ rfl; (with_reducible repeat (first | refine zkn ?_ _ | refine zkd ?_ | refine zka ?_ _)); refine blk_put (cs := #[.int .i64 ((rd_T79 l2 x15_2).f0.f0), .int .i64 ((rd_T79 l2 x15_2).f0.f1), .int .i64 0, .int .i64 0, .slice none 0 0]) ?_ 2 _ rfl; (with_reducible repeat (first | refine zkn ?_ _ | refine zkd ?_ | refine zka ?_ _)); refine blk_put (cs := #[.int .i64 ((rd_T79 l2 x15_2).f0.f0), .int .i64 0, .int .i64 0, .int .i64 0, .slice none 0 0]) ?_ 1 _ rfl; (with_reducible repeat (first | refine zkn ?_ _ | refine zkd ?_ | refine zka ?_ _)); refine blk_put (cs := #[.int .i64 0, .int .i64 0, .int .i64 0, .int .i64 0, .slice none 0 0]) ?_ 0 _ rfl; (with_reducible repeat (first | refine zkn ?_ _ | refine zkd ?_ | refine zka ?_ _)); exact BK124.out)) : gb125 ≠ gb124)); clear HO_16; clear BK101; clear BK124; clear HB; have HO_16 := n0_; have BK101 := n1_; have BK124 := n2_; have HB := n3_; have BK125 := n4_; have GW125 := n5_; have GE125 := n6_; have NB101_125 := n7_; have NB125_101 := n8_; have NB124_125 := n9_; have NB125_124 := n10_; clear n0_ n1_ n2_ n3_ n4_ n5_ n6_ n7_ n8_ n9_ n10_; clear hb hbox hg; have hnb48 := NB125_101.out; have hnc48 := NB101_125.out; have hnb49 := NB125_124.out; have hnc49 := NB124_125.out; have hcz50_0 : w47.cell? ⟨gb125, 0, none⟩ = some (.int .u8 0) := (zkc BK125.out 0).trans rfl; have hcz50_1 : w47.cell? ⟨gb125, 1, none⟩ = some (.int .u8 0) := (zkc BK125.out 1).trans rfl; have hfz50_0 := zkz BK125.out 0; have hfz50_1 := zkz BK125.out 1))
                   (try simp only [Act.put, zsa, zsz, zss])
                   go_cut [] (fun wc => ∃ (kq : Nat) (x126000_41 : Int) (x126001_41 : Int), Aside0 (isobathlaw02_MooringWays.j3 kq l1 l2 l4 x14_2 x15_2 a0_0 a0_1 ((rd_T79 l2 x15_2).f0.f0) ((rd_T79 l2 x15_2).f0.f1) ((rd_T79 l2 x15_2).f1.f0) ((rd_T79 l2 x15_2).f1.f1) ((rd_T79 l2 x15_2).f2) x126000_41 x126001_41 = some r) ∧ Aside0 (kq ≤ k3) ∧ Aside0 (wc.heap[gb101]? = some (.cells #[.int .i64 a0_0, .int .i64 a0_1] 72 (0, 0))) ∧ Aside0 (wc.heap[gb124]? = some (.cells #[.int .i64 ((rd_T79 l2 x15_2).f0.f0), .int .i64 ((rd_T79 l2 x15_2).f0.f1), .int .i64 ((rd_T79 l2 x15_2).f1.f0), .int .i64 ((rd_T79 l2 x15_2).f1.f1), (.slice A123_4 ((rd_T79 l2 x15_2).f2).length c123_4)] 79 (0, 0))) ∧ Aside0 (wc.heap[gb125]? = some (.cells #[.int .u8 x126000_41, .int .u8 x126001_41] 80 (0, 0))) ∧ Aside0 (Below w.heap.size w wc))
                   case first =>
                    have H := HC42.out
                    clear HC42
                    by_cases c51 : x15_2 < (l4.length : Int)
                    ·rw [if_pos c51] at H
                     have c51b0 : decide (x15_2 < (l4.length : Int)) = true := zdt c51
                     clear c51
                     (first | rw [c51b0] | (simp only [i64_w, i32_w]; rw [c51b0]) | skip)
                     as_aux_lemma =>
                      have H' := zam H
                      clear H
                      have p126 : 0 ≤ (x15_2 : Int) := zod (by first | (with_reducible assumption) | assumption)
                      have q126 : x15_2 < (l4.length : Int) := zod (by first | (with_reducible assumption) | assumption)
                      obtain ⟨ad126, e126, hx126_0, hx126_1⟩ := at_T80 HR4.out x15_2 p126 q126
                      cases e126
                      have hn126_0 : ad126.block ≠ gb125 := Nat.ne_of_lt (Nat.lt_of_lt_of_le (by have := zwb _ _ hx126_0; first | rwa [add_block] at this | exact this) GW125.out)
                      have hn126_1 : ad126.block ≠ gb125 := Nat.ne_of_lt (Nat.lt_of_lt_of_le (by have := zwb _ _ hx126_0; first | rwa [add_block] at this | exact this) GW125.out)
                      replace hx126_0 := (HB.out.cell (zwb w _ hx126_0)).trans hx126_0
                      replace hx126_1 := (HB.out.cell (zwb w _ hx126_1)).trans hx126_1
                      replace hx126_0 := (cell_far (p := ⟨gb125, 0, none⟩) (by first | (rw [add_block]; exact hn126_0) | (show (Addr.add _ _).block ≠ _; rw [add_block]; exact hn126_0) | exact hn126_0) (.int .u8 0)).trans hx126_0
                      replace hx126_1 := (cell_far (p := ⟨gb125, 0, none⟩) (by first | (rw [add_block]; exact hn126_0) | (show (Addr.add _ _).block ≠ _; rw [add_block]; exact hn126_0) | exact hn126_0) (.int .u8 0)).trans hx126_1
                      replace hx126_0 := (cell_far (p := ⟨gb125, 1, none⟩) (by first | (rw [add_block]; exact hn126_1) | (show (Addr.add _ _).block ≠ _; rw [add_block]; exact hn126_1) | exact hn126_1) (.int .u8 0)).trans hx126_0
                      replace hx126_1 := (cell_far (p := ⟨gb125, 1, none⟩) (by first | (rw [add_block]; exact hn126_1) | (show (Addr.add _ _).block ≠ _; rw [add_block]; exact hn126_1) | exact hn126_1) (.int .u8 0)).trans hx126_1
                      clear hn126_0
                      clear hn126_1
                      replace p126 := eq_true p126
                      replace q126 := eq_true q126
                      (try (have q126x := q126; simp only [zld, zlt] at q126x))
                      have hnb52 := NB125_101.out
                      have hnc52 := NB101_125.out
                      have hnb53 := NB125_124.out
                      have hnc53 := NB124_125.out
                      have hcz54_0 : w47.cell? ⟨gb125, 0, none⟩ = some (.int .u8 0) := (zkc BK125.out 0).trans rfl
                      have hcz54_1 : w47.cell? ⟨gb125, 1, none⟩ = some (.int .u8 0) := (zkc BK125.out 1).trans rfl
                      have hfz54_0 := zkz BK125.out 0
                      have hfz54_1 := zkz BK125.out 1
                      go_wp2
                      go_meet
                      case rel => exact ⟨_, ((rd_T80 l4 x15_2).f0), ((rd_T80 l4 x15_2).f1), H', ⟨by have := HJ5.out; have := HK2.out; have := HK3.out; first | omega | exact Nat.le_refl _⟩, ⟨by (with_reducible repeat (first | refine zkn ?_ _ | refine zkd ?_ | refine zka ?_ _)); refine zkf ?_ NB101_125.out _; (with_reducible repeat (first | refine zkn ?_ _ | refine zkd ?_ | refine zka ?_ _)); refine zkf ?_ NB101_125.out _; (with_reducible repeat (first | refine zkn ?_ _ | refine zkd ?_ | refine zka ?_ _)); refine zkf ?_ NB101_125.out _; (with_reducible repeat (first | refine zkn ?_ _ | refine zkd ?_ | refine zka ?_ _)); refine zkf ?_ NB101_125.out _; (with_reducible repeat (first | refine zkn ?_ _ | refine zkd ?_ | refine zka ?_ _)); exact BK101.out⟩, ⟨by (with_reducible repeat (first | refine zkn ?_ _ | refine zkd ?_ | refine zka ?_ _)); refine zkf ?_ NB124_125.out _; (with_reducible repeat (first | refine zkn ?_ _ | refine zkd ?_ | refine zka ?_ _)); refine zkf ?_ NB124_125.out _; (with_reducible repeat (first | refine zkn ?_ _ | refine zkd ?_ | refine zka ?_ _)); refine zkf ?_ NB124_125.out _; (with_reducible repeat (first | refine zkn ?_ _ | refine zkd ?_ | refine zka ?_ _)); refine zkf ?_ NB124_125.out _; (with_reducible repeat (first | refine zkn ?_ _ | refine zkd ?_ | refine zka ?_ _)); exact BK124.out⟩, ⟨by (with_reducible repeat (first | refine zkn ?_ _ | refine zkd ?_ | refine zka ?_ _)); refine blk_put (cs := #[.int .u8 ((rd_T80 l4 x15_2).f0), .int .u8 0]) ?_ 1 _ rfl; (with_reducible repeat (first | refine zkn ?_ _ | refine zkd ?_ | refine zka ?_ _)); refine blk_put (cs := #[.int .u8 0, .int .u8 0]) ?_ 0 _ rfl; (with_reducible repeat (first | refine zkn ?_ _ | refine zkd ?_ | refine zka ?_ _)); refine blk_put (cs := #[.int .u8 0, .int .u8 0]) ?_ 1 _ rfl; (with_reducible repeat (first | refine zkn ?_ _ | refine zkd ?_ | refine zka ?_ _)); refine blk_put (cs := #[.int .u8 0, .int .u8 0]) ?_ 0 _ rfl; (with_reducible repeat (first | refine zkn ?_ _ | refine zkd ?_ | refine zka ?_ _)); exact BK125.out⟩, ⟨by repeat (first | (with_reducible first | exact HB.out | apply zba | apply zbn | apply zb1 | refine zbs ?_ GE101.out | refine zbs ?_ GE124.out | refine zbs ?_ GE125.out) | exact HB.out)⟩⟩
                    rw [if_neg c51] at H
                    have c51b0 : decide (x15_2 < (l4.length : Int)) = false := zdf c51
                    clear c51
                    (first | rw [c51b0] | (simp only [i64_w, i32_w]; rw [c51b0]) | skip)
                    as_aux_lemma =>
                     have H' := zam H
                     clear H
                     go_wp2
                     go_meet
                     case rel => exact ⟨_, (0), (0), H', ⟨by have := HJ5.out; have := HK2.out; have := HK3.out; first | omega | exact Nat.le_refl _⟩, ⟨by (with_reducible repeat (first | refine zkn ?_ _ | refine zkd ?_ | refine zka ?_ _)); refine zkf ?_ NB101_125.out _; (with_reducible repeat (first | refine zkn ?_ _ | refine zkd ?_ | refine zka ?_ _)); refine zkf ?_ NB101_125.out _; (with_reducible repeat (first | refine zkn ?_ _ | refine zkd ?_ | refine zka ?_ _)); exact BK101.out⟩, ⟨by (with_reducible repeat (first | refine zkn ?_ _ | refine zkd ?_ | refine zka ?_ _)); refine zkf ?_ NB124_125.out _; (with_reducible repeat (first | refine zkn ?_ _ | refine zkd ?_ | refine zka ?_ _)); refine zkf ?_ NB124_125.out _; (with_reducible repeat (first | refine zkn ?_ _ | refine zkd ?_ | refine zka ?_ _)); exact BK124.out⟩, ⟨by (with_reducible repeat (first | refine zkn ?_ _ | refine zkd ?_ | refine zka ?_ _)); refine blk_put (cs := #[.int .u8 0, .int .u8 0]) ?_ 1 _ rfl; (with_reducible repeat (first | refine zkn ?_ _ | refine zkd ?_ | refine zka ?_ _)); refine blk_put (cs := #[.int .u8 0, .int .u8 0]) ?_ 0 _ rfl; (with_reducible repeat (first | refine zkn ?_ _ | refine zkd ?_ | refine zka ?_ _)); exact BK125.out⟩, ⟨by repeat (first | (with_reducible first | exact HB.out | apply zba | apply zbn | apply zb1 | refine zbs ?_ GE101.out | refine zbs ?_ GE124.out | refine zbs ?_ GE125.out) | exact HB.out)⟩⟩
                   case rest =>
                    clear HC42
                    try clear c1
                    try clear p1
                    try clear q1
                    try clear hx1
                    try clear c2
                    try clear p2
                    try clear q2
                    try clear c3
                    try clear c4
                    try clear c5
                    try clear p6
                    try clear c9
                    try clear c10
                    try clear c10b0
                    try clear c10b1
                    try clear c11
                    try clear p11
                    try clear q11
                    try clear hx11
                    try clear c12
                    try clear p12
                    try clear q12
                    try clear hx12
                    try clear c14
                    try clear c15
                    try clear c15b0
                    try clear c15b1
                    try clear c16
                    try clear c16b0
                    try clear c16b1
                    try clear c16b2
                    try clear c18
                    try clear c18b0
                    try clear c19
                    try clear c19b0
                    try clear c22
                    try clear c22b0
                    try clear c23
                    try clear c23b0
                    try clear c23b1
                    try clear c24
                    try clear c24b0
                    try clear c26
                    try clear c26b0
                    try clear c26b1
                    try clear q28
                    try clear c30
                    try clear c30b0
                    try clear c31
                    try clear c33
                    try clear c33b0
                    try clear c35
                    try clear c36
                    try clear c36b0
                    try clear c36b1
                    try clear c40
                    try clear c40b0
                    try clear c41
                    try clear c41b0
                    try clear c45
                    try clear c46
                    try clear c47
                    try clear c48
                    try clear c49
                    try clear c51
                    try clear c51b0
                    try clear c52
                    try clear c53
                    try clear hcz20_0
                    try clear hcz20_1
                    try clear hcz46_0
                    try clear hcz46_1
                    try clear hcz46_2
                    try clear hcz46_3
                    try clear hcz46_4
                    try clear hcz50_0
                    try clear hcz50_1
                    try clear hcz54_0
                    try clear hcz54_1
                    try clear hfz20_0
                    try clear hfz20_1
                    try clear hfz46_0
                    try clear hfz46_1
                    try clear hfz46_2
                    try clear hfz46_3
                    try clear hfz46_4
                    try clear hfz50_0
                    try clear hfz50_1
                    try clear hfz54_0
                    try clear hfz54_1
                    try clear hx110_0
                    try clear hx121_0
                    try clear hx123_0
                    try clear hx123_1
                    try clear hx123_2
                    try clear hx123_3
                    try clear hx123_4
                    try clear hx126_0
                    try clear hx126_1
                    try clear p1
                    try clear p11
                    try clear p110
                    try clear p121
                    try clear p123
                    try clear p126
                    try clear p2
                    try clear p6
                    try clear q1
                    try clear q11
                    try clear q110
                    try clear q121
                    try clear q123
                    try clear q126
                    try clear q2
                    try clear q28
                    obtain ⟨kq, x126000_41, x126001_41, HA, HJ41, BK101, BK124, BK125, HB⟩ := hcut
                    as_aux_lemma =>
                     cases kq with
                     | zero => exact absurd HA.out (by simp [isobathlaw02_MooringWays.j3])
                     | succ kj41 =>
                      have H := HA.out
                      clear HA
                      simp only [isobathlaw02_MooringWays.j3] at H
                      by_cases c55 : a0_0 = 0
                      ·rw [if_pos c55] at H
                       exact absurd H (by simp)
                      rw [if_neg c55] at H
                      have c55b0 : (a0_0 == 0) = false := beq_eq_false_iff_ne.mpr c55
                      have c55b1 : (a0_0 != 0) = true := bne_iff_ne.mpr c55
                      by_cases c56 : (wrap64 ((wrap64 (((rd_T79 l2 x15_2).f0.f1) - ((rd_T79 l2 x15_2).f0.f0))) + 1)) = 0
                      ·rw [if_pos c56] at H
                       exact absurd H (by simp)
                      rw [if_neg c56] at H
                      have c56b0 : ((wrap64 ((wrap64 (((rd_T79 l2 x15_2).f0.f1) - ((rd_T79 l2 x15_2).f0.f0))) + 1)) == 0) = false := beq_eq_false_iff_ne.mpr c56
                      have c56b1 : ((wrap64 ((wrap64 (((rd_T79 l2 x15_2).f0.f1) - ((rd_T79 l2 x15_2).f0.f0))) + 1)) != 0) = true := bne_iff_ne.mpr c56
                      by_cases c57 : (wrap64 ((wrap64 (((rd_T79 l2 x15_2).f1.f1) - ((rd_T79 l2 x15_2).f1.f0))) + 1)) = 0
                      ·rw [if_pos c57] at H
                       exact absurd H (by simp)
                      rw [if_neg c57] at H
                      have c57b0 : ((wrap64 ((wrap64 (((rd_T79 l2 x15_2).f1.f1) - ((rd_T79 l2 x15_2).f1.f0))) + 1)) == 0) = false := beq_eq_false_iff_ne.mpr c57
                      have c57b1 : ((wrap64 ((wrap64 (((rd_T79 l2 x15_2).f1.f1) - ((rd_T79 l2 x15_2).f1.f0))) + 1)) != 0) = true := bne_iff_ne.mpr c57
                      have HC58 := zam H
                      clear H
                      try go_wp2
                      have n0_ := zam (zkd BK101.out)
                      have n1_ := zam (zkd BK124.out)
                      have n2_ := zam (zkd BK125.out)
                      have n3_ := zam (zb1 HB.out)
                      clear BK101
                      clear BK124
                      clear BK125
                      clear HB
                      have BK101 := n0_
                      have BK124 := n1_
                      have BK125 := n2_
                      have HB := n3_
                      clear n0_ n1_ n2_ n3_
                      refine start_ (n := 22) (S := fun w' => w'.cell? ⟨gb101, 0, none⟩ = some (.int .i64 a0_0) ∧ w'.cell? ⟨gb101, 1, none⟩ = some (.int .i64 a0_1) ∧ w'.cell? ⟨gb124, 0, none⟩ = some (.int .i64 ((rd_T79 l2 x15_2).f0.f0)) ∧ w'.cell? ⟨gb124, 1, none⟩ = some (.int .i64 ((rd_T79 l2 x15_2).f0.f1)) ∧ w'.cell? ⟨gb124, 2, none⟩ = some (.int .i64 ((rd_T79 l2 x15_2).f1.f0)) ∧ w'.cell? ⟨gb124, 3, none⟩ = some (.int .i64 ((rd_T79 l2 x15_2).f1.f1)) ∧ w'.cell? ⟨gb124, 4, none⟩ = some (.slice A123_4 ((rd_T79 l2 x15_2).f2).length c123_4) ∧ w'.cell? ⟨gb125, 0, none⟩ = some (.int .u8 x126000_41) ∧ w'.cell? ⟨gb125, 1, none⟩ = some (.int .u8 x126001_41)) (ds := []) #[false, false, false, false, false, false, false, false, false, false, false, false, false, false, false, false, false, false, false, false, false, false] (by kernel_rfl) rfl rfl ⟨(zkc BK101.out 0).trans rfl, (zkc BK101.out 1).trans rfl, (zkc BK124.out 0).trans rfl, (zkc BK124.out 1).trans rfl, (zkc BK124.out 2).trans rfl, (zkc BK124.out 3).trans rfl, (zkc BK124.out 4).trans rfl, (zkc BK125.out 0).trans rfl, (zkc BK125.out 1).trans rfl⟩ (fun hHeld => ?_); refine with_tabW isobathlaw02_MooringWays.tab25 isobathlaw02_MooringWays.bits25 (fun HT_ HW_ => ?_)
                      generalize wc.drew = w59 at BK101 BK124 BK125 HB hHeld ⊢
                      refine pure_ (i := 0) (N := some 114) (v := ?_) (a' := ?_) #[true, false, false, false, false, false, false, false, false, false, false, false, false, false, false, false, false, false, false, false, false, false] rfl rfl (any_of HT_.out (by kernel_rfl)) (fun _ _ _ h => h) (Or.inl ⟨by rfl, ?_⟩) ?_ ?_
                      rotate_left
                      ·intro w'
                       go_simp
                       with_reducible rfl
                      rotate_left
                      ·simp only [Act.put, zsa, zsz, zss, i64_w, i32_w]
                       rfl
                      refine pure_ (i := 1) (N := some 115) (v := ?_) (a' := ?_) #[true, true, false, false, false, false, false, false, false, false, false, false, false, false, false, false, false, false, false, false, false, false] rfl rfl (any_of HT_.out (by kernel_rfl)) (fun _ _ _ h => h) (Or.inl ⟨by rfl, ?_⟩) ?_ ?_
                      rotate_left
                      ·intro w'
                       go_simp
                       with_reducible rfl
                      rotate_left
                      ·simp only [Act.put, zsa, zsz, zss, i64_w, i32_w]
                       rfl
                      refine pure_ (i := 4) (N := some 118) (v := ?_) (a' := ?_) #[true, true, false, false, true, false, false, false, false, false, false, false, false, false, false, false, false, false, false, false, false, false] rfl rfl (any_of HT_.out (by kernel_rfl)) (fun _ _ _ h => h) (Or.inl ⟨by rfl, ?_⟩) ?_ ?_
                      rotate_left
                      ·intro w'
                       go_simp
                       with_reducible rfl
                      rotate_left
                      ·simp only [Act.put, zsa, zsz, zss, i64_w, i32_w]
                       rfl
                      refine pure_ (i := 5) (N := some 119) (v := ?_) (a' := ?_) #[true, true, false, false, true, true, false, false, false, false, false, false, false, false, false, false, false, false, false, false, false, false] rfl rfl (any_of HT_.out (by kernel_rfl)) (fun _ _ _ h => h) (Or.inl ⟨by rfl, ?_⟩) ?_ ?_
                      rotate_left
                      ·intro w'
                       go_simp
                       with_reducible rfl
                      rotate_left
                      ·simp only [Act.put, zsa, zsz, zss, i64_w, i32_w]
                       rfl
                      refine pure_ (i := 8) (N := some 122) (v := ?_) (a' := ?_) #[true, true, false, false, true, true, false, false, true, false, false, false, false, false, false, false, false, false, false, false, false, false] rfl rfl (any_of HT_.out (by kernel_rfl)) (fun _ _ _ h => h) (Or.inl ⟨by rfl, ?_⟩) ?_ ?_
                      rotate_left
                      ·intro w'
                       go_simp
                       with_reducible rfl
                      rotate_left
                      ·simp only [Act.put, zsa, zsz, zss, i64_w, i32_w]
                       rfl
                      refine pure_ (i := 11) (N := some 125) (v := ?_) (a' := ?_) #[true, true, false, false, true, true, false, false, true, false, false, true, false, false, false, false, false, false, false, false, false, false] rfl rfl (any_of HT_.out (by kernel_rfl)) (fun _ _ _ h => h) (Or.inl ⟨by rfl, ?_⟩) ?_ ?_
                      rotate_left
                      ·intro w'
                       go_simp
                       with_reducible rfl
                      rotate_left
                      ·simp only [Act.put, zsa, zsz, zss, i64_w, i32_w]
                       rfl
                      refine pure_ (i := 12) (N := some 126) (v := ?_) (a' := ?_) #[true, true, false, false, true, true, false, false, true, false, false, true, true, false, false, false, false, false, false, false, false, false] rfl rfl (any_of HT_.out (by kernel_rfl)) (fun _ _ _ h => h) (Or.inl ⟨by rfl, ?_⟩) ?_ ?_
                      rotate_left
                      ·intro w'
                       go_simp
                       with_reducible rfl
                      rotate_left
                      ·simp only [Act.put, zsa, zsz, zss, i64_w, i32_w]
                       rfl
                      refine pure_ (i := 14) (N := some 128) (v := ?_) (a' := ?_) #[true, true, false, false, true, true, false, false, true, false, false, true, true, false, true, false, false, false, false, false, false, false] rfl rfl (any_of HT_.out (by kernel_rfl)) (fun _ _ _ h => h) (Or.inl ⟨by rfl, ?_⟩) ?_ ?_
                      rotate_left
                      ·intro w'
                       go_simp
                       with_reducible rfl
                      rotate_left
                      ·simp only [Act.put, zsa, zsz, zss, i64_w, i32_w]
                       rfl
                      refine pure_ (i := 15) (N := some 129) (v := ?_) (a' := ?_) #[true, true, false, false, true, true, false, false, true, false, false, true, true, false, true, true, false, false, false, false, false, false] rfl rfl (any_of HT_.out (by kernel_rfl)) (fun _ _ _ h => h) (Or.inl ⟨by rfl, ?_⟩) ?_ ?_
                      rotate_left
                      ·intro w'
                       go_simp
                       with_reducible rfl
                      rotate_left
                      ·simp only [Act.put, zsa, zsz, zss, i64_w, i32_w]
                       rfl
                      refine take_ (i := 2) (N := some 116) (v := ?_) (a' := ?_) #[true, true, true, false, true, true, false, false, true, false, false, true, true, false, true, true, false, false, false, false, false, false] rfl rfl (take_ofW HT_.out HW_.out (by kernel_rfl)) (fun _ _ _ h => h) (Or.inl ⟨by rfl, ?_⟩) hHeld ?_ ?_
                      rotate_left
                      ·rintro w' ⟨s0, s1, s2, s3, s4, s5, s6, s7, s8⟩
                       go_simp
                       with_reducible rfl
                      rotate_left
                      ·simp only [Act.put, zsa, zsz, zss, i64_w, i32_w]
                       rfl
                      refine pure_ (i := 3) (N := some 117) (v := ?_) (a' := ?_) #[true, true, true, true, true, true, false, false, true, false, false, true, true, false, true, true, false, false, false, false, false, false] rfl rfl (any_of HT_.out (by kernel_rfl)) (fun _ _ _ h => h) (Or.inl ⟨by rfl, ?_⟩) ?_ ?_
                      rotate_left
                      ·intro w'
                       go_simp
                       with_reducible rfl
                      rotate_left
                      ·simp only [Act.put, zsa, zsz, zss, i64_w, i32_w]
                       rfl
                      refine take_ (i := 6) (N := some 120) (v := ?_) (a' := ?_) #[true, true, true, true, true, true, true, false, true, false, false, true, true, false, true, true, false, false, false, false, false, false] rfl rfl (take_ofW HT_.out HW_.out (by kernel_rfl)) (fun _ _ _ h => h) (Or.inl ⟨by rfl, ?_⟩) hHeld ?_ ?_
                      rotate_left
                      ·rintro w' ⟨s0, s1, s2, s3, s4, s5, s6, s7, s8⟩
                       go_simp
                       with_reducible rfl
                      rotate_left
                      ·simp only [Act.put, zsa, zsz, zss, i64_w, i32_w]
                       rfl
                      refine pure_ (i := 7) (N := some 121) (v := ?_) (a' := ?_) #[true, true, true, true, true, true, true, true, true, false, false, true, true, false, true, true, false, false, false, false, false, false] rfl rfl (any_of HT_.out (by kernel_rfl)) (fun _ _ _ h => h) (Or.inl ⟨by rfl, ?_⟩) ?_ ?_
                      rotate_left
                      ·intro w'
                       go_simp
                       with_reducible rfl
                      rotate_left
                      ·simp only [Act.put, zsa, zsz, zss, i64_w, i32_w]
                       rfl
                      refine take_ (i := 9) (N := some 123) (v := ?_) (a' := ?_) #[true, true, true, true, true, true, true, true, true, true, false, true, true, false, true, true, false, false, false, false, false, false] rfl rfl (take_ofW HT_.out HW_.out (by kernel_rfl)) (fun _ _ _ h => h) (Or.inl ⟨by rfl, ?_⟩) hHeld ?_ ?_
                      rotate_left
                      ·rintro w' ⟨s0, s1, s2, s3, s4, s5, s6, s7, s8⟩
                       go_simp
                       with_reducible rfl
                      rotate_left
                      ·simp only [Act.put, zsa, zsz, zss, i64_w, i32_w]
                       rfl
                      refine pure_ (i := 10) (N := some 124) (v := ?_) (a' := ?_) #[true, true, true, true, true, true, true, true, true, true, true, true, true, false, true, true, false, false, false, false, false, false] rfl rfl (any_of HT_.out (by kernel_rfl)) (fun _ _ _ h => h) (Or.inl ⟨by rfl, ?_⟩) ?_ ?_
                      rotate_left
                      ·intro w'
                       go_simp
                       with_reducible rfl
                      rotate_left
                      ·simp only [Act.put, zsa, zsz, zss, i64_w, i32_w]
                       rfl
                      refine take_ (i := 13) (N := some 127) (v := ?_) (a' := ?_) #[true, true, true, true, true, true, true, true, true, true, true, true, true, true, true, true, false, false, false, false, false, false] rfl rfl (take_ofW HT_.out HW_.out (by kernel_rfl)) (fun _ _ _ h => h) (Or.inl ⟨by rfl, ?_⟩) hHeld ?_ ?_
                      rotate_left
                      ·rintro w' ⟨s0, s1, s2, s3, s4, s5, s6, s7, s8⟩
                       go_simp
                       with_reducible rfl
                      rotate_left
                      ·simp only [Act.put, zsa, zsz, zss, i64_w, i32_w]
                       rfl
                      refine take_ (i := 16) (N := some 130) (v := ?_) (a' := ?_) #[true, true, true, true, true, true, true, true, true, true, true, true, true, true, true, true, true, false, false, false, false, false] rfl rfl (take_ofW HT_.out HW_.out (by kernel_rfl)) (fun _ _ _ h => h) (Or.inl ⟨by rfl, ?_⟩) hHeld ?_ ?_
                      rotate_left
                      ·rintro w' ⟨s0, s1, s2, s3, s4, s5, s6, s7, s8⟩
                       go_simp
                       with_reducible rfl
                      rotate_left
                      ·simp only [Act.put, zsa, zsz, zss, i64_w, i32_w]
                       rfl
                      refine pure_ (i := 17) (N := some 131) (v := ?_) (a' := ?_) #[true, true, true, true, true, true, true, true, true, true, true, true, true, true, true, true, true, true, false, false, false, false] rfl rfl (any_of HT_.out (by kernel_rfl)) (fun _ _ _ h => h) (Or.inl ⟨by rfl, ?_⟩) ?_ ?_
                      rotate_left
                      ·intro w'
                       go_simp
                       with_reducible rfl
                      rotate_left
                      ·simp only [Act.put, zsa, zsz, zss, i64_w, i32_w]
                       rfl
                      refine pure_ (i := 18) (N := some 132) (v := ?_) (a' := ?_) #[true, true, true, true, true, true, true, true, true, true, true, true, true, true, true, true, true, true, true, false, false, false] rfl rfl (any_of HT_.out (by kernel_rfl)) (fun _ _ _ h => h) (Or.inl ⟨by rfl, ?_⟩) ?_ ?_
                      rotate_left
                      ·intro w'
                       go_simp
                       with_reducible rfl
                      rotate_left
                      ·simp only [Act.put, zsa, zsz, zss, i64_w, i32_w]
                       rfl
                      refine pure_ (i := 19) (N := some 133) (v := ?_) (a' := ?_) #[true, true, true, true, true, true, true, true, true, true, true, true, true, true, true, true, true, true, true, true, false, false] rfl rfl (any_of HT_.out (by kernel_rfl)) (fun _ _ _ h => h) (Or.inl ⟨by rfl, ?_⟩) ?_ ?_
                      rotate_left
                      ·intro w'
                       go_simp
                       with_reducible rfl
                      rotate_left
                      ·simp only [Act.put, zsa, zsz, zss, i64_w, i32_w]
                       rfl
                      refine pure_ (i := 20) (N := some 134) (v := ?_) (a' := ?_) #[true, true, true, true, true, true, true, true, true, true, true, true, true, true, true, true, true, true, true, true, true, false] rfl rfl (any_of HT_.out (by kernel_rfl)) (fun _ _ _ h => h) (Or.inl ⟨by rfl, ?_⟩) ?_ ?_
                      rotate_left
                      ·intro w'
                       go_simp
                       with_reducible rfl
                      rotate_left
                      ·simp only [Act.put, zsa, zsz, zss, i64_w, i32_w]
                       rfl
                      refine pure_ (i := 21) (N := some 23) (v := ?_) (a' := ?_) #[true, true, true, true, true, true, true, true, true, true, true, true, true, true, true, true, true, true, true, true, true, true] rfl rfl (any_of HT_.out (by kernel_rfl)) (fun _ _ _ h => h) (Or.inl ⟨by rfl, ?_⟩) ?_ ?_
                      rotate_left
                      ·intro w'
                       go_simp
                       with_reducible rfl
                      rotate_left
                      ·simp only [Act.put, zsa, zsz, zss, i64_w, i32_w]
                       rfl
                      refine done_ (done_of HT_.out (by kernel_rfl)) ?_
                      try go_wp2
                      have n0_ := zam (zkd BK101.out)
                      have n1_ := zam (zkd BK124.out)
                      have n2_ := zam (zkd BK125.out)
                      have n3_ := zam (zb1 HB.out)
                      clear BK101
                      clear BK124
                      clear BK125
                      clear HB
                      have BK101 := n0_
                      have BK124 := n1_
                      have BK125 := n2_
                      have HB := n3_
                      clear n0_ n1_ n2_ n3_
                      refine start_ (n := 22) (S := fun w' => w'.cell? ⟨gb101, 0, none⟩ = some (.int .i64 a0_0) ∧ w'.cell? ⟨gb101, 1, none⟩ = some (.int .i64 a0_1) ∧ w'.cell? ⟨gb124, 0, none⟩ = some (.int .i64 ((rd_T79 l2 x15_2).f0.f0)) ∧ w'.cell? ⟨gb124, 1, none⟩ = some (.int .i64 ((rd_T79 l2 x15_2).f0.f1)) ∧ w'.cell? ⟨gb124, 2, none⟩ = some (.int .i64 ((rd_T79 l2 x15_2).f1.f0)) ∧ w'.cell? ⟨gb124, 3, none⟩ = some (.int .i64 ((rd_T79 l2 x15_2).f1.f1)) ∧ w'.cell? ⟨gb124, 4, none⟩ = some (.slice A123_4 ((rd_T79 l2 x15_2).f2).length c123_4) ∧ w'.cell? ⟨gb125, 0, none⟩ = some (.int .u8 x126000_41) ∧ w'.cell? ⟨gb125, 1, none⟩ = some (.int .u8 x126001_41)) (ds := []) #[false, false, false, false, false, false, false, false, false, false, false, false, false, false, false, false, false, false, false, false, false, false] (by kernel_rfl) rfl rfl ⟨(zkc BK101.out 0).trans rfl, (zkc BK101.out 1).trans rfl, (zkc BK124.out 0).trans rfl, (zkc BK124.out 1).trans rfl, (zkc BK124.out 2).trans rfl, (zkc BK124.out 3).trans rfl, (zkc BK124.out 4).trans rfl, (zkc BK125.out 0).trans rfl, (zkc BK125.out 1).trans rfl⟩ (fun hHeld => ?_); refine with_tabW isobathlaw02_MooringWays.tab26 isobathlaw02_MooringWays.bits26 (fun HT_ HW_ => ?_)
                      generalize w59.drew = w60 at BK101 BK124 BK125 HB hHeld ⊢
                      refine pure_ (i := 0) (N := some 135) (v := ?_) (a' := ?_) #[true, false, false, false, false, false, false, false, false, false, false, false, false, false, false, false, false, false, false, false, false, false] rfl rfl (any_of HT_.out (by kernel_rfl)) (fun _ _ _ h => h) (Or.inl ⟨by rfl, ?_⟩) ?_ ?_
                      rotate_left
                      ·intro w'
                       go_simp
                       with_reducible rfl
                      rotate_left
                      ·simp only [Act.put, zsa, zsz, zss, i64_w, i32_w]
                       rfl
                      refine pure_ (i := 1) (N := some 136) (v := ?_) (a' := ?_) #[true, true, false, false, false, false, false, false, false, false, false, false, false, false, false, false, false, false, false, false, false, false] rfl rfl (any_of HT_.out (by kernel_rfl)) (fun _ _ _ h => h) (Or.inl ⟨by rfl, ?_⟩) ?_ ?_
                      rotate_left
                      ·intro w'
                       go_simp
                       with_reducible rfl
                      rotate_left
                      ·simp only [Act.put, zsa, zsz, zss, i64_w, i32_w]
                       rfl
                      refine pure_ (i := 4) (N := some 139) (v := ?_) (a' := ?_) #[true, true, false, false, true, false, false, false, false, false, false, false, false, false, false, false, false, false, false, false, false, false] rfl rfl (any_of HT_.out (by kernel_rfl)) (fun _ _ _ h => h) (Or.inl ⟨by rfl, ?_⟩) ?_ ?_
                      rotate_left
                      ·intro w'
                       go_simp
                       with_reducible rfl
                      rotate_left
                      ·simp only [Act.put, zsa, zsz, zss, i64_w, i32_w]
                       rfl
                      refine pure_ (i := 5) (N := some 140) (v := ?_) (a' := ?_) #[true, true, false, false, true, true, false, false, false, false, false, false, false, false, false, false, false, false, false, false, false, false] rfl rfl (any_of HT_.out (by kernel_rfl)) (fun _ _ _ h => h) (Or.inl ⟨by rfl, ?_⟩) ?_ ?_
                      rotate_left
                      ·intro w'
                       go_simp
                       with_reducible rfl
                      rotate_left
                      ·simp only [Act.put, zsa, zsz, zss, i64_w, i32_w]
                       rfl
                      refine pure_ (i := 8) (N := some 143) (v := ?_) (a' := ?_) #[true, true, false, false, true, true, false, false, true, false, false, false, false, false, false, false, false, false, false, false, false, false] rfl rfl (any_of HT_.out (by kernel_rfl)) (fun _ _ _ h => h) (Or.inl ⟨by rfl, ?_⟩) ?_ ?_
                      rotate_left
                      ·intro w'
                       go_simp
                       with_reducible rfl
                      rotate_left
                      ·simp only [Act.put, zsa, zsz, zss, i64_w, i32_w]
                       rfl
                      refine pure_ (i := 11) (N := some 146) (v := ?_) (a' := ?_) #[true, true, false, false, true, true, false, false, true, false, false, true, false, false, false, false, false, false, false, false, false, false] rfl rfl (any_of HT_.out (by kernel_rfl)) (fun _ _ _ h => h) (Or.inl ⟨by rfl, ?_⟩) ?_ ?_
                      rotate_left
                      ·intro w'
                       go_simp
                       with_reducible rfl
                      rotate_left
                      ·simp only [Act.put, zsa, zsz, zss, i64_w, i32_w]
                       rfl
                      refine pure_ (i := 12) (N := some 147) (v := ?_) (a' := ?_) #[true, true, false, false, true, true, false, false, true, false, false, true, true, false, false, false, false, false, false, false, false, false] rfl rfl (any_of HT_.out (by kernel_rfl)) (fun _ _ _ h => h) (Or.inl ⟨by rfl, ?_⟩) ?_ ?_
                      rotate_left
                      ·intro w'
                       go_simp
                       with_reducible rfl
                      rotate_left
                      ·simp only [Act.put, zsa, zsz, zss, i64_w, i32_w]
                       rfl
                      refine pure_ (i := 14) (N := some 149) (v := ?_) (a' := ?_) #[true, true, false, false, true, true, false, false, true, false, false, true, true, false, true, false, false, false, false, false, false, false] rfl rfl (any_of HT_.out (by kernel_rfl)) (fun _ _ _ h => h) (Or.inl ⟨by rfl, ?_⟩) ?_ ?_
                      rotate_left
                      ·intro w'
                       go_simp
                       with_reducible rfl
                      rotate_left
                      ·simp only [Act.put, zsa, zsz, zss, i64_w, i32_w]
                       rfl
                      refine pure_ (i := 15) (N := some 150) (v := ?_) (a' := ?_) #[true, true, false, false, true, true, false, false, true, false, false, true, true, false, true, true, false, false, false, false, false, false] rfl rfl (any_of HT_.out (by kernel_rfl)) (fun _ _ _ h => h) (Or.inl ⟨by rfl, ?_⟩) ?_ ?_
                      rotate_left
                      ·intro w'
                       go_simp
                       with_reducible rfl
                      rotate_left
                      ·simp only [Act.put, zsa, zsz, zss, i64_w, i32_w]
                       rfl
                      refine take_ (i := 2) (N := some 137) (v := ?_) (a' := ?_) #[true, true, true, false, true, true, false, false, true, false, false, true, true, false, true, true, false, false, false, false, false, false] rfl rfl (take_ofW HT_.out HW_.out (by kernel_rfl)) (fun _ _ _ h => h) (Or.inl ⟨by rfl, ?_⟩) hHeld ?_ ?_
                      rotate_left
                      ·rintro w' ⟨s0, s1, s2, s3, s4, s5, s6, s7, s8⟩
                       go_simp
                       with_reducible rfl
                      rotate_left
                      ·simp only [Act.put, zsa, zsz, zss, i64_w, i32_w]
                       rfl
                      refine pure_ (i := 3) (N := some 138) (v := ?_) (a' := ?_) #[true, true, true, true, true, true, false, false, true, false, false, true, true, false, true, true, false, false, false, false, false, false] rfl rfl (any_of HT_.out (by kernel_rfl)) (fun _ _ _ h => h) (Or.inl ⟨by rfl, ?_⟩) ?_ ?_
                      rotate_left
                      ·intro w'
                       go_simp
                       with_reducible rfl
                      rotate_left
                      ·simp only [Act.put, zsa, zsz, zss, i64_w, i32_w]
                       rfl
                      refine take_ (i := 6) (N := some 141) (v := ?_) (a' := ?_) #[true, true, true, true, true, true, true, false, true, false, false, true, true, false, true, true, false, false, false, false, false, false] rfl rfl (take_ofW HT_.out HW_.out (by kernel_rfl)) (fun _ _ _ h => h) (Or.inl ⟨by rfl, ?_⟩) hHeld ?_ ?_
                      rotate_left
                      ·rintro w' ⟨s0, s1, s2, s3, s4, s5, s6, s7, s8⟩
                       go_simp
                       with_reducible rfl
                      rotate_left
                      ·simp only [Act.put, zsa, zsz, zss, i64_w, i32_w]
                       rfl
                      refine pure_ (i := 7) (N := some 142) (v := ?_) (a' := ?_) #[true, true, true, true, true, true, true, true, true, false, false, true, true, false, true, true, false, false, false, false, false, false] rfl rfl (any_of HT_.out (by kernel_rfl)) (fun _ _ _ h => h) (Or.inl ⟨by rfl, ?_⟩) ?_ ?_
                      rotate_left
                      ·intro w'
                       go_simp
                       with_reducible rfl
                      rotate_left
                      ·simp only [Act.put, zsa, zsz, zss, i64_w, i32_w]
                       rfl
                      refine take_ (i := 9) (N := some 144) (v := ?_) (a' := ?_) #[true, true, true, true, true, true, true, true, true, true, false, true, true, false, true, true, false, false, false, false, false, false] rfl rfl (take_ofW HT_.out HW_.out (by kernel_rfl)) (fun _ _ _ h => h) (Or.inl ⟨by rfl, ?_⟩) hHeld ?_ ?_
                      rotate_left
                      ·rintro w' ⟨s0, s1, s2, s3, s4, s5, s6, s7, s8⟩
                       go_simp
                       with_reducible rfl
                      rotate_left
                      ·simp only [Act.put, zsa, zsz, zss, i64_w, i32_w]
                       rfl
                      refine pure_ (i := 10) (N := some 145) (v := ?_) (a' := ?_) #[true, true, true, true, true, true, true, true, true, true, true, true, true, false, true, true, false, false, false, false, false, false] rfl rfl (any_of HT_.out (by kernel_rfl)) (fun _ _ _ h => h) (Or.inl ⟨by rfl, ?_⟩) ?_ ?_
                      rotate_left
                      ·intro w'
                       go_simp
                       with_reducible rfl
                      rotate_left
                      ·simp only [Act.put, zsa, zsz, zss, i64_w, i32_w]
                       rfl
                      refine take_ (i := 13) (N := some 148) (v := ?_) (a' := ?_) #[true, true, true, true, true, true, true, true, true, true, true, true, true, true, true, true, false, false, false, false, false, false] rfl rfl (take_ofW HT_.out HW_.out (by kernel_rfl)) (fun _ _ _ h => h) (Or.inl ⟨by rfl, ?_⟩) hHeld ?_ ?_
                      rotate_left
                      ·rintro w' ⟨s0, s1, s2, s3, s4, s5, s6, s7, s8⟩
                       go_simp
                       with_reducible rfl
                      rotate_left
                      ·simp only [Act.put, zsa, zsz, zss, i64_w, i32_w]
                       rfl
                      refine take_ (i := 16) (N := some 151) (v := ?_) (a' := ?_) #[true, true, true, true, true, true, true, true, true, true, true, true, true, true, true, true, true, false, false, false, false, false] rfl rfl (take_ofW HT_.out HW_.out (by kernel_rfl)) (fun _ _ _ h => h) (Or.inl ⟨by rfl, ?_⟩) hHeld ?_ ?_
                      rotate_left
                      ·rintro w' ⟨s0, s1, s2, s3, s4, s5, s6, s7, s8⟩
                       go_simp
                       with_reducible rfl
                      rotate_left
                      ·simp only [Act.put, zsa, zsz, zss, i64_w, i32_w]
                       rfl
                      refine pure_ (i := 17) (N := some 152) (v := ?_) (a' := ?_) #[true, true, true, true, true, true, true, true, true, true, true, true, true, true, true, true, true, true, false, false, false, false] rfl rfl (any_of HT_.out (by kernel_rfl)) (fun _ _ _ h => h) (Or.inl ⟨by rfl, ?_⟩) ?_ ?_
                      rotate_left
                      ·intro w'
                       go_simp
                       with_reducible rfl
                      rotate_left
                      ·simp only [Act.put, zsa, zsz, zss, i64_w, i32_w]
                       rfl
                      refine pure_ (i := 18) (N := some 153) (v := ?_) (a' := ?_) #[true, true, true, true, true, true, true, true, true, true, true, true, true, true, true, true, true, true, true, false, false, false] rfl rfl (any_of HT_.out (by kernel_rfl)) (fun _ _ _ h => h) (Or.inl ⟨by rfl, ?_⟩) ?_ ?_
                      rotate_left
                      ·intro w'
                       go_simp
                       with_reducible rfl
                      rotate_left
                      ·simp only [Act.put, zsa, zsz, zss, i64_w, i32_w]
                       rfl
                      refine pure_ (i := 19) (N := some 154) (v := ?_) (a' := ?_) #[true, true, true, true, true, true, true, true, true, true, true, true, true, true, true, true, true, true, true, true, false, false] rfl rfl (any_of HT_.out (by kernel_rfl)) (fun _ _ _ h => h) (Or.inl ⟨by rfl, ?_⟩) ?_ ?_
                      rotate_left
                      ·intro w'
                       go_simp
                       with_reducible rfl
                      rotate_left
                      ·simp only [Act.put, zsa, zsz, zss, i64_w, i32_w]
                       rfl
                      refine pure_ (i := 20) (N := some 155) (v := ?_) (a' := ?_) #[true, true, true, true, true, true, true, true, true, true, true, true, true, true, true, true, true, true, true, true, true, false] rfl rfl (any_of HT_.out (by kernel_rfl)) (fun _ _ _ h => h) (Or.inl ⟨by rfl, ?_⟩) ?_ ?_
                      rotate_left
                      ·intro w'
                       go_simp
                       with_reducible rfl
                      rotate_left
                      ·simp only [Act.put, zsa, zsz, zss, i64_w, i32_w]
                       rfl
                      refine pure_ (i := 21) (N := some 24) (v := ?_) (a' := ?_) #[true, true, true, true, true, true, true, true, true, true, true, true, true, true, true, true, true, true, true, true, true, true] rfl rfl (any_of HT_.out (by kernel_rfl)) (fun _ _ _ h => h) (Or.inl ⟨by rfl, ?_⟩) ?_ ?_
                      rotate_left
                      ·intro w'
                       go_simp
                       with_reducible rfl
                      rotate_left
                      ·simp only [Act.put, zsa, zsz, zss, i64_w, i32_w]
                       rfl
                      refine done_ (done_of HT_.out (by kernel_rfl)) ?_
                      go_upto_region 27 with (fail)
                      go_cut [173] (fun v173 wc => ∃ (kq : Nat) (x173_57 : Bool), v173 = .bool x173_57 ∧ Aside0 (isobathlaw02_MooringWays.j4 kq l1 l2 l4 x15_2 (wrap64 ((wrap64 ((Int.tmod x14_2 a0_0) + ((rd_T79 l2 x15_2).f0.f0))) + (Int.tmod (wrap64 (x126000_41)) (wrap64 ((wrap64 (((rd_T79 l2 x15_2).f0.f1) - ((rd_T79 l2 x15_2).f0.f0))) + 1))))) (wrap64 ((wrap64 ((wrap64 (Int.tdiv x14_2 a0_0)) + ((rd_T79 l2 x15_2).f1.f0))) + (Int.tmod (wrap64 (x126001_41)) (wrap64 ((wrap64 (((rd_T79 l2 x15_2).f1.f1) - ((rd_T79 l2 x15_2).f1.f0))) + 1))))) x173_57 a0_0 a0_1 ((rd_T79 l2 x15_2).f0.f0) ((rd_T79 l2 x15_2).f0.f1) ((rd_T79 l2 x15_2).f1.f0) ((rd_T79 l2 x15_2).f1.f1) ((rd_T79 l2 x15_2).f2) = some r) ∧ Aside0 (kq ≤ kj41) ∧ Aside0 (wc.heap[gb101]? = some (.cells #[.int .i64 a0_0, .int .i64 a0_1] 72 (0, 0))) ∧ Aside0 (wc.heap[gb124]? = some (.cells #[.int .i64 ((rd_T79 l2 x15_2).f0.f0), .int .i64 ((rd_T79 l2 x15_2).f0.f1), .int .i64 ((rd_T79 l2 x15_2).f1.f0), .int .i64 ((rd_T79 l2 x15_2).f1.f1), (.slice A123_4 ((rd_T79 l2 x15_2).f2).length c123_4)] 79 (0, 0))) ∧ Aside0 (wc.heap[gb125]? = some (.cells #[.int .u8 x126000_41, .int .u8 x126001_41] 80 (0, 0))) ∧ Aside0 (Below w.heap.size w wc))
                      case first =>
                       have H := HC58.out
                       clear HC58
                       by_cases c61 : (wrap64 ((wrap64 ((Int.tmod x14_2 a0_0) + ((rd_T79 l2 x15_2).f0.f0))) + (Int.tmod (wrap64 (x126000_41)) (wrap64 ((wrap64 (((rd_T79 l2 x15_2).f0.f1) - ((rd_T79 l2 x15_2).f0.f0))) + 1))))) < 0
                       ·rw [if_pos c61] at H
                        have c61b0 : decide ((wrap64 ((wrap64 ((Int.tmod x14_2 a0_0) + ((rd_T79 l2 x15_2).f0.f0))) + (Int.tmod (wrap64 (x126000_41)) (wrap64 ((wrap64 (((rd_T79 l2 x15_2).f0.f1) - ((rd_T79 l2 x15_2).f0.f0))) + 1))))) < 0) = true := zdt c61
                        clear c61
                        (first | rw [c61b0] | (simp only [i64_w, i32_w]; rw [c61b0]) | skip)
                        as_aux_lemma =>
                         have H' := zam H
                         clear H
                         go_wp2
                         go_meet
                         case rel => exact ⟨_, (true), (by first | rfl | (simp; done) | (simp [*]; done)), H', ⟨by have := HJ5.out; have := HK2.out; have := HK3.out; have := HJ41.out; first | omega | exact Nat.le_refl _⟩, ⟨by (with_reducible repeat (first | refine zkn ?_ _ | refine zkd ?_ | refine zka ?_ _)); exact BK101.out⟩, ⟨by (with_reducible repeat (first | refine zkn ?_ _ | refine zkd ?_ | refine zka ?_ _)); exact BK124.out⟩, ⟨by (with_reducible repeat (first | refine zkn ?_ _ | refine zkd ?_ | refine zka ?_ _)); exact BK125.out⟩, ⟨by repeat (first | (with_reducible first | exact HB.out | apply zba | apply zbn | apply zb1 | refine zbs ?_ GE101.out | refine zbs ?_ GE124.out | refine zbs ?_ GE125.out) | exact HB.out)⟩⟩
                       rw [if_neg c61] at H
                       have c61b0 : decide ((wrap64 ((wrap64 ((Int.tmod x14_2 a0_0) + ((rd_T79 l2 x15_2).f0.f0))) + (Int.tmod (wrap64 (x126000_41)) (wrap64 ((wrap64 (((rd_T79 l2 x15_2).f0.f1) - ((rd_T79 l2 x15_2).f0.f0))) + 1))))) < 0) = false := zdf c61
                       clear c61
                       (first | rw [c61b0] | (simp only [i64_w, i32_w]; rw [c61b0]) | skip)
                       by_cases c62 : (wrap64 ((wrap64 ((Int.tmod x14_2 a0_0) + ((rd_T79 l2 x15_2).f0.f0))) + (Int.tmod (wrap64 (x126000_41)) (wrap64 ((wrap64 (((rd_T79 l2 x15_2).f0.f1) - ((rd_T79 l2 x15_2).f0.f0))) + 1))))) ≥ a0_0
                       ·rw [if_pos c62] at H
                        have c62b0 : decide (a0_0 ≤ (wrap64 ((wrap64 ((Int.tmod x14_2 a0_0) + ((rd_T79 l2 x15_2).f0.f0))) + (Int.tmod (wrap64 (x126000_41)) (wrap64 ((wrap64 (((rd_T79 l2 x15_2).f0.f1) - ((rd_T79 l2 x15_2).f0.f0))) + 1)))))) = true := zdt c62
                        clear c62
                        as_aux_lemma =>
                         have H' := zam H
                         clear H
                         have hnb63 := NB101_124.out
                         have hnc63 := NB124_101.out
                         have hnb64 := NB101_125.out
                         have hnc64 := NB125_101.out
                         have hcz65_0 : w60.cell? ⟨gb101, 0, none⟩ = some (.int .i64 a0_0) := (zkc BK101.out 0).trans rfl
                         have hcz65_1 : w60.cell? ⟨gb101, 1, none⟩ = some (.int .i64 a0_1) := (zkc BK101.out 1).trans rfl
                         have hfz65_0 := zkz BK101.out 0
                         have hfz65_1 := zkz BK101.out 1
                         go_wp2
                         go_meet
                         case rel => exact ⟨_, (true), (by first | rfl | (simp; done) | (simp [*]; done)), H', ⟨by have := HJ5.out; have := HK2.out; have := HK3.out; have := HJ41.out; first | omega | exact Nat.le_refl _⟩, ⟨by (with_reducible repeat (first | refine zkn ?_ _ | refine zkd ?_ | refine zka ?_ _)); exact BK101.out⟩, ⟨by (with_reducible repeat (first | refine zkn ?_ _ | refine zkd ?_ | refine zka ?_ _)); exact BK124.out⟩, ⟨by (with_reducible repeat (first | refine zkn ?_ _ | refine zkd ?_ | refine zka ?_ _)); exact BK125.out⟩, ⟨by repeat (first | (with_reducible first | exact HB.out | apply zba | apply zbn | apply zb1 | refine zbs ?_ GE101.out | refine zbs ?_ GE124.out | refine zbs ?_ GE125.out) | exact HB.out)⟩⟩
                       rw [if_neg c62] at H
                       have c62b0 : decide (a0_0 ≤ (wrap64 ((wrap64 ((Int.tmod x14_2 a0_0) + ((rd_T79 l2 x15_2).f0.f0))) + (Int.tmod (wrap64 (x126000_41)) (wrap64 ((wrap64 (((rd_T79 l2 x15_2).f0.f1) - ((rd_T79 l2 x15_2).f0.f0))) + 1)))))) = false := zdf c62
                       clear c62
                       by_cases c66 : (wrap64 ((wrap64 ((wrap64 (Int.tdiv x14_2 a0_0)) + ((rd_T79 l2 x15_2).f1.f0))) + (Int.tmod (wrap64 (x126001_41)) (wrap64 ((wrap64 (((rd_T79 l2 x15_2).f1.f1) - ((rd_T79 l2 x15_2).f1.f0))) + 1))))) < 0
                       ·rw [if_pos c66] at H
                        have c66b0 : decide ((wrap64 ((wrap64 ((wrap64 (Int.tdiv x14_2 a0_0)) + ((rd_T79 l2 x15_2).f1.f0))) + (Int.tmod (wrap64 (x126001_41)) (wrap64 ((wrap64 (((rd_T79 l2 x15_2).f1.f1) - ((rd_T79 l2 x15_2).f1.f0))) + 1))))) < 0) = true := zdt c66
                        clear c66
                        as_aux_lemma =>
                         have H' := zam H
                         clear H
                         have hnb67 := NB101_124.out
                         have hnc67 := NB124_101.out
                         have hnb68 := NB101_125.out
                         have hnc68 := NB125_101.out
                         have hcz69_0 : w60.cell? ⟨gb101, 0, none⟩ = some (.int .i64 a0_0) := (zkc BK101.out 0).trans rfl
                         have hcz69_1 : w60.cell? ⟨gb101, 1, none⟩ = some (.int .i64 a0_1) := (zkc BK101.out 1).trans rfl
                         have hfz69_0 := zkz BK101.out 0
                         have hfz69_1 := zkz BK101.out 1
                         go_wp2
                         go_meet
                         case rel => exact ⟨_, (true), (by first | rfl | (simp; done) | (simp [*]; done)), H', ⟨by have := HJ5.out; have := HK2.out; have := HK3.out; have := HJ41.out; first | omega | exact Nat.le_refl _⟩, ⟨by (with_reducible repeat (first | refine zkn ?_ _ | refine zkd ?_ | refine zka ?_ _)); exact BK101.out⟩, ⟨by (with_reducible repeat (first | refine zkn ?_ _ | refine zkd ?_ | refine zka ?_ _)); exact BK124.out⟩, ⟨by (with_reducible repeat (first | refine zkn ?_ _ | refine zkd ?_ | refine zka ?_ _)); exact BK125.out⟩, ⟨by repeat (first | (with_reducible first | exact HB.out | apply zba | apply zbn | apply zb1 | refine zbs ?_ GE101.out | refine zbs ?_ GE124.out | refine zbs ?_ GE125.out) | exact HB.out)⟩⟩
                       rw [if_neg c66] at H
                       have c66b0 : decide ((wrap64 ((wrap64 ((wrap64 (Int.tdiv x14_2 a0_0)) + ((rd_T79 l2 x15_2).f1.f0))) + (Int.tmod (wrap64 (x126001_41)) (wrap64 ((wrap64 (((rd_T79 l2 x15_2).f1.f1) - ((rd_T79 l2 x15_2).f1.f0))) + 1))))) < 0) = false := zdf c66
                       clear c66
                       as_aux_lemma =>
                        have H' := zam H
                        clear H
                        have hnb70 := NB101_124.out
                        have hnc70 := NB124_101.out
                        have hnb71 := NB101_125.out
                        have hnc71 := NB125_101.out
                        have hcz72_0 : w60.cell? ⟨gb101, 0, none⟩ = some (.int .i64 a0_0) := (zkc BK101.out 0).trans rfl
                        have hcz72_1 : w60.cell? ⟨gb101, 1, none⟩ = some (.int .i64 a0_1) := (zkc BK101.out 1).trans rfl
                        have hfz72_0 := zkz BK101.out 0
                        have hfz72_1 := zkz BK101.out 1
                        go_wp2
                        go_meet
                        case rel => exact ⟨_, (decide ((wrap64 ((wrap64 ((wrap64 (Int.tdiv x14_2 a0_0)) + ((rd_T79 l2 x15_2).f1.f0))) + (Int.tmod (wrap64 (x126001_41)) (wrap64 ((wrap64 (((rd_T79 l2 x15_2).f1.f1) - ((rd_T79 l2 x15_2).f1.f0))) + 1))))) ≥ a0_1)), (by first | rfl | (simp; done) | (simp [*]; done)), H', ⟨by have := HJ5.out; have := HK2.out; have := HK3.out; have := HJ41.out; first | omega | exact Nat.le_refl _⟩, ⟨by (with_reducible repeat (first | refine zkn ?_ _ | refine zkd ?_ | refine zka ?_ _)); exact BK101.out⟩, ⟨by (with_reducible repeat (first | refine zkn ?_ _ | refine zkd ?_ | refine zka ?_ _)); exact BK124.out⟩, ⟨by (with_reducible repeat (first | refine zkn ?_ _ | refine zkd ?_ | refine zka ?_ _)); exact BK125.out⟩, ⟨by repeat (first | (with_reducible first | exact HB.out | apply zba | apply zbn | apply zb1 | refine zbs ?_ GE101.out | refine zbs ?_ GE124.out | refine zbs ?_ GE125.out) | exact HB.out)⟩⟩
                      case rest =>
                       clear HC58
                       try clear c1
                       try clear p1
                       try clear q1
                       try clear hx1
                       try clear c2
                       try clear p2
                       try clear q2
                       try clear c3
                       try clear c4
                       try clear c5
                       try clear c6
                       try clear p6
                       try clear c7
                       try clear c9
                       try clear c10
                       try clear c10b0
                       try clear c10b1
                       try clear c11
                       try clear p11
                       try clear q11
                       try clear hx11
                       try clear c12
                       try clear p12
                       try clear q12
                       try clear hx12
                       try clear c14
                       try clear c15
                       try clear c15b0
                       try clear c15b1
                       try clear c16
                       try clear c16b0
                       try clear c16b1
                       try clear c16b2
                       try clear c18
                       try clear c18b0
                       try clear c19
                       try clear c19b0
                       try clear c22
                       try clear c22b0
                       try clear c23
                       try clear c23b0
                       try clear c23b1
                       try clear c24
                       try clear c24b0
                       try clear c26
                       try clear c26b0
                       try clear c26b1
                       try clear q28
                       try clear c30
                       try clear c30b0
                       try clear c31
                       try clear c33
                       try clear c33b0
                       try clear c35
                       try clear c36
                       try clear c36b0
                       try clear c36b1
                       try clear c40
                       try clear c40b0
                       try clear c41
                       try clear c41b0
                       try clear c45
                       try clear c46
                       try clear c47
                       try clear c48
                       try clear c49
                       try clear c51
                       try clear c51b0
                       try clear c52
                       try clear c53
                       try clear c55
                       try clear c55b0
                       try clear c55b1
                       try clear c56
                       try clear c56b0
                       try clear c56b1
                       try clear c57
                       try clear c57b0
                       try clear c57b1
                       try clear c61
                       try clear c61b0
                       try clear c62
                       try clear c62b0
                       try clear c63
                       try clear c64
                       try clear p64
                       try clear c66
                       try clear c66b0
                       try clear c67
                       try clear c68
                       try clear c70
                       try clear c71
                       try clear hcz20_0
                       try clear hcz20_1
                       try clear hcz46_0
                       try clear hcz46_1
                       try clear hcz46_2
                       try clear hcz46_3
                       try clear hcz46_4
                       try clear hcz50_0
                       try clear hcz50_1
                       try clear hcz54_0
                       try clear hcz54_1
                       try clear hcz65_0
                       try clear hcz65_1
                       try clear hcz69_0
                       try clear hcz69_1
                       try clear hcz72_0
                       try clear hcz72_1
                       try clear hfz20_0
                       try clear hfz20_1
                       try clear hfz46_0
                       try clear hfz46_1
                       try clear hfz46_2
                       try clear hfz46_3
                       try clear hfz46_4
                       try clear hfz50_0
                       try clear hfz50_1
                       try clear hfz54_0
                       try clear hfz54_1
                       try clear hfz65_0
                       try clear hfz65_1
                       try clear hfz69_0
                       try clear hfz69_1
                       try clear hfz72_0
                       try clear hfz72_1
                       try clear hx110_0
                       try clear hx121_0
                       try clear hx123_0
                       try clear hx123_1
                       try clear hx123_2
                       try clear hx123_3
                       try clear hx123_4
                       try clear hx126_0
                       try clear hx126_1
                       try clear p1
                       try clear p11
                       try clear p110
                       try clear p12
                       try clear p121
                       try clear p123
                       try clear p126
                       try clear p2
                       try clear p6
                       try clear q1
                       try clear q11
                       try clear q110
                       try clear q12
                       try clear q121
                       try clear q123
                       try clear q126
                       try clear q2
                       try clear q28
                       obtain ⟨kq, x173_57, rfl, HA, HJ57, BK101, BK124, BK125, HB⟩ := hcut
                       as_aux_lemma =>
                        cases kq with
                        | zero => exact absurd HA.out (by simp [isobathlaw02_MooringWays.j4])
                        | succ kj57 =>
                         have H := HA.out
                         clear HA
                         simp only [isobathlaw02_MooringWays.j4] at H
                         by_cases c73 : x173_57 = true
                         ·subst c73
                          have H1 : (if 0 ≤ (wrap64 (x15_2 + 1)) then (if (wrap64 (x15_2 + 1)) ≤ (l2.length : Int) then ((mooring_Where.f kj57 a0_0 a0_1 l1 (l2.take ((wrap64 (x15_2 + 1)) : Int).toNat)).bind fun bt131 => (if bt131.2.2 = 0 then (if bt131.2.1 = true then ((isobathlaw02_fine.f kj57).bind fun t136 => (some t136)) else (none)) else (none))) else (none)) else (none)) = some r := by rw [if_pos rfl] at H; exact H
                          clear H
                          have H := H1
                          clear H1
                          obtain ⟨ji74, hji74⟩ : ∃ j_ : Int, (wrap64 (x15_2 + 1)) = j_ := ⟨_, rfl⟩
                          replace H : (if 0 ≤ (ji74) then (if (ji74) ≤ (l2.length : Int) then ((mooring_Where.f kj57 a0_0 a0_1 l1 (l2.take ((ji74) : Int).toNat)).bind fun bt131 => (if bt131.2.2 = 0 then (if bt131.2.1 = true then ((isobathlaw02_fine.f kj57).bind fun t136 => (some t136)) else (none)) else (none))) else (none)) else (none)) = some r := by first | (rw [hji74] at H; exact H) | (simp only [hji74] at H ⊢; exact H)
                          have hji74w : (IntKind.i64.wrap (x15_2 + 1)) = ji74 := (i64_w _).trans hji74
                          by_cases c75 : 0 ≤ (ji74)
                          ·rw [if_pos c75] at H
                           have c75b0 := eq_true c75
                           have c75b1 : decide (0 ≤ (ji74)) = true := zdt c75
                           clear c75
                           by_cases c76 : (ji74) ≤ (l2.length : Int)
                           ·rw [if_pos c76] at H
                            have c76b0 := eq_true c76
                            have c76b1 : decide ((ji74) ≤ (l2.length : Int)) = true := zdt c76
                            clear c76
                            obtain ⟨y127, hy127⟩ : ∃ y_ : List (S79), y_ = (l2.take ((ji74) : Int).toNat) := ⟨_, rfl⟩
                            replace H : ((mooring_Where.f kj57 a0_0 a0_1 l1 y127).bind fun bt131 => (if bt131.2.2 = 0 then (if bt131.2.1 = true then ((isobathlaw02_fine.f kj57).bind fun t136 => (some t136)) else (none)) else (none))) = some r := by first | (rw [hy127]; with_reducible exact H) | (have H2_ := (Option.bind_some _ _).symm.trans H; rw [hy127]; with_reducible exact H2_) | (have H2_ := (Option.bind_some _ _).symm.trans H; with_reducible exact H2_) | with_reducible exact H | (rw [hy127]; exact H) | exact H
                            have Ny127 := zam hy127
                            clear hy127
                            replace H := Option.bind_eq_some_iff.mp H
                            obtain ⟨⟨t131, t134, t135⟩, A770, H⟩ := H
                            replace H : (if t135 = 0 then (if t134 = true then ((isobathlaw02_fine.f kj57).bind fun t136 => (some t136)) else (none)) else (none)) = some r := H
                            have A77 := zam A770
                            clear A770
                            by_cases c78 : t135 = 0
                            ·rw [if_pos c78] at H
                             have c78b0 : (t135 == 0) = true := beq_iff_eq.mpr c78
                             have c78b1 : (t135 != 0) = false := bne_eq_false_iff_eq.mpr c78
                             clear c78
                             by_cases c79 : t134 = true
                             ·subst c79
                              have H1 : ((isobathlaw02_fine.f kj57).bind fun t136 => (some t136)) = some r := by rw [if_pos rfl] at H; exact H
                              clear H
                              have H := H1
                              clear H1
                              replace H := Option.bind_eq_some_iff.mp H
                              obtain ⟨t136, A800, H⟩ := H
                              replace H : (some t136) = some r := H
                              have A80 := zam A800
                              clear A800
                              as_aux_lemma =>
                               obtain rfl := zsi H
                               try go_wp2
                               have n0_ := zam (zkd BK101.out)
                               have n1_ := zam (zkd BK124.out)
                               have n2_ := zam (zkd BK125.out)
                               have n3_ := zam (zb1 HB.out)
                               clear BK101
                               clear BK124
                               clear BK125
                               clear HB
                               have BK101 := n0_
                               have BK124 := n1_
                               have BK125 := n2_
                               have HB := n3_
                               clear n0_ n1_ n2_ n3_
                               have q82 : ((ji74) : Int) ≤ ((l2.length : Int) : Int) := zod (by first | (with_reducible assumption) | assumption)
                               obtain ⟨i082, hi082, _, hsz82, _⟩ := info_parts info79
                               have hroom82 : l2.length ≤ c2 := HC2.out
                               have hC82 : Kd.C k79 _ (some ad123) l2.length l2 := HR2.out
                               have hcut82 := cut_to (P := Try.prog) 73 79 .i64 Try.underlying73 hi082 (some ad123) l2.length c2 (ji74) (zod (by first | (with_reducible assumption) | assumption)) q82 hroom82
                               have hr82 := Kd.C_take (m := ((ji74) : Int).toNat) hC82 (by omega)
                               have hy82 : y127.length = ((ji74) : Int).toNat := (by rw [Ny127.out, zlt]; omega)
                               rw [← Ny127.out] at hr82
                               rw [← hy82] at hcut82
                               have HR130 := zam hr82
                               have HC130 := zam (show y127.length ≤ c2 from by omega)
                               clear hr82 hC82 hroom82 hi082 hsz82
                               have KY82 := zam hy82
                               clear hy82
                               replace q82 := eq_true q82
                               (try (have q82x := q82; simp only [zld, zlt] at q82x))
                               refine start_ (n := 14) (S := fun w' => w'.cell? ⟨gb101, 0, none⟩ = some (.int .i64 a0_0) ∧ w'.cell? ⟨gb101, 1, none⟩ = some (.int .i64 a0_1)) (ds := []) #[false, false, false, false, false, false, false, false, false, false, false, false, false, false] (by kernel_rfl) rfl rfl ⟨(zkc BK101.out 0).trans rfl, (zkc BK101.out 1).trans rfl⟩ (fun hHeld => ?_); refine with_tabW isobathlaw02_MooringWays.tab28 isobathlaw02_MooringWays.bits28 (fun HT_ HW_ => ?_)
                               generalize wc.drew = w81 at BK101 BK124 BK125 HB HR130 hHeld ⊢
                               refine pure_ (i := 1) (N := some 176) (v := ?_) (a' := ?_) #[false, true, false, false, false, false, false, false, false, false, false, false, false, false] rfl rfl (any_of HT_.out (by kernel_rfl)) (fun _ _ _ h => h) (Or.inl ⟨by rfl, ?_⟩) ?_ ?_
                               rotate_left
                               ·intro w'
                                go_simp
                                with_reducible rfl
                               rotate_left
                               ·simp only [Act.put, zsa, zsz, zss, i64_w, i32_w]
                                rfl
                               refine pure_ (i := 2) (N := some 177) (v := ?_) (a' := ?_) #[false, true, true, false, false, false, false, false, false, false, false, false, false, false] rfl rfl (any_of HT_.out (by kernel_rfl)) (fun _ _ _ h => h) (Or.inl ⟨by rfl, ?_⟩) ?_ ?_
                               rotate_left
                               ·intro w'
                                go_simp
                                with_reducible rfl
                               rotate_left
                               ·simp only [Act.put, zsa, zsz, zss, i64_w, i32_w]
                                rfl
                               refine pure_ (i := 3) (N := some 178) (v := ?_) (a' := ?_) #[false, true, true, true, false, false, false, false, false, false, false, false, false, false] rfl rfl (any_of HT_.out (by kernel_rfl)) (fun _ _ _ h => h) (Or.inl ⟨by rfl, ?_⟩) ?_ ?_
                               rotate_left
                               ·intro w'
                                go_simp
                                with_reducible rfl
                               rotate_left
                               ·simp only [Act.put, zsa, zsz, zss, i64_w, i32_w]
                                rfl
                               refine pure_ (i := 4) (N := some 179) (v := ?_) (a' := ?_) #[false, true, true, true, true, false, false, false, false, false, false, false, false, false] rfl rfl (any_of HT_.out (by kernel_rfl)) (fun _ _ _ h => h) (Or.inl ⟨by rfl, ?_⟩) ?_ ?_
                               rotate_left
                               ·intro w'
                                go_simp
                                with_reducible rfl
                               rotate_left
                               ·simp only [Act.put, zsa, zsz, zss, i64_w, i32_w]
                                rfl
                               refine pure_ (i := 5) (N := some 180) (v := ?_) (a' := ?_) #[false, true, true, true, true, true, false, false, false, false, false, false, false, false] rfl rfl (any_of HT_.out (by kernel_rfl)) (fun _ _ _ h => h) (Or.inl ⟨by rfl, ?_⟩) ?_ ?_
                               rotate_left
                               ·intro w'
                                go_simp
                                with_reducible rfl
                               rotate_left
                               ·simp only [Act.put, zsa, zsz, zss, i64_w, i32_w]
                                rfl
                               refine take_ (i := 0) (N := some 175) (v := ?_) (a' := ?_) #[true, true, true, true, true, true, false, false, false, false, false, false, false, false] rfl rfl (take_ofW HT_.out HW_.out (by kernel_rfl)) (fun _ _ _ h => h) (Or.inl ⟨by rfl, ?_⟩) hHeld ?_ ?_
                               rotate_left
                               ·rintro w' ⟨s0, s1⟩
                                go_simp
                                with_reducible rfl
                               rotate_left
                               ·simp only [Act.put, zsa, zsz, zss, i64_w, i32_w]
                                rfl
                               refine one_ (i := 6) (N := some 181) #[true, true, true, true, true, true, true, false, false, false, false, false, false, false] rfl rfl (one_of HT_.out (by kernel_rfl)) (by decide) (fun K hK => ?_)
                               refine goes_ Try.func48 (by kernel_rfl) rfl #[.agg #[.int .i64 a0_0, .int .i64 a0_1], .slice (some ad110) l1.length c1, .slice (some ad123) y127.length c2] (by rfl) rfl rfl (by (try simp only [zmt, List.map_cons, List.map_nil]); first | done | rfl | (simp only [zld, zlt]; rfl)) ?_
                               with_reducible refine (mooring_Where.calls kj57 a0_0 a0_1 _ _ l1 _ _ y127 t131 true t135 _ ?side1 ?side2 ?side3 ?side4 A77.out).mono ?_
                               (case side1 => repeat (first | exact (Kd.C_below HR1.out HB.out) | (with_reducible refine Kd.C_alloc ?_ _) | (with_reducible refine Kd.C_drewN ?_ _) | (with_reducible refine Kd.C_drew ?_)))
                               (case side2 => exact HC1.out)
                               (case side3 => repeat (first | exact (Kd.C_below HR130.out HB.out) | (with_reducible refine Kd.C_alloc ?_ _) | (with_reducible refine Kd.C_drewN ?_ _) | (with_reducible refine Kd.C_drew ?_)))
                               (case side4 => exact HC130.out)
                               rintro e w83 ⟨v132, rfl, ho0, hb⟩
                               refine ⟨_, rfl, ?_⟩
                               have n0_ := zam (Kd.R_lower ho0 (zbz (by repeat (first | (with_reducible first | exact HB.out | apply zba | apply zbn | apply zb1 | refine zbs ?_ GE101.out | refine zbs ?_ GE124.out | refine zbs ?_ GE125.out) | exact HB.out))))
                               have n1_ := zam (zkb (g := gb101) (o := .cells #[.int .i64 a0_0, .int .i64 a0_1] 72 (0, 0)) (by (with_reducible repeat (first | refine zkn ?_ _ | refine zkd ?_ | refine zka ?_ _)); exact BK101.out) hb)
                               have n2_ := zam (zkb (g := gb124) (o := .cells #[.int .i64 ((rd_T79 l2 x15_2).f0.f0), .int .i64 ((rd_T79 l2 x15_2).f0.f1), .int .i64 ((rd_T79 l2 x15_2).f1.f0), .int .i64 ((rd_T79 l2 x15_2).f1.f1), .slice A123_4 ((rd_T79 l2 x15_2).f2).length c123_4] 79 (0, 0)) (by (with_reducible repeat (first | refine zkn ?_ _ | refine zkd ?_ | refine zka ?_ _)); exact BK124.out) hb)
                               have n3_ := zam (zkb (g := gb125) (o := .cells #[.int .u8 x126000_41, .int .u8 x126001_41] 80 (0, 0)) (by (with_reducible repeat (first | refine zkn ?_ _ | refine zkd ?_ | refine zka ?_ _)); exact BK125.out) hb)
                               have n4_ := zam (zbt (by repeat (first | (with_reducible first | exact HB.out | apply zba | apply zbn | apply zb1 | refine zbs ?_ GE101.out | refine zbs ?_ GE124.out | refine zbs ?_ GE125.out) | exact HB.out)) hb)
                               clear BK101
                               clear BK124
                               clear BK125
                               clear HB
                               have HO133 := n0_
                               have BK101 := n1_
                               have BK124 := n2_
                               have BK125 := n3_
                               have HB := n4_
                               clear n0_ n1_ n2_ n3_ n4_
                               (try clear hb)
                               (try clear hb2)
                               (try clear hk)
                               (try clear hi)
                               (try clear ho0)
                               refine hK.out _ _ ⟨(zkc BK101.out 0).trans rfl, (zkc BK101.out 1).trans rfl⟩ (fun hHeld => ?_)
                               clear hK K
                               refine norm_ (a' := ?_) ?_ ?_
                               rotate_left
                               ·show Act.put _ (some 181) _ = _
                                simp only [Act.put, zsa, zsz, zss, i64_w, i32_w]
                                rfl
                               refine pure_ (i := 7) (N := some 174) (v := ?_) (a' := ?_) #[true, true, true, true, true, true, true, true, false, false, false, false, false, false] rfl rfl (any_of HT_.out (by kernel_rfl)) (fun _ _ _ h => h) (Or.inl ⟨by rfl, ?_⟩) ?_ ?_
                               rotate_left
                               ·intro w'
                                go_simp
                                with_reducible rfl
                               rotate_left
                               ·simp only [Act.put, zsa, zsz, zss, i64_w, i32_w]
                                rfl
                               refine pure_ (i := 8) (N := some 182) (v := ?_) (a' := ?_) #[true, true, true, true, true, true, true, true, true, false, false, false, false, false] rfl rfl (any_of HT_.out (by kernel_rfl)) (fun _ _ _ h => h) (Or.inl ⟨by rfl, ?_⟩) ?_ ?_
                               rotate_left
                               ·intro w'
                                go_simp
                                with_reducible rfl
                               rotate_left
                               ·simp only [Act.put, zsa, zsz, zss, i64_w, i32_w]
                                rfl
                               refine pure_ (i := 9) (N := some 183) (v := ?_) (a' := ?_) #[true, true, true, true, true, true, true, true, true, true, false, false, false, false] rfl rfl (any_of HT_.out (by kernel_rfl)) (fun _ _ _ h => h) (Or.inl ⟨by rfl, ?_⟩) ?_ ?_
                               rotate_left
                               ·intro w'
                                go_simp
                                with_reducible rfl
                               rotate_left
                               ·simp only [Act.put, zsa, zsz, zss, i64_w, i32_w]
                                rfl
                               refine pure_ (i := 10) (N := some 184) (v := ?_) (a' := ?_) #[true, true, true, true, true, true, true, true, true, true, true, false, false, false] rfl rfl (any_of HT_.out (by kernel_rfl)) (fun _ _ _ h => h) (Or.inl ⟨by rfl, ?_⟩) ?_ ?_
                               rotate_left
                               ·intro w'
                                go_simp
                                with_reducible rfl
                               rotate_left
                               ·simp only [Act.put, zsa, zsz, zss, i64_w, i32_w]
                                rfl
                               refine pure_ (i := 11) (N := some 25) (v := ?_) (a' := ?_) #[true, true, true, true, true, true, true, true, true, true, true, true, false, false] rfl rfl (any_of HT_.out (by kernel_rfl)) (fun _ _ _ h => h) (Or.inl ⟨by rfl, ?_⟩) ?_ ?_
                               rotate_left
                               ·intro w'
                                go_simp
                                with_reducible rfl
                               rotate_left
                               ·simp only [Act.put, zsa, zsz, zss, i64_w, i32_w]
                                rfl
                               refine pure_ (i := 12) (N := some 26) (v := ?_) (a' := ?_) #[true, true, true, true, true, true, true, true, true, true, true, true, true, false] rfl rfl (any_of HT_.out (by kernel_rfl)) (fun _ _ _ h => h) (Or.inl ⟨by rfl, ?_⟩) ?_ ?_
                               rotate_left
                               ·intro w'
                                go_simp
                                with_reducible rfl
                               rotate_left
                               ·simp only [Act.put, zsa, zsz, zss, i64_w, i32_w]
                                rfl
                               refine pure_ (i := 13) (N := some 27) (v := ?_) (a' := ?_) #[true, true, true, true, true, true, true, true, true, true, true, true, true, true] rfl rfl (any_of HT_.out (by kernel_rfl)) (fun _ _ _ h => h) (Or.inl ⟨by rfl, ?_⟩) ?_ ?_
                               rotate_left
                               ·intro w'
                                go_simp
                                with_reducible rfl
                               rotate_left
                               ·simp only [Act.put, zsa, zsz, zss, i64_w, i32_w]
                                rfl
                               refine done_ (done_of HT_.out (by kernel_rfl)) ?_
                               try go_wp2_with (first | (go_at_call 14; (with_reducible refine (isobathlaw02_fine.calls kj57  t136 _ A80.out).mono ?_); rintro e w84 ⟨rfl, hb⟩; have n0_ := zam (Kd.R_below (by (with_reducible repeat (first | apply zRa | apply zRn | apply zRd)); exact HO133.out) hb); have n1_ := zam (zkb (g := gb101) (o := .cells #[.int .i64 a0_0, .int .i64 a0_1] 72 (0, 0)) (by (with_reducible repeat (first | refine zkn ?_ _ | refine zkd ?_ | refine zka ?_ _)); exact BK101.out) hb); have n2_ := zam (zkb (g := gb124) (o := .cells #[.int .i64 ((rd_T79 l2 x15_2).f0.f0), .int .i64 ((rd_T79 l2 x15_2).f0.f1), .int .i64 ((rd_T79 l2 x15_2).f1.f0), .int .i64 ((rd_T79 l2 x15_2).f1.f1), .slice A123_4 ((rd_T79 l2 x15_2).f2).length c123_4] 79 (0, 0)) (by (with_reducible repeat (first | refine zkn ?_ _ | refine zkd ?_ | refine zka ?_ _)); exact BK124.out) hb); have n3_ := zam (zkb (g := gb125) (o := .cells #[.int .u8 x126000_41, .int .u8 x126001_41] 80 (0, 0)) (by (with_reducible repeat (first | refine zkn ?_ _ | refine zkd ?_ | refine zka ?_ _)); exact BK125.out) hb); have n4_ := zam (zbt (by repeat (first | (with_reducible first | exact HB.out | apply zba | apply zbn | apply zb1 | refine zbs ?_ GE101.out | refine zbs ?_ GE124.out | refine zbs ?_ GE125.out) | exact HB.out)) hb); clear HO133; clear BK101; clear BK124; clear BK125; clear HB; have HO133 := n0_; have BK101 := n1_; have BK124 := n2_; have BK125 := n3_; have HB := n4_; clear n0_ n1_ n2_ n3_ n4_; (try clear hb); (try clear hb2); (try clear hk); (try clear hi)))
                               go_ret
                               exact ⟨by first | rfl | (simp [errW_none, errW_some] <;> rfl) | (simp only [← hji17, ← hji74]; first | rfl | (simp [errW_none, errW_some] <;> rfl)) | (simp [*, errW_none, errW_some] <;> rfl), by repeat (first | (with_reducible first | exact HB.out | apply zba | apply zbn | apply zb1 | refine zbs ?_ GE101.out | refine zbs ?_ GE124.out | refine zbs ?_ GE125.out) | exact HB.out)⟩
                             replace c79 := Bool.eq_false_iff.mpr c79
                             subst c79
                             have H1 : (none) = some r := by rw [if_neg (show ¬ (false = true) by decide)] at H; exact H
                             clear H
                             have H := H1
                             clear H1
                             exact absurd H (by simp)
                            rw [if_neg c78] at H
                            exact absurd H (by simp)
                           rw [if_neg c76] at H
                           exact absurd H (by simp)
                          rw [if_neg c75] at H
                          exact absurd H (by simp)
                         replace c73 := Bool.eq_false_iff.mpr c73
                         subst c73
                         have H1 : (isobathlaw02_MooringWays.l2 kj57 l1 l2 l4 (wrap64 ((wrap64 ((wrap64 ((wrap64 ((wrap64 (Int.tdiv x14_2 a0_0)) + ((rd_T79 l2 x15_2).f1.f0))) + (Int.tmod (wrap64 (x126001_41)) (wrap64 ((wrap64 (((rd_T79 l2 x15_2).f1.f1) - ((rd_T79 l2 x15_2).f1.f0))) + 1))))) * a0_0)) + (wrap64 ((wrap64 ((Int.tmod x14_2 a0_0) + ((rd_T79 l2 x15_2).f0.f0))) + (Int.tmod (wrap64 (x126000_41)) (wrap64 ((wrap64 (((rd_T79 l2 x15_2).f0.f1) - ((rd_T79 l2 x15_2).f0.f0))) + 1))))))) x15_2 0 a0_0 a0_1 ((rd_T79 l2 x15_2).f0.f0) ((rd_T79 l2 x15_2).f0.f1) ((rd_T79 l2 x15_2).f1.f0) ((rd_T79 l2 x15_2).f1.f1) ((rd_T79 l2 x15_2).f2)) = some r := by rw [if_neg (show ¬ (false = true) by decide)] at H; exact H
                         clear H
                         have H := H1
                         clear H1
                         have H' := zam H
                         clear H
                         have hnb85 := NB101_124.out
                         have hnc85 := NB124_101.out
                         have hnb86 := NB101_125.out
                         have hnc86 := NB125_101.out
                         have hcz87_0 : wc.cell? ⟨gb101, 0, none⟩ = some (.int .i64 a0_0) := (zkc BK101.out 0).trans rfl
                         have hcz87_1 : wc.cell? ⟨gb101, 1, none⟩ = some (.int .i64 a0_1) := (zkc BK101.out 1).trans rfl
                         have hfz87_0 := zkz BK101.out 0
                         have hfz87_1 := zkz BK101.out 1
                         go_wp2
                         go_loopg [28] kj57 (fun kq v28 w' => ∃ (x28_6 : Int), v28 = .int .i64 x28_6 ∧ Aside0 (isobathlaw02_MooringWays.l2 kq l1 l2 l4 (wrap64 ((wrap64 ((wrap64 ((wrap64 ((wrap64 (Int.tdiv x14_2 a0_0)) + ((rd_T79 l2 x15_2).f1.f0))) + (Int.tmod (wrap64 (x126001_41)) (wrap64 ((wrap64 (((rd_T79 l2 x15_2).f1.f1) - ((rd_T79 l2 x15_2).f1.f0))) + 1))))) * a0_0)) + (wrap64 ((wrap64 ((Int.tmod x14_2 a0_0) + ((rd_T79 l2 x15_2).f0.f0))) + (Int.tmod (wrap64 (x126000_41)) (wrap64 ((wrap64 (((rd_T79 l2 x15_2).f0.f1) - ((rd_T79 l2 x15_2).f0.f0))) + 1))))))) x15_2 x28_6 a0_0 a0_1 ((rd_T79 l2 x15_2).f0.f0) ((rd_T79 l2 x15_2).f0.f1) ((rd_T79 l2 x15_2).f1.f0) ((rd_T79 l2 x15_2).f1.f1) ((rd_T79 l2 x15_2).f2) = some r) ∧ Aside0 (kq ≤ kj57) ∧ Aside0 (w'.heap[gb101]? = some (.cells #[.int .i64 a0_0, .int .i64 a0_1] 72 (0, 0))) ∧ Aside0 (w'.heap[gb124]? = some (.cells #[.int .i64 ((rd_T79 l2 x15_2).f0.f0), .int .i64 ((rd_T79 l2 x15_2).f0.f1), .int .i64 ((rd_T79 l2 x15_2).f1.f0), .int .i64 ((rd_T79 l2 x15_2).f1.f1), (.slice A123_4 ((rd_T79 l2 x15_2).f2).length c123_4)] 79 (0, 0))) ∧ Aside0 (w'.heap[gb125]? = some (.cells #[.int .u8 x126000_41, .int .u8 x126001_41] 80 (0, 0))) ∧ Aside0 (Below w.heap.size w w'))
                         case atStart => exact ⟨(0), (by first | rfl | (simp; done) | (simp [*]; done)), H', ⟨Nat.le_refl _⟩, ⟨by (with_reducible repeat (first | refine zkn ?_ _ | refine zkd ?_ | refine zka ?_ _)); exact BK101.out⟩, ⟨by (with_reducible repeat (first | refine zkn ?_ _ | refine zkd ?_ | refine zka ?_ _)); exact BK124.out⟩, ⟨by (with_reducible repeat (first | refine zkn ?_ _ | refine zkd ?_ | refine zka ?_ _)); exact BK125.out⟩, ⟨by repeat (first | (with_reducible first | exact HB.out | apply zba | apply zbn | apply zb1 | refine zbs ?_ GE101.out | refine zbs ?_ GE124.out | refine zbs ?_ GE125.out) | exact HB.out)⟩⟩
                         case round =>
                          clear H'
                          try clear c1
                          try clear p1
                          try clear q1
                          try clear hx1
                          try clear c2
                          try clear p2
                          try clear q2
                          try clear c3
                          try clear c4
                          try clear c5
                          try clear c6
                          try clear p6
                          try clear c7
                          try clear c8
                          try clear q8
                          try clear c9
                          try clear c10
                          try clear c10b0
                          try clear c10b1
                          try clear c11
                          try clear p11
                          try clear q11
                          try clear hx11
                          try clear c12
                          try clear p12
                          try clear q12
                          try clear hx12
                          try clear c14
                          try clear c15
                          try clear c15b0
                          try clear c15b1
                          try clear c16
                          try clear c16b0
                          try clear c16b1
                          try clear c16b2
                          try clear c18
                          try clear c18b0
                          try clear c19
                          try clear c19b0
                          try clear c22
                          try clear c22b0
                          try clear c23
                          try clear c23b0
                          try clear c23b1
                          try clear c24
                          try clear c24b0
                          try clear c26
                          try clear c26b0
                          try clear c26b1
                          try clear q28
                          try clear c30
                          try clear c30b0
                          try clear c31
                          try clear c33
                          try clear c33b0
                          try clear c35
                          try clear c36
                          try clear c36b0
                          try clear c36b1
                          try clear c40
                          try clear c40b0
                          try clear c41
                          try clear c41b0
                          try clear c45
                          try clear c46
                          try clear c47
                          try clear c48
                          try clear c49
                          try clear c51
                          try clear c51b0
                          try clear c52
                          try clear c53
                          try clear c55
                          try clear c55b0
                          try clear c55b1
                          try clear c56
                          try clear c56b0
                          try clear c56b1
                          try clear c57
                          try clear c57b0
                          try clear c57b1
                          try clear c61
                          try clear c61b0
                          try clear c62
                          try clear c62b0
                          try clear c63
                          try clear c64
                          try clear p64
                          try clear c66
                          try clear c66b0
                          try clear c67
                          try clear c68
                          try clear c70
                          try clear c71
                          try clear c73
                          try clear c75
                          try clear c75b0
                          try clear c75b1
                          try clear c76
                          try clear c76b0
                          try clear c76b1
                          try clear c78
                          try clear c78b0
                          try clear c78b1
                          try clear c79
                          try clear q82
                          try clear c85
                          try clear c86
                          try clear hcz20_0
                          try clear hcz20_1
                          try clear hcz46_0
                          try clear hcz46_1
                          try clear hcz46_2
                          try clear hcz46_3
                          try clear hcz46_4
                          try clear hcz50_0
                          try clear hcz50_1
                          try clear hcz54_0
                          try clear hcz54_1
                          try clear hcz65_0
                          try clear hcz65_1
                          try clear hcz69_0
                          try clear hcz69_1
                          try clear hcz72_0
                          try clear hcz72_1
                          try clear hcz87_0
                          try clear hcz87_1
                          try clear hfz20_0
                          try clear hfz20_1
                          try clear hfz46_0
                          try clear hfz46_1
                          try clear hfz46_2
                          try clear hfz46_3
                          try clear hfz46_4
                          try clear hfz50_0
                          try clear hfz50_1
                          try clear hfz54_0
                          try clear hfz54_1
                          try clear hfz65_0
                          try clear hfz65_1
                          try clear hfz69_0
                          try clear hfz69_1
                          try clear hfz72_0
                          try clear hfz72_1
                          try clear hfz87_0
                          try clear hfz87_1
                          try clear hx110_0
                          try clear hx121_0
                          try clear hx123_0
                          try clear hx123_1
                          try clear hx123_2
                          try clear hx123_3
                          try clear hx123_4
                          try clear hx126_0
                          try clear hx126_1
                          try clear p1
                          try clear p11
                          try clear p110
                          try clear p12
                          try clear p121
                          try clear p123
                          try clear p126
                          try clear p2
                          try clear p6
                          try clear p64
                          try clear q1
                          try clear q11
                          try clear q110
                          try clear q12
                          try clear q121
                          try clear q123
                          try clear q126
                          try clear q2
                          try clear q28
                          try clear q82
                          obtain ⟨x28_6, rfl, HA, HK6, BK101, BK124, BK125, HB⟩ := hrel
                          as_aux_lemma =>
                           cases gk with
                           | zero => exact absurd HA.out (by simp [isobathlaw02_MooringWays.l2])
                           | succ k6 =>
                            have H := HA.out
                            clear HA
                            simp only [isobathlaw02_MooringWays.l2] at H
                            by_cases c88 : x28_6 < (((rd_T79 l2 x15_2).f2).length : Int)
                            ·rw [if_pos c88] at H
                             have c88b0 : decide (x28_6 < (((rd_T79 l2 x15_2).f2).length : Int)) = true := zdt c88
                             clear c88
                             by_cases c89 : 0 ≤ x28_6
                             ·rw [if_pos c89] at H
                              have c89b0 : decide (0 ≤ x28_6) = true := zdt c89
                              clear c89
                              by_cases c90 : (rd ((rd_T79 l2 x15_2).f2) x28_6) = (wrap64 ((wrap64 ((wrap64 ((wrap64 ((wrap64 (Int.tdiv x14_2 a0_0)) + ((rd_T79 l2 x15_2).f1.f0))) + (Int.tmod (wrap64 (x126001_41)) (wrap64 ((wrap64 (((rd_T79 l2 x15_2).f1.f1) - ((rd_T79 l2 x15_2).f1.f0))) + 1))))) * a0_0)) + (wrap64 ((wrap64 ((Int.tmod x14_2 a0_0) + ((rd_T79 l2 x15_2).f0.f0))) + (Int.tmod (wrap64 (x126000_41)) (wrap64 ((wrap64 (((rd_T79 l2 x15_2).f0.f1) - ((rd_T79 l2 x15_2).f0.f0))) + 1)))))))
                              ·rw [if_pos c90] at H
                               have c90b0 : ((rd ((rd_T79 l2 x15_2).f2) x28_6) == (wrap64 ((wrap64 ((wrap64 ((wrap64 ((wrap64 (Int.tdiv x14_2 a0_0)) + ((rd_T79 l2 x15_2).f1.f0))) + (Int.tmod (wrap64 (x126001_41)) (wrap64 ((wrap64 (((rd_T79 l2 x15_2).f1.f1) - ((rd_T79 l2 x15_2).f1.f0))) + 1))))) * a0_0)) + (wrap64 ((wrap64 ((Int.tmod x14_2 a0_0) + ((rd_T79 l2 x15_2).f0.f0))) + (Int.tmod (wrap64 (x126000_41)) (wrap64 ((wrap64 (((rd_T79 l2 x15_2).f0.f1) - ((rd_T79 l2 x15_2).f0.f0))) + 1)))))))) = true := beq_iff_eq.mpr c90
                               have c90b1 : ((rd ((rd_T79 l2 x15_2).f2) x28_6) != (wrap64 ((wrap64 ((wrap64 ((wrap64 ((wrap64 (Int.tdiv x14_2 a0_0)) + ((rd_T79 l2 x15_2).f1.f0))) + (Int.tmod (wrap64 (x126001_41)) (wrap64 ((wrap64 (((rd_T79 l2 x15_2).f1.f1) - ((rd_T79 l2 x15_2).f1.f0))) + 1))))) * a0_0)) + (wrap64 ((wrap64 ((Int.tmod x14_2 a0_0) + ((rd_T79 l2 x15_2).f0.f0))) + (Int.tmod (wrap64 (x126000_41)) (wrap64 ((wrap64 (((rd_T79 l2 x15_2).f0.f1) - ((rd_T79 l2 x15_2).f0.f0))) + 1)))))))) = false := bne_eq_false_iff_eq.mpr c90
                               clear c90
                               replace H := Option.bind_eq_some_iff.mp H
                               obtain ⟨t138, A910, H⟩ := H
                               replace H : (some t138) = some r := H
                               have A91 := zam A910
                               clear A910
                               as_aux_lemma =>
                                obtain rfl := zsi H
                                have hnb92 := NB124_101.out
                                have hnc92 := NB101_124.out
                                have hnb93 := NB124_125.out
                                have hnc93 := NB125_124.out
                                have hcz94_0 : wr.cell? ⟨gb124, 0, none⟩ = some (.int .i64 ((rd_T79 l2 x15_2).f0.f0)) := (zkc BK124.out 0).trans rfl
                                have hcz94_1 : wr.cell? ⟨gb124, 1, none⟩ = some (.int .i64 ((rd_T79 l2 x15_2).f0.f1)) := (zkc BK124.out 1).trans rfl
                                have hcz94_2 : wr.cell? ⟨gb124, 2, none⟩ = some (.int .i64 ((rd_T79 l2 x15_2).f1.f0)) := (zkc BK124.out 2).trans rfl
                                have hcz94_3 : wr.cell? ⟨gb124, 3, none⟩ = some (.int .i64 ((rd_T79 l2 x15_2).f1.f1)) := (zkc BK124.out 3).trans rfl
                                have hcz94_4 : wr.cell? ⟨gb124, 4, none⟩ = some (.slice A123_4 ((rd_T79 l2 x15_2).f2).length c123_4) := (zkc BK124.out 4).trans rfl
                                have hfz94_0 := zkz BK124.out 0
                                have hfz94_1 := zkz BK124.out 1
                                have hfz94_2 := zkz BK124.out 2
                                have hfz94_3 := zkz BK124.out 3
                                have hfz94_4 := zkz BK124.out 4
                                have p137 : 0 ≤ (x28_6 : Int) := zod (by first | (with_reducible assumption) | assumption)
                                have q137 : x28_6 < (((rd_T79 l2 x15_2).f2).length : Int) := zod (by first | (with_reducible assumption) | assumption)
                                obtain ⟨ad137, e137, hx137_0⟩ := Kd.at_int HR123_4.out x28_6 p137 q137
                                cases e137
                                replace hx137_0 := (HB.out.cell (zwb w _ hx137_0)).trans hx137_0
                                replace p137 := eq_true p137
                                replace q137 := eq_true q137
                                (try (have q137x := q137; simp only [zld, zlt] at q137x))
                                go_wp2_with (first | ((with_reducible refine zgc (f := 14) rfl ?_); refine goesL_ (some 213) rfl rfl Try.func14 (by kernel_rfl) rfl #[] rfl (by (try simp only [zmt, List.map_cons, List.map_nil]); first | done | rfl | (simp only [zld, zlt]; rfl)) ?_; (with_reducible refine (isobathlaw02_fine.calls k6  t138 _ A91.out).mono ?_); rintro e w95 ⟨rfl, hb⟩; refine ⟨_, rfl, ?_⟩; have n0_ := zam (zkb (g := gb101) (o := .cells #[.int .i64 a0_0, .int .i64 a0_1] 72 (0, 0)) (by (with_reducible repeat (first | refine zkn ?_ _ | refine zkd ?_ | refine zka ?_ _)); exact BK101.out) hb); have n1_ := zam (zkb (g := gb124) (o := .cells #[.int .i64 ((rd_T79 l2 x15_2).f0.f0), .int .i64 ((rd_T79 l2 x15_2).f0.f1), .int .i64 ((rd_T79 l2 x15_2).f1.f0), .int .i64 ((rd_T79 l2 x15_2).f1.f1), .slice (some ad137) ((rd_T79 l2 x15_2).f2).length c123_4] 79 (0, 0)) (by (with_reducible repeat (first | refine zkn ?_ _ | refine zkd ?_ | refine zka ?_ _)); exact BK124.out) hb); have n2_ := zam (zkb (g := gb125) (o := .cells #[.int .u8 x126000_41, .int .u8 x126001_41] 80 (0, 0)) (by (with_reducible repeat (first | refine zkn ?_ _ | refine zkd ?_ | refine zka ?_ _)); exact BK125.out) hb); have n3_ := zam (zbt (by repeat (first | (with_reducible first | exact HB.out | apply zba | apply zbn | apply zb1 | refine zbs ?_ GE101.out | refine zbs ?_ GE124.out | refine zbs ?_ GE125.out) | exact HB.out)) hb); clear BK101; clear BK124; clear BK125; clear HB; have BK101 := n0_; have BK124 := n1_; have BK125 := n2_; have HB := n3_; clear n0_ n1_ n2_ n3_; (try clear hb); (try clear hb2); (try clear hk); (try clear hi)))
                                go_ret
                                exact ⟨by first | rfl | (simp [errW_none, errW_some] <;> rfl) | (simp only [← hji17]; first | rfl | (simp [errW_none, errW_some] <;> rfl)) | (simp [*, errW_none, errW_some] <;> rfl), by repeat (first | (with_reducible first | exact HB.out | apply zba | apply zbn | apply zb1 | refine zbs ?_ GE101.out | refine zbs ?_ GE124.out | refine zbs ?_ GE125.out) | exact HB.out)⟩
                              rw [if_neg c90] at H
                              have c90b0 : ((rd ((rd_T79 l2 x15_2).f2) x28_6) == (wrap64 ((wrap64 ((wrap64 ((wrap64 ((wrap64 (Int.tdiv x14_2 a0_0)) + ((rd_T79 l2 x15_2).f1.f0))) + (Int.tmod (wrap64 (x126001_41)) (wrap64 ((wrap64 (((rd_T79 l2 x15_2).f1.f1) - ((rd_T79 l2 x15_2).f1.f0))) + 1))))) * a0_0)) + (wrap64 ((wrap64 ((Int.tmod x14_2 a0_0) + ((rd_T79 l2 x15_2).f0.f0))) + (Int.tmod (wrap64 (x126000_41)) (wrap64 ((wrap64 (((rd_T79 l2 x15_2).f0.f1) - ((rd_T79 l2 x15_2).f0.f0))) + 1)))))))) = false := beq_eq_false_iff_ne.mpr c90
                              have c90b1 : ((rd ((rd_T79 l2 x15_2).f2) x28_6) != (wrap64 ((wrap64 ((wrap64 ((wrap64 ((wrap64 (Int.tdiv x14_2 a0_0)) + ((rd_T79 l2 x15_2).f1.f0))) + (Int.tmod (wrap64 (x126001_41)) (wrap64 ((wrap64 (((rd_T79 l2 x15_2).f1.f1) - ((rd_T79 l2 x15_2).f1.f0))) + 1))))) * a0_0)) + (wrap64 ((wrap64 ((Int.tmod x14_2 a0_0) + ((rd_T79 l2 x15_2).f0.f0))) + (Int.tmod (wrap64 (x126000_41)) (wrap64 ((wrap64 (((rd_T79 l2 x15_2).f0.f1) - ((rd_T79 l2 x15_2).f0.f0))) + 1)))))))) = true := bne_iff_ne.mpr c90
                              as_aux_lemma =>
                               have H' := zam H
                               clear H
                               have hnb96 := NB124_101.out
                               have hnc96 := NB101_124.out
                               have hnb97 := NB124_125.out
                               have hnc97 := NB125_124.out
                               have hcz98_0 : wr.cell? ⟨gb124, 0, none⟩ = some (.int .i64 ((rd_T79 l2 x15_2).f0.f0)) := (zkc BK124.out 0).trans rfl
                               have hcz98_1 : wr.cell? ⟨gb124, 1, none⟩ = some (.int .i64 ((rd_T79 l2 x15_2).f0.f1)) := (zkc BK124.out 1).trans rfl
                               have hcz98_2 : wr.cell? ⟨gb124, 2, none⟩ = some (.int .i64 ((rd_T79 l2 x15_2).f1.f0)) := (zkc BK124.out 2).trans rfl
                               have hcz98_3 : wr.cell? ⟨gb124, 3, none⟩ = some (.int .i64 ((rd_T79 l2 x15_2).f1.f1)) := (zkc BK124.out 3).trans rfl
                               have hcz98_4 : wr.cell? ⟨gb124, 4, none⟩ = some (.slice A123_4 ((rd_T79 l2 x15_2).f2).length c123_4) := (zkc BK124.out 4).trans rfl
                               have hfz98_0 := zkz BK124.out 0
                               have hfz98_1 := zkz BK124.out 1
                               have hfz98_2 := zkz BK124.out 2
                               have hfz98_3 := zkz BK124.out 3
                               have hfz98_4 := zkz BK124.out 4
                               have p137 : 0 ≤ (x28_6 : Int) := zod (by first | (with_reducible assumption) | assumption)
                               have q137 : x28_6 < (((rd_T79 l2 x15_2).f2).length : Int) := zod (by first | (with_reducible assumption) | assumption)
                               obtain ⟨ad137, e137, hx137_0⟩ := Kd.at_int HR123_4.out x28_6 p137 q137
                               cases e137
                               replace hx137_0 := (HB.out.cell (zwb w _ hx137_0)).trans hx137_0
                               replace p137 := eq_true p137
                               replace q137 := eq_true q137
                               (try (have q137x := q137; simp only [zld, zlt] at q137x))
                               go_wp2
                               go_roundg k6
                               case measure => have := HJ5.out; have := HK2.out; have := HK3.out; have := HJ41.out; have := HJ57.out; have := HK6.out; omega
                               case rel => exact ⟨(wrap64 (x28_6 + 1)), (by first | rfl | (simp; done) | (simp [*]; done)), H', ⟨by have := HJ5.out; have := HK2.out; have := HK3.out; have := HJ41.out; have := HJ57.out; have := HK6.out; omega⟩, ⟨by (with_reducible repeat (first | refine zkn ?_ _ | refine zkd ?_ | refine zka ?_ _)); exact BK101.out⟩, ⟨by (with_reducible repeat (first | refine zkn ?_ _ | refine zkd ?_ | refine zka ?_ _)); exact BK124.out⟩, ⟨by (with_reducible repeat (first | refine zkn ?_ _ | refine zkd ?_ | refine zka ?_ _)); exact BK125.out⟩, ⟨by repeat (first | (with_reducible first | exact HB.out | apply zba | apply zbn | apply zb1 | refine zbs ?_ GE101.out | refine zbs ?_ GE124.out | refine zbs ?_ GE125.out) | exact HB.out)⟩⟩
                             rw [if_neg c89] at H
                             exact absurd H (by simp)
                            rw [if_neg c88] at H
                            have c88b0 : decide (x28_6 < (((rd_T79 l2 x15_2).f2).length : Int)) = false := zdf c88
                            clear c88
                            as_aux_lemma =>
                             have H' := zam H
                             clear H
                             have hnb99 := NB124_101.out
                             have hnc99 := NB101_124.out
                             have hnb100 := NB124_125.out
                             have hnc100 := NB125_124.out
                             have hcz101_0 : wr.cell? ⟨gb124, 0, none⟩ = some (.int .i64 ((rd_T79 l2 x15_2).f0.f0)) := (zkc BK124.out 0).trans rfl
                             have hcz101_1 : wr.cell? ⟨gb124, 1, none⟩ = some (.int .i64 ((rd_T79 l2 x15_2).f0.f1)) := (zkc BK124.out 1).trans rfl
                             have hcz101_2 : wr.cell? ⟨gb124, 2, none⟩ = some (.int .i64 ((rd_T79 l2 x15_2).f1.f0)) := (zkc BK124.out 2).trans rfl
                             have hcz101_3 : wr.cell? ⟨gb124, 3, none⟩ = some (.int .i64 ((rd_T79 l2 x15_2).f1.f1)) := (zkc BK124.out 3).trans rfl
                             have hcz101_4 : wr.cell? ⟨gb124, 4, none⟩ = some (.slice A123_4 ((rd_T79 l2 x15_2).f2).length c123_4) := (zkc BK124.out 4).trans rfl
                             have hfz101_0 := zkz BK124.out 0
                             have hfz101_1 := zkz BK124.out 1
                             have hfz101_2 := zkz BK124.out 2
                             have hfz101_3 := zkz BK124.out 3
                             have hfz101_4 := zkz BK124.out 4
                             go_wp2
                             go_roundg k6
                             case measure => have := HJ5.out; have := HK2.out; have := HK3.out; have := HJ41.out; have := HJ57.out; have := HK6.out; omega
                             case rel => exact ⟨((wrap64 ((wrap64 ((wrap64 ((wrap64 ((wrap64 (Int.tdiv x14_2 a0_0)) + ((rd_T79 l2 x15_2).f1.f0))) + (Int.tmod (wrap64 (x126001_41)) (wrap64 ((wrap64 (((rd_T79 l2 x15_2).f1.f1) - ((rd_T79 l2 x15_2).f1.f0))) + 1))))) * a0_0)) + (wrap64 ((wrap64 ((Int.tmod x14_2 a0_0) + ((rd_T79 l2 x15_2).f0.f0))) + (Int.tmod (wrap64 (x126000_41)) (wrap64 ((wrap64 (((rd_T79 l2 x15_2).f0.f1) - ((rd_T79 l2 x15_2).f0.f0))) + 1)))))))), (wrap64 (x15_2 + 1)), (by first | rfl | (simp; done) | (simp [*]; done)), (by first | rfl | (simp; done) | (simp [*]; done)), H', ⟨by have := HJ5.out; have := HK2.out; have := HK3.out; have := HJ41.out; have := HJ57.out; have := HK6.out; omega⟩, ⟨by (with_reducible repeat (first | refine zkn ?_ _ | refine zkd ?_ | refine zka ?_ _)); exact BK101.out⟩, ⟨by repeat (first | (with_reducible first | exact HB.out | apply zba | apply zbn | apply zb1 | refine zbs ?_ GE101.out | refine zbs ?_ GE124.out | refine zbs ?_ GE125.out) | exact HB.out)⟩⟩
                  rw [if_neg c41] at H
                  exact absurd H (by simp)
                 rw [if_neg c40] at H
                 exact absurd H (by simp)
                replace c35 := Bool.eq_false_iff.mpr c35
                subst c35
                have H1 : (none) = some r := by rw [if_neg (show ¬ (false = true) by decide)] at H; exact H
                clear H
                have H := H1
                clear H1
                exact absurd H (by simp)
            rw [if_neg c26] at H
            exact absurd H (by simp)
           rw [if_neg c23] at H
           exact absurd H (by simp)
          rw [if_neg c22] at H
          have c22b0 : decide (x15_2 ≤ (l2.length : Int)) = false := zdf c22
          clear c22
          replace H := Option.bind_eq_some_iff.mp H
          obtain ⟨t111, A1020, H⟩ := H
          replace H : (some t111) = some r := H
          have A102 := zam A1020
          clear A1020
          as_aux_lemma =>
           obtain rfl := zsi H
           go_wp2_with (first | ((with_reducible refine zgc (f := 14) rfl ?_); refine goesL_ (some 214) rfl rfl Try.func14 (by kernel_rfl) rfl #[] rfl (by (try simp only [zmt, List.map_cons, List.map_nil]); first | done | rfl | (simp only [zld, zlt]; rfl)) ?_; (with_reducible refine (isobathlaw02_fine.calls k2  t111 _ A102.out).mono ?_); rintro e w103 ⟨rfl, hb⟩; refine ⟨_, rfl, ?_⟩; have n0_ := zam (zkb (g := gb101) (o := .cells #[.int .i64 a0_0, .int .i64 a0_1] 72 (0, 0)) (by (with_reducible repeat (first | refine zkn ?_ _ | refine zkd ?_ | refine zka ?_ _)); exact BK101.out) hb); have n1_ := zam (zbt (by repeat (first | (with_reducible first | exact HB.out | apply zba | apply zbn | apply zb1 | refine zbs ?_ GE101.out) | exact HB.out)) hb); clear BK101; clear HB; have BK101 := n0_; have HB := n1_; clear n0_ n1_; (try clear hb); (try clear hb2); (try clear hk); (try clear hi)))
           go_ret
           exact ⟨by first | rfl | (simp [errW_none, errW_some] <;> rfl) | (simp only [← hji17]; first | rfl | (simp [errW_none, errW_some] <;> rfl)) | (simp [*, errW_none, errW_some] <;> rfl), by repeat (first | (with_reducible first | exact HB.out | apply zba | apply zbn | apply zb1 | refine zbs ?_ GE101.out) | exact HB.out)⟩
      rw [if_neg c19] at H
      exact absurd H (by simp)
     rw [if_neg c18] at H
     exact absurd H (by simp)
    rw [if_neg c15] at H
    have c15b0 : (t108 == 0) = false := beq_eq_false_iff_ne.mpr c15
    have c15b1 : (t108 != 0) = true := bne_iff_ne.mpr c15
    replace H := Option.bind_eq_some_iff.mp H
    obtain ⟨t109, A1040, H⟩ := H
    replace H : (some t109) = some r := H
    have A104 := zam A1040
    clear A1040
    as_aux_lemma =>
     obtain rfl := zsi H
     have hcz105_0 : wc.cell? ⟨gb101, 0, none⟩ = some (.int .i64 a0_0) := (zkc BK101.out 0).trans rfl
     have hcz105_1 : wc.cell? ⟨gb101, 1, none⟩ = some (.int .i64 a0_1) := (zkc BK101.out 1).trans rfl
     have hfz105_0 := zkz BK101.out 0
     have hfz105_1 := zkz BK101.out 1
     go_wp2_with (first | ((with_reducible refine zgc (f := 47) rfl ?_); refine goesL_ (some 47) rfl rfl Try.func47 (by kernel_rfl) rfl #[.agg #[.int .i64 a0_0, .int .i64 a0_1], .slice A1 l1.length c1, .slice A2 l2.length c2] rfl (by (try simp only [zmt, List.map_cons, List.map_nil]); first | done | rfl | (simp only [zld, zlt]; rfl)) ?_; (with_reducible refine (isobathref02_Where.calls kj5 a0_0 a0_1 _ _ l1 _ _ l2 t104 t107 t108 _ ?side1 ?side2 ?side3 ?side4 A14.out).mono ?_); (case side1 => repeat (first | exact (Kd.C_below HR1.out HB.out) | (with_reducible refine Kd.C_alloc ?_ _) | (with_reducible refine Kd.C_drewN ?_ _) | (with_reducible refine Kd.C_drew ?_))); (case side2 => exact HC1.out); (case side3 => repeat (first | exact (Kd.C_below HR2.out HB.out) | (with_reducible refine Kd.C_alloc ?_ _) | (with_reducible refine Kd.C_drewN ?_ _) | (with_reducible refine Kd.C_drew ?_))); (case side4 => exact HC2.out); rintro e w106 ⟨v105, rfl, ho0, hb⟩; refine ⟨_, rfl, ?_⟩; have n0_ := zam (Kd.R_lower ho0 (zbz (by repeat (first | (with_reducible first | exact HB.out | apply zba | apply zbn | apply zb1 | refine zbs ?_ GE101.out) | exact HB.out)))); have n1_ := zam (zkb (g := gb101) (o := .cells #[.int .i64 a0_0, .int .i64 a0_1] 72 (0, 0)) (by (with_reducible repeat (first | refine zkn ?_ _ | refine zkd ?_ | refine zka ?_ _)); exact BK101.out) hb); have n2_ := zam (zbt (by repeat (first | (with_reducible first | exact HB.out | apply zba | apply zbn | apply zb1 | refine zbs ?_ GE101.out) | exact HB.out)) hb); clear BK101; clear HB; have HO106 := n0_; have BK101 := n1_; have HB := n2_; clear n0_ n1_ n2_; (try clear hb); (try clear hb2); (try clear hk); (try clear hi); (try clear ho0)) | ((with_reducible refine zgc (f := 14) rfl ?_); refine goesL_ (some 53) rfl rfl Try.func14 (by kernel_rfl) rfl #[] rfl (by (try simp only [zmt, List.map_cons, List.map_nil]); first | done | rfl | (simp only [zld, zlt]; rfl)) ?_; (with_reducible refine (isobathlaw02_fine.calls kj5  t109 _ A104.out).mono ?_); rintro e w107 ⟨rfl, hb⟩; refine ⟨_, rfl, ?_⟩; have n0_ := zam (Kd.R_below (by (with_reducible repeat (first | apply zRa | apply zRn | apply zRd)); exact HO106.out) hb); have n1_ := zam (zkb (g := gb101) (o := .cells #[.int .i64 a0_0, .int .i64 a0_1] 72 (0, 0)) (by (with_reducible repeat (first | refine zkn ?_ _ | refine zkd ?_ | refine zka ?_ _)); exact BK101.out) hb); have n2_ := zam (zbt (by repeat (first | (with_reducible first | exact HB.out | apply zba | apply zbn | apply zb1 | refine zbs ?_ GE101.out) | exact HB.out)) hb); clear HO106; clear BK101; clear HB; have HO106 := n0_; have BK101 := n1_; have HB := n2_; clear n0_ n1_ n2_; (try clear hb); (try clear hb2); (try clear hk); (try clear hi)))
     go_ret
     exact ⟨by first | rfl | (simp [errW_none, errW_some] <;> rfl) | (simp [*, errW_none, errW_some] <;> rfl), by repeat (first | (with_reducible first | exact HB.out | apply zba | apply zbn | apply zb1 | refine zbs ?_ GE101.out) | exact HB.out)⟩
structure Opens {α : Type} (P : Program) (t : TypeId) (d : Kd α) (B : α → Prop) : Prop where
 run : ∀ {H : Type} {enc : TypeId × Value → H} {W : World} {fuel : Nat} {cs : List Value} {x : DataW H × List MemPlace}, DataW.trod enc P W 0 (fun _ => true) true fuel t cs = some x → ∃ a : α, d.K W a cs ∧ B a
theorem Opens.int {P : Program} {t : TypeId} {k : IntKind} (ht : P.underlying t = some (.int k)) : Opens P t (Kd.int k) (fun n => (Lit.int k n).wf = true) :=
 ⟨fun h => by
  obtain ⟨n, rfl, _, hw⟩ := DataW.trod_int ht h
  exact ⟨n, rfl, hw⟩⟩
theorem Opens.bool {P : Program} {t : TypeId} (ht : P.underlying t = some .bool) : Opens P t Kd.bool (fun _ => True) :=
 ⟨fun h => by
  obtain ⟨n, rfl, _⟩ := DataW.trod_bool ht h
  exact ⟨n, rfl, trivial⟩⟩
theorem Opens.slice {α : Type} {P : Program} {t e : TypeId} {d : Kd α} {B : α → Prop} (ht : P.underlying t = some (.slice e)) (hc : P.cellsOf e = d.sz) (he : Opens P e d B) :
  Opens P t (Kd.slice e d) (fun xs => xs.length ≤ 9223372036854775807 ∧ ∀ x ∈ xs, B x) := by
 refine ⟨fun {H enc W fuel cs x} h => ?_⟩
 rcases Deep.open_slice ht h with ⟨rfl, _⟩ | ⟨a, len, cap, m, n, D, Pl, rfl, _, hl, hm, hmm, _, hx⟩
 ·exact ⟨[], ⟨none, 0, rfl, Nat.le_refl _, Kd.C_nil _ _⟩, by simp, by simp⟩
 have hm' : cap ≤ 9223372036854775807 := by unfold maxLen at hm; exact hm
 have hme : m = cap := by simpa using hmm
 have hel : ∀ i, i < len → ∃ y : α, (∃ cs', W.cells? 0 (a.add (i * P.cellsOf e)) (P.cellsOf e) = some cs' ∧ d.K W y cs') ∧ B y := by
  intro i hi
  obtain ⟨cs', h1, h2⟩ := hx i (by omega)
  obtain ⟨y, hy, hB⟩ := he.run h2
  exact ⟨y, ⟨cs', h1, hy⟩, hB⟩
 rcases Nat.eq_zero_or_pos len with h0 | h0
 ·subst h0
  exact ⟨[], ⟨some a, cap, rfl, Nat.zero_le _, rfl, Nat.zero_le _, fun hp => absurd hp (Nat.lt_irrefl 0)⟩, by simp, by simp⟩
 have : Inhabited α := ⟨Classical.choose (hel 0 h0)⟩
 obtain ⟨f, hf⟩ := Deep.choose_lt (p := fun i y => (∃ cs', W.cells? 0 (a.add (i * P.cellsOf e)) (P.cellsOf e) = some cs' ∧ d.K W y cs') ∧ B y) hel
 have hlen : ((List.range len).map f).length = len := by simp
 refine ⟨(List.range len).map f, ⟨some a, cap, by rw [hlen], by rw [hlen]; exact hl, hlen ▸ rfl, by rw [hlen]; omega, fun _ => ⟨a, rfl, ?_⟩⟩, by rw [hlen]; omega, ?_⟩
 ·intro j p hj
  have hjl : j < len := by
   have := (List.getElem?_eq_some_iff.1 hj).1
   rwa [hlen] at this
  have hp : p = f j := by
   rw [List.getElem?_map, List.getElem?_range hjl] at hj
   exact (zsi hj).symm
  subst hp
  obtain ⟨⟨cs', h1, h2⟩, _⟩ := hf j hjl
  obtain ⟨_, h3, h4⟩ := World.cells?_some h1
  rw [hc] at h3 h4
  refine ⟨cs', h3, h2, fun i u hu => ?_⟩
  have hi : i < d.sz := by
   have := (List.getElem?_eq_some_iff.1 hu).1
   omega
  rw [← Deep.add_add]
  exact (h4 i hi).trans hu
 intro y hy
 obtain ⟨i, hi, rfl⟩ := List.mem_map.1 hy
 exact (hf i (List.mem_range.1 hi)).2
structure OpensF {α : Type} (P : Program) (fs : List Field) (off tot : Nat) (d : Kd α) (B : α → Prop) : Prop where
 run : ∀ {H : Type} {enc : TypeId × Value → H} {W : World} {n : Nat} {cs : List Value}, cs.length = tot → (∀ (i : Nat) (f : Field), fs[i]? = some f → ∃ y, DataW.trod enc P W 0 (fun _ => true) true n f.type ((cs.drop f.offset).take (P.cellsOf f.type)) = some y) → ∃ a : α, d.K W a (cs.drop off) ∧ B a
theorem OpensF.last {α : Type} {P : Program} {f : Field} {off tot : Nat} {d : Kd α} {B : α → Prop} (ho : f.offset = off) (ht : off + P.cellsOf f.type = tot) (h : Opens P f.type d B) : OpensF P [f] off tot d B := by
 refine ⟨fun {H enc W n cs} hl hy => ?_⟩
 obtain ⟨y, hy⟩ := hy 0 f rfl
 obtain ⟨a, ha, hB⟩ := h.run hy
 rw [ho, List.take_of_length_le (by rw [zld]; omega)] at ha
 exact ⟨a, ha, hB⟩
theorem OpensF.cons {α β : Type} {P : Program} {f : Field} {fs : List Field} {off tot : Nat} {d1 : Kd α} {d2 : Kd β} {B1 : α → Prop} {B2 : β → Prop} (ho : f.offset = off) (hs : P.cellsOf f.type = d1.sz) (h : Opens P f.type d1 B1) (hr : OpensF P fs (off + d1.sz) tot d2 B2) :
  OpensF P (f :: fs) off tot (Kd.pair d1 d2) (fun x => B1 x.1 ∧ B2 x.2) := by
 refine ⟨fun {H enc W n cs} hl hy => ?_⟩
 obtain ⟨y, hy0⟩ := hy 0 f rfl
 obtain ⟨a, ha, hB⟩ := h.run hy0
 obtain ⟨b, hb, hB2⟩ := hr.run hl (fun i g hg => hy (i + 1) g hg)
 rw [ho, hs] at ha
 refine ⟨(a, b), ⟨(cs.drop off).take d1.sz, cs.drop (off + d1.sz), ?_, ha, hb⟩, hB, hB2⟩
 rw [← List.drop_drop, List.take_append_drop]
theorem Opens.struct {α β : Type} {P : Program} {t : TypeId} {fs : Array Field} {d : Kd α} {B : α → Prop} (ht : P.underlying t = some (.struct fs)) (f : β → α) (g : α → β) (hg : ∀ a, f (g a) = a) (hF : OpensF P fs.toList 0 (P.cellsOf t) d B) : Opens P t (Kd.iso d f) (fun x => B (f x)) := by
 refine ⟨fun {H enc W fuel cs x} h => ?_⟩
 obtain ⟨xs, n, _, _, hl, hlen, hf⟩ := DataW.trod_struct ht h
 obtain ⟨a, ha, hB⟩ := hF.run (n := n) hl (fun i fl hfl => by
  have hfl' : fs[i]? = some fl := by simpa using hfl
  have hi : i < fs.size := (Array.getElem?_eq_some_iff.1 hfl').1
  exact ⟨xs[i]'(by omega), (hf i fl hfl').trans (List.getElem?_eq_getElem (by omega))⟩)
 refine ⟨g a, ?_, ?_⟩
 ·show d.K W (f (g a)) cs
  rw [hg]
  simpa using ha
 show B (f (g a))
 rw [hg]
 exact hB
theorem cells_agg {v : Value} {l : List Value} (h : v.cells.toList = l) (hl : 2 ≤ l.length) : v = .agg l.toArray := by
 subst h
 cases v <;> simp [Value.cells] at hl ⊢
theorem Opens.array {α β : Type} {P : Program} {t n e : Nat} {fs : List Field} {d : Kd α} {B : α → Prop} (ht : P.underlying t = some (.array n e)) (hfs : ∀ (i : Nat) (f : Field), fs[i]? = some f → i < n ∧ f.type = e ∧ f.offset = i * P.cellsOf e) (f : β → α) (g : α → β) (hg : ∀ a, f (g a) = a) (hF : OpensF P fs 0 (P.cellsOf t) d B) : Opens P t (Kd.iso d f) (fun x => B (f x)) := by
 refine ⟨fun {H enc W fuel cs x} h => ?_⟩
 obtain ⟨xs, m, _, _, hl, hlen, hf⟩ := DataW.trod_array ht h
 obtain ⟨a, ha, hB⟩ := hF.run (n := m) hl (fun i fl hfl => by
  obtain ⟨h1, h2, h3⟩ := hfs i fl hfl
  rw [h2, h3]
  exact ⟨xs[i]'(by omega), (hf i h1).trans (List.getElem?_eq_getElem (by omega))⟩)
 refine ⟨g a, ?_, ?_⟩
 ·show d.K W (f (g a)) cs
  rw [hg]
  simpa using ha
 show B (f (g a))
 rw [hg]
 exact hB
end Go.Proofs.Ytebcmhajbjkojaa.P
namespace Go.Proofs.Ytebcmhajbjkojaa.P
open Go.RowKit Go.Proofs.YtebcmhajbjkojaaW.PrintWords Go.Proofs.YtebcmhajbjkojaaW.PrintLast Go.Proofs.YtebcmhajbjkojaaW.PrintMore
namespace mooringWays
open Go.ChangeShapes Go.WideShapes Go.ChangeAt
set_option linter.unusedVariables false
set_option linter.unusedSimpArgs false
def B72 (x : S72) : Prop := (fun n : Int => (Lit.int .i64 n).wf = true) x.f0 ∧ (fun n : Int => (Lit.int .i64 n).wf = true) x.f1
theorem opens72 : Opens Try.prog 72 k72 B72 := Opens.struct (fs := _) Try.underlying72 (fun x : S72 => (x.f0, x.f1)) (fun t => ⟨t.1, t.2⟩) (fun _ => rfl) (OpensF.cons rfl (by kernel_rfl) (Opens.int Try.underlying3) (OpensF.last rfl (by kernel_rfl) (Opens.int Try.underlying3)))
def B57 (x : S57) : Prop := (fun n : Int => (Lit.int .i64 n).wf = true) x.f0 ∧ (fun n : Int => (Lit.int .i64 n).wf = true) x.f1
theorem opens57 : Opens Try.prog 57 k57 B57 := Opens.struct (fs := _) Try.underlying57 (fun x : S57 => (x.f0, x.f1)) (fun t => ⟨t.1, t.2⟩) (fun _ => rfl) (OpensF.cons rfl (by kernel_rfl) (Opens.int Try.underlying2) (OpensF.last rfl (by kernel_rfl) (Opens.int Try.underlying2)))
def B79 (x : S79) : Prop := B57 x.f0 ∧ B57 x.f1 ∧ (fun xs : List Int => xs.length ≤ 9223372036854775807 ∧ ∀ x ∈ xs, (fun n : Int => (Lit.int .i64 n).wf = true) x) x.f2
theorem opens79 : Opens Try.prog 79 k79 B79 := Opens.struct (fs := _) Try.underlying79 (fun x : S79 => (x.f0, x.f1, x.f2)) (fun t => ⟨t.1, t.2.1, t.2.2⟩) (fun _ => rfl) (OpensF.cons rfl (by kernel_rfl) opens57 (OpensF.cons rfl (by kernel_rfl) opens57 (OpensF.last rfl (by kernel_rfl) (Opens.slice Try.underlying22 (by kernel_rfl) (Opens.int Try.underlying3)))))
def B80 (x : S80) : Prop := (fun n : Int => (Lit.int .u8 n).wf = true) x.f0 ∧ (fun n : Int => (Lit.int .u8 n).wf = true) x.f1
theorem opens80 : Opens Try.prog 80 k80 B80 := Opens.array (fs := [{ name := "e0", type := 5, offset := 0, embedded := false, tag := "", pkgPath := "", byteOffset := 0 }, { name := "e1", type := 5, offset := 1, embedded := false, tag := "", pkgPath := "", byteOffset := 1 }]) Try.underlying80 (fun i f h => by rcases i with _ | _ | i <;> simp at h <;> subst h <;> exact ⟨by decide, rfl, by kernel_rfl⟩) (fun x : S80 => (x.f0, x.f1)) (fun t => ⟨t.1, t.2⟩) (fun _ => rfl) (OpensF.cons rfl (by kernel_rfl) (Opens.int Try.underlying5) (OpensF.last rfl (by kernel_rfl) (Opens.int Try.underlying5)))
def Pure : Prop := ∀ (x0 : S72) (x1 : (List Int)) (x2 : (List S79)) (x3 : Int) (x4 : (List S80)), B72 x0 → (fun xs : List Int => xs.length ≤ 9223372036854775807 ∧ ∀ x ∈ xs, (fun n : Int => (Lit.int .i64 n).wf = true) x) x1 → (fun xs : List S79 => xs.length ≤ 9223372036854775807 ∧ ∀ x ∈ xs, B79 x) x2 → (fun n : Int => (Lit.int .u16 n).wf = true) x3 → (fun xs : List S80 => xs.length ≤ 9223372036854775807 ∧ ∀ x ∈ xs, B80 x) x4 → ∃ k, isobathlaw02_MooringWays.f k x0.f0 x0.f1 x1 x2 x3 x4 = some true
theorem own : ownKnob Try.prog.godebug = none := by kernel_rfl
theorem laidOut : laidOutB Try.prog = true := by kernel_rfl
set_option maxRecDepth 100000 in
theorem lifted (hP : Pure) (os : Os) (started : os.Started) (H : Type) (enc : TypeId × Value → H) :
  ReturnsInHanded {} Try.checked os 11 .any (Rows.mooringWaysSpec.pre6 enc Try.prog Try.f11 Rows.mooringWaysRow.domain false) (Rows.mooringWaysSpec.post enc Try.prog Try.f11 false true false false) := by
 refine returnsInHanded_of_change_sized (C := Try.checked) own started (by kernel_rfl) Try.func11
  (ChangeSpec.witness6 (enc := enc) (C := Try.checked) false ⟨#[], #[.agg #[.int .i64 0, .int .i64 0], .slice none 0 0, .slice none 0 0, .int .u16 0, .slice none 0 0], []⟩ 8 (by kernel_rfl) (by kernel_rfl) (by kernel_rfl) (by kernel_rfl)) ?_
 intro W base args ds gs before hval0 hW hcnd hsz0 _
 have hval : ∀ (j : Nat) t v, Try.f11.params[j]? = some t → args[j]? = some v → Value.okWide Try.prog W .any base t v := hval0
 have hW' := hW
 obtain ⟨p, q, hA0, hV, rfl, hfz, hnd⟩ := hW
 have hA : DataW.TrodAll enc Try.prog W 0 (fun _ => true) true Try.f11.params.toList args.toList ds p := hA0
 rw [Try.params11] at hA hval
 obtain ⟨v0, vs0, d0, ds0, p0, q0, hargs, rfl, rfl, h0, r0⟩ := trodAll_cons hA
 obtain ⟨v1, vs1, d1, ds1, p1, q1, rfl, rfl, rfl, h1, r1⟩ := trodAll_cons r0
 obtain ⟨v2, vs2, d2, ds2, p2, q2, rfl, rfl, rfl, h2, r2⟩ := trodAll_cons r1
 obtain ⟨v3, vs3, d3, ds3, p3, q3, rfl, rfl, rfl, h3, r3⟩ := trodAll_cons r2
 obtain ⟨v4, vs4, d4, ds4, p4, q4, rfl, rfl, rfl, h4, r4⟩ := trodAll_cons r3
 obtain ⟨rfl, rfl, rfl⟩ := trodAll_nil r4
 obtain rfl : args = #[v0, v1, v2, v3, v4] := by cases args; simp_all
 obtain ⟨rfl, rfl⟩ := trodVars_none hV
 have k0 := h0
 have lt0 : ∀ x ∈ p0, x.block < W.heap.size := by obtain ⟨m, hm⟩ := k0; exact DataW.trod_lt m _ _ _ hm
 obtain ⟨m0, hm0⟩ := h0
 obtain ⟨x0, hk0, w0⟩ := Opens.run opens72 hm0
 have hcs0 := k72_open hk0
 obtain rfl := cells_agg hcs0 (by simp)
 have k1 := h1
 have lt1 : ∀ x ∈ p1, x.block < W.heap.size := by obtain ⟨m, hm⟩ := k1; exact DataW.trod_lt m _ _ _ hm
 obtain ⟨m1, hm1⟩ := h1
 obtain ⟨x1, hk1, w1⟩ := Opens.run (Opens.slice Try.underlying22 (by kernel_rfl) (Opens.int Try.underlying3)) hm1
 obtain ⟨a1, len1, cap1, rfl⟩ := okWide_slice Try.underlying22 (hval 1 22 v1 rfl rfl)
 obtain ⟨A1, c1, hcs1, hc1, hr1⟩ := hk1
 simp [Value.cells] at hcs1
 obtain ⟨rfl, rfl, rfl⟩ := hcs1
 have k2 := h2
 have lt2 : ∀ x ∈ p2, x.block < W.heap.size := by obtain ⟨m, hm⟩ := k2; exact DataW.trod_lt m _ _ _ hm
 obtain ⟨m2, hm2⟩ := h2
 obtain ⟨x2, hk2, w2⟩ := Opens.run (Opens.slice Try.underlying73 (by kernel_rfl) opens79) hm2
 obtain ⟨a2, len2, cap2, rfl⟩ := okWide_slice Try.underlying73 (hval 2 73 v2 rfl rfl)
 obtain ⟨A2, c2, hcs2, hc2, hr2⟩ := hk2
 simp [Value.cells] at hcs2
 obtain ⟨rfl, rfl, rfl⟩ := hcs2
 obtain ⟨x3, rfl, rfl, rfl, w3⟩ := open_int Try.underlying32 (hval 3 32 v3 rfl rfl) h3
 have k4 := h4
 have lt4 : ∀ x ∈ p4, x.block < W.heap.size := by obtain ⟨m, hm⟩ := k4; exact DataW.trod_lt m _ _ _ hm
 obtain ⟨m4, hm4⟩ := h4
 obtain ⟨x4, hk4, w4⟩ := Opens.run (Opens.slice Try.underlying74 (by kernel_rfl) opens80) hm4
 obtain ⟨a4, len4, cap4, rfl⟩ := okWide_slice Try.underlying74 (hval 4 74 v4 rfl rfl)
 obtain ⟨A4, c4, hcs4, hc4, hr4⟩ := hk4
 simp [Value.cells] at hcs4
 obtain ⟨rfl, rfl, rfl⟩ := hcs4
 clear hA0 hval0 hsz0
 obtain ⟨k, hf⟩ := hP x0 x1 x2 x3 x4 w0 w1 w2 w3 w4
 refine (isobathlaw02_MooringWays.calls (k := k) (a0_0 := x0.f0) (a0_1 := x0.f1) (A1 := a1) (c1 := cap1) (l1 := x1) (A2 := a2) (c2 := cap2) (l2 := x2) (a3 := x3) (A4 := a4) (c4 := cap4) (l4 := x4) (r := true) (w := W) (hr1 := hr1) (hc1 := hc1) (hr2 := hr2) (hc2 := hc2) (hr4 := hr4) (hc4 := hc4) (h := hf)).mono fun e W' ⟨he, hd⟩ => ?_
 have bel : Below W.heap.size W W' := by first | exact hd | (obtain ⟨m, rfl⟩ := hd; exact zbn (Below.refl _ _) m)
 subst he
 exact ⟨_, rfl, _, _, _, [], _, [], hW', trodAll_mk1 (shut_bool Try.underlying4 _), (trodAll_cons_mk (Below.trod laidOut (by kernel_rfl) (zod (by kernel_rfl)) k0 bel lt0) (trodAll_cons_mk (Below.trod laidOut (by kernel_rfl) (zod (by kernel_rfl)) k1 bel lt1) (trodAll_cons_mk (Below.trod laidOut (by kernel_rfl) (zod (by kernel_rfl)) k2 bel lt2) (trodAll_cons_mk (shut_int Try.underlying32 w3) (trodAll_cons_mk (Below.trod laidOut (by kernel_rfl) (zod (by kernel_rfl)) k4 bel lt4) trodAll_mk0))))), rfl, bel.frame _, fun h => by cases h⟩
theorem over (hP : Pure) : Rows.mooringWaysRow.holds Try.pinned (OpenSpec.ofChange Rows.mooringWaysSpec) :=
 OpenClaim.holds_of_wide 11 Try.f11 rfl rfl rfl rfl rfl rfl rfl ⟨rfl, rfl, rfl, rfl, rfl⟩ rfl rfl rfl rfl rfl (by kernel_rfl) Try.func11 (by kernel_rfl)
  (zod (by kernel_rfl)) (by unfold Func.isWrapper; first | (rw [if_pos (by decide +kernel)]; kernel_rfl) | (rw [if_neg (by decide +kernel)]; exact ⟨rfl, rfl⟩))
  (fun os started H enc _ => lifted hP os started H enc)
theorem proved (hP : Pure) : Rows.MooringWaysSaid := over hP
end mooringWays
end Go.Proofs.Ytebcmhajbjkojaa.P
namespace Go.Proofs.Ytebcmhajbjkojaa.P
open Go.RowKit Go.Proofs.YtebcmhajbjkojaaW.PrintWords Go.Proofs.YtebcmhajbjkojaaW.PrintLast Go.Proofs.YtebcmhajbjkojaaW.PrintMore
attribute [local go_sem] max2_int min2_int max_two min_two max_three min_three max_four min_four   -- for this text's walks alone
set_option linter.unusedVariables false
set_option linter.unusedSimpArgs false
theorem Law2.fine60 : isobathlaw02_fine.f 60 = some true := by kernel_rfl
theorem Law2.fine {k : Nat} (hk : 60 ≤ k) : isobathlaw02_fine.f k = some true := LeO.up (fun k => isobathlaw02_fine.mono k) hk Law2.fine60
theorem Srch.mark_length (mk : List Bool) (x : Int) : (Srch.mark mk x).length = mk.length := by
 unfold Srch.mark
 split
 ·rfl
 rw [List.length_set]
theorem Srch.marks_length (xs : List Int) : ∀ mk : List Bool, (Srch.marks mk xs).length = mk.length := by
 induction xs with
 | nil => intro mk; rfl
 | cons x xs ih => intro mk; exact (ih _).trans (Srch.mark_length mk x)
theorem Srch.marks_cons (mk : List Bool) (x : Int) (xs : List Int) : Srch.marks mk (x :: xs) = Srch.marks (Srch.mark mk x) xs := rfl
theorem Srch.marks_append (mk : List Bool) (xs ys : List Int) : Srch.marks mk (xs ++ ys) = Srch.marks (Srch.marks mk xs) ys := List.foldl_append
theorem Srch.out_cons (x : Int) (xs : List Int) : Srch.out (x :: xs) = (decide (x < 0) || Srch.out xs) := rfl
theorem Srch.out_append (xs ys : List Int) : Srch.out (xs ++ ys) = (Srch.out xs || Srch.out ys) := List.any_append
theorem Srch.unmark_cons (mk : List Bool) (x : Int) (xs : List Int) : Srch.unmark mk (x :: xs) = Srch.unmark (mk.set x.toNat false) xs := rfl
theorem Srch.unmark_length (xs : List Int) : ∀ mk : List Bool, (Srch.unmark mk xs).length = mk.length := by
 induction xs with
 | nil => intro mk; rfl
 | cons x xs ih => intro mk; exact (ih _).trans List.length_set
theorem Srch.hourMk_cons (wd hg e0 e1 n0 n1 : Int) (mk : List Bool) (c : Int) (xs : List Int) : Srch.hourMk wd hg e0 e1 n0 n1 mk (c :: xs) = Srch.hourMk wd hg e0 e1 n0 n1 (Srch.marks mk (Srch.reach wd hg c e0 e1 n0 n1)) xs := rfl
theorem Srch.hourLf_cons (wd hg e0 e1 n0 n1 : Int) (c : Int) (xs : List Int) : Srch.hourLf wd hg e0 e1 n0 n1 (c :: xs) = (Srch.out (Srch.reach wd hg c e0 e1 n0 n1) || Srch.hourLf wd hg e0 e1 n0 n1 xs) := rfl
theorem Srch.hourMk_length (wd hg e0 e1 n0 n1 : Int) (xs : List Int) : ∀ mk : List Bool, (Srch.hourMk wd hg e0 e1 n0 n1 mk xs).length = mk.length := by
 induction xs with
 | nil => intro mk; rfl
 | cons x xs ih => intro mk; exact (ih _).trans (Srch.marks_length _ _)
def Srch.colR (wd hg c x : Int) : Nat → Int → List Int
 | 0, _ => []
 | r + 1, y => Srch.to wd hg c x y :: Srch.colR wd hg c x r (y + 1)
theorem Srch.col_colR (wd hg c x : Int) : ∀ (r : Nat) (y : Int), Srch.col wd hg c x y r = Srch.colR wd hg c x r y
 | 0, y => rfl
 | r + 1, y => by
  rw [Srch.colR, ← Srch.col_colR wd hg c x r (y + 1)]
  unfold Srch.col
  rw [List.range_succ_eq_map, List.map_cons, List.map_map]
  congr 1
  ·congr 1
   simp
  apply List.map_congr_left
  intro k _
  show Srch.to wd hg c x (y + ((k + 1 : Nat) : Int)) = Srch.to wd hg c x (y + 1 + (k : Int))
  congr 1
  omega
def Srch.colsR (wd hg c n0 : Int) (m : Nat) : Nat → Int → List Int
 | 0, _ => []
 | r + 1, x => Srch.colR wd hg c x m n0 ++ Srch.colsR wd hg c n0 m r (x + 1)
theorem Srch.colsR_snoc (wd hg c n0 : Int) (m : Nat) : ∀ (r : Nat) (x : Int), Srch.colsR wd hg c n0 m (r + 1) x = Srch.colsR wd hg c n0 m r x ++ Srch.colR wd hg c (x + (r : Int)) m n0
 | 0, x => by simp [Srch.colsR]
 | r + 1, x => by
  rw [Srch.colsR, Srch.colsR_snoc wd hg c n0 m r (x + 1), Srch.colsR, List.append_assoc]
  congr 2
  congr 1
  omega
theorem Srch.cols_colsR (wd hg c e0 n0 : Int) (m : Nat) : ∀ i : Nat, Srch.cols wd hg c e0 n0 m i = Srch.colsR wd hg c n0 m i e0
 | 0 => rfl
 | i + 1 => by rw [Srch.cols, Srch.colsR_snoc, Srch.cols_colsR wd hg c e0 n0 m i, Srch.col_colR]
theorem Srch.reach_colsR (wd hg c e0 e1 n0 n1 : Int) : Srch.reach wd hg c e0 e1 n0 n1 = Srch.colsR wd hg c n0 (Srch.many n0 n1) (Srch.many e0 e1) e0 := Srch.cols_colsR _ _ _ _ _ _ _
def Srch.from_ (mk : List Bool) : Nat → Nat → List Int
 | 0, _ => []
 | r + 1, j => if mk[j]?.getD false = true then (j : Int) :: Srch.from_ mk r (j + 1) else Srch.from_ mk r (j + 1)
theorem Srch.from_snoc (mk : List Bool) : ∀ (r j : Nat), Srch.from_ mk (r + 1) j = Srch.from_ mk r j ++ (if mk[j + r]?.getD false = true then [((j + r : Nat) : Int)] else [])
 | 0, j => by simp [Srch.from_]
 | r + 1, j => by
  rw [Srch.from_, Srch.from_snoc mk r (j + 1), Srch.from_, show j + 1 + r = j + (r + 1) by omega]
  by_cases q : mk[j]?.getD false = true
  ·rw [if_pos q, if_pos q]
   rfl
  rw [if_neg q, if_neg q]
theorem Srch.list_from (mk : List Bool) : ∀ j : Nat, Srch.list mk j = Srch.from_ mk j 0
 | 0 => rfl
 | j + 1 => by
  rw [Srch.from_snoc, ← Srch.list_from mk j, Nat.zero_add]
  by_cases q : mk[j]?.getD false = true
  ·rw [if_pos q, Srch.list_hit q]
  rw [if_neg q, Srch.list_miss (by simpa using q), List.append_nil]
theorem Srch.from_range (mk : List Bool) : ∀ (r j : Nat), ∀ x ∈ Srch.from_ mk r j, (j : Int) ≤ x ∧ x < (j : Int) + (r : Int)
 | 0, j, x, h => by cases h
 | r + 1, j, x, h => by
  rw [Srch.from_] at h
  by_cases q : mk[j]?.getD false = true
  ·rw [if_pos q] at h
   rcases List.mem_cons.1 h with rfl | h
   ·omega
   have := Srch.from_range mk r (j + 1) x h
   omega
  rw [if_neg q] at h
  have := Srch.from_range mk r (j + 1) x h
  omega
section
variable {wd hg e0 e1 n0 n1 : Int} {se : List Int}
theorem Srch.ref_l3 (x9 : Bool) (hse : ∀ x ∈ se, 0 ≤ x ∧ x < wd * hg) : ∀ (r i : Nat) (x8 : List Bool) (k : Nat), i + r = se.length → (x8.length : Int) = wd * hg → se.length ≤ 1000000 →
  isobathref02_Drift.l3 (k + r + 1) x8 x9 (i : Int) e0 e1 n0 n1 se = some (Srch.unmark x8 (se.drop i), x9)
 | 0, i, x8, k, hi, _, _ => by
  rw [isobathref02_Drift.l3, if_neg (by omega), List.drop_eq_nil_of_le (by omega)]
  rfl
 | r + 1, i, x8, k, hi, h8, hs => by
  have hlt : i < se.length := by omega
  have hx := hse _ (List.getElem_mem hlt)
  rw [show k + (r + 1) + 1 = (k + r + 1) + 1 by omega, isobathref02_Drift.l3, if_pos (by omega), if_pos (by omega), rd_nat hlt, if_pos hx.1, if_pos (by omega), wrap_succ hlt (by omega),
   Srch.ref_l3 x9 hse r (i + 1) _ k (by omega) (by rw [List.length_set]; exact h8) hs, drop_cons hlt, Srch.unmark_cons]
theorem Srch.area_le (hw0 : 1 ≤ wd) (hw1 : wd ≤ 24) (hh0 : 1 ≤ hg) (hh1 : hg ≤ 24) : wd * hg ≤ 576 := by
 have : wd * hg ≤ 24 * 24 := Int.mul_le_mul hw1 hh1 (by omega) (by omega)
 omega
theorem Srch.ref_l2 (hw0 : 1 ≤ wd) (hw1 : wd ≤ 24) (hh0 : 1 ≤ hg) (hh1 : hg ≤ 24) {c : Int} (hc0 : 0 ≤ c) (hc1 : c < wd * hg) (x1 : List Bool) {x : Int} (hx0 : -4 ≤ x) (hx1 : x ≤ 4) (hn0 : -4 ≤ n0) (hn1 : n1 ≤ 4) : ∀ (r : Nat) (y : Int) (x8 : List Bool) (x9 : Bool) (k : Nat), -4 ≤ y → y + (r : Int) = n1 + 1 → (x8.length : Int) = wd * hg →
  isobathref02_Drift.l2 (k + r + 1) x1 x8 x9 c x y wd hg e0 e1 n0 n1 se = isobathref02_Drift.l1 k x1 (Srch.marks x8 (Srch.colR wd hg c x r y)) (x9 || Srch.out (Srch.colR wd hg c x r y)) c (wrap64 (x + 1)) wd hg e0 e1 n0 n1 se
 | 0, y, x8, x9, k, hy, hr, _ => by
  rw [isobathref02_Drift.l2, if_neg (by omega)]
  show _ = isobathref02_Drift.l1 k x1 x8 (x9 || false) c (wrap64 (x + 1)) wd hg e0 e1 n0 n1 se
  rw [Bool.or_false]
 | r + 1, y, x8, x9, k, hy, hr, h8 => by
  have hA := Srch.area_le hw0 hw1 hh0 hh1
  have b1 := Int.emod_nonneg c (show wd ≠ 0 by omega)
  have b2 := Int.emod_lt_of_pos c (show 0 < wd by omega)
  have b3 : 0 ≤ c / wd := Int.ediv_nonneg hc0 (by omega)
  have b4 : c / wd ≤ c := Int.ediv_le_self _ hc0
  have w1 : wrap64 (c.tdiv wd) = c / wd := by rw [Int.tdiv_eq_ediv_of_nonneg hc0, wrap_id (by omega) (by omega)]
  have w2 : wrap64 (c.tmod wd + x) = c % wd + x := by rw [Int.tmod_eq_emod_of_nonneg hc0, wrap_id (by omega) (by omega)]
  have w3 : wrap64 (c / wd + y) = c / wd + y := by rw [wrap_id (by omega) (by omega)]
  have w4 : wrap64 (y + 1) = y + 1 := wrap_id (by omega) (by omega)
  have ih := fun x8' x9' h => Srch.ref_l2 hw0 hw1 hh0 hh1 hc0 hc1 x1 hx0 hx1 hn0 hn1 r (y + 1) x8' x9' k (by omega) (by omega) h
  rw [show k + (r + 1) + 1 = (k + r + 1) + 1 by omega, isobathref02_Drift.l2, if_pos (show y ≤ n1 by omega), if_neg (show ¬ wd = 0 by omega), w1, w2, w3, w4, Srch.colR, Srch.marks_cons, Srch.out_cons, ← Bool.or_assoc]
  obtain ⟨X, hX⟩ : ∃ X, c % wd + x = X := ⟨_, rfl⟩
  obtain ⟨Y, hY⟩ : ∃ Y, c / wd + y = Y := ⟨_, rfl⟩
  have hto : Srch.to wd hg c x y = if X < 0 ∨ Y < 0 ∨ wd ≤ X ∨ hg ≤ Y then -1 else Y * wd + X := by
   unfold Srch.to
   rw [hX, hY]
  rw [hX, hY]
  by_cases q : X < 0 ∨ Y < 0 ∨ wd ≤ X ∨ hg ≤ Y
  ·rw [hto, if_pos q]
   have e1 : Srch.mark x8 (-1) = x8 := rfl
   have e2 : (x9 || decide ((-1 : Int) < 0)) = true := by simp
   rw [e1, e2]
   have hi := ih x8 true h8
   by_cases q1 : X < 0
   ·rw [if_pos q1, hi]
   rw [if_neg q1]
   by_cases q2 : X ≥ wd
   ·rw [if_pos q2, hi]
   rw [if_neg q2]
   by_cases q3 : Y < 0
   ·rw [if_pos q3, hi]
   rw [if_neg q3, if_pos (by omega), hi]
  have p1 : ¬ X < 0 := fun h => q (.inl h)
  have p2 : ¬ X ≥ wd := fun h => q (.inr (.inr (.inl h)))
  have p3 : ¬ Y < 0 := fun h => q (.inr (.inl h))
  have p4 : ¬ Y ≥ hg := fun h => q (.inr (.inr (.inr h)))
  have m1 : 0 ≤ Y * wd := Int.mul_nonneg (by omega) (by omega)
  have m2 : Y * wd ≤ (hg - 1) * wd := Int.mul_le_mul_of_nonneg_right (by omega) (by omega)
  rw [Int.sub_mul, Int.one_mul, Int.mul_comm hg wd] at m2
  have w5 : wrap64 (Y * wd) = Y * wd := wrap_id (by omega) (by omega)
  have w6 : wrap64 (Y * wd + X) = Y * wd + X := wrap_id (by omega) (by omega)
  rw [hto, if_neg q, if_neg p1, if_neg p2, if_neg p3, if_neg p4, w5, w6, if_pos (by omega), if_pos (by omega)]
  have e1 : Srch.mark x8 (Y * wd + X) = x8.set (Y * wd + X).toNat true := by
   unfold Srch.mark
   rw [if_neg (by omega)]
  have e2 : (x9 || decide (Y * wd + X < 0)) = x9 := by
   rw [zdf (by omega), Bool.or_false]
  rw [e1, e2]
  exact ih _ x9 (by rw [List.length_set]; exact h8)
theorem Srch.ref_l1 (hw0 : 1 ≤ wd) (hw1 : wd ≤ 24) (hh0 : 1 ≤ hg) (hh1 : hg ≤ 24) {c : Nat} (hc1 : (c : Int) < wd * hg) {x1 : List Bool} (h1 : (x1.length : Int) = wd * hg) (hon : rdOf false x1 (c : Int) = true) (he0 : -4 ≤ e0) (he1 : e1 ≤ 4) (hn0 : -4 ≤ n0) (hn01 : n0 ≤ n1) (hn1 : n1 ≤ 4) : ∀ (r : Nat) (x : Int) (x8 : List Bool) (x9 : Bool) (k : Nat), -4 ≤ x → x + (r : Int) = e1 + 1 → (x8.length : Int) = wd * hg →
  isobathref02_Drift.l1 (k + r * (Srch.many n0 n1 + 3) + 2) x1 x8 x9 (c : Int) x wd hg e0 e1 n0 n1 se = isobathref02_Drift.l0 k x1 (Srch.marks x8 (Srch.colsR wd hg c n0 (Srch.many n0 n1) r x)) (x9 || Srch.out (Srch.colsR wd hg c n0 (Srch.many n0 n1) r x)) ((c + 1 : Nat) : Int) wd hg e0 e1 n0 n1 se
 | 0, x, x8, x9, k, hx, hr, _ => by
  have hA := Srch.area_le hw0 hw1 hh0 hh1
  rw [show k + 0 * (Srch.many n0 n1 + 3) + 2 = k + 1 + 1 by omega, isobathref02_Drift.l1, if_neg (by omega), isobathref02_Drift.j2, if_neg (by decide), wrap_id (by omega) (by omega)]
  show _ = isobathref02_Drift.l0 k x1 x8 (x9 || false) ((c + 1 : Nat) : Int) wd hg e0 e1 n0 n1 se
  rw [Bool.or_false]
  rfl
 | r + 1, x, x8, x9, k, hx, hr, h8 => by
  have hA := Srch.area_le hw0 hw1 hh0 hh1
  have hm : n0 + (Srch.many n0 n1 : Int) = n1 + 1 := by unfold Srch.many; omega
  obtain ⟨M, hM⟩ : ∃ M, Srch.many n0 n1 = M := ⟨_, rfl⟩
  have ih := fun x8' x9' h => Srch.ref_l1 hw0 hw1 hh0 hh1 hc1 h1 hon he0 he1 hn0 hn01 hn1 r (x + 1) x8' x9' k (by omega) (by omega) h
  rw [hM] at hm ih ⊢
  rw [Nat.succ_mul, show k + (r * (M + 3) + (M + 3)) + 2 = ((k + r * (M + 3) + 2) + M + 1) + 1 + 1 by omega, isobathref02_Drift.l1, if_pos (show x ≤ e1 by omega), if_pos (Int.natCast_nonneg _), if_pos (by omega), hon, isobathref02_Drift.j2, if_pos rfl,
   Srch.ref_l2 hw0 hw1 hh0 hh1 (Int.natCast_nonneg c) hc1 x1 hx (by omega) hn0 hn1 M n0 x8 x9 _ hn0 hm h8, wrap_id (by omega) (by omega), ih _ _ (by rw [Srch.marks_length]; exact h8), Srch.colsR, Srch.marks_append, Srch.out_append, Bool.or_assoc]
theorem Srch.ref_l0 (hw0 : 1 ≤ wd) (hw1 : wd ≤ 24) (hh0 : 1 ≤ hg) (hh1 : hg ≤ 24) {x1 : List Bool} (h1 : (x1.length : Int) = wd * hg) (he0 : -4 ≤ e0) (he01 : e0 ≤ e1) (he1 : e1 ≤ 4) (hn0 : -4 ≤ n0) (hn01 : n0 ≤ n1) (hn1 : n1 ≤ 4) (hse : ∀ x ∈ se, 0 ≤ x ∧ x < wd * hg) (hS : se.length ≤ 1000) : ∀ (r c : Nat) (x8 : List Bool) (x9 : Bool) (k : Nat), c + r = x1.length → (x8.length : Int) = wd * hg → r * 120 + 1100 ≤ k →
  isobathref02_Drift.l0 k x1 x8 x9 (c : Int) wd hg e0 e1 n0 n1 se = some (Srch.unmark (Srch.hourMk wd hg e0 e1 n0 n1 x8 (Srch.from_ x1 r c)) se, x9 || Srch.hourLf wd hg e0 e1 n0 n1 (Srch.from_ x1 r c))
 | 0, c, x8, x9, k, hc, h8, hk => by
  obtain ⟨k, rfl⟩ : ∃ k', k = (k' + se.length + 1) + 1 := ⟨k - se.length - 2, by omega⟩
  rw [isobathref02_Drift.l0, if_neg (by omega)]
  have h := Srch.ref_l3 (e0 := e0) (e1 := e1) (n0 := n0) (n1 := n1) x9 hse se.length 0 x8 k (by omega) h8 (by omega)
  rw [show ((0 : Nat) : Int) = 0 from rfl, List.drop_zero] at h
  rw [h]
  show _ = some (Srch.unmark x8 se, x9 || false)
  rw [Bool.or_false]
 | r + 1, c, x8, x9, k, hc, h8, hk => by
  have hA := Srch.area_le hw0 hw1 hh0 hh1
  have hlt : c < x1.length := by omega
  have hrd : rdOf false x1 (c : Int) = x1[c]?.getD false := by
   unfold rdOf
   rw [Int.toNat_natCast, List.getD_eq_getElem?_getD]
  have hM : Srch.many n0 n1 ≤ 9 := by unfold Srch.many; omega
  have hE : Srch.many e0 e1 ≤ 9 := by unfold Srch.many; omega
  have hEe : e0 + (Srch.many e0 e1 : Int) = e1 + 1 := by unfold Srch.many; omega
  obtain ⟨M, hMM⟩ : ∃ M, Srch.many n0 n1 = M := ⟨_, rfl⟩
  obtain ⟨E, hEE⟩ : ∃ E, Srch.many e0 e1 = E := ⟨_, rfl⟩
  have hEM : E * (M + 3) ≤ 9 * 12 := Nat.mul_le_mul (by omega) (by omega)
  rw [Srch.from_]
  by_cases q : x1[c]?.getD false = true
  ·obtain ⟨k, rfl⟩ : ∃ k', k = (k' + E * (M + 3) + 2) + 1 := ⟨k - E * (M + 3) - 3, by omega⟩
   have h := Srch.ref_l1 (se := se) hw0 hw1 hh0 hh1 (c := c) (by omega) h1 (hrd.trans q) he0 he1 hn0 hn01 hn1 E e0 x8 x9 k he0 (by omega) h8
   rw [hMM] at h
   rw [if_pos q, isobathref02_Drift.l0, if_pos (by omega), h, Srch.ref_l0 hw0 hw1 hh0 hh1 h1 he0 he01 he1 hn0 hn01 hn1 hse hS r (c + 1) _ _ k (by omega) (by rw [Srch.marks_length]; exact h8) (by omega), Srch.hourMk_cons, Srch.hourLf_cons, Srch.reach_colsR, hMM, hEE, Bool.or_assoc]
  have qf : x1[c]?.getD false = false := by simpa using q
  obtain ⟨k, rfl⟩ : ∃ k', k = k' + 1 + 1 + 1 := ⟨k - 3, by omega⟩
  rw [if_neg q, isobathref02_Drift.l0, if_pos (by omega), isobathref02_Drift.l1, if_pos he01, if_pos (Int.natCast_nonneg _), if_pos (by omega), hrd, qf, isobathref02_Drift.j2, if_neg (by decide), wrap_succ hlt (by omega)]
  exact Srch.ref_l0 hw0 hw1 hh0 hh1 h1 he0 he01 he1 hn0 hn01 hn1 hse hS r (c + 1) x8 x9 k (by omega) h8 (by omega)
theorem Srch.ref_drift (hw0 : 1 ≤ wd) (hw1 : wd ≤ 24) (hh0 : 1 ≤ hg) (hh1 : hg ≤ 24) {x1 : List Bool} (h1 : (x1.length : Int) = wd * hg) (he0 : -4 ≤ e0) (he01 : e0 ≤ e1) (he1 : e1 ≤ 4) (hn0 : -4 ≤ n0) (hn01 : n0 ≤ n1) (hn1 : n1 ≤ 4) (hse : ∀ x ∈ se, 0 ≤ x ∧ x < wd * hg) (hS : se.length ≤ 1000) {k : Nat} (hk : 71000 ≤ k) :
  isobathref02_Drift.f k wd hg x1 e0 e1 n0 n1 se = some (Srch.unmark (Srch.hourMk wd hg e0 e1 n0 n1 (List.replicate (wd * hg).toNat false) (Srch.list x1 (wd * hg).toNat)) se, Srch.hourLf wd hg e0 e1 n0 n1 (Srch.list x1 (wd * hg).toNat)) := by
 have hA := Srch.area_le hw0 hw1 hh0 hh1
 have h0 : 0 ≤ wd * hg := Int.mul_nonneg (by omega) (by omega)
 have hw : wrap64 (wd * hg) = wd * hg := wrap_id (by omega) (by omega)
 unfold isobathref02_Drift.f
 rw [hw, if_pos h0, if_pos (by omega)]
 have h := Srch.ref_l0 hw0 hw1 hh0 hh1 h1 he0 he01 he1 hn0 hn01 hn1 hse hS x1.length 0 (List.replicate (wd * hg).toNat false) false k (by omega) (by rw [List.length_replicate]; omega) (by omega)
 rw [show ((0 : Nat) : Int) = 0 from rfl, Bool.false_or, ← Srch.list_from, show x1.length = (wd * hg).toNat by omega] at h
 exact h
end
theorem Srch.ref_numbers_l0 {mk : List Bool} (hm : mk.length ≤ 1000) : ∀ (r j : Nat) (xs : List Int) (k : Nat), j + r = mk.length → xs.length ≤ j → isobathref02_numbers.l0 (k + r + 1) mk xs (j : Int) = some (xs ++ Srch.from_ mk r j)
 | 0, j, xs, k, hj, _ => by
  rw [isobathref02_numbers.l0, if_neg (by omega), Srch.from_, List.append_nil]
 | r + 1, j, xs, k, hj, hx => by
  have hlt : j < mk.length := by omega
  have hrd : rdOf false mk (j : Int) = mk[j]?.getD false := by
   unfold rdOf
   rw [Int.toNat_natCast, List.getD_eq_getElem?_getD]
  rw [show k + (r + 1) + 1 = (k + r + 1) + 1 by omega, isobathref02_numbers.l0, if_pos (by omega), if_pos (Int.natCast_nonneg _), hrd, Srch.from_, wrap_succ hlt (by omega)]
  by_cases q : mk[j]?.getD false = true
  ·rw [if_pos q, if_pos q, if_pos (by omega), Srch.ref_numbers_l0 hm r (j + 1) _ k (by omega) (by rw [List.length_append]; simp; omega), List.append_assoc]
   rfl
  rw [if_neg q, if_neg q, Srch.ref_numbers_l0 hm r (j + 1) _ k (by omega) (by omega)]
theorem Srch.ref_numbers {mk : List Bool} (hm : mk.length ≤ 1000) {k : Nat} (hk : 1100 ≤ k) : isobathref02_numbers.f k mk = some (Srch.list mk mk.length) := by
 obtain ⟨k, rfl⟩ : ∃ k', k = k' + mk.length + 1 := ⟨k - mk.length - 1, by omega⟩
 have h := Srch.ref_numbers_l0 hm mk.length 0 [] k (by omega) (by simp)
 rw [Srch.list_from]
 exact h
theorem Srch.ref_marked_l0 {m : Int} {l : List Int} (hl : ∀ x ∈ l, 0 ≤ x ∧ x < m) (hn : l.length ≤ 1000000) : ∀ (r i : Nat) (mk : List Bool) (k : Nat), i + r = l.length → (mk.length : Int) = m → isobathref02_marked.l0 (k + r + 1) l mk (i : Int) = some (Srch.marks mk (l.drop i))
 | 0, i, mk, k, hi, _ => by
  rw [isobathref02_marked.l0, if_neg (by omega), List.drop_eq_nil_of_le (by omega)]
  rfl
 | r + 1, i, mk, k, hi, hm => by
  have hlt : i < l.length := by omega
  have hx := hl _ (List.getElem_mem hlt)
  have e1 : Srch.mark mk l[i] = mk.set l[i].toNat true := by
   unfold Srch.mark
   rw [if_neg (by omega)]
  rw [show k + (r + 1) + 1 = (k + r + 1) + 1 by omega, isobathref02_marked.l0, if_pos (by omega), if_pos (by omega), rd_nat hlt, if_pos hx.1, if_pos (by omega), wrap_succ hlt (by omega),
   Srch.ref_marked_l0 hl hn r (i + 1) _ k (by omega) (by rw [List.length_set]; exact hm), drop_cons hlt, Srch.marks_cons, e1]
theorem Srch.ref_marked {wd hg : Int} (hw0 : 1 ≤ wd) (hw1 : wd ≤ 24) (hh0 : 1 ≤ hg) (hh1 : hg ≤ 24) {l : List Int} (hl : ∀ x ∈ l, 0 ≤ x ∧ x < wd * hg) (hn : l.length ≤ 1000) {k : Nat} (hk : 1100 ≤ k) : isobathref02_marked.f k wd hg l = some (Srch.marks (List.replicate (wd * hg).toNat false) l) := by
 have hA := Srch.area_le hw0 hw1 hh0 hh1
 have h0 : 0 ≤ wd * hg := Int.mul_nonneg (by omega) (by omega)
 have hw : wrap64 (wd * hg) = wd * hg := wrap_id (by omega) (by omega)
 obtain ⟨k, rfl⟩ : ∃ k', k = k' + l.length + 1 := ⟨k - l.length - 1, by omega⟩
 unfold isobathref02_marked.f
 rw [hw, if_pos h0, if_pos (by omega)]
 have h := Srch.ref_marked_l0 hl (by omega) l.length 0 (List.replicate (wd * hg).toNat false) k (by omega) (by rw [List.length_replicate]; omega)
 rw [show ((0 : Nat) : Int) = 0 from rfl, List.drop_zero] at h
 exact h
theorem Srch.mark_at (mk : List Bool) {x : Int} (hx : 0 ≤ x) {i : Nat} (hi : i < mk.length) : (Srch.mark mk x)[i]?.getD false = (mk[i]?.getD false || decide (x = (i : Int))) := by
 unfold Srch.mark
 rw [if_neg (by omega)]
 by_cases q : x = (i : Int)
 ·have : x.toNat = i := by omega
  subst this
  rw [zdt q, Bool.or_true]
  simp [hi]
 have : x.toNat ≠ i := by omega
 rw [zdf q, Bool.or_false]
 simp [this]
theorem Srch.marks_at : ∀ (l : List Int) (mk : List Bool) (_ : ∀ x ∈ l, 0 ≤ x) {i : Nat} (_ : i < mk.length), (Srch.marks mk l)[i]?.getD false = (mk[i]?.getD false || decide ((i : Int) ∈ l))
 | [], mk, _, i, hi => by
  show mk[i]?.getD false = _
  simp
 | x :: l, mk, h, i, hi => by
  rw [Srch.marks_cons, Srch.marks_at l _ (fun y hy => h y (List.mem_cons_of_mem _ hy)) (by rw [Srch.mark_length]; exact hi), Srch.mark_at mk (h x List.mem_cons_self) hi, Bool.or_assoc]
  congr 1
  by_cases q : x = (i : Int)
  ·rw [zdt q, Bool.true_or, zdt (q ▸ List.mem_cons_self)]
  rw [zdf q, Bool.false_or]
  congr 1
  simp [List.mem_cons, Ne.symm q]
theorem Srch.from_sorted (mk : List Bool) : ∀ (r j : Nat) (xs : List Int), xs.Pairwise (· < ·) → (∀ x ∈ xs, (j : Int) ≤ x ∧ x < (j : Int) + (r : Int)) → (∀ i : Nat, j ≤ i → i < j + r → (mk[i]?.getD false = true ↔ (i : Int) ∈ xs)) → Srch.from_ mk r j = xs
 | 0, j, xs, _, hx, _ => by
  cases xs with
  | nil => rfl
  | cons x xs =>
   have := hx x List.mem_cons_self
   omega
 | r + 1, j, xs, hs, hx, hm => by
  rw [Srch.from_]
  by_cases q : mk[j]?.getD false = true
  ·rw [if_pos q]
   have hj := (hm j (Nat.le_refl _) (by omega)).1 q
   cases xs with
   | nil => cases hj
   | cons x xs =>
    rw [List.pairwise_cons] at hs
    have hxj : x = (j : Int) := by
     rcases List.mem_cons.1 hj with h | h
     ·exact h.symm
     have := hs.1 _ h
     have := (hx x List.mem_cons_self).1
     omega
    rw [hxj]
    congr 1
    refine Srch.from_sorted mk r (j + 1) xs hs.2 (fun y hy => ?_) (fun i h1 h2 => ?_)
    ·have a := hs.1 y hy
     have b := hx y (List.mem_cons_of_mem _ hy)
     omega
    rw [hm i (by omega) (by omega)]
    constructor
    ·intro h
     rcases List.mem_cons.1 h with h | h
     ·omega
     exact h
    exact List.mem_cons_of_mem _
  rw [if_neg q]
  have hj : (j : Int) ∉ xs := fun h => q ((hm j (Nat.le_refl _) (by omega)).2 h)
  refine Srch.from_sorted mk r (j + 1) xs hs (fun y hy => ?_) (fun i h1 h2 => hm i (by omega) (by omega))
  have b := hx y hy
  have : y ≠ (j : Int) := fun e => hj (e ▸ hy)
  omega
theorem Srch.list_marks {m : Nat} {l : List Int} (hs : l.Pairwise (· < ·)) (hl : ∀ x ∈ l, 0 ≤ x ∧ x < (m : Int)) : Srch.list (Srch.marks (List.replicate m false) l) m = l := by
 rw [Srch.list_from]
 refine Srch.from_sorted _ m 0 l hs (fun x hx => by have := hl x hx; omega) (fun i _ hi => ?_)
 have e : (List.replicate m false)[i]?.getD false = false := by
  rw [List.getElem?_replicate]
  split <;> rfl
 rw [Srch.marks_at l _ (fun x hx => (hl x hx).1) (by rw [List.length_replicate]; omega), e, Bool.false_or, decide_eq_true_eq]
end Go.Proofs.Ytebcmhajbjkojaa.P
