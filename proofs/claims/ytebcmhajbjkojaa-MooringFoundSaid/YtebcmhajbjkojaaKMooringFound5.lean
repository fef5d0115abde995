/- Found returns the first number of hours after which no cell is left and none was left by the area, and to search one more cell never adds a cell and never makes it later: both programs are told by one closed form, which is monotone in what is searched. Part 6 of 7. -/
-- Put together by wip/tools/shake.py, a program of this work: out of the words that the kit's print tool (print.sh) writes for a claim and what wip/tools/xprint.py prints, those that this claim reaches, and this work's own texts.
import Derived.Test.YtebcmhajbjkojaaKMooringFound4
namespace Go.Proofs.Ytebcmhajbjkojaa.P
open Go.RowKit Go.Proofs.YtebcmhajbjkojaaW.PrintWords Go.Proofs.YtebcmhajbjkojaaW.PrintLast Go.Proofs.YtebcmhajbjkojaaW.PrintMore
attribute [local go_sem] max2_int min2_int max_two min_two max_three min_three max_four min_four   -- for this text's walks alone
set_option linter.unusedVariables false
set_option linter.unusedSimpArgs false
mutual
def isobathlaw02_MooringFound.j0 : Nat → List Int → List (S79) → Int → Int → Bool → Int → Int → Option (Bool)
 | 0, _, _, _, _, _, _, _ => none
 | k + 1, x1, x2, x3, x4, x45, x102000, x102001 => if x45 = true then ((isobathlaw02_fine.f k).bind fun t103 => (some t103)) else ((isobathref02_Where.f k x102000 x102001 x1 x2).bind fun bt104 => (if bt104.2.2 = 0 then ((mooring_Found.f k x102000 x102001 x1 x2).bind fun bt110 => (isobathlaw02_MooringFound.l0 k x1 x2 x3 x4 bt110.2 bt110.1 0 false 0 x102000 x102001)) else ((isobathlaw02_fine.f k).bind fun t109 => (some t109))))
def isobathlaw02_MooringFound.j3 : Nat → List Int → List (S79) → Int → Int → Int → Int → Int → Bool → Int → Int → Option (Bool)
 | 0, _, _, _, _, _, _, _, _, _, _ => none
 | k + 1, x1, x2, x3, x4, x13, x14, x15, x16, x102000, x102001 => if (x16 != (x13 == 0)) = true then (none) else (if x16 = true then (if x14 = x15 then (isobathlaw02_MooringFound.j4 k x1 x2 x3 x4 x13 x14 false x102000 x102001) else (none)) else (if x13 = 5 then (isobathlaw02_MooringFound.j4 k x1 x2 x3 x4 x13 x14 (x14 != 0) x102000 x102001) else (none)))
def isobathlaw02_MooringFound.j4 : Nat → List Int → List (S79) → Int → Int → Int → Int → Bool → Int → Int → Option (Bool)
 | 0, _, _, _, _, _, _, _, _, _ => none
 | k + 1, x1, x2, x3, x4, x13, x14, x115, x102000, x102001 => if x115 = true then (none) else (if (x2.length : Int) = 0 then ((isobathlaw02_fine.f k).bind fun t122 => (some t122)) else ((some (([] : List (S79)) : List (S79))).bind fun y123 => (if y123.length + x2.length < 2513169434916 then (if (wrap64 (x102000 * x102001)) = 0 then (none) else (isobathlaw02_MooringFound.l1 k x1 x2 x13 x14 (y123 ++ x2) (Int.tmod (wrap64 (x3)) (x2.length : Int)) (Int.tmod (wrap64 (x4)) (wrap64 (x102000 * x102001))) ([] : List Int) 0 x102000 x102001)) else (none))))
def isobathlaw02_MooringFound.l1 : Nat → List Int → List (S79) → Int → Int → List (S79) → Int → Int → List Int → Int → Int → Int → Option (Bool)
 | 0, _, _, _, _, _, _, _, _, _, _, _ => none
 | k + 1, x1, x2, x13, x14, x21, x22, x23, x24, x25, x102000, x102001 => if 0 ≤ x22 then (if x22 < (x2.length : Int) then (if x25 < (((rd_T79 x2 x22).f2).length : Int) then (if 0 ≤ x25 then (if (rd ((rd_T79 x2 x22).f2) x25) < x23 then (if x24.length < 17592186044416 then (isobathlaw02_MooringFound.l1 k x1 x2 x13 x14 x21 x22 x23 (x24 ++ [rd ((rd_T79 x2 x22).f2) x25]) (wrap64 (x25 + 1)) x102000 x102001) else (none)) else (isobathlaw02_MooringFound.l1 k x1 x2 x13 x14 x21 x22 x23 x24 (wrap64 (x25 + 1)) x102000 x102001)) else (none)) else (if x24.length < 17592186044416 then (isobathlaw02_MooringFound.l2 k x1 x2 x13 x14 x21 x22 x23 (x24 ++ [x23]) 0 x102000 x102001) else (none))) else (none)) else (none)
def isobathlaw02_MooringFound.l2 : Nat → List Int → List (S79) → Int → Int → List (S79) → Int → Int → List Int → Int → Int → Int → Option (Bool)
 | 0, _, _, _, _, _, _, _, _, _, _, _ => none
 | k + 1, x1, x2, x13, x14, x21, x22, x23, x24, x27, x102000, x102001 => if 0 ≤ x22 then (if x22 < (x2.length : Int) then (if x27 < (((rd_T79 x2 x22).f2).length : Int) then (if 0 ≤ x27 then (if (rd ((rd_T79 x2 x22).f2) x27) > x23 then (if x24.length < 17592186044416 then (isobathlaw02_MooringFound.l2 k x1 x2 x13 x14 x21 x22 x23 (x24 ++ [rd ((rd_T79 x2 x22).f2) x27]) (wrap64 (x27 + 1)) x102000 x102001) else (none)) else (isobathlaw02_MooringFound.l2 k x1 x2 x13 x14 x21 x22 x23 x24 (wrap64 (x27 + 1)) x102000 x102001)) else (none)) else (if x22 < (x21.length : Int) then ((some (x21.set (x22 : Int).toNat (⟨(⟨(rd_T79 x21 x22).f0.f0, (rd_T79 x21 x22).f0.f1⟩ : S57), (⟨(rd_T79 x21 x22).f1.f0, (rd_T79 x21 x22).f1.f1⟩ : S57), x24⟩ : S79) : List (S79))).bind fun y144 => ((mooring_Where.f k x102000 x102001 x1 x2).bind fun bt145 => ((mooring_Where.f k x102000 x102001 x1 y144).bind fun bt150 => (if bt145.2.2 = 0 then (isobathlaw02_MooringFound.j7 k x1 x13 x14 y144 bt145.1 bt150.1 (bt150.2.2 != 0) x102000 x102001) else (none))))) else (none))) else (none)) else (none)
def isobathlaw02_MooringFound.j7 : Nat → List Int → Int → Int → List (S79) → List Int → List Int → Bool → Int → Int → Option (Bool)
 | 0, _, _, _, _, _, _, _, _, _ => none
 | k + 1, x1, x13, x14, x21, x29, x32, x216, x102000, x102001 => if x216 = true then (none) else (isobathlaw02_MooringFound.l3 k x1 x13 x14 x21 x29 x32 0 0 x102000 x102001)
def isobathlaw02_MooringFound.l3 : Nat → List Int → Int → Int → List (S79) → List Int → List Int → Int → Int → Int → Int → Option (Bool)
 | 0, _, _, _, _, _, _, _, _, _, _ => none
 | k + 1, x1, x13, x14, x21, x29, x32, x35, x36, x102000, x102001 => if x36 < (x32.length : Int) then (isobathlaw02_MooringFound.l4 k x1 x13 x14 x21 x29 x32 x35 x36 x102000 x102001) else ((mooring_Found.f k x102000 x102001 x1 x21).bind fun bt155 => (if x13 = 0 then (if bt155.2 = 0 then (if bt155.1 ≤ x14 then ((isobathlaw02_fine.f k).bind fun t157 => (some t157)) else (none)) else (none)) else ((isobathlaw02_fine.f k).bind fun t158 => (some t158))))
def isobathlaw02_MooringFound.l4 : Nat → List Int → Int → Int → List (S79) → List Int → List Int → Int → Int → Int → Int → Option (Bool)
 | 0, _, _, _, _, _, _, _, _, _, _ => none
 | k + 1, x1, x13, x14, x21, x29, x32, x35, x36, x102000, x102001 => if x35 < (x29.length : Int) then (if 0 ≤ x35 then (if 0 ≤ x36 then (if x36 < (x32.length : Int) then (if (rd x29 x35) < (rd x32 x36) then (isobathlaw02_MooringFound.l4 k x1 x13 x14 x21 x29 x32 (wrap64 (x35 + 1)) x36 x102000 x102001) else (if x35 = (x29.length : Int) then (none) else (if (rd x29 x35) = (rd x32 x36) then (isobathlaw02_MooringFound.l3 k x1 x13 x14 x21 x29 x32 x35 (wrap64 (x36 + 1)) x102000 x102001) else (none)))) else (none)) else (none)) else (none)) else (if x35 = (x29.length : Int) then (none) else (if 0 ≤ x35 then (none) else (none)))
def isobathlaw02_MooringFound.l0 : Nat → List Int → List (S79) → Int → Int → Int → Int → Int → Bool → Int → Int → Int → Option (Bool)
 | 0, _, _, _, _, _, _, _, _, _, _, _ => none
 | k + 1, x1, x2, x3, x4, x13, x14, x15, x16, x17, x102000, x102001 => if x17 ≤ (x2.length : Int) then (isobathlaw02_MooringFound.j2 k x1 x2 x3 x4 x13 x14 x15 x16 x17 (!x16) x102000 x102001) else (isobathlaw02_MooringFound.j2 k x1 x2 x3 x4 x13 x14 x15 x16 x17 false x102000 x102001)
def isobathlaw02_MooringFound.j2 : Nat → List Int → List (S79) → Int → Int → Int → Int → Int → Bool → Int → Bool → Int → Int → Option (Bool)
 | 0, _, _, _, _, _, _, _, _, _, _, _, _ => none
 | k + 1, x1, x2, x3, x4, x13, x14, x15, x16, x17, x72, x102000, x102001 => if x72 = true then (if 0 ≤ x17 then (if x17 ≤ (x2.length : Int) then ((mooring_Where.f k x102000 x102001 x1 (x2.take (x17 : Int).toNat)).bind fun bt117 => (if bt117.2.2 = 0 then (if bt117.2.1 = true then (isobathlaw02_MooringFound.j3 k x1 x2 x3 x4 x13 x14 x15 x16 x102000 x102001) else (isobathlaw02_MooringFound.l0 k x1 x2 x3 x4 x13 x14 x17 ((bt117.1.length : Int) == 0) (wrap64 (x17 + 1)) x102000 x102001)) else (none))) else (none)) else (none)) else (isobathlaw02_MooringFound.j3 k x1 x2 x3 x4 x13 x14 x15 x16 x102000 x102001)
end
def isobathlaw02_MooringFound.f (k : Nat) (a0_0 : Int) (a0_1 : Int) (l1 : List Int) (l2 : List (S79)) (a3 : Int) (a4 : Int) : Option (Bool) := (isobathlaw02_wide.f k l1 l2).bind fun t102 => (if t102 = true then (isobathlaw02_MooringFound.j0 k l1 l2 a3 a4 true a0_0 a0_1) else (isobathlaw02_MooringFound.j0 k l1 l2 a3 a4 (decide ((l2.length : Int) > 8)) a0_0 a0_1))
def isobathlaw02_MooringFound.T11 : Bool × List (List Nat × List Nat) := (true, [([], []), ([], []), ([], []), ([], []), ([2, 3], [2, 3]), ([0, 1, 4], [0, 1, 4]), ([5], [5]), ([6], [6]), ([6], [6]), ([6], [6]), ([7, 5, 0, 1, 2, 3, 4, 5, 6, 7], [7]), ([8, 10, 0, 1, 2, 3, 4, 5, 6, 7, 8, 10], [8]), ([9, 11, 0, 1, 2, 3, 4, 5, 6, 7, 8, 9, 10, 11], [9])])
def isobathlaw02_MooringFound.B11 : List Nat := [0, 0, 0, 0, 12, 31, 63, 127, 127, 127, 255, 1535, 4095]
theorem isobathlaw02_MooringFound.tab11 : rtab .any (opsOf Try.f13 11) = isobathlaw02_MooringFound.T11 := by kernel_rfl
theorem isobathlaw02_MooringFound.bits11 : waitsOk isobathlaw02_MooringFound.T11.2 isobathlaw02_MooringFound.B11 = true := by kernel_rfl
def isobathlaw02_MooringFound.T46 : Bool × List (List Nat × List Nat) := (true, [([], []), ([], []), ([1], [1]), ([0, 2], [0, 2]), ([3], [3]), ([4], [4]), ([4], [4]), ([5, 6, 4], [4, 5, 6]), ([7, 4], [4, 7]), ([4], [4]), ([4], [4]), ([9, 10, 4], [4, 9, 10]), ([11, 4], [4, 11]), ([8, 12, 4], [4, 8, 12]), ([4, 13], [4, 13])])
def isobathlaw02_MooringFound.B46 : List Nat := [0, 0, 2, 7, 15, 31, 31, 127, 255, 31, 31, 1567, 3615, 8191, 16383]
theorem isobathlaw02_MooringFound.tab46 : rtab .any (opsOf Try.f13 46) = isobathlaw02_MooringFound.T46 := by kernel_rfl
theorem isobathlaw02_MooringFound.bits46 : waitsOk isobathlaw02_MooringFound.T46.2 isobathlaw02_MooringFound.B46 = true := by kernel_rfl
def isobathlaw02_MooringFound.T48 : Bool × List (List Nat × List Nat) := (true, [([], []), ([], []), ([1], [1]), ([0, 2], [0, 2]), ([3], [3]), ([4], [4]), ([4], [4]), ([5, 6, 4], [4, 5, 6]), ([7, 4], [4, 7]), ([4], [4]), ([4], [4]), ([9, 10, 4], [4, 9, 10]), ([11, 4], [4, 11]), ([8, 12, 4], [4, 8, 12]), ([4, 13], [4, 13])])
def isobathlaw02_MooringFound.B48 : List Nat := [0, 0, 2, 7, 15, 31, 31, 127, 255, 31, 31, 1567, 3615, 8191, 16383]
theorem isobathlaw02_MooringFound.tab48 : rtab .any (opsOf Try.f13 48) = isobathlaw02_MooringFound.T48 := by kernel_rfl
theorem isobathlaw02_MooringFound.bits48 : waitsOk isobathlaw02_MooringFound.T48.2 isobathlaw02_MooringFound.B48 = true := by kernel_rfl
set_option maxHeartbeats 8000000 in
set_option maxRecDepth 100000 in
theorem isobathlaw02_MooringFound.calls (k : Nat) (a0_0 : Int) (a0_1 : Int) (A1 : Option Addr) (c1 : Nat) (l1 : List Int) (P2_ : Nat → Prop) (A2 : Option Addr) (c2 : Nat) (l2 : List (S79)) (a3 : Int) (a4 : Int) (r : Bool) (w : World) (hr1 : Kd.C (Kd.int .i64) w A1 l1.length l1) (hc1 : l1.length ≤ c1) (hs2 : Kd.V k79 79 w w.heap.size (fun k_ => P2_ k_) (.slice A2 l2.length c2) l2) (h : isobathlaw02_MooringFound.f k a0_0 a0_1 l1 l2 a3 a4 = some r) :
  Calls Try.prog 13 #[.agg #[.int .i64 a0_0, .int .i64 a0_1], .slice A1 l1.length c1, .slice A2 l2.length c2, .int .u16 a3, .int .u16 a4] w fun e w' => e = .returned (.bool r) ∧ Below w.heap.size w w' := by
 have hu72 := Try.underlying72
 have HR1 := zam hr1
 have HC1 := zam hc1
 clear hr1 hc1
 have HO2 := zam (show Kd.V k79 79 w w.heap.size (fun k_ => (P2_ k_ ∨ w.heap.size ≤ k_)) (.slice A2 l2.length c2) l2 from Kd.V_mono hs2 (fun k_ hk => .inl hk))
 have HB := zam (Below.refl w.heap.size w)
 have H : ((isobathlaw02_wide.f k l1 l2).bind fun t102 => (if t102 = true then (isobathlaw02_MooringFound.j0 k l1 l2 a3 a4 true a0_0 a0_1) else (isobathlaw02_MooringFound.j0 k l1 l2 a3 a4 (decide ((l2.length : Int) > 8)) a0_0 a0_1))) = some r := h
 clear h
 have HC6 := zam H
 clear H
 go_enter Try.func13, Try.ntmps13
 go_upto_region 1 with (first | ((with_reducible refine zgd (N := 5) rfl ?_); (try (refine gate_guard (by rfl) ?_; dsimp only)); refine box_event ?hg (N := 5) ?hd (cs := #[.int .i64 a0_0, .int .i64 a0_1]) (t := 72) ?hr ?_; (case hd => rfl); (case hg => rfl); (case hr => first | (go_simp; done) | (go_simp; rfl)); intro gb101 hg w7 hbox hb; have n0_ := zam (Kd.V_below (Kd.V_elderB (by (with_reducible repeat (first | apply Kd.V_alloc | apply Kd.V_drewN | apply Kd.V_drew)); exact HO2.out) gb101 (Nat.le_of_eq hg.symm)) hb); have n1_ := zam (zbt (by repeat (first | (with_reducible first | exact HB.out | apply zba | apply zbn | apply zb1) | exact HB.out)) hb); have n2_ := zam (hbox); have n3_ := zam ((by rw [hg]; exact (zbz (by repeat (first | (with_reducible first | exact HB.out | apply zba | apply zbn | apply zb1) | exact HB.out))) : w.heap.size ≤ gb101)); have n4_ := zam ((by rw [hg]; exact (zbz (by repeat (first | (with_reducible first | exact HB.out | apply zba | apply zbn | apply zb1) | exact HB.out))) : w.heap.size ≤ gb101)); clear HO2; clear HB; have HO2 := n0_; have HB := n1_; have BK101 := n2_; have GW101 := n3_; have GE101 := n4_; clear n0_ n1_ n2_ n3_ n4_; clear hb hbox hg))
 (try simp only [Act.put, zsa, zsz, zss])
 go_cut [45] (fun v45 wc => ∃ (kq : Nat) (x45_5 : Bool), v45 = .bool x45_5 ∧ Aside0 (isobathlaw02_MooringFound.j0 kq l1 l2 a3 a4 x45_5 a0_0 a0_1 = some r) ∧ Aside0 (kq ≤ k) ∧ Aside0 (Kd.V k79 79 wc w.heap.size (fun k_ => (P2_ k_ ∨ w.heap.size ≤ k_) ∧ k_ ≠ gb101) (.slice A2 l2.length c2) l2) ∧ Aside0 (wc.heap[gb101]? = some (.cells #[.int .i64 a0_0, .int .i64 a0_1] 72 (0, 0))) ∧ Aside0 (Below w.heap.size w wc))
 case first =>
  have H := HC6.out
  clear HC6
  replace H := Option.bind_eq_some_iff.mp H
  obtain ⟨t102, A80, H⟩ := H
  replace H : (if t102 = true then (isobathlaw02_MooringFound.j0 k l1 l2 a3 a4 true a0_0 a0_1) else (isobathlaw02_MooringFound.j0 k l1 l2 a3 a4 (decide ((l2.length : Int) > 8)) a0_0 a0_1)) = some r := H
  have A8 := zam A80
  clear A80
  by_cases c9 : t102 = true
  ·subst c9
   have H1 : (isobathlaw02_MooringFound.j0 k l1 l2 a3 a4 true a0_0 a0_1) = some r := by rw [if_pos rfl] at H; exact H
   clear H
   have H := H1
   clear H1
   as_aux_lemma =>
    have H' := zam H
    clear H
    go_wp2_with (first | ((with_reducible refine zgc (f := 46) rfl ?_); refine goesL_ (some 40) rfl rfl Try.func46 (by kernel_rfl) rfl #[.slice A1 l1.length c1, .slice A2 l2.length c2] rfl (by (try simp only [zmt, List.map_cons, List.map_nil]); first | done | rfl | (simp only [zld, zlt]; rfl)) ?_; (with_reducible refine (isobathlaw02_wide.calls k _ _ l1 _ _ l2 true _ ?side1 ?side2 ?side3 ?side4 A8.out).mono ?_); (case side1 => repeat (first | exact (Kd.C_below HR1.out HB.out) | (with_reducible refine Kd.C_alloc ?_ _) | (with_reducible refine Kd.C_drewN ?_ _) | (with_reducible refine Kd.C_drew ?_))); (case side2 => exact HC1.out); (case side3 => repeat (first | exact (Kd.V_reads' HO2.out).2.2 | (with_reducible refine Kd.C_alloc ?_ _) | (with_reducible refine Kd.C_drewN ?_ _) | (with_reducible refine Kd.C_drew ?_))); (case side4 => exact (Kd.V_reads' HO2.out).2.1); rintro e w' ⟨rfl, ⟨nd, rfl⟩⟩; refine ⟨_, rfl, ?_⟩))
    go_meet
    case rel => exact ⟨_, (true), (by first | rfl | (simp; done) | (simp [*]; done)), H', ⟨by first | omega | exact Nat.le_refl _⟩, ⟨by (with_reducible repeat (first | apply Kd.V_alloc | apply Kd.V_drewN | apply Kd.V_drew)); exact HO2.out⟩, ⟨by (with_reducible repeat (first | refine zkn ?_ _ | refine zkd ?_ | refine zka ?_ _)); exact BK101.out⟩, ⟨by repeat (first | (with_reducible first | exact HB.out | apply zba | apply zbn | apply zb1 | refine zbs ?_ GE101.out) | exact HB.out)⟩⟩
  replace c9 := Bool.eq_false_iff.mpr c9
  subst c9
  have H1 : (isobathlaw02_MooringFound.j0 k l1 l2 a3 a4 (decide ((l2.length : Int) > 8)) a0_0 a0_1) = some r := by rw [if_neg (show ¬ (false = true) by decide)] at H; exact H
  clear H
  have H := H1
  clear H1
  as_aux_lemma =>
   have H' := zam H
   clear H
   go_wp2_with (first | ((with_reducible refine zgc (f := 46) rfl ?_); refine goesL_ (some 40) rfl rfl Try.func46 (by kernel_rfl) rfl #[.slice A1 l1.length c1, .slice A2 l2.length c2] rfl (by (try simp only [zmt, List.map_cons, List.map_nil]); first | done | rfl | (simp only [zld, zlt]; rfl)) ?_; (with_reducible refine (isobathlaw02_wide.calls k _ _ l1 _ _ l2 false _ ?side1 ?side2 ?side3 ?side4 A8.out).mono ?_); (case side1 => repeat (first | exact (Kd.C_below HR1.out HB.out) | (with_reducible refine Kd.C_alloc ?_ _) | (with_reducible refine Kd.C_drewN ?_ _) | (with_reducible refine Kd.C_drew ?_))); (case side2 => exact HC1.out); (case side3 => repeat (first | exact (Kd.V_reads' HO2.out).2.2 | (with_reducible refine Kd.C_alloc ?_ _) | (with_reducible refine Kd.C_drewN ?_ _) | (with_reducible refine Kd.C_drew ?_))); (case side4 => exact (Kd.V_reads' HO2.out).2.1); rintro e w' ⟨rfl, ⟨nd, rfl⟩⟩; refine ⟨_, rfl, ?_⟩))
   go_meet
   case rel => exact ⟨_, (decide ((l2.length : Int) > 8)), (by first | rfl | (simp; done) | (simp [*]; done)), H', ⟨by first | omega | exact Nat.le_refl _⟩, ⟨by (with_reducible repeat (first | apply Kd.V_alloc | apply Kd.V_drewN | apply Kd.V_drew)); exact HO2.out⟩, ⟨by (with_reducible repeat (first | refine zkn ?_ _ | refine zkd ?_ | refine zka ?_ _)); exact BK101.out⟩, ⟨by repeat (first | (with_reducible first | exact HB.out | apply zba | apply zbn | apply zb1 | refine zbs ?_ GE101.out) | exact HB.out)⟩⟩
 case rest =>
  clear HC6
  try clear c1
  try clear c2
  try clear p2
  try clear c4
  try clear c9
  obtain ⟨kq, x45_5, rfl, HA, HJ5, HO_2, BK101, HB⟩ := hcut
  as_aux_lemma =>
   cases kq with
   | zero => exact absurd HA.out (by simp [isobathlaw02_MooringFound.j0])
   | succ kj5 =>
    have H := HA.out
    clear HA
    simp only [isobathlaw02_MooringFound.j0] at H
    by_cases c10 : x45_5 = true
    ·subst c10
     have H1 : ((isobathlaw02_fine.f kj5).bind fun t103 => (some t103)) = some r := by rw [if_pos rfl] at H; exact H
     clear H
     have H := H1
     clear H1
     replace H := Option.bind_eq_some_iff.mp H
     obtain ⟨t103, A110, H⟩ := H
     replace H : (some t103) = some r := H
     have A11 := zam A110
     clear A110
     as_aux_lemma =>
      obtain rfl := zsi H
      go_wp2_with (first | ((with_reducible refine zgc (f := 14) rfl ?_); refine goesL_ (some 46) rfl rfl Try.func14 (by kernel_rfl) rfl #[] rfl (by (try simp only [zmt, List.map_cons, List.map_nil]); first | done | rfl | (simp only [zld, zlt]; rfl)) ?_; (with_reducible refine (isobathlaw02_fine.calls kj5  t103 _ A11.out).mono ?_); rintro e w12 ⟨rfl, hb⟩; refine ⟨_, rfl, ?_⟩; have n0_ := zam (Kd.V_below (by (with_reducible repeat (first | apply Kd.V_alloc | apply Kd.V_drewN | apply Kd.V_drew)); exact HO_2.out) hb); have n1_ := zam (zkb (g := gb101) (o := .cells #[.int .i64 a0_0, .int .i64 a0_1] 72 (0, 0)) (by (with_reducible repeat (first | refine zkn ?_ _ | refine zkd ?_ | refine zka ?_ _)); exact BK101.out) hb); have n2_ := zam (zbt (by repeat (first | (with_reducible first | exact HB.out | apply zba | apply zbn | apply zb1 | refine zbs ?_ GE101.out) | exact HB.out)) hb); clear HO_2; clear BK101; clear HB; have HO_2 := n0_; have BK101 := n1_; have HB := n2_; clear n0_ n1_ n2_; (try clear hb); (try clear hb2); (try clear hk); (try clear hi)))
      go_ret
      exact ⟨by first | rfl | (simp [errW_none, errW_some] <;> rfl) | (simp [*, errW_none, errW_some] <;> rfl), by repeat (first | (with_reducible first | exact HB.out | apply zba | apply zbn | apply zb1 | refine zbs ?_ GE101.out) | exact HB.out)⟩
    replace c10 := Bool.eq_false_iff.mpr c10
    subst c10
    have H1 : ((isobathref02_Where.f kj5 a0_0 a0_1 l1 l2).bind fun bt104 => (if bt104.2.2 = 0 then ((mooring_Found.f kj5 a0_0 a0_1 l1 l2).bind fun bt110 => (isobathlaw02_MooringFound.l0 kj5 l1 l2 a3 a4 bt110.2 bt110.1 0 false 0 a0_0 a0_1)) else ((isobathlaw02_fine.f kj5).bind fun t109 => (some t109)))) = some r := by rw [if_neg (show ¬ (false = true) by decide)] at H; exact H
    clear H
    have H := H1
    clear H1
    replace H := Option.bind_eq_some_iff.mp H
    obtain ⟨⟨t104, t107, t108⟩, A130, H⟩ := H
    replace H : (if t108 = 0 then ((mooring_Found.f kj5 a0_0 a0_1 l1 l2).bind fun bt110 => (isobathlaw02_MooringFound.l0 kj5 l1 l2 a3 a4 bt110.2 bt110.1 0 false 0 a0_0 a0_1)) else ((isobathlaw02_fine.f kj5).bind fun t109 => (some t109))) = some r := H
    have A13 := zam A130
    clear A130
    by_cases c14 : t108 = 0
    ·rw [if_pos c14] at H
     have c14b0 : (t108 == 0) = true := beq_iff_eq.mpr c14
     have c14b1 : (t108 != 0) = false := bne_eq_false_iff_eq.mpr c14
     clear c14
     replace H := Option.bind_eq_some_iff.mp H
     obtain ⟨⟨t110, t111⟩, A150, H⟩ := H
     replace H : (isobathlaw02_MooringFound.l0 kj5 l1 l2 a3 a4 t111 t110 0 false 0 a0_0 a0_1) = some r := H
     have A15 := zam A150
     clear A150
     have HC16 := zam H
     clear H
     have hcz17_0 : wc.cell? ⟨gb101, 0, none⟩ = some (.int .i64 a0_0) := (zkc BK101.out 0).trans rfl
     have hcz17_1 : wc.cell? ⟨gb101, 1, none⟩ = some (.int .i64 a0_1) := (zkc BK101.out 1).trans rfl
     have hfz17_0 := zkz BK101.out 0
     have hfz17_1 := zkz BK101.out 1
     go_upto_block 0 with (first | ((with_reducible refine zgc (f := 47) rfl ?_); refine goesL_ (some 51) rfl rfl Try.func47 (by kernel_rfl) rfl #[.agg #[.int .i64 a0_0, .int .i64 a0_1], .slice A1 l1.length c1, .slice A2 l2.length c2] rfl (by (try simp only [zmt, List.map_cons, List.map_nil]); first | done | rfl | (simp only [zld, zlt]; rfl)) ?_; (with_reducible refine (isobathref02_Where.calls kj5 a0_0 a0_1 _ _ l1 _ _ l2 t104 t107 t108 _ ?side1 ?side2 ?side3 ?side4 A13.out).mono ?_); (case side1 => repeat (first | exact (Kd.C_below HR1.out HB.out) | (with_reducible refine Kd.C_alloc ?_ _) | (with_reducible refine Kd.C_drewN ?_ _) | (with_reducible refine Kd.C_drew ?_))); (case side2 => exact HC1.out); (case side3 => repeat (first | exact (Kd.V_reads' HO_2.out).2.2 | (with_reducible refine Kd.C_alloc ?_ _) | (with_reducible refine Kd.C_drewN ?_ _) | (with_reducible refine Kd.C_drew ?_))); (case side4 => exact (Kd.V_reads' HO_2.out).2.1); rintro e w18 ⟨v105, rfl, ho0, hb⟩; refine ⟨_, rfl, ?_⟩; have n0_ := zam (Kd.V_elder' (by (with_reducible repeat (first | apply Kd.V_alloc | apply Kd.V_drewN | apply Kd.V_drew)); exact HO_2.out) (Kd.R_base ho0) hb); have n1_ := zam (Kd.R_lower (Kd.R_newM (M := fun k_ => (w.heap.size ≤ k_)) ho0 (zbz (by repeat (first | (with_reducible first | exact HB.out | apply zba | apply zbn | apply zb1 | refine zbs ?_ GE101.out) | exact HB.out))) (fun k_ h_ => h_)) (zbz (by repeat (first | (with_reducible first | exact HB.out | apply zba | apply zbn | apply zb1 | refine zbs ?_ GE101.out) | exact HB.out)))); have n2_ := zam (zkb (g := gb101) (o := .cells #[.int .i64 a0_0, .int .i64 a0_1] 72 (0, 0)) (by (with_reducible repeat (first | refine zkn ?_ _ | refine zkd ?_ | refine zka ?_ _)); exact BK101.out) hb); have n3_ := zam (zbt (by repeat (first | (with_reducible first | exact HB.out | apply zba | apply zbn | apply zb1 | refine zbs ?_ GE101.out) | exact HB.out)) hb); clear HO_2; clear BK101; clear HB; have HO_2 := n0_; have HO106 := n1_; have BK101 := n2_; have HB := n3_; clear n0_ n1_ n2_ n3_; (try clear hb); (try clear hb2); (try clear hk); (try clear hi); (try clear ho0); have hcz19_0 : w18.cell? ⟨gb101, 0, none⟩ = some (.int .i64 a0_0) := (zkc BK101.out 0).trans rfl; have hcz19_1 : w18.cell? ⟨gb101, 1, none⟩ = some (.int .i64 a0_1) := (zkc BK101.out 1).trans rfl; have hfz19_0 := zkz BK101.out 0; have hfz19_1 := zkz BK101.out 1) | ((with_reducible refine zgc (f := 49) rfl ?_); refine goesL_ (some 62) rfl rfl Try.func49 (by kernel_rfl) rfl #[.agg #[.int .i64 a0_0, .int .i64 a0_1], .slice A1 l1.length c1, .slice A2 l2.length c2] rfl (by (try simp only [zmt, List.map_cons, List.map_nil]); first | done | rfl | (simp only [zld, zlt]; rfl)) ?_; (with_reducible refine (mooring_Found.calls kj5 a0_0 a0_1 (fun k_ => k_ < w.heap.size) _ _ l1 _ _ l2 t110 t111 _ ?side1 ?side2 ?side3 A15.out).mono ?_); (case side1 => exact Kd.V_mk HC1.out (Kd.F_below (Kd.C_F (Kd.heap_int .i64) HR1.out) (by repeat (first | (with_reducible first | exact HB.out | apply zba | apply zbn | apply zb1 | refine zbs ?_ GE101.out) | exact HB.out)))); (case side2 => repeat (first | exact (Kd.V_reads' HO_2.out).2.2 | (with_reducible refine Kd.C_alloc ?_ _) | (with_reducible refine Kd.C_drewN ?_ _) | (with_reducible refine Kd.C_drew ?_))); (case side3 => exact (Kd.V_reads' HO_2.out).2.1); rintro e w20 ⟨rfl, hb⟩; refine ⟨_, rfl, ?_⟩; have n0_ := zam (Kd.V_below (by (with_reducible repeat (first | apply Kd.V_alloc | apply Kd.V_drewN | apply Kd.V_drew)); exact HO_2.out) hb); have n1_ := zam (Kd.R_below (by (with_reducible repeat (first | apply zRa | apply zRn | apply zRd)); exact HO106.out) hb); have n2_ := zam (zkb (g := gb101) (o := .cells #[.int .i64 a0_0, .int .i64 a0_1] 72 (0, 0)) (by (with_reducible repeat (first | refine zkn ?_ _ | refine zkd ?_ | refine zka ?_ _)); exact BK101.out) hb); have n3_ := zam (zbt (by repeat (first | (with_reducible first | exact HB.out | apply zba | apply zbn | apply zb1 | refine zbs ?_ GE101.out) | exact HB.out)) hb); clear HO_2; clear HO106; clear BK101; clear HB; have HO_2 := n0_; have HO106 := n1_; have BK101 := n2_; have HB := n3_; clear n0_ n1_ n2_ n3_; (try clear hb); (try clear hb2); (try clear hk); (try clear hi)))
     (try simp only [Act.put, zsa, zsz, zss])
     go_cut [15, 16] (fun v15 v16 wc => ∃ (kq : Nat) (x15_15 : Int) (x16_15 : Bool), v15 = .int .i64 x15_15 ∧ v16 = .bool x16_15 ∧ Aside0 (isobathlaw02_MooringFound.j3 kq l1 l2 a3 a4 t111 t110 x15_15 x16_15 a0_0 a0_1 = some r) ∧ Aside0 (kq ≤ kj5) ∧ Aside0 (Kd.V k79 79 wc w.heap.size (fun k_ => (P2_ k_ ∨ w.heap.size ≤ k_) ∧ k_ ≠ gb101) (.slice A2 l2.length c2) l2) ∧ Aside0 (wc.heap[gb101]? = some (.cells #[.int .i64 a0_0, .int .i64 a0_1] 72 (0, 0))) ∧ Aside0 (Below w.heap.size w wc))
     case first =>
      have H := HC16.out
      clear HC16
      have H' := zam H
      clear H
      go_wp2
      go_loopg [15, 16, 17] kj5 (fun kq v15 v16 v17 w' => ∃ (x15_2 : Int) (x16_2 : Bool) (x17_2 : Int), v15 = .int .i64 x15_2 ∧ v16 = .bool x16_2 ∧ v17 = .int .i64 x17_2 ∧ Aside0 (isobathlaw02_MooringFound.l0 kq l1 l2 a3 a4 t111 t110 x15_2 x16_2 x17_2 a0_0 a0_1 = some r) ∧ Aside0 (kq ≤ kj5) ∧ Aside0 (Kd.V k79 79 w' w.heap.size (fun k_ => (P2_ k_ ∨ w.heap.size ≤ k_) ∧ k_ ≠ gb101) (.slice A2 l2.length c2) l2) ∧ Aside0 (w'.heap[gb101]? = some (.cells #[.int .i64 a0_0, .int .i64 a0_1] 72 (0, 0))) ∧ Aside0 (Below w.heap.size w w'))
      case atStart => exact ⟨(0), (false), (0), (by first | rfl | (simp; done) | (simp [*]; done)), (by first | rfl | (simp; done) | (simp [*]; done)), (by first | rfl | (simp; done) | (simp [*]; done)), H', ⟨Nat.le_refl _⟩, ⟨by (with_reducible repeat (first | apply Kd.V_alloc | apply Kd.V_drewN | apply Kd.V_drew)); exact Kd.V_mono HO_2.out (fun _ hk => ⟨hk.1.1, hk.1.2⟩)⟩, ⟨by (with_reducible repeat (first | refine zkn ?_ _ | refine zkd ?_ | refine zka ?_ _)); exact BK101.out⟩, ⟨by repeat (first | (with_reducible first | exact HB.out | apply zba | apply zbn | apply zb1 | refine zbs ?_ GE101.out) | exact HB.out)⟩⟩
      case round =>
       clear H'
       try clear c1
       try clear c2
       try clear p2
       try clear c4
       try clear c9
       try clear c10
       try clear c13
       try clear c14
       try clear c14b0
       try clear c14b1
       try clear hcz17_0
       try clear hcz17_1
       try clear hcz19_0
       try clear hcz19_1
       try clear hfz17_0
       try clear hfz17_1
       try clear hfz19_0
       try clear hfz19_1
       try clear p2
       obtain ⟨x15_2, x16_2, x17_2, rfl, rfl, rfl, HA, HK2, HO_2, BK101, HB⟩ := hrel
       as_aux_lemma =>
        cases gk with
        | zero => exact absurd HA.out (by simp [isobathlaw02_MooringFound.l0])
        | succ k2 =>
         have H := HA.out
         clear HA
         simp only [isobathlaw02_MooringFound.l0] at H
         have HC21 := zam H
         clear H
         go_upto_region 9 with (fail)
         go_cut [72] (fun v72 wc => ∃ (kq : Nat) (x72_20 : Bool), v72 = .bool x72_20 ∧ Aside0 (isobathlaw02_MooringFound.j2 kq l1 l2 a3 a4 t111 t110 x15_2 x16_2 x17_2 x72_20 a0_0 a0_1 = some r) ∧ Aside0 (kq ≤ k2) ∧ Aside0 (Kd.V k79 79 wc w.heap.size (fun k_ => (P2_ k_ ∨ w.heap.size ≤ k_) ∧ k_ ≠ gb101) (.slice A2 l2.length c2) l2) ∧ Aside0 (wc.heap[gb101]? = some (.cells #[.int .i64 a0_0, .int .i64 a0_1] 72 (0, 0))) ∧ Aside0 (Below w.heap.size w wc))
         case first =>
          have H := HC21.out
          clear HC21
          by_cases c22 : x17_2 ≤ (l2.length : Int)
          ·rw [if_pos c22] at H
           have c22b0 : decide (x17_2 ≤ (l2.length : Int)) = true := zdt c22
           clear c22
           (first | rw [c22b0] | (simp only [i64_w, i32_w]; rw [c22b0]) | skip)
           as_aux_lemma =>
            have H' := zam H
            clear H
            go_wp2
            go_meet
            case rel => exact ⟨_, (!x16_2), (by first | rfl | (simp; done) | (simp [*]; done)), H', ⟨by have := HJ5.out; have := HK2.out; first | omega | exact Nat.le_refl _⟩, ⟨by (with_reducible repeat (first | apply Kd.V_alloc | apply Kd.V_drewN | apply Kd.V_drew)); exact HO_2.out⟩, ⟨by (with_reducible repeat (first | refine zkn ?_ _ | refine zkd ?_ | refine zka ?_ _)); exact BK101.out⟩, ⟨by repeat (first | (with_reducible first | exact HB.out | apply zba | apply zbn | apply zb1 | refine zbs ?_ GE101.out) | exact HB.out)⟩⟩
          rw [if_neg c22] at H
          have c22b0 : decide (x17_2 ≤ (l2.length : Int)) = false := zdf c22
          clear c22
          (first | rw [c22b0] | (simp only [i64_w, i32_w]; rw [c22b0]) | skip)
          as_aux_lemma =>
           have H' := zam H
           clear H
           go_wp2
           go_meet
           case rel => exact ⟨_, (false), (by first | rfl | (simp; done) | (simp [*]; done)), H', ⟨by have := HJ5.out; have := HK2.out; first | omega | exact Nat.le_refl _⟩, ⟨by (with_reducible repeat (first | apply Kd.V_alloc | apply Kd.V_drewN | apply Kd.V_drew)); exact HO_2.out⟩, ⟨by (with_reducible repeat (first | refine zkn ?_ _ | refine zkd ?_ | refine zka ?_ _)); exact BK101.out⟩, ⟨by repeat (first | (with_reducible first | exact HB.out | apply zba | apply zbn | apply zb1 | refine zbs ?_ GE101.out) | exact HB.out)⟩⟩
         case rest =>
          clear HC21
          try clear c1
          try clear c2
          try clear p2
          try clear c4
          try clear c9
          try clear c10
          try clear c13
          try clear c14
          try clear c14b0
          try clear c14b1
          try clear c22
          try clear c22b0
          try clear hcz17_0
          try clear hcz17_1
          try clear hcz19_0
          try clear hcz19_1
          try clear hfz17_0
          try clear hfz17_1
          try clear hfz19_0
          try clear hfz19_1
          try clear p2
          obtain ⟨kq, x72_20, rfl, HA, HJ20, HO_2, BK101, HB⟩ := hcut
          as_aux_lemma =>
           cases kq with
           | zero => exact absurd HA.out (by simp [isobathlaw02_MooringFound.j2])
           | succ kj20 =>
            have H := HA.out
            clear HA
            simp only [isobathlaw02_MooringFound.j2] at H
            by_cases c23 : x72_20 = true
            ·subst c23
             have H1 : (if 0 ≤ x17_2 then (if x17_2 ≤ (l2.length : Int) then ((mooring_Where.f kj20 a0_0 a0_1 l1 (l2.take (x17_2 : Int).toNat)).bind fun bt117 => (if bt117.2.2 = 0 then (if bt117.2.1 = true then (isobathlaw02_MooringFound.j3 kj20 l1 l2 a3 a4 t111 t110 x15_2 x16_2 a0_0 a0_1) else (isobathlaw02_MooringFound.l0 kj20 l1 l2 a3 a4 t111 t110 x17_2 ((bt117.1.length : Int) == 0) (wrap64 (x17_2 + 1)) a0_0 a0_1)) else (none))) else (none)) else (none)) = some r := by rw [if_pos rfl] at H; exact H
             clear H
             have H := H1
             clear H1
             by_cases c24 : 0 ≤ x17_2
             ·rw [if_pos c24] at H
              have c24b0 := eq_true c24
              have c24b1 : decide (0 ≤ x17_2) = true := zdt c24
              clear c24
              by_cases c25 : x17_2 ≤ (l2.length : Int)
              ·rw [if_pos c25] at H
               have c25b0 := eq_true c25
               have c25b1 : decide (x17_2 ≤ (l2.length : Int)) = true := zdt c25
               clear c25
               obtain ⟨y112, hy112⟩ : ∃ y_ : List (S79), y_ = (l2.take (x17_2 : Int).toNat) := ⟨_, rfl⟩
               replace H : ((mooring_Where.f kj20 a0_0 a0_1 l1 y112).bind fun bt117 => (if bt117.2.2 = 0 then (if bt117.2.1 = true then (isobathlaw02_MooringFound.j3 kj20 l1 l2 a3 a4 t111 t110 x15_2 x16_2 a0_0 a0_1) else (isobathlaw02_MooringFound.l0 kj20 l1 l2 a3 a4 t111 t110 x17_2 ((bt117.1.length : Int) == 0) (wrap64 (x17_2 + 1)) a0_0 a0_1)) else (none))) = some r := by first | (rw [hy112]; with_reducible exact H) | (have H2_ := (Option.bind_some _ _).symm.trans H; rw [hy112]; with_reducible exact H2_) | (have H2_ := (Option.bind_some _ _).symm.trans H; with_reducible exact H2_) | with_reducible exact H | (rw [hy112]; exact H) | exact H
               have Ny112 := zam hy112
               clear hy112
               replace H := Option.bind_eq_some_iff.mp H
               obtain ⟨⟨t117, t120, t121⟩, A260, H⟩ := H
               replace H : (if t121 = 0 then (if t120 = true then (isobathlaw02_MooringFound.j3 kj20 l1 l2 a3 a4 t111 t110 x15_2 x16_2 a0_0 a0_1) else (isobathlaw02_MooringFound.l0 kj20 l1 l2 a3 a4 t111 t110 x17_2 ((t117.length : Int) == 0) (wrap64 (x17_2 + 1)) a0_0 a0_1)) else (none)) = some r := H
               have A26 := zam A260
               clear A260
               by_cases c27 : t121 = 0
               ·rw [if_pos c27] at H
                have c27b0 : (t121 == 0) = true := beq_iff_eq.mpr c27
                have c27b1 : (t121 != 0) = false := bne_eq_false_iff_eq.mpr c27
                clear c27
                by_cases c28 : t120 = true
                ·subst c28
                 have H1 : (isobathlaw02_MooringFound.j3 kj20 l1 l2 a3 a4 t111 t110 x15_2 x16_2 a0_0 a0_1) = some r := by rw [if_pos rfl] at H; exact H
                 clear H
                 have H := H1
                 clear H1
                 as_aux_lemma =>
                  have H' := zam H
                  clear H
                  try go_wp2
                  have n0_ := zam (Kd.V_drew HO_2.out)
                  have n1_ := zam (zkd BK101.out)
                  have n2_ := zam (zb1 HB.out)
                  clear HO_2
                  clear BK101
                  clear HB
                  have HO_2 := n0_
                  have BK101 := n1_
                  have HB := n2_
                  clear n0_ n1_ n2_
                  have q30 : (x17_2 : Int) ≤ ((l2.length : Int) : Int) := zod (by first | (with_reducible assumption) | assumption)
                  obtain ⟨i030, hi030, _, hsz30, _⟩ := info_parts info79
                  have hroom30 : l2.length ≤ c2 := (Kd.V_reads' HO_2.out).2.1
                  have hC30 : Kd.F k79 _ _ A2 l2.length l2 := (Kd.V_at (base := w.heap.size) HO_2.out).2.2
                  have hcut30 := cut_to (P := Try.prog) 73 79 .i64 Try.underlying73 hi030 A2 l2.length c2 x17_2 (zod (by first | (with_reducible assumption) | assumption)) q30 hroom30
                  have hr30 := Kd.F_take (m := (x17_2 : Int).toNat) hC30 (by omega)
                  have hy30 : y112.length = (x17_2 : Int).toNat := (by rw [Ny112.out, zlt]; omega)
                  rw [← Ny112.out] at hr30
                  rw [← hy30] at hcut30
                  have HO116 := zam (show Kd.V k79 79 _ w.heap.size _ (.slice A2 y112.length c2) y112 from Kd.V_mk (by omega) hr30)
                  have HC116 := zam (show y112.length ≤ c2 from by omega)
                  clear hr30 hC30 hroom30 hi030 hsz30
                  have KY30 := zam hy30
                  clear hy30
                  replace q30 := eq_true q30
                  (try (have q30x := q30; simp only [zld, zlt] at q30x))
                  refine start_ (n := 13) (S := fun w' => w'.cell? ⟨gb101, 0, none⟩ = some (.int .i64 a0_0) ∧ w'.cell? ⟨gb101, 1, none⟩ = some (.int .i64 a0_1)) (ds := []) #[false, false, false, false, false, false, false, false, false, false, false, false, false] (by kernel_rfl) rfl rfl ⟨(zkc BK101.out 0).trans rfl, (zkc BK101.out 1).trans rfl⟩ (fun hHeld => ?_); refine with_tabW isobathlaw02_MooringFound.tab11 isobathlaw02_MooringFound.bits11 (fun HT_ HW_ => ?_)
                  generalize wc.drew = w29 at HO_2 BK101 HB HO116 hHeld ⊢
                  refine pure_ (i := 1) (N := some 77) (v := ?_) (a' := ?_) #[false, true, false, false, false, false, false, false, false, false, false, false, false] rfl rfl (any_of HT_.out (by kernel_rfl)) (fun _ _ _ h => h) (Or.inl ⟨by rfl, ?_⟩) ?_ ?_
                  rotate_left
                  ·intro w'
                   go_simp
                   with_reducible rfl
                  rotate_left
                  ·simp only [Act.put, zsa, zsz, zss, i64_w, i32_w]
                   rfl
                  refine pure_ (i := 2) (N := some 78) (v := ?_) (a' := ?_) #[false, true, true, false, false, false, false, false, false, false, false, false, false] rfl rfl (any_of HT_.out (by kernel_rfl)) (fun _ _ _ h => h) (Or.inl ⟨by rfl, ?_⟩) ?_ ?_
                  rotate_left
                  ·intro w'
                   go_simp
                   with_reducible rfl
                  rotate_left
                  ·simp only [Act.put, zsa, zsz, zss, i64_w, i32_w]
                   rfl
                  refine pure_ (i := 3) (N := some 79) (v := ?_) (a' := ?_) #[false, true, true, true, false, false, false, false, false, false, false, false, false] rfl rfl (any_of HT_.out (by kernel_rfl)) (fun _ _ _ h => h) (Or.inl ⟨by rfl, ?_⟩) ?_ ?_
                  rotate_left
                  ·intro w'
                   go_simp
                   with_reducible rfl
                  rotate_left
                  ·simp only [Act.put, zsa, zsz, zss, i64_w, i32_w]
                   rfl
                  refine pure_ (i := 4) (N := some 80) (v := ?_) (a' := ?_) #[false, true, true, true, true, false, false, false, false, false, false, false, false] rfl rfl (any_of HT_.out (by kernel_rfl)) (fun _ _ _ h => h) (Or.inl ⟨by rfl, ?_⟩) ?_ ?_
                  rotate_left
                  ·intro w'
                   go_simp
                   with_reducible rfl
                  rotate_left
                  ·simp only [Act.put, zsa, zsz, zss, i64_w, i32_w]
                   rfl
                  refine take_ (i := 0) (N := some 76) (v := ?_) (a' := ?_) #[true, true, true, true, true, false, false, false, false, false, false, false, false] rfl rfl (take_ofW HT_.out HW_.out (by kernel_rfl)) (fun _ _ _ h => h) (Or.inl ⟨by rfl, ?_⟩) hHeld ?_ ?_
                  rotate_left
                  ·rintro w' ⟨s0, s1⟩
                   go_simp
                   with_reducible rfl
                  rotate_left
                  ·simp only [Act.put, zsa, zsz, zss, i64_w, i32_w]
                   rfl
                  refine one_ (i := 5) (N := some 81) #[true, true, true, true, true, true, false, false, false, false, false, false, false] rfl rfl (one_of HT_.out (by kernel_rfl)) (by decide) (fun K hK => ?_)
                  refine goes_ Try.func48 (by kernel_rfl) rfl #[.agg #[.int .i64 a0_0, .int .i64 a0_1], .slice A1 l1.length c1, .slice A2 y112.length c2] (by rfl) rfl rfl (by (try simp only [zmt, List.map_cons, List.map_nil]); first | done | rfl | (simp only [zld, zlt]; rfl)) ?_
                  with_reducible refine (mooring_Where.calls kj20 a0_0 a0_1 _ _ l1 _ _ y112 t117 true t121 _ ?side1 ?side2 ?side3 ?side4 A26.out).mono ?_
                  (case side1 => repeat (first | exact (Kd.C_below HR1.out HB.out) | (with_reducible refine Kd.C_alloc ?_ _) | (with_reducible refine Kd.C_drewN ?_ _) | (with_reducible refine Kd.C_drew ?_)))
                  (case side2 => exact HC1.out)
                  (case side3 => repeat (first | exact (Kd.V_reads' HO116.out).2.2 | (with_reducible refine Kd.C_alloc ?_ _) | (with_reducible refine Kd.C_drewN ?_ _) | (with_reducible refine Kd.C_drew ?_)))
                  (case side4 => exact (Kd.V_reads' HO116.out).2.1)
                  rintro e w31 ⟨v118, rfl, ho0, hb⟩
                  refine ⟨_, rfl, ?_⟩
                  have n0_ := zam (Kd.V_elder' (by (with_reducible repeat (first | apply Kd.V_alloc | apply Kd.V_drewN | apply Kd.V_drew)); exact HO_2.out) (Kd.R_base ho0) hb)
                  have n1_ := zam (Kd.V_elder' (by (with_reducible repeat (first | apply Kd.V_alloc | apply Kd.V_drewN | apply Kd.V_drew)); exact HO116.out) (Kd.R_base ho0) hb)
                  have n2_ := zam (Kd.R_lower (Kd.R_newM (M := fun k_ => (w.heap.size ≤ k_)) ho0 (zbz (by repeat (first | (with_reducible first | exact HB.out | apply zba | apply zbn | apply zb1 | refine zbs ?_ GE101.out) | exact HB.out))) (fun k_ h_ => h_)) (zbz (by repeat (first | (with_reducible first | exact HB.out | apply zba | apply zbn | apply zb1 | refine zbs ?_ GE101.out) | exact HB.out))))
                  have n3_ := zam (zkb (g := gb101) (o := .cells #[.int .i64 a0_0, .int .i64 a0_1] 72 (0, 0)) (by (with_reducible repeat (first | refine zkn ?_ _ | refine zkd ?_ | refine zka ?_ _)); exact BK101.out) hb)
                  have n4_ := zam (zbt (by repeat (first | (with_reducible first | exact HB.out | apply zba | apply zbn | apply zb1 | refine zbs ?_ GE101.out) | exact HB.out)) hb)
                  clear HO_2
                  clear HO116
                  clear BK101
                  clear HB
                  have HO_2 := n0_
                  have HO116 := n1_
                  have HO119 := n2_
                  have BK101 := n3_
                  have HB := n4_
                  clear n0_ n1_ n2_ n3_ n4_
                  (try clear hb)
                  (try clear hb2)
                  (try clear hk)
                  (try clear hi)
                  (try clear ho0)
                  refine hK.out _ _ ⟨(zkc BK101.out 0).trans rfl, (zkc BK101.out 1).trans rfl⟩ (fun hHeld => ?_)
                  clear hK K
                  refine norm_ (a' := ?_) ?_ ?_
                  rotate_left
                  ·show Act.put _ (some 81) _ = _
                   simp only [Act.put, zsa, zsz, zss, i64_w, i32_w]
                   rfl
                  refine pure_ (i := 6) (N := some 75) (v := ?_) (a' := ?_) #[true, true, true, true, true, true, true, false, false, false, false, false, false] rfl rfl (any_of HT_.out (by kernel_rfl)) (fun _ _ _ h => h) (Or.inl ⟨by rfl, ?_⟩) ?_ ?_
                  rotate_left
                  ·intro w'
                   go_simp
                   with_reducible rfl
                  rotate_left
                  ·simp only [Act.put, zsa, zsz, zss, i64_w, i32_w]
                   rfl
                  refine pure_ (i := 7) (N := some 82) (v := ?_) (a' := ?_) #[true, true, true, true, true, true, true, true, false, false, false, false, false] rfl rfl (any_of HT_.out (by kernel_rfl)) (fun _ _ _ h => h) (Or.inl ⟨by rfl, ?_⟩) ?_ ?_
                  rotate_left
                  ·intro w'
                   go_simp
                   with_reducible rfl
                  rotate_left
                  ·simp only [Act.put, zsa, zsz, zss, i64_w, i32_w]
                   rfl
                  refine pure_ (i := 8) (N := some 83) (v := ?_) (a' := ?_) #[true, true, true, true, true, true, true, true, true, false, false, false, false] rfl rfl (any_of HT_.out (by kernel_rfl)) (fun _ _ _ h => h) (Or.inl ⟨by rfl, ?_⟩) ?_ ?_
                  rotate_left
                  ·intro w'
                   go_simp
                   with_reducible rfl
                  rotate_left
                  ·simp only [Act.put, zsa, zsz, zss, i64_w, i32_w]
                   rfl
                  refine pure_ (i := 9) (N := some 84) (v := ?_) (a' := ?_) #[true, true, true, true, true, true, true, true, true, true, false, false, false] rfl rfl (any_of HT_.out (by kernel_rfl)) (fun _ _ _ h => h) (Or.inl ⟨by rfl, ?_⟩) ?_ ?_
                  rotate_left
                  ·intro w'
                   go_simp
                   with_reducible rfl
                  rotate_left
                  ·simp only [Act.put, zsa, zsz, zss, i64_w, i32_w]
                   rfl
                  refine pure_ (i := 10) (N := some 18) (v := ?_) (a' := ?_) #[true, true, true, true, true, true, true, true, true, true, true, false, false] rfl rfl (any_of HT_.out (by kernel_rfl)) (fun _ _ _ h => h) (Or.inl ⟨by rfl, ?_⟩) ?_ ?_
                  rotate_left
                  ·intro w'
                   go_simp
                   with_reducible rfl
                  rotate_left
                  ·simp only [Act.put, zsa, zsz, zss, i64_w, i32_w]
                   rfl
                  refine pure_ (i := 11) (N := some 19) (v := ?_) (a' := ?_) #[true, true, true, true, true, true, true, true, true, true, true, true, false] rfl rfl (any_of HT_.out (by kernel_rfl)) (fun _ _ _ h => h) (Or.inl ⟨by rfl, ?_⟩) ?_ ?_
                  rotate_left
                  ·intro w'
                   go_simp
                   with_reducible rfl
                  rotate_left
                  ·simp only [Act.put, zsa, zsz, zss, i64_w, i32_w]
                   rfl
                  refine pure_ (i := 12) (N := some 20) (v := ?_) (a' := ?_) #[true, true, true, true, true, true, true, true, true, true, true, true, true] rfl rfl (any_of HT_.out (by kernel_rfl)) (fun _ _ _ h => h) (Or.inl ⟨by rfl, ?_⟩) ?_ ?_
                  rotate_left
                  ·intro w'
                   go_simp
                   with_reducible rfl
                  rotate_left
                  ·simp only [Act.put, zsa, zsz, zss, i64_w, i32_w]
                   rfl
                  refine done_ (done_of HT_.out (by kernel_rfl)) ?_
                  try go_wp2
                  go_meet
                  case rel => exact ⟨_, (x15_2), (x16_2), (by first | rfl | (simp; done) | (simp [*]; done)), (by first | rfl | (simp; done) | (simp [*]; done)), H', ⟨by have := HJ5.out; have := HK2.out; have := HJ20.out; first | omega | exact Nat.le_refl _⟩, ⟨by (with_reducible repeat (first | apply Kd.V_alloc | apply Kd.V_drewN | apply Kd.V_drew)); exact Kd.V_mono HO_2.out (fun _ hk => ⟨hk.1.1, hk.1.2⟩)⟩, ⟨by (with_reducible repeat (first | refine zkn ?_ _ | refine zkd ?_ | refine zka ?_ _)); exact BK101.out⟩, ⟨by repeat (first | (with_reducible first | exact HB.out | apply zba | apply zbn | apply zb1 | refine zbs ?_ GE101.out) | exact HB.out)⟩⟩
                replace c28 := Bool.eq_false_iff.mpr c28
                subst c28
                have H1 : (isobathlaw02_MooringFound.l0 kj20 l1 l2 a3 a4 t111 t110 x17_2 ((t117.length : Int) == 0) (wrap64 (x17_2 + 1)) a0_0 a0_1) = some r := by rw [if_neg (show ¬ (false = true) by decide)] at H; exact H
                clear H
                have H := H1
                clear H1
                as_aux_lemma =>
                 have H' := zam H
                 clear H
                 try go_wp2
                 have n0_ := zam (Kd.V_drew HO_2.out)
                 have n1_ := zam (zkd BK101.out)
                 have n2_ := zam (zb1 HB.out)
                 clear HO_2
                 clear BK101
                 clear HB
                 have HO_2 := n0_
                 have BK101 := n1_
                 have HB := n2_
                 clear n0_ n1_ n2_
                 have q33 : (x17_2 : Int) ≤ ((l2.length : Int) : Int) := zod (by first | (with_reducible assumption) | assumption)
                 obtain ⟨i033, hi033, _, hsz33, _⟩ := info_parts info79
                 have hroom33 : l2.length ≤ c2 := (Kd.V_reads' HO_2.out).2.1
                 have hC33 : Kd.F k79 _ _ A2 l2.length l2 := (Kd.V_at (base := w.heap.size) HO_2.out).2.2
                 have hcut33 := cut_to (P := Try.prog) 73 79 .i64 Try.underlying73 hi033 A2 l2.length c2 x17_2 (zod (by first | (with_reducible assumption) | assumption)) q33 hroom33
                 have hr33 := Kd.F_take (m := (x17_2 : Int).toNat) hC33 (by omega)
                 have hy33 : y112.length = (x17_2 : Int).toNat := (by rw [Ny112.out, zlt]; omega)
                 rw [← Ny112.out] at hr33
                 rw [← hy33] at hcut33
                 have HO116 := zam (show Kd.V k79 79 _ w.heap.size _ (.slice A2 y112.length c2) y112 from Kd.V_mk (by omega) hr33)
                 have HC116 := zam (show y112.length ≤ c2 from by omega)
                 clear hr33 hC33 hroom33 hi033 hsz33
                 have KY33 := zam hy33
                 clear hy33
                 replace q33 := eq_true q33
                 (try (have q33x := q33; simp only [zld, zlt] at q33x))
                 refine start_ (n := 13) (S := fun w' => w'.cell? ⟨gb101, 0, none⟩ = some (.int .i64 a0_0) ∧ w'.cell? ⟨gb101, 1, none⟩ = some (.int .i64 a0_1)) (ds := []) #[false, false, false, false, false, false, false, false, false, false, false, false, false] (by kernel_rfl) rfl rfl ⟨(zkc BK101.out 0).trans rfl, (zkc BK101.out 1).trans rfl⟩ (fun hHeld => ?_); refine with_tabW isobathlaw02_MooringFound.tab11 isobathlaw02_MooringFound.bits11 (fun HT_ HW_ => ?_)
                 generalize wc.drew = w32 at HO_2 BK101 HB HO116 hHeld ⊢
                 refine pure_ (i := 1) (N := some 77) (v := ?_) (a' := ?_) #[false, true, false, false, false, false, false, false, false, false, false, false, false] rfl rfl (any_of HT_.out (by kernel_rfl)) (fun _ _ _ h => h) (Or.inl ⟨by rfl, ?_⟩) ?_ ?_
                 rotate_left
                 ·intro w'
                  go_simp
                  with_reducible rfl
                 rotate_left
                 ·simp only [Act.put, zsa, zsz, zss, i64_w, i32_w]
                  rfl
                 refine pure_ (i := 2) (N := some 78) (v := ?_) (a' := ?_) #[false, true, true, false, false, false, false, false, false, false, false, false, false] rfl rfl (any_of HT_.out (by kernel_rfl)) (fun _ _ _ h => h) (Or.inl ⟨by rfl, ?_⟩) ?_ ?_
                 rotate_left
                 ·intro w'
                  go_simp
                  with_reducible rfl
                 rotate_left
                 ·simp only [Act.put, zsa, zsz, zss, i64_w, i32_w]
                  rfl
                 refine pure_ (i := 3) (N := some 79) (v := ?_) (a' := ?_) #[false, true, true, true, false, false, false, false, false, false, false, false, false] rfl rfl (any_of HT_.out (by kernel_rfl)) (fun _ _ _ h => h) (Or.inl ⟨by rfl, ?_⟩) ?_ ?_
                 rotate_left
                 ·intro w'
                  go_simp
                  with_reducible rfl
                 rotate_left
                 ·simp only [Act.put, zsa, zsz, zss, i64_w, i32_w]
                  rfl
                 refine pure_ (i := 4) (N := some 80) (v := ?_) (a' := ?_) #[false, true, true, true, true, false, false, false, false, false, false, false, false] rfl rfl (any_of HT_.out (by kernel_rfl)) (fun _ _ _ h => h) (Or.inl ⟨by rfl, ?_⟩) ?_ ?_
                 rotate_left
                 ·intro w'
                  go_simp
                  with_reducible rfl
                 rotate_left
                 ·simp only [Act.put, zsa, zsz, zss, i64_w, i32_w]
                  rfl
                 refine take_ (i := 0) (N := some 76) (v := ?_) (a' := ?_) #[true, true, true, true, true, false, false, false, false, false, false, false, false] rfl rfl (take_ofW HT_.out HW_.out (by kernel_rfl)) (fun _ _ _ h => h) (Or.inl ⟨by rfl, ?_⟩) hHeld ?_ ?_
                 rotate_left
                 ·rintro w' ⟨s0, s1⟩
                  go_simp
                  with_reducible rfl
                 rotate_left
                 ·simp only [Act.put, zsa, zsz, zss, i64_w, i32_w]
                  rfl
                 refine one_ (i := 5) (N := some 81) #[true, true, true, true, true, true, false, false, false, false, false, false, false] rfl rfl (one_of HT_.out (by kernel_rfl)) (by decide) (fun K hK => ?_)
                 refine goes_ Try.func48 (by kernel_rfl) rfl #[.agg #[.int .i64 a0_0, .int .i64 a0_1], .slice A1 l1.length c1, .slice A2 y112.length c2] (by rfl) rfl rfl (by (try simp only [zmt, List.map_cons, List.map_nil]); first | done | rfl | (simp only [zld, zlt]; rfl)) ?_
                 with_reducible refine (mooring_Where.calls kj20 a0_0 a0_1 _ _ l1 _ _ y112 t117 false t121 _ ?side1 ?side2 ?side3 ?side4 A26.out).mono ?_
                 (case side1 => repeat (first | exact (Kd.C_below HR1.out HB.out) | (with_reducible refine Kd.C_alloc ?_ _) | (with_reducible refine Kd.C_drewN ?_ _) | (with_reducible refine Kd.C_drew ?_)))
                 (case side2 => exact HC1.out)
                 (case side3 => repeat (first | exact (Kd.V_reads' HO116.out).2.2 | (with_reducible refine Kd.C_alloc ?_ _) | (with_reducible refine Kd.C_drewN ?_ _) | (with_reducible refine Kd.C_drew ?_)))
                 (case side4 => exact (Kd.V_reads' HO116.out).2.1)
                 rintro e w34 ⟨v118, rfl, ho0, hb⟩
                 refine ⟨_, rfl, ?_⟩
                 have n0_ := zam (Kd.V_elder' (by (with_reducible repeat (first | apply Kd.V_alloc | apply Kd.V_drewN | apply Kd.V_drew)); exact HO_2.out) (Kd.R_base ho0) hb)
                 have n1_ := zam (Kd.V_elder' (by (with_reducible repeat (first | apply Kd.V_alloc | apply Kd.V_drewN | apply Kd.V_drew)); exact HO116.out) (Kd.R_base ho0) hb)
                 have n2_ := zam (Kd.R_lower (Kd.R_newM (M := fun k_ => (w.heap.size ≤ k_)) ho0 (zbz (by repeat (first | (with_reducible first | exact HB.out | apply zba | apply zbn | apply zb1 | refine zbs ?_ GE101.out) | exact HB.out))) (fun k_ h_ => h_)) (zbz (by repeat (first | (with_reducible first | exact HB.out | apply zba | apply zbn | apply zb1 | refine zbs ?_ GE101.out) | exact HB.out))))
                 have n3_ := zam (zkb (g := gb101) (o := .cells #[.int .i64 a0_0, .int .i64 a0_1] 72 (0, 0)) (by (with_reducible repeat (first | refine zkn ?_ _ | refine zkd ?_ | refine zka ?_ _)); exact BK101.out) hb)
                 have n4_ := zam (zbt (by repeat (first | (with_reducible first | exact HB.out | apply zba | apply zbn | apply zb1 | refine zbs ?_ GE101.out) | exact HB.out)) hb)
                 clear HO_2
                 clear HO116
                 clear BK101
                 clear HB
                 have HO_2 := n0_
                 have HO116 := n1_
                 have HO119 := n2_
                 have BK101 := n3_
                 have HB := n4_
                 clear n0_ n1_ n2_ n3_ n4_
                 (try clear hb)
                 (try clear hb2)
                 (try clear hk)
                 (try clear hi)
                 (try clear ho0)
                 refine hK.out _ _ ⟨(zkc BK101.out 0).trans rfl, (zkc BK101.out 1).trans rfl⟩ (fun hHeld => ?_)
                 clear hK K
                 refine norm_ (a' := ?_) ?_ ?_
                 rotate_left
                 ·show Act.put _ (some 81) _ = _
                  simp only [Act.put, zsa, zsz, zss, i64_w, i32_w]
                  rfl
                 refine pure_ (i := 6) (N := some 75) (v := ?_) (a' := ?_) #[true, true, true, true, true, true, true, false, false, false, false, false, false] rfl rfl (any_of HT_.out (by kernel_rfl)) (fun _ _ _ h => h) (Or.inl ⟨by rfl, ?_⟩) ?_ ?_
                 rotate_left
                 ·intro w'
                  go_simp
                  with_reducible rfl
                 rotate_left
                 ·simp only [Act.put, zsa, zsz, zss, i64_w, i32_w]
                  rfl
                 refine pure_ (i := 7) (N := some 82) (v := ?_) (a' := ?_) #[true, true, true, true, true, true, true, true, false, false, false, false, false] rfl rfl (any_of HT_.out (by kernel_rfl)) (fun _ _ _ h => h) (Or.inl ⟨by rfl, ?_⟩) ?_ ?_
                 rotate_left
                 ·intro w'
                  go_simp
                  with_reducible rfl
                 rotate_left
                 ·simp only [Act.put, zsa, zsz, zss, i64_w, i32_w]
                  rfl
                 refine pure_ (i := 8) (N := some 83) (v := ?_) (a' := ?_) #[true, true, true, true, true, true, true, true, true, false, false, false, false] rfl rfl (any_of HT_.out (by kernel_rfl)) (fun _ _ _ h => h) (Or.inl ⟨by rfl, ?_⟩) ?_ ?_
                 rotate_left
                 ·intro w'
                  go_simp
                  with_reducible rfl
                 rotate_left
                 ·simp only [Act.put, zsa, zsz, zss, i64_w, i32_w]
                  rfl
                 refine pure_ (i := 9) (N := some 84) (v := ?_) (a' := ?_) #[true, true, true, true, true, true, true, true, true, true, false, false, false] rfl rfl (any_of HT_.out (by kernel_rfl)) (fun _ _ _ h => h) (Or.inl ⟨by rfl, ?_⟩) ?_ ?_
                 rotate_left
                 ·intro w'
                  go_simp
                  with_reducible rfl
                 rotate_left
                 ·simp only [Act.put, zsa, zsz, zss, i64_w, i32_w]
                  rfl
                 refine pure_ (i := 10) (N := some 18) (v := ?_) (a' := ?_) #[true, true, true, true, true, true, true, true, true, true, true, false, false] rfl rfl (any_of HT_.out (by kernel_rfl)) (fun _ _ _ h => h) (Or.inl ⟨by rfl, ?_⟩) ?_ ?_
                 rotate_left
                 ·intro w'
                  go_simp
                  with_reducible rfl
                 rotate_left
                 ·simp only [Act.put, zsa, zsz, zss, i64_w, i32_w]
                  rfl
                 refine pure_ (i := 11) (N := some 19) (v := ?_) (a' := ?_) #[true, true, true, true, true, true, true, true, true, true, true, true, false] rfl rfl (any_of HT_.out (by kernel_rfl)) (fun _ _ _ h => h) (Or.inl ⟨by rfl, ?_⟩) ?_ ?_
                 rotate_left
                 ·intro w'
                  go_simp
                  with_reducible rfl
                 rotate_left
                 ·simp only [Act.put, zsa, zsz, zss, i64_w, i32_w]
                  rfl
                 refine pure_ (i := 12) (N := some 20) (v := ?_) (a' := ?_) #[true, true, true, true, true, true, true, true, true, true, true, true, true] rfl rfl (any_of HT_.out (by kernel_rfl)) (fun _ _ _ h => h) (Or.inl ⟨by rfl, ?_⟩) ?_ ?_
                 rotate_left
                 ·intro w'
                  go_simp
                  with_reducible rfl
                 rotate_left
                 ·simp only [Act.put, zsa, zsz, zss, i64_w, i32_w]
                  rfl
                 refine done_ (done_of HT_.out (by kernel_rfl)) ?_
                 obtain ⟨Ao35, co35, eo35⟩ := Kd.R_slice HO119.out
                 subst eo35
                 try go_wp2
                 go_roundg kj20
                 case measure => have := HJ5.out; have := HK2.out; have := HJ20.out; omega
                 case rel => exact ⟨(x17_2), (((t117.length : Int) == 0)), (wrap64 (x17_2 + 1)), (by first | rfl | (simp; done) | (simp [*]; done)), (by first | rfl | (simp; done) | (simp [*]; done)), (by first | rfl | (simp; done) | (simp [*]; done)), H', ⟨by have := HJ5.out; have := HK2.out; have := HJ20.out; omega⟩, ⟨by (with_reducible repeat (first | apply Kd.V_alloc | apply Kd.V_drewN | apply Kd.V_drew)); exact Kd.V_mono HO_2.out (fun _ hk => ⟨hk.1.1, hk.1.2⟩)⟩, ⟨by (with_reducible repeat (first | refine zkn ?_ _ | refine zkd ?_ | refine zka ?_ _)); exact BK101.out⟩, ⟨by repeat (first | (with_reducible first | exact HB.out | apply zba | apply zbn | apply zb1 | refine zbs ?_ GE101.out) | exact HB.out)⟩⟩
               rw [if_neg c27] at H
               exact absurd H (by simp)
              rw [if_neg c25] at H
              exact absurd H (by simp)
             rw [if_neg c24] at H
             exact absurd H (by simp)
            replace c23 := Bool.eq_false_iff.mpr c23
            subst c23
            have H1 : (isobathlaw02_MooringFound.j3 kj20 l1 l2 a3 a4 t111 t110 x15_2 x16_2 a0_0 a0_1) = some r := by rw [if_neg (show ¬ (false = true) by decide)] at H; exact H
            clear H
            have H := H1
            clear H1
            as_aux_lemma =>
             have H' := zam H
             clear H
             go_wp2
             go_meet
             case rel => exact ⟨_, (x15_2), (x16_2), (by first | rfl | (simp; done) | (simp [*]; done)), (by first | rfl | (simp; done) | (simp [*]; done)), H', ⟨by have := HJ5.out; have := HK2.out; have := HJ20.out; first | omega | exact Nat.le_refl _⟩, ⟨by (with_reducible repeat (first | apply Kd.V_alloc | apply Kd.V_drewN | apply Kd.V_drew)); exact HO_2.out⟩, ⟨by (with_reducible repeat (first | refine zkn ?_ _ | refine zkd ?_ | refine zka ?_ _)); exact BK101.out⟩, ⟨by repeat (first | (with_reducible first | exact HB.out | apply zba | apply zbn | apply zb1 | refine zbs ?_ GE101.out) | exact HB.out)⟩⟩
     case rest =>
      clear HC16
      try clear c1
      try clear c2
      try clear p2
      try clear q3
      try clear c4
      try clear p6
      try clear c9
      try clear c10
      try clear c13
      try clear c14
      try clear c14b0
      try clear c14b1
      try clear c22
      try clear c22b0
      try clear c23
      try clear c24
      try clear c24b0
      try clear c24b1
      try clear c25
      try clear c25b0
      try clear c25b1
      try clear c27
      try clear c27b0
      try clear c27b1
      try clear c28
      try clear q30
      try clear q33
      try clear hcz17_0
      try clear hcz17_1
      try clear hcz19_0
      try clear hcz19_1
      try clear hfz17_0
      try clear hfz17_1
      try clear hfz19_0
      try clear hfz19_1
      try clear p2
      try clear q30
      try clear q33
      obtain ⟨kq, x15_15, x16_15, rfl, rfl, HA, HJ15, HO_2, BK101, HB⟩ := hcut
      as_aux_lemma =>
       cases kq with
       | zero => exact absurd HA.out (by simp [isobathlaw02_MooringFound.j3])
       | succ kj15 =>
        have H := HA.out
        clear HA
        simp only [isobathlaw02_MooringFound.j3] at H
        have HC36 := zam H
        clear H
        go_upto_region 16 with (fail)
        go_cut [115] (fun v115 wc => ∃ (kq : Nat) (x115_35 : Bool), v115 = .bool x115_35 ∧ Aside0 (isobathlaw02_MooringFound.j4 kq l1 l2 a3 a4 t111 t110 x115_35 a0_0 a0_1 = some r) ∧ Aside0 (kq ≤ kj15) ∧ Aside0 (Kd.V k79 79 wc w.heap.size (fun k_ => (P2_ k_ ∨ w.heap.size ≤ k_) ∧ k_ ≠ gb101) (.slice A2 l2.length c2) l2) ∧ Aside0 (wc.heap[gb101]? = some (.cells #[.int .i64 a0_0, .int .i64 a0_1] 72 (0, 0))) ∧ Aside0 (Below w.heap.size w wc))
        case first =>
         have H := HC36.out
         clear HC36
         by_cases c37 : (x16_15 != (t111 == 0)) = true
         ·rw [if_pos c37] at H
          exact absurd H (by simp)
         rw [if_neg c37] at H
         have c37b0 : (x16_15 != (t111 == 0)) = false := by simpa using c37
         (try (have c37b1 : decide (x16_15 = (t111 == 0)) = true := by simpa using c37))
         (try (have c37b2 : (x16_15 == (t111 == 0)) = true := by simpa using c37))
         clear c37
         (first | rw [c37b0] | (simp only [i64_w, i32_w]; rw [c37b0]) | skip)
         by_cases c38 : x16_15 = true
         ·subst c38
          have H1 : (if t110 = x15_15 then (isobathlaw02_MooringFound.j4 kj15 l1 l2 a3 a4 t111 t110 false a0_0 a0_1) else (none)) = some r := by rw [if_pos rfl] at H; exact H
          clear H
          have H := H1
          clear H1
          by_cases c39 : t110 = x15_15
          ·rw [if_pos c39] at H
           have c39b0 : (t110 == x15_15) = true := beq_iff_eq.mpr c39
           have c39b1 : (t110 != x15_15) = false := bne_eq_false_iff_eq.mpr c39
           clear c39
           as_aux_lemma =>
            have H' := zam H
            clear H
            go_wp2
            go_meet
            case rel => exact ⟨_, (false), (by first | rfl | (simp; done) | (simp [*]; done)), H', ⟨by have := HJ5.out; have := HJ15.out; first | omega | exact Nat.le_refl _⟩, ⟨by (with_reducible repeat (first | apply Kd.V_alloc | apply Kd.V_drewN | apply Kd.V_drew)); exact HO_2.out⟩, ⟨by (with_reducible repeat (first | refine zkn ?_ _ | refine zkd ?_ | refine zka ?_ _)); exact BK101.out⟩, ⟨by repeat (first | (with_reducible first | exact HB.out | apply zba | apply zbn | apply zb1 | refine zbs ?_ GE101.out) | exact HB.out)⟩⟩
          rw [if_neg c39] at H
          exact absurd H (by simp)
         replace c38 := Bool.eq_false_iff.mpr c38
         subst c38
         have H1 : (if t111 = 5 then (isobathlaw02_MooringFound.j4 kj15 l1 l2 a3 a4 t111 t110 (t110 != 0) a0_0 a0_1) else (none)) = some r := by rw [if_neg (show ¬ (false = true) by decide)] at H; exact H
         clear H
         have H := H1
         clear H1
         by_cases c40 : t111 = 5
         ·rw [if_pos c40] at H
          have c40b0 : (t111 == 5) = true := beq_iff_eq.mpr c40
          have c40b1 : (t111 != 5) = false := bne_eq_false_iff_eq.mpr c40
          clear c40
          as_aux_lemma =>
           have H' := zam H
           clear H
           go_wp2
           go_meet
           case rel => exact ⟨_, ((t110 != 0)), (by first | rfl | (simp; done) | (simp [*]; done)), H', ⟨by have := HJ5.out; have := HJ15.out; first | omega | exact Nat.le_refl _⟩, ⟨by (with_reducible repeat (first | apply Kd.V_alloc | apply Kd.V_drewN | apply Kd.V_drew)); exact HO_2.out⟩, ⟨by (with_reducible repeat (first | refine zkn ?_ _ | refine zkd ?_ | refine zka ?_ _)); exact BK101.out⟩, ⟨by repeat (first | (with_reducible first | exact HB.out | apply zba | apply zbn | apply zb1 | refine zbs ?_ GE101.out) | exact HB.out)⟩⟩
         rw [if_neg c40] at H
         exact absurd H (by simp)
        case rest =>
         clear HC36
         try clear c1
         try clear c2
         try clear p2
         try clear c3
         try clear q3
         try clear c4
         try clear p6
         try clear c9
         try clear c10
         try clear c13
         try clear c14
         try clear c14b0
         try clear c14b1
         try clear c22
         try clear c22b0
         try clear c23
         try clear c24
         try clear c24b0
         try clear c24b1
         try clear c25
         try clear c25b0
         try clear c25b1
         try clear c27
         try clear c27b0
         try clear c27b1
         try clear c28
         try clear q30
         try clear q33
         try clear c37
         try clear c37b0
         try clear c37b1
         try clear c37b2
         try clear c38
         try clear c39
         try clear c39b0
         try clear c39b1
         try clear c40
         try clear c40b0
         try clear c40b1
         try clear hcz17_0
         try clear hcz17_1
         try clear hcz19_0
         try clear hcz19_1
         try clear hfz17_0
         try clear hfz17_1
         try clear hfz19_0
         try clear hfz19_1
         try clear p2
         try clear p6
         try clear q3
         try clear q30
         try clear q33
         obtain ⟨kq, x115_35, rfl, HA, HJ35, HO_2, BK101, HB⟩ := hcut
         as_aux_lemma =>
          cases kq with
          | zero => exact absurd HA.out (by simp [isobathlaw02_MooringFound.j4])
          | succ kj35 =>
           have H := HA.out
           clear HA
           simp only [isobathlaw02_MooringFound.j4] at H
           by_cases c41 : x115_35 = true
           ·subst c41
            have H1 : (none) = some r := by rw [if_pos rfl] at H; exact H
            clear H
            have H := H1
            clear H1
            exact absurd H (by simp)
           replace c41 := Bool.eq_false_iff.mpr c41
           subst c41
           have H1 : (if (l2.length : Int) = 0 then ((isobathlaw02_fine.f kj35).bind fun t122 => (some t122)) else ((some (([] : List (S79)) : List (S79))).bind fun y123 => (if y123.length + l2.length < 2513169434916 then (if (wrap64 (a0_0 * a0_1)) = 0 then (none) else (isobathlaw02_MooringFound.l1 kj35 l1 l2 t111 t110 (y123 ++ l2) (Int.tmod (wrap64 (a3)) (l2.length : Int)) (Int.tmod (wrap64 (a4)) (wrap64 (a0_0 * a0_1))) ([] : List Int) 0 a0_0 a0_1)) else (none)))) = some r := by rw [if_neg (show ¬ (false = true) by decide)] at H; exact H
           clear H
           have H := H1
           clear H1
           by_cases c42 : (l2.length : Int) = 0
           ·rw [if_pos c42] at H
            have c42b0 : ((l2.length : Int) == 0) = true := beq_iff_eq.mpr c42
            have c42b1 : ((l2.length : Int) != 0) = false := bne_eq_false_iff_eq.mpr c42
            clear c42
            replace H := Option.bind_eq_some_iff.mp H
            obtain ⟨t122, A430, H⟩ := H
            replace H : (some t122) = some r := H
            have A43 := zam A430
            clear A430
            as_aux_lemma =>
             obtain rfl := zsi H
             go_wp2_with (first | ((with_reducible refine zgc (f := 14) rfl ?_); refine goesL_ (some 119) rfl rfl Try.func14 (by kernel_rfl) rfl #[] rfl (by (try simp only [zmt, List.map_cons, List.map_nil]); first | done | rfl | (simp only [zld, zlt]; rfl)) ?_; (with_reducible refine (isobathlaw02_fine.calls kj35  t122 _ A43.out).mono ?_); rintro e w44 ⟨rfl, hb⟩; refine ⟨_, rfl, ?_⟩; have n0_ := zam (Kd.V_below (by (with_reducible repeat (first | apply Kd.V_alloc | apply Kd.V_drewN | apply Kd.V_drew)); exact HO_2.out) hb); have n1_ := zam (zkb (g := gb101) (o := .cells #[.int .i64 a0_0, .int .i64 a0_1] 72 (0, 0)) (by (with_reducible repeat (first | refine zkn ?_ _ | refine zkd ?_ | refine zka ?_ _)); exact BK101.out) hb); have n2_ := zam (zbt (by repeat (first | (with_reducible first | exact HB.out | apply zba | apply zbn | apply zb1 | refine zbs ?_ GE101.out) | exact HB.out)) hb); clear HO_2; clear BK101; clear HB; have HO_2 := n0_; have BK101 := n1_; have HB := n2_; clear n0_ n1_ n2_; (try clear hb); (try clear hb2); (try clear hk); (try clear hi)))
             go_ret
             exact ⟨by first | rfl | (simp [errW_none, errW_some] <;> rfl) | (simp [*, errW_none, errW_some] <;> rfl), by repeat (first | (with_reducible first | exact HB.out | apply zba | apply zbn | apply zb1 | refine zbs ?_ GE101.out) | exact HB.out)⟩
           rw [if_neg c42] at H
           have c42b0 : ((l2.length : Int) == 0) = false := beq_eq_false_iff_ne.mpr c42
           have c42b1 : ((l2.length : Int) != 0) = true := bne_iff_ne.mpr c42
           have c42b2 : ¬ (l2 = []) := fun h_ => c42 (by rw [h_]; rfl)
           obtain ⟨y123, hy123⟩ : ∃ y_ : List (S79), y_ = (([] : List (S79))) := ⟨_, rfl⟩
           replace H : (if y123.length + l2.length < 2513169434916 then (if (wrap64 (a0_0 * a0_1)) = 0 then (none) else (isobathlaw02_MooringFound.l1 kj35 l1 l2 t111 t110 (y123 ++ l2) (Int.tmod (wrap64 (a3)) (l2.length : Int)) (Int.tmod (wrap64 (a4)) (wrap64 (a0_0 * a0_1))) ([] : List Int) 0 a0_0 a0_1)) else (none)) = some r := by first | (rw [hy123]; with_reducible exact H) | (have H2_ := (Option.bind_some _ _).symm.trans H; rw [hy123]; with_reducible exact H2_) | (have H2_ := (Option.bind_some _ _).symm.trans H; with_reducible exact H2_) | with_reducible exact H | (rw [hy123]; exact H) | exact H
           have Ny123 := zam hy123
           clear hy123
           by_cases c45 : y123.length + l2.length < 2513169434916
           ·rw [if_pos c45] at H
            have LMc45 := zam c45
            clear c45
            obtain ⟨y126, hy126⟩ : ∃ y_ : List (S79), y_ = (y123 ++ l2) := ⟨_, rfl⟩
            replace H : (if (wrap64 (a0_0 * a0_1)) = 0 then (none) else (isobathlaw02_MooringFound.l1 kj35 l1 l2 t111 t110 y126 (Int.tmod (wrap64 (a3)) (l2.length : Int)) (Int.tmod (wrap64 (a4)) (wrap64 (a0_0 * a0_1))) ([] : List Int) 0 a0_0 a0_1)) = some r := by first | (rw [hy126]; with_reducible exact H) | (have H2_ := (Option.bind_some _ _).symm.trans H; rw [hy126]; with_reducible exact H2_) | (have H2_ := (Option.bind_some _ _).symm.trans H; with_reducible exact H2_) | with_reducible exact H | (rw [hy126]; exact H) | exact H
            have Ny126 := zam hy126
            clear hy126
            by_cases c46 : (wrap64 (a0_0 * a0_1)) = 0
            ·rw [if_pos c46] at H
             exact absurd H (by simp)
            rw [if_neg c46] at H
            have c46b0 : ((wrap64 (a0_0 * a0_1)) == 0) = false := beq_eq_false_iff_ne.mpr c46
            have c46b1 : ((wrap64 (a0_0 * a0_1)) != 0) = true := bne_iff_ne.mpr c46
            have H' := zam H
            clear H
            go_wp2_with (first | ((with_reducible refine zgd (N := 120) rfl ?_); (try (refine gate_guard (by rfl) ?_; dsimp only)); refine Kd.N_lit k79 _ 79 ?hg (N' := 120) ?hd (xs := ([] : List (S79))) (inner := []) (ok := (fun k_ => (P2_ k_ ∨ w.heap.size ≤ k_) ∧ k_ ≠ gb101)) (okp := (fun k_ => (P2_ k_ ∨ w.heap.size ≤ k_) ∧ k_ ≠ gb101)) ?hr ?hp (fun _ hk => hk) ((show ∀ k_, wc.heap.size ≤ k_ → (fun k_ => (P2_ k_ ∨ w.heap.size ≤ k_) ∧ k_ ≠ gb101) k_ from fun k_ hk => ⟨(.inr (Nat.le_trans (zbz (by repeat (first | (with_reducible first | exact HB.out | apply zba | apply zbn | apply zb1 | refine zbs ?_ GE101.out) | exact HB.out))) hk)), Kd.freshB (g := gb101) (o := .cells #[.int .i64 a0_0, .int .i64 a0_1] 72 (0, 0)) (by (with_reducible repeat (first | refine zkn ?_ _ | refine zkd ?_ | refine zka ?_ _)); exact BK101.out) k_ hk⟩) _ (Nat.le_refl _)) (Below.refl _ _) (Nat.le_refl _) (by simp) ?_; (case hd => rfl); (case hg => rfl); (case hr => first | (go_simp; done) | (go_simp; rfl)); (case hp => exact (Reps.none _ _)); intro v124 w47 ho48 hb hg_ hnew_; clear hg_ hnew_; (first | rw [← Ny123.out] at ho48 | (simp only [Int.reduceToNat] at ho48; rw [← Ny123.out] at ho48)); have n0_ := zam (Kd.V_elder' (by (with_reducible repeat (first | apply Kd.V_alloc | apply Kd.V_drewN | apply Kd.V_drew)); exact HO_2.out) (Kd.N_base ho48) hb); have n1_ := zam (Kd.N_lower ho48 (zbz (by repeat (first | (with_reducible first | exact HB.out | apply zba | apply zbn | apply zb1 | refine zbs ?_ GE101.out) | exact HB.out)))); have n2_ := zam (zkb (g := gb101) (o := .cells #[.int .i64 a0_0, .int .i64 a0_1] 72 (0, 0)) (by (with_reducible repeat (first | refine zkn ?_ _ | refine zkd ?_ | refine zka ?_ _)); exact BK101.out) hb); have n3_ := zam (zbt (by repeat (first | (with_reducible first | exact HB.out | apply zba | apply zbn | apply zb1 | refine zbs ?_ GE101.out) | exact HB.out)) hb); clear HO_2; clear BK101; clear HB; have HO_2 := n0_; have HO125 := n1_; have BK101 := n2_; have HB := n3_; clear n0_ n1_ n2_ n3_; clear hb ho48) | ((with_reducible refine gate_builtin (b := .append) (xs := #[.tmp 120, .tmp 121]) rfl ?_); (try (refine gate_guard (by rfl) ?_; dsimp only)); at_builtin; refine Kd.N_append_rows k79 (w0 := w) w.heap.size rfl (.tmp 120) (.tmp 121) 73 79 (.agg #[(.int .i64 0), (.int .i64 0), (.int .i64 0), (.int .i64 0), (.slice none 0 0)]) 56 rfl Try.underlying73 info79 rfl (by decide) (by omega) v124 y123 l2 _ _ _ (fun k_ => (P2_ k_ ∨ w.heap.size ≤ k_) ∧ k_ ≠ gb101) (fun k_ => ((fun k_ => (P2_ k_ ∨ w.heap.size ≤ k_) ∧ k_ ≠ gb101)) k_ ∧ some k_ ≠ (v124 : Value).ownBlock) rfl rfl ?aO ?aR (fun _ hk => hk) ?aF ?aB ?aS ?aL ?_; (case aR => exact (by skip; exact Kd.V_F (Kd.V_mono (ok' := (fun k_ => ((fun k_ => (P2_ k_ ∨ w.heap.size ≤ k_) ∧ k_ ≠ gb101)) k_ ∧ some k_ ≠ (v124 : Value).ownBlock)) (HO_2.out) (fun k_ hk => ⟨⟨hk.1.1, hk.1.2⟩, hk.2⟩)))); (case aB => exact (by repeat (first | (with_reducible first | exact HB.out | apply zba | apply zbn | apply zb1 | refine zbs ?_ GE101.out) | exact HB.out))); (case aF => exact (fun k_ hk => ⟨(.inr (Nat.le_trans (zbz (by repeat (first | (with_reducible first | exact HB.out | apply zba | apply zbn | apply zb1 | refine zbs ?_ GE101.out) | exact HB.out))) hk)), Kd.freshB (g := gb101) (o := .cells #[.int .i64 a0_0, .int .i64 a0_1] 72 (0, 0)) (by (with_reducible repeat (first | refine zkn ?_ _ | refine zkd ?_ | refine zka ?_ _)); exact BK101.out) k_ hk⟩)); (case aO => exact (by (with_reducible repeat (first | apply Kd.N_alloc | apply Kd.N_drewN | apply Kd.N_drew)); exact HO125.out)); (case aS => exact (zbz (by repeat (first | (with_reducible first | exact HB.out | apply zba | apply zbn | apply zb1 | refine zbs ?_ GE101.out) | exact HB.out)))); (case aL => have := LMc45.out; omega); intro v127 w49 ho hb hg hat; rw [← Ny126.out] at ho; have n0_ := zam (Kd.V_afterv (ok := (fun k_ => (P2_ k_ ∨ w.heap.size ≤ k_) ∧ k_ ≠ gb101)) (by (with_reducible repeat (first | apply Kd.V_alloc | apply Kd.V_drewN | apply Kd.V_drew)); exact HO_2.out) hg hat); have n1_ := zam (zkg (g := gb101) (o := .cells #[.int .i64 a0_0, .int .i64 a0_1] 72 (0, 0)) (by (with_reducible repeat (first | refine zkn ?_ _ | refine zkd ?_ | refine zka ?_ _)); exact BK101.out) hg (Kd.N_ne HO125.out BK101.out (by decide))); have n2_ := zam (hb); have n3_ := zam (ho); clear HO_2; clear BK101; clear HB; clear HO125; have HO_2 := n0_; have BK101 := n1_; have HB := n2_; have HO128 := n3_; clear n0_ n1_ n2_ n3_; clear ho hb hg hat; have hcz50_0 : w49.cell? ⟨gb101, 0, none⟩ = some (.int .i64 a0_0) := (zkc BK101.out 0).trans rfl; have hcz50_1 : w49.cell? ⟨gb101, 1, none⟩ = some (.int .i64 a0_1) := (zkc BK101.out 1).trans rfl; have hfz50_0 := zkz BK101.out 0; have hfz50_1 := zkz BK101.out 1))
            go_loopg [24, 25] kj35 (fun kq v24 v25 w' => ∃ (x24_4 : List Int) (x25_4 : Int), v25 = .int .i64 x25_4 ∧ Aside0 (isobathlaw02_MooringFound.l1 kq l1 l2 t111 t110 y126 (Int.tmod (wrap64 (a3)) (l2.length : Int)) (Int.tmod (wrap64 (a4)) (wrap64 (a0_0 * a0_1))) x24_4 x25_4 a0_0 a0_1 = some r) ∧ Aside0 (kq ≤ kj35) ∧ Aside0 (Kd.V k79 79 w' w.heap.size (fun k_ => (P2_ k_ ∨ w.heap.size ≤ k_) ∧ some k_ ≠ (v127 : Value).ownBlock ∧ some k_ ≠ (v24 : Value).ownBlock ∧ k_ ≠ gb101) (.slice A2 l2.length c2) l2) ∧ Aside0 (Kd.N k79 79 w' w.heap.size (fun k_ => (P2_ k_ ∨ w.heap.size ≤ k_) ∧ some k_ ≠ (v24 : Value).ownBlock ∧ k_ ≠ gb101) v127 y126) ∧ Aside0 (Kd.R (Kd.int .i64) 3 w' w.heap.size (fun k_ => (w.heap.size ≤ k_)) v24 x24_4) ∧ Aside0 (w'.heap[gb101]? = some (.cells #[.int .i64 a0_0, .int .i64 a0_1] 72 (0, 0))) ∧ Aside0 (Below w.heap.size w w'))
            case atStart => exact ⟨(([] : List Int)), (0), (by first | rfl | (simp; done) | (simp [*]; done)), H', ⟨Nat.le_refl _⟩, ⟨by (with_reducible repeat (first | apply Kd.V_alloc | apply Kd.V_drewN | apply Kd.V_drew)); exact Kd.V_mono HO_2.out (fun _ hk => ⟨hk.1.1, ⟨hk.2, ⟨(by simp [Value.ownBlock]), hk.1.2⟩⟩⟩)⟩, ⟨by (with_reducible repeat (first | apply Kd.N_alloc | apply Kd.N_drewN | apply Kd.N_drew)); exact Kd.N_mono HO128.out (fun _ hk => ⟨hk.1, ⟨(by simp [Value.ownBlock]), hk.2⟩⟩)⟩, ⟨by first | exact Kd.R_nil _ _ _ _ _ | exact Kd.N_nil _ _ _ _ _ | exact Kd.V_nil _ _ _ _ _ | exact Kd.Q_nil _ _ _ _ _ | exact Kd.S_nil _ _ _ _ _⟩, ⟨by (with_reducible repeat (first | refine zkn ?_ _ | refine zkd ?_ | refine zka ?_ _)); exact BK101.out⟩, ⟨by repeat (first | (with_reducible first | exact HB.out | apply zba | apply zbn | apply zb1 | refine zbs ?_ GE101.out) | exact HB.out)⟩⟩
            case round =>
             clear H'
             try clear c1
             try clear c2
             try clear p2
             try clear c3
             try clear q3
             try clear c4
             try clear p6
             try clear c9
             try clear c10
             try clear c13
             try clear c14
             try clear c14b0
             try clear c14b1
             try clear c22
             try clear c22b0
             try clear c23
             try clear c24
             try clear c24b0
             try clear c24b1
             try clear c25
             try clear c25b0
             try clear c25b1
             try clear c27
             try clear c27b0
             try clear c27b1
             try clear c28
             try clear q30
             try clear q33
             try clear c37
             try clear c37b0
             try clear c37b1
             try clear c37b2
             try clear c38
             try clear c39
             try clear c39b0
             try clear c39b1
             try clear c40
             try clear c40b0
             try clear c40b1
             try clear c41
             try clear c42
             try clear c42b0
             try clear c42b1
             try clear c42b2
             try clear c45
             try clear c46
             try clear c46b0
             try clear c46b1
             try clear c48
             try clear hcz17_0
             try clear hcz17_1
             try clear hcz19_0
             try clear hcz19_1
             try clear hcz50_0
             try clear hcz50_1
             try clear hfz17_0
             try clear hfz17_1
             try clear hfz19_0
             try clear hfz19_1
             try clear hfz50_0
             try clear hfz50_1
             try clear p2
             try clear p6
             try clear q3
             try clear q30
             try clear q33
             obtain ⟨x24_4, x25_4, rfl, HA, HK4, HO_2, HO_21, HO_24, BK101, HB⟩ := hrel
             as_aux_lemma =>
              cases gk with
              | zero => exact absurd HA.out (by simp [isobathlaw02_MooringFound.l1])
              | succ k4 =>
               have H := HA.out
               clear HA
               simp only [isobathlaw02_MooringFound.l1] at H
               obtain ⟨ji51, hji51⟩ : ∃ j_ : Int, (Int.tmod (wrap64 (a3)) (l2.length : Int)) = j_ := ⟨_, rfl⟩
               replace H : (if 0 ≤ (ji51) then (if (ji51) < (l2.length : Int) then (if x25_4 < (((rd_T79 l2 (ji51)).f2).length : Int) then (if 0 ≤ x25_4 then (if (rd ((rd_T79 l2 (ji51)).f2) x25_4) < (Int.tmod (wrap64 (a4)) (wrap64 (a0_0 * a0_1))) then (if x24_4.length < 17592186044416 then (isobathlaw02_MooringFound.l1 k4 l1 l2 t111 t110 y126 (ji51) (Int.tmod (wrap64 (a4)) (wrap64 (a0_0 * a0_1))) (x24_4 ++ [rd ((rd_T79 l2 (ji51)).f2) x25_4]) (wrap64 (x25_4 + 1)) a0_0 a0_1) else (none)) else (isobathlaw02_MooringFound.l1 k4 l1 l2 t111 t110 y126 (ji51) (Int.tmod (wrap64 (a4)) (wrap64 (a0_0 * a0_1))) x24_4 (wrap64 (x25_4 + 1)) a0_0 a0_1)) else (none)) else (if x24_4.length < 17592186044416 then (isobathlaw02_MooringFound.l2 k4 l1 l2 t111 t110 y126 (ji51) (Int.tmod (wrap64 (a4)) (wrap64 (a0_0 * a0_1))) (x24_4 ++ [(Int.tmod (wrap64 (a4)) (wrap64 (a0_0 * a0_1)))]) 0 a0_0 a0_1) else (none))) else (none)) else (none)) = some r := by first | (rw [hji51] at H; exact H) | (simp only [hji51] at H ⊢; exact H)
               by_cases c52 : 0 ≤ (ji51)
               ·rw [if_pos c52] at H
                have c52b0 : decide (0 ≤ (ji51)) = true := zdt c52
                clear c52
                by_cases c53 : (ji51) < (l2.length : Int)
                ·rw [if_pos c53] at H
                 have c53b0 : decide ((ji51) < (l2.length : Int)) = true := zdt c53
                 clear c53
                 by_cases c54 : x25_4 < (((rd_T79 l2 (ji51)).f2).length : Int)
                 ·rw [if_pos c54] at H
                  have c54b0 : decide (x25_4 < (((rd_T79 l2 (ji51)).f2).length : Int)) = true := zdt c54
                  clear c54
                  by_cases c55 : 0 ≤ x25_4
                  ·rw [if_pos c55] at H
                   have c55b0 : decide (0 ≤ x25_4) = true := zdt c55
                   clear c55
                   by_cases c56 : (rd ((rd_T79 l2 (ji51)).f2) x25_4) < (Int.tmod (wrap64 (a4)) (wrap64 (a0_0 * a0_1)))
                   ·rw [if_pos c56] at H
                    have c56b0 : decide ((rd ((rd_T79 l2 (ji51)).f2) x25_4) < (Int.tmod (wrap64 (a4)) (wrap64 (a0_0 * a0_1)))) = true := zdt c56
                    clear c56
                    by_cases c57 : x24_4.length < 17592186044416
                    ·rw [if_pos c57] at H
                     have LMc57 := zam c57
                     clear c57
                     obtain ⟨y132, hy132⟩ : ∃ y_ : List Int, y_ = (x24_4 ++ [rd ((rd_T79 l2 (ji51)).f2) x25_4]) := ⟨_, rfl⟩
                     replace H : (isobathlaw02_MooringFound.l1 k4 l1 l2 t111 t110 y126 (ji51) (Int.tmod (wrap64 (a4)) (wrap64 (a0_0 * a0_1))) y132 (wrap64 (x25_4 + 1)) a0_0 a0_1) = some r := by first | (rw [hy132]; with_reducible exact H) | (have H2_ := (Option.bind_some _ _).symm.trans H; rw [hy132]; with_reducible exact H2_) | (have H2_ := (Option.bind_some _ _).symm.trans H; with_reducible exact H2_) | with_reducible exact H | (rw [hy132]; exact H) | exact H
                     have Ny132 := zam hy132
                     clear hy132
                     as_aux_lemma =>
                      have H' := zam H
                      clear H
                      have p129 : 0 ≤ ((ji51) : Int) := zod (by first | (with_reducible assumption) | assumption)
                      have q129 : (ji51) < (l2.length : Int) := zod (by first | (with_reducible assumption) | assumption)
                      obtain ⟨ad129, A129_4, c129_4, e129, hx129_0, hx129_1, hx129_2, hx129_3, hx129_4, hl129_4, hi129_4⟩ := at_T79 (Kd.V_reads' HO_2.out).2.2 (ji51) p129 q129
                      cases e129
                      obtain ⟨ce129, hce129, hMe129, hcc129⟩ := Kd.V_get HO_2.out z79 (ji51) p129 (by first | exact q129 | exact zod (by first | (with_reducible assumption) | assumption) | (have e_ := (Kd.V_reads' HO_2.out).1; omega))
                      obtain ⟨ua129_4, uc129_4, rfl, ul129_4, ge129_4⟩ := k79_openF hMe129
                      have hv129_4 := hcc129 4 _ rfl
                      rw [add_field _ _ 4 (by omega)] at hv129_4
                      replace hv129_4 := zsi (hv129_4.symm.trans hx129_4)
                      injection hv129_4 with hva_ hvn_ hvc_
                      rw [hva_] at ge129_4
                      rw [hvc_] at ul129_4
                      have HL129_4 := zam (show Kd.V (Kd.int .i64) 3 _ w.heap.size _ _ ((rd_T79 l2 (ji51)).f2) from Kd.V_mk ul129_4 ge129_4)
                      clear hva_ hvn_ hvc_ ge129_4 ul129_4
                      clear hcc129 hce129
                      have HR129_4 := zam hi129_4
                      have HC129_4 := zam hl129_4
                      clear hi129_4 hl129_4
                      replace p129 := eq_true p129
                      replace q129 := eq_true q129
                      (try (have q129x := q129; simp only [zld, zlt] at q129x))
                      have p130 : 0 ≤ ((ji51) : Int) := zod (by first | (with_reducible assumption) | assumption)
                      have q130 : (ji51) < (l2.length : Int) := zod (by first | (with_reducible assumption) | assumption)
                      obtain ⟨ad130, A130_4, c130_4, e130, hx130_0, hx130_1, hx130_2, hx130_3, hx130_4, hl130_4, hi130_4⟩ := at_T79 (Kd.V_reads' HO_2.out).2.2 (ji51) p130 q130
                      obtain rfl : ad129 = ad130 := (by injection e130)
                      obtain ⟨ce130, hce130, hMe130, hcc130⟩ := Kd.V_get HO_2.out z79 (ji51) p130 (by first | exact q130 | exact zod (by first | (with_reducible assumption) | assumption) | (have e_ := (Kd.V_reads' HO_2.out).1; omega))
                      obtain ⟨ua130_4, uc130_4, rfl, ul130_4, ge130_4⟩ := k79_openF hMe130
                      have hv130_4 := hcc130 4 _ rfl
                      rw [add_field _ _ 4 (by omega)] at hv130_4
                      replace hv130_4 := zsi (hv130_4.symm.trans hx130_4)
                      injection hv130_4 with hva_ hvn_ hvc_
                      rw [hva_] at ge130_4
                      rw [hvc_] at ul130_4
                      have HL130_4 := zam (show Kd.V (Kd.int .i64) 3 _ w.heap.size _ _ ((rd_T79 l2 (ji51)).f2) from Kd.V_mk ul130_4 ge130_4)
                      clear hva_ hvn_ hvc_ ge130_4 ul130_4
                      clear hcc130 hce130
                      have HR130_4 := zam hi130_4
                      have HC130_4 := zam hl130_4
                      clear hi130_4 hl130_4
                      replace p130 := eq_true p130
                      replace q130 := eq_true q130
                      (try (have q130x := q130; simp only [zld, zlt] at q130x))
                      have ea_ := zsi (hx129_4.symm.trans hx130_4)
                      injection ea_ with ea_ en_ ec_
                      subst ea_
                      subst ec_
                      clear en_
                      have p131 : 0 ≤ (x25_4 : Int) := zod (by first | (with_reducible assumption) | assumption)
                      have q131 : x25_4 < (((rd_T79 l2 (ji51)).f2).length : Int) := zod (by first | (with_reducible assumption) | assumption)
                      obtain ⟨ad131, e131, hx131_0⟩ := Kd.at_int (by repeat (first | (with_reducible exact HR130_4.out) | (with_reducible refine Kd.C_alloc ?_ _) | (with_reducible refine Kd.C_drewN ?_ _) | (with_reducible refine Kd.C_drew ?_) | exact HR130_4.out)) x25_4 p131 q131
                      cases e131
                      replace p131 := eq_true p131
                      replace q131 := eq_true q131
                      (try (have q131x := q131; simp only [zld, zlt] at q131x))
                      go_wp2_with (first | ((with_reducible refine gate_builtin (b := .append) (xs := #[.tmp 157, .tmp 159]) rfl ?_); (try (refine gate_guard (by rfl) ?_; dsimp only)); at_builtin; refine Kd.R_append (Kd.int .i64) (w0 := w) w.heap.size rfl (.tmp 157) (.tmp 159) 22 3 (.int .i64 0) 8 rfl Try.underlying22 info3 rfl (by decide) (by omega) u24 x24_4 (rd ((rd_T79 l2 (ji51)).f2) x25_4) [.int .i64 (rd ((rd_T79 l2 (ji51)).f2) x25_4)] (fun k_ => (w.heap.size ≤ k_)) (fun _ => False) rfl rfl ?aP (fun _ hk => hk.elim) ?aF ?aO ?aB ?aS ?aL ?_; (case aP => exact rfl); (case aB => exact (by repeat (first | (with_reducible first | exact HB.out | apply zba | apply zbn | apply zb1 | refine zbs ?_ GE101.out) | exact HB.out))); (case aF => exact (fun k_ hk => (Nat.le_trans (zbz (by repeat (first | (with_reducible first | exact HB.out | apply zba | apply zbn | apply zb1 | refine zbs ?_ GE101.out) | exact HB.out))) hk))); (case aO => exact (by (with_reducible repeat (first | apply zRa | apply zRn | apply zRd)); exact HO_24.out)); (case aS => exact (zbz (by repeat (first | (with_reducible first | exact HB.out | apply zba | apply zbn | apply zb1 | refine zbs ?_ GE101.out) | exact HB.out)))); (case aL => have := LMc57.out; omega); intro v133 w58 ho hb hg hat; rw [← Ny132.out] at ho; have n0_ := zam (Kd.V_afterv (ok := (fun k_ => (P2_ k_ ∨ w.heap.size ≤ k_) ∧ some k_ ≠ (v127 : Value).ownBlock ∧ k_ ≠ gb101)) (by (with_reducible repeat (first | apply Kd.V_alloc | apply Kd.V_drewN | apply Kd.V_drew)); exact Kd.V_mono HO_2.out (fun _ hk => ⟨⟨hk.1, ⟨hk.2.1, hk.2.2.2⟩⟩, hk.2.2.1⟩)) hg hat); have n1_ := zam (Kd.N_afterv (ok := (fun k_ => (P2_ k_ ∨ w.heap.size ≤ k_) ∧ k_ ≠ gb101)) (by (with_reducible repeat (first | apply Kd.N_alloc | apply Kd.N_drewN | apply Kd.N_drew)); exact Kd.N_mono HO_21.out (fun _ hk => ⟨⟨hk.1, hk.2.2⟩, hk.2.1⟩)) hg hat); have n2_ := zam (zkg (g := gb101) (o := .cells #[.int .i64 a0_0, .int .i64 a0_1] 72 (0, 0)) (by (with_reducible repeat (first | refine zkn ?_ _ | refine zkd ?_ | refine zka ?_ _)); exact BK101.out) hg (Kd.R_ne HO_24.out BK101.out (by decide))); have n3_ := zam (Kd.V_afterv (ok := (fun k_ => (P2_ k_ ∨ w.heap.size ≤ k_) ∧ some k_ ≠ (v127 : Value).ownBlock ∧ k_ ≠ gb101)) (by (with_reducible repeat (first | apply Kd.V_alloc | apply Kd.V_drewN | apply Kd.V_drew)); exact Kd.V_mono HL129_4.out (fun _ hk => ⟨⟨hk.1, ⟨hk.2.1, hk.2.2.2⟩⟩, hk.2.2.1⟩)) hg hat); have n4_ := zam (Kd.V_afterv (ok := (fun k_ => (P2_ k_ ∨ w.heap.size ≤ k_) ∧ some k_ ≠ (v127 : Value).ownBlock ∧ k_ ≠ gb101)) (by (with_reducible repeat (first | apply Kd.V_alloc | apply Kd.V_drewN | apply Kd.V_drew)); exact Kd.V_mono HL130_4.out (fun _ hk => ⟨⟨hk.1, ⟨hk.2.1, hk.2.2.2⟩⟩, hk.2.2.1⟩)) hg hat); have n5_ := zam (hb); have n6_ := zam (ho); clear HO_2; clear HO_21; clear BK101; clear HL129_4; clear HL130_4; clear HB; clear HO_24; have HO_2 := n0_; have HO_21 := n1_; have BK101 := n2_; have HL129_4 := n3_; have HL130_4 := n4_; have HB := n5_; have HO134 := n6_; clear n0_ n1_ n2_ n3_ n4_ n5_ n6_; clear ho hb hg hat))
                      (try subst ji51)
                      go_roundg k4
                      case measure => have := HJ5.out; have := HJ15.out; have := HJ35.out; have := HK4.out; omega
                      case rel => exact ⟨(y132), (wrap64 (x25_4 + 1)), (by first | rfl | (simp; done) | (simp [*]; done)), H', ⟨by have := HJ5.out; have := HJ15.out; have := HJ35.out; have := HK4.out; omega⟩, ⟨by (with_reducible repeat (first | apply Kd.V_alloc | apply Kd.V_drewN | apply Kd.V_drew)); exact Kd.V_mono HO_2.out (fun _ hk => ⟨hk.1.1, ⟨hk.1.2.1, ⟨hk.2, hk.1.2.2⟩⟩⟩)⟩, ⟨by (with_reducible repeat (first | apply Kd.N_alloc | apply Kd.N_drewN | apply Kd.N_drew)); exact Kd.N_mono HO_21.out (fun _ hk => ⟨hk.1.1, ⟨hk.2, hk.1.2⟩⟩)⟩, ⟨by (with_reducible repeat (first | apply zRa | apply zRn | apply zRd)); exact HO134.out⟩, ⟨by (with_reducible repeat (first | refine zkn ?_ _ | refine zkd ?_ | refine zka ?_ _)); exact BK101.out⟩, ⟨by repeat (first | (with_reducible first | exact HB.out | apply zba | apply zbn | apply zb1 | refine zbs ?_ GE101.out) | exact HB.out)⟩⟩
                    rw [if_neg c57] at H
                    exact absurd H (by simp)
                   rw [if_neg c56] at H
                   have c56b0 : decide ((rd ((rd_T79 l2 (ji51)).f2) x25_4) < (Int.tmod (wrap64 (a4)) (wrap64 (a0_0 * a0_1)))) = false := zdf c56
                   clear c56
                   as_aux_lemma =>
                    have H' := zam H
                    clear H
                    have p129 : 0 ≤ ((ji51) : Int) := zod (by first | (with_reducible assumption) | assumption)
                    have q129 : (ji51) < (l2.length : Int) := zod (by first | (with_reducible assumption) | assumption)
                    obtain ⟨ad129, A129_4, c129_4, e129, hx129_0, hx129_1, hx129_2, hx129_3, hx129_4, hl129_4, hi129_4⟩ := at_T79 (Kd.V_reads' HO_2.out).2.2 (ji51) p129 q129
                    cases e129
                    obtain ⟨ce129, hce129, hMe129, hcc129⟩ := Kd.V_get HO_2.out z79 (ji51) p129 (by first | exact q129 | exact zod (by first | (with_reducible assumption) | assumption) | (have e_ := (Kd.V_reads' HO_2.out).1; omega))
                    obtain ⟨ua129_4, uc129_4, rfl, ul129_4, ge129_4⟩ := k79_openF hMe129
                    have hv129_4 := hcc129 4 _ rfl
                    rw [add_field _ _ 4 (by omega)] at hv129_4
                    replace hv129_4 := zsi (hv129_4.symm.trans hx129_4)
                    injection hv129_4 with hva_ hvn_ hvc_
                    rw [hva_] at ge129_4
                    rw [hvc_] at ul129_4
                    have HL129_4 := zam (show Kd.V (Kd.int .i64) 3 _ w.heap.size _ _ ((rd_T79 l2 (ji51)).f2) from Kd.V_mk ul129_4 ge129_4)
                    clear hva_ hvn_ hvc_ ge129_4 ul129_4
                    clear hcc129 hce129
                    have HR129_4 := zam hi129_4
                    have HC129_4 := zam hl129_4
                    clear hi129_4 hl129_4
                    replace p129 := eq_true p129
                    replace q129 := eq_true q129
                    (try (have q129x := q129; simp only [zld, zlt] at q129x))
                    have p130 : 0 ≤ ((ji51) : Int) := zod (by first | (with_reducible assumption) | assumption)
                    have q130 : (ji51) < (l2.length : Int) := zod (by first | (with_reducible assumption) | assumption)
                    obtain ⟨ad130, A130_4, c130_4, e130, hx130_0, hx130_1, hx130_2, hx130_3, hx130_4, hl130_4, hi130_4⟩ := at_T79 (Kd.V_reads' HO_2.out).2.2 (ji51) p130 q130
                    obtain rfl : ad129 = ad130 := (by injection e130)
                    obtain ⟨ce130, hce130, hMe130, hcc130⟩ := Kd.V_get HO_2.out z79 (ji51) p130 (by first | exact q130 | exact zod (by first | (with_reducible assumption) | assumption) | (have e_ := (Kd.V_reads' HO_2.out).1; omega))
                    obtain ⟨ua130_4, uc130_4, rfl, ul130_4, ge130_4⟩ := k79_openF hMe130
                    have hv130_4 := hcc130 4 _ rfl
                    rw [add_field _ _ 4 (by omega)] at hv130_4
                    replace hv130_4 := zsi (hv130_4.symm.trans hx130_4)
                    injection hv130_4 with hva_ hvn_ hvc_
                    rw [hva_] at ge130_4
                    rw [hvc_] at ul130_4
                    have HL130_4 := zam (show Kd.V (Kd.int .i64) 3 _ w.heap.size _ _ ((rd_T79 l2 (ji51)).f2) from Kd.V_mk ul130_4 ge130_4)
                    clear hva_ hvn_ hvc_ ge130_4 ul130_4
                    clear hcc130 hce130
                    have HR130_4 := zam hi130_4
                    have HC130_4 := zam hl130_4
                    clear hi130_4 hl130_4
                    replace p130 := eq_true p130
                    replace q130 := eq_true q130
                    (try (have q130x := q130; simp only [zld, zlt] at q130x))
                    have ea_ := zsi (hx129_4.symm.trans hx130_4)
                    injection ea_ with ea_ en_ ec_
                    subst ea_
                    subst ec_
                    clear en_
                    have p131 : 0 ≤ (x25_4 : Int) := zod (by first | (with_reducible assumption) | assumption)
                    have q131 : x25_4 < (((rd_T79 l2 (ji51)).f2).length : Int) := zod (by first | (with_reducible assumption) | assumption)
                    obtain ⟨ad131, e131, hx131_0⟩ := Kd.at_int (by repeat (first | (with_reducible exact HR130_4.out) | (with_reducible refine Kd.C_alloc ?_ _) | (with_reducible refine Kd.C_drewN ?_ _) | (with_reducible refine Kd.C_drew ?_) | exact HR130_4.out)) x25_4 p131 q131
                    cases e131
                    replace p131 := eq_true p131
                    replace q131 := eq_true q131
                    (try (have q131x := q131; simp only [zld, zlt] at q131x))
                    go_wp2
                    (try subst ji51)
                    go_roundg k4
                    case measure => have := HJ5.out; have := HJ15.out; have := HJ35.out; have := HK4.out; omega
                    case rel => exact ⟨(x24_4), (wrap64 (x25_4 + 1)), (by first | rfl | (simp; done) | (simp [*]; done)), H', ⟨by have := HJ5.out; have := HJ15.out; have := HJ35.out; have := HK4.out; omega⟩, ⟨by (with_reducible repeat (first | apply Kd.V_alloc | apply Kd.V_drewN | apply Kd.V_drew)); exact HO_2.out⟩, ⟨by (with_reducible repeat (first | apply Kd.N_alloc | apply Kd.N_drewN | apply Kd.N_drew)); exact HO_21.out⟩, ⟨by (with_reducible repeat (first | apply zRa | apply zRn | apply zRd)); exact HO_24.out⟩, ⟨by (with_reducible repeat (first | refine zkn ?_ _ | refine zkd ?_ | refine zka ?_ _)); exact BK101.out⟩, ⟨by repeat (first | (with_reducible first | exact HB.out | apply zba | apply zbn | apply zb1 | refine zbs ?_ GE101.out) | exact HB.out)⟩⟩
                  rw [if_neg c55] at H
                  exact absurd H (by simp)
                 rw [if_neg c54] at H
                 have c54b0 : decide (x25_4 < (((rd_T79 l2 (ji51)).f2).length : Int)) = false := zdf c54
                 clear c54
                 by_cases c59 : x24_4.length < 17592186044416
                 ·rw [if_pos c59] at H
                  have LMc59 := zam c59
                  clear c59
                  obtain ⟨y135, hy135⟩ : ∃ y_ : List Int, y_ = (x24_4 ++ [(Int.tmod (wrap64 (a4)) (wrap64 (a0_0 * a0_1)))]) := ⟨_, rfl⟩
                  replace H : (isobathlaw02_MooringFound.l2 k4 l1 l2 t111 t110 y126 (ji51) (Int.tmod (wrap64 (a4)) (wrap64 (a0_0 * a0_1))) y135 0 a0_0 a0_1) = some r := by first | (rw [hy135]; with_reducible exact H) | (have H2_ := (Option.bind_some _ _).symm.trans H; rw [hy135]; with_reducible exact H2_) | (have H2_ := (Option.bind_some _ _).symm.trans H; with_reducible exact H2_) | with_reducible exact H | (rw [hy135]; exact H) | exact H
                  have Ny135 := zam hy135
                  clear hy135
                  have H' := zam H
                  clear H
                  have p129 : 0 ≤ ((ji51) : Int) := zod (by first | (with_reducible assumption) | assumption)
                  have q129 : (ji51) < (l2.length : Int) := zod (by first | (with_reducible assumption) | assumption)
                  obtain ⟨ad129, A129_4, c129_4, e129, hx129_0, hx129_1, hx129_2, hx129_3, hx129_4, hl129_4, hi129_4⟩ := at_T79 (Kd.V_reads' HO_2.out).2.2 (ji51) p129 q129
                  cases e129
                  obtain ⟨ce129, hce129, hMe129, hcc129⟩ := Kd.V_get HO_2.out z79 (ji51) p129 (by first | exact q129 | exact zod (by first | (with_reducible assumption) | assumption) | (have e_ := (Kd.V_reads' HO_2.out).1; omega))
                  obtain ⟨ua129_4, uc129_4, rfl, ul129_4, ge129_4⟩ := k79_openF hMe129
                  have hv129_4 := hcc129 4 _ rfl
                  rw [add_field _ _ 4 (by omega)] at hv129_4
                  replace hv129_4 := zsi (hv129_4.symm.trans hx129_4)
                  injection hv129_4 with hva_ hvn_ hvc_
                  rw [hva_] at ge129_4
                  rw [hvc_] at ul129_4
                  have HL129_4 := zam (show Kd.V (Kd.int .i64) 3 _ w.heap.size _ _ ((rd_T79 l2 (ji51)).f2) from Kd.V_mk ul129_4 ge129_4)
                  clear hva_ hvn_ hvc_ ge129_4 ul129_4
                  clear hcc129 hce129
                  have HR129_4 := zam hi129_4
                  have HC129_4 := zam hl129_4
                  clear hi129_4 hl129_4
                  replace p129 := eq_true p129
                  replace q129 := eq_true q129
                  (try (have q129x := q129; simp only [zld, zlt] at q129x))
                  go_wp2_with (first | ((with_reducible refine gate_builtin (b := .append) (xs := #[.tmp 161, .tmp 163]) rfl ?_); (try (refine gate_guard (by rfl) ?_; dsimp only)); at_builtin; refine Kd.R_append (Kd.int .i64) (w0 := w) w.heap.size rfl (.tmp 161) (.tmp 163) 22 3 (.int .i64 0) 8 rfl Try.underlying22 info3 rfl (by decide) (by omega) u24 x24_4 (Int.tmod (wrap64 (a4)) (wrap64 (a0_0 * a0_1))) [.int .i64 (Int.tmod (wrap64 (a4)) (wrap64 (a0_0 * a0_1)))] (fun k_ => (w.heap.size ≤ k_)) (fun _ => False) rfl rfl ?aP (fun _ hk => hk.elim) ?aF ?aO ?aB ?aS ?aL ?_; (case aP => exact rfl); (case aB => exact (by repeat (first | (with_reducible first | exact HB.out | apply zba | apply zbn | apply zb1 | refine zbs ?_ GE101.out) | exact HB.out))); (case aF => exact (fun k_ hk => (Nat.le_trans (zbz (by repeat (first | (with_reducible first | exact HB.out | apply zba | apply zbn | apply zb1 | refine zbs ?_ GE101.out) | exact HB.out))) hk))); (case aO => exact (by (with_reducible repeat (first | apply zRa | apply zRn | apply zRd)); exact HO_24.out)); (case aS => exact (zbz (by repeat (first | (with_reducible first | exact HB.out | apply zba | apply zbn | apply zb1 | refine zbs ?_ GE101.out) | exact HB.out)))); (case aL => have := LMc59.out; omega); intro v136 w60 ho hb hg hat; rw [← Ny135.out] at ho; have n0_ := zam (Kd.V_afterv (ok := (fun k_ => (P2_ k_ ∨ w.heap.size ≤ k_) ∧ some k_ ≠ (v127 : Value).ownBlock ∧ k_ ≠ gb101)) (by (with_reducible repeat (first | apply Kd.V_alloc | apply Kd.V_drewN | apply Kd.V_drew)); exact Kd.V_mono HO_2.out (fun _ hk => ⟨⟨hk.1, ⟨hk.2.1, hk.2.2.2⟩⟩, hk.2.2.1⟩)) hg hat); have n1_ := zam (Kd.N_afterv (ok := (fun k_ => (P2_ k_ ∨ w.heap.size ≤ k_) ∧ k_ ≠ gb101)) (by (with_reducible repeat (first | apply Kd.N_alloc | apply Kd.N_drewN | apply Kd.N_drew)); exact Kd.N_mono HO_21.out (fun _ hk => ⟨⟨hk.1, hk.2.2⟩, hk.2.1⟩)) hg hat); have n2_ := zam (zkg (g := gb101) (o := .cells #[.int .i64 a0_0, .int .i64 a0_1] 72 (0, 0)) (by (with_reducible repeat (first | refine zkn ?_ _ | refine zkd ?_ | refine zka ?_ _)); exact BK101.out) hg (Kd.R_ne HO_24.out BK101.out (by decide))); have n3_ := zam (Kd.V_afterv (ok := (fun k_ => (P2_ k_ ∨ w.heap.size ≤ k_) ∧ some k_ ≠ (v127 : Value).ownBlock ∧ k_ ≠ gb101)) (by (with_reducible repeat (first | apply Kd.V_alloc | apply Kd.V_drewN | apply Kd.V_drew)); exact Kd.V_mono HL129_4.out (fun _ hk => ⟨⟨hk.1, ⟨hk.2.1, hk.2.2.2⟩⟩, hk.2.2.1⟩)) hg hat); have n4_ := zam (hb); have n5_ := zam (ho); clear HO_2; clear HO_21; clear BK101; clear HL129_4; clear HB; clear HO_24; have HO_2 := n0_; have HO_21 := n1_; have BK101 := n2_; have HL129_4 := n3_; have HB := n4_; have HO137 := n5_; clear n0_ n1_ n2_ n3_ n4_ n5_; clear ho hb hg hat))
                  go_loopg [24, 27] k4 (fun kq v24 v27 w' => ∃ (x24_5 : List Int) (x27_5 : Int), v27 = .int .i64 x27_5 ∧ Aside0 (isobathlaw02_MooringFound.l2 kq l1 l2 t111 t110 y126 (ji51) (Int.tmod (wrap64 (a4)) (wrap64 (a0_0 * a0_1))) x24_5 x27_5 a0_0 a0_1 = some r) ∧ Aside0 (kq ≤ k4) ∧ Aside0 (Kd.V k79 79 w' w.heap.size (fun k_ => (P2_ k_ ∨ w.heap.size ≤ k_) ∧ some k_ ≠ (v127 : Value).ownBlock ∧ some k_ ≠ (v24 : Value).ownBlock ∧ k_ ≠ gb101) (.slice (some ad129) l2.length c2) l2) ∧ Aside0 (Kd.N k79 79 w' w.heap.size (fun k_ => (P2_ k_ ∨ w.heap.size ≤ k_) ∧ some k_ ≠ (v24 : Value).ownBlock ∧ k_ ≠ gb101) v127 y126) ∧ Aside0 (Kd.R (Kd.int .i64) 3 w' w.heap.size (fun k_ => (w.heap.size ≤ k_)) v24 x24_5) ∧ Aside0 (w'.heap[gb101]? = some (.cells #[.int .i64 a0_0, .int .i64 a0_1] 72 (0, 0))) ∧ Aside0 (Below w.heap.size w w'))
                  case atStart => exact ⟨(y135), (0), (by first | rfl | (simp; done) | (simp [*]; done)), H', ⟨Nat.le_refl _⟩, ⟨by (with_reducible repeat (first | apply Kd.V_alloc | apply Kd.V_drewN | apply Kd.V_drew)); exact Kd.V_mono HO_2.out (fun _ hk => ⟨hk.1.1, ⟨hk.1.2.1, ⟨hk.2, hk.1.2.2⟩⟩⟩)⟩, ⟨by (with_reducible repeat (first | apply Kd.N_alloc | apply Kd.N_drewN | apply Kd.N_drew)); exact Kd.N_mono HO_21.out (fun _ hk => ⟨hk.1.1, ⟨hk.2, hk.1.2⟩⟩)⟩, ⟨by (with_reducible repeat (first | apply zRa | apply zRn | apply zRd)); exact HO137.out⟩, ⟨by (with_reducible repeat (first | refine zkn ?_ _ | refine zkd ?_ | refine zka ?_ _)); exact BK101.out⟩, ⟨by repeat (first | (with_reducible first | exact HB.out | apply zba | apply zbn | apply zb1 | refine zbs ?_ GE101.out) | exact HB.out)⟩⟩
                  case round =>
                   clear H'
                   try clear c1
                   try clear p1
                   try clear q1
                   try clear hx1
                   try clear c2
                   try clear p2
                   try clear c3
                   try clear q3
                   try clear c4
                   try clear c5
                   try clear p6
                   try clear c9
                   try clear c10
                   try clear c12
                   try clear p12
                   try clear q12
                   try clear hx12
                   try clear c13
                   try clear p13
                   try clear q13
                   try clear hx13
                   try clear c14
                   try clear c14b0
                   try clear c14b1
                   try clear c22
                   try clear c22b0
                   try clear c23
                   try clear c24
                   try clear c24b0
                   try clear c24b1
                   try clear c25
                   try clear c25b0
                   try clear c25b1
                   try clear c27
                   try clear c27b0
                   try clear c27b1
                   try clear c28
                   try clear q30
                   try clear q33
                   try clear c37
                   try clear c37b0
                   try clear c37b1
                   try clear c37b2
                   try clear c38
                   try clear c39
                   try clear c39b0
                   try clear c39b1
                   try clear c40
                   try clear c40b0
                   try clear c40b1
                   try clear c41
                   try clear c42
                   try clear c42b0
                   try clear c42b1
                   try clear c42b2
                   try clear c45
                   try clear c46
                   try clear c46b0
                   try clear c46b1
                   try clear c48
                   try clear c52
                   try clear c52b0
                   try clear c53
                   try clear c53b0
                   try clear c54
                   try clear c54b0
                   try clear c55
                   try clear c55b0
                   try clear c56
                   try clear c56b0
                   try clear c57
                   try clear c59
                   try clear hcz17_0
                   try clear hcz17_1
                   try clear hcz19_0
                   try clear hcz19_1
                   try clear hcz50_0
                   try clear hcz50_1
                   try clear hfz17_0
                   try clear hfz17_1
                   try clear hfz19_0
                   try clear hfz19_1
                   try clear hfz50_0
                   try clear hfz50_1
                   try clear hx129_0
                   try clear hx129_1
                   try clear hx129_2
                   try clear hx129_3
                   try clear hx129_4
                   try clear hx130_0
                   try clear hx130_1
                   try clear hx130_2
                   try clear hx130_3
                   try clear hx130_4
                   try clear hx131_0
                   try clear p129
                   try clear p130
                   try clear p131
                   try clear p2
                   try clear p6
                   try clear q129
                   try clear q130
                   try clear q131
                   try clear q3
                   try clear q30
                   try clear q33
                   obtain ⟨x24_5, x27_5, rfl, HA, HK5, HO_2, HO_21, HO_24, BK101, HB⟩ := hrel
                   as_aux_lemma =>
                    cases gk with
                    | zero => exact absurd HA.out (by simp [isobathlaw02_MooringFound.l2])
                    | succ k5 =>
                     have H := HA.out
                     clear HA
                     simp only [isobathlaw02_MooringFound.l2] at H
                     by_cases c61 : 0 ≤ (ji51)
                     ·rw [if_pos c61] at H
                      have c61b0 : decide (0 ≤ (ji51)) = true := zdt c61
                      clear c61
                      by_cases c62 : (ji51) < (l2.length : Int)
                      ·rw [if_pos c62] at H
                       have c62b0 : decide ((ji51) < (l2.length : Int)) = true := zdt c62
                       clear c62
                       by_cases c63 : x27_5 < (((rd_T79 l2 (ji51)).f2).length : Int)
                       ·rw [if_pos c63] at H
                        have c63b0 : decide (x27_5 < (((rd_T79 l2 (ji51)).f2).length : Int)) = true := zdt c63
                        clear c63
                        by_cases c64 : 0 ≤ x27_5
                        ·rw [if_pos c64] at H
                         have c64b0 : decide (0 ≤ x27_5) = true := zdt c64
                         clear c64
                         by_cases c65 : (rd ((rd_T79 l2 (ji51)).f2) x27_5) > (Int.tmod (wrap64 (a4)) (wrap64 (a0_0 * a0_1)))
                         ·rw [if_pos c65] at H
                          have c65b0 : decide ((Int.tmod (wrap64 (a4)) (wrap64 (a0_0 * a0_1))) < (rd ((rd_T79 l2 (ji51)).f2) x27_5)) = true := zdt c65
                          clear c65
                          by_cases c66 : x24_5.length < 17592186044416
                          ·rw [if_pos c66] at H
                           have LMc66 := zam c66
                           clear c66
                           obtain ⟨y141, hy141⟩ : ∃ y_ : List Int, y_ = (x24_5 ++ [rd ((rd_T79 l2 (ji51)).f2) x27_5]) := ⟨_, rfl⟩
                           replace H : (isobathlaw02_MooringFound.l2 k5 l1 l2 t111 t110 y126 (ji51) (Int.tmod (wrap64 (a4)) (wrap64 (a0_0 * a0_1))) y141 (wrap64 (x27_5 + 1)) a0_0 a0_1) = some r := by first | (rw [hy141]; with_reducible exact H) | (have H2_ := (Option.bind_some _ _).symm.trans H; rw [hy141]; with_reducible exact H2_) | (have H2_ := (Option.bind_some _ _).symm.trans H; with_reducible exact H2_) | with_reducible exact H | (rw [hy141]; exact H) | exact H
                           have Ny141 := zam hy141
                           clear hy141
                           as_aux_lemma =>
                            have H' := zam H
                            clear H
                            have p138 : 0 ≤ ((ji51) : Int) := zod (by first | (with_reducible assumption) | assumption)
                            have q138 : (ji51) < (l2.length : Int) := zod (by first | (with_reducible assumption) | assumption)
                            obtain ⟨ad138, A138_4, c138_4, e138, hx138_0, hx138_1, hx138_2, hx138_3, hx138_4, hl138_4, hi138_4⟩ := at_T79 (Kd.V_reads' HO_2.out).2.2 (ji51) p138 q138
                            obtain rfl : ad129 = ad138 := (by injection e138)
                            obtain ⟨ce138, hce138, hMe138, hcc138⟩ := Kd.V_get HO_2.out z79 (ji51) p138 (by first | exact q138 | exact zod (by first | (with_reducible assumption) | assumption) | (have e_ := (Kd.V_reads' HO_2.out).1; omega))
                            obtain ⟨ua138_4, uc138_4, rfl, ul138_4, ge138_4⟩ := k79_openF hMe138
                            have hv138_4 := hcc138 4 _ rfl
                            rw [add_field _ _ 4 (by omega)] at hv138_4
                            replace hv138_4 := zsi (hv138_4.symm.trans hx138_4)
                            injection hv138_4 with hva_ hvn_ hvc_
                            rw [hva_] at ge138_4
                            rw [hvc_] at ul138_4
                            have HL138_4 := zam (show Kd.V (Kd.int .i64) 3 _ w.heap.size _ _ ((rd_T79 l2 (ji51)).f2) from Kd.V_mk ul138_4 ge138_4)
                            clear hva_ hvn_ hvc_ ge138_4 ul138_4
                            clear hcc138 hce138
                            have HR138_4 := zam hi138_4
                            have HC138_4 := zam hl138_4
                            clear hi138_4 hl138_4
                            replace p138 := eq_true p138
                            replace q138 := eq_true q138
                            (try (have q138x := q138; simp only [zld, zlt] at q138x))
                            have p139 : 0 ≤ ((ji51) : Int) := zod (by first | (with_reducible assumption) | assumption)
                            have q139 : (ji51) < (l2.length : Int) := zod (by first | (with_reducible assumption) | assumption)
                            obtain ⟨ad139, A139_4, c139_4, e139, hx139_0, hx139_1, hx139_2, hx139_3, hx139_4, hl139_4, hi139_4⟩ := at_T79 (Kd.V_reads' HO_2.out).2.2 (ji51) p139 q139
                            obtain rfl : ad129 = ad139 := (by injection e139)
                            obtain ⟨ce139, hce139, hMe139, hcc139⟩ := Kd.V_get HO_2.out z79 (ji51) p139 (by first | exact q139 | exact zod (by first | (with_reducible assumption) | assumption) | (have e_ := (Kd.V_reads' HO_2.out).1; omega))
                            obtain ⟨ua139_4, uc139_4, rfl, ul139_4, ge139_4⟩ := k79_openF hMe139
                            have hv139_4 := hcc139 4 _ rfl
                            rw [add_field _ _ 4 (by omega)] at hv139_4
                            replace hv139_4 := zsi (hv139_4.symm.trans hx139_4)
                            injection hv139_4 with hva_ hvn_ hvc_
                            rw [hva_] at ge139_4
                            rw [hvc_] at ul139_4
                            have HL139_4 := zam (show Kd.V (Kd.int .i64) 3 _ w.heap.size _ _ ((rd_T79 l2 (ji51)).f2) from Kd.V_mk ul139_4 ge139_4)
                            clear hva_ hvn_ hvc_ ge139_4 ul139_4
                            clear hcc139 hce139
                            have HR139_4 := zam hi139_4
                            have HC139_4 := zam hl139_4
                            clear hi139_4 hl139_4
                            replace p139 := eq_true p139
                            replace q139 := eq_true q139
                            (try (have q139x := q139; simp only [zld, zlt] at q139x))
                            have ea_ := zsi (hx138_4.symm.trans hx139_4)
                            injection ea_ with ea_ en_ ec_
                            subst ea_
                            subst ec_
                            clear en_
                            have p140 : 0 ≤ (x27_5 : Int) := zod (by first | (with_reducible assumption) | assumption)
                            have q140 : x27_5 < (((rd_T79 l2 (ji51)).f2).length : Int) := zod (by first | (with_reducible assumption) | assumption)
                            obtain ⟨ad140, e140, hx140_0⟩ := Kd.at_int (by repeat (first | (with_reducible exact HR139_4.out) | (with_reducible refine Kd.C_alloc ?_ _) | (with_reducible refine Kd.C_drewN ?_ _) | (with_reducible refine Kd.C_drew ?_) | exact HR139_4.out)) x27_5 p140 q140
                            cases e140
                            replace p140 := eq_true p140
                            replace q140 := eq_true q140
                            (try (have q140x := q140; simp only [zld, zlt] at q140x))
                            go_wp2_with (first | ((with_reducible refine gate_builtin (b := .append) (xs := #[.tmp 186, .tmp 188]) rfl ?_); (try (refine gate_guard (by rfl) ?_; dsimp only)); at_builtin; refine Kd.R_append (Kd.int .i64) (w0 := w) w.heap.size rfl (.tmp 186) (.tmp 188) 22 3 (.int .i64 0) 8 rfl Try.underlying22 info3 rfl (by decide) (by omega) u24 x24_5 (rd ((rd_T79 l2 (ji51)).f2) x27_5) [.int .i64 (rd ((rd_T79 l2 (ji51)).f2) x27_5)] (fun k_ => (w.heap.size ≤ k_)) (fun _ => False) rfl rfl ?aP (fun _ hk => hk.elim) ?aF ?aO ?aB ?aS ?aL ?_; (case aP => exact rfl); (case aB => exact (by repeat (first | (with_reducible first | exact HB.out | apply zba | apply zbn | apply zb1 | refine zbs ?_ GE101.out) | exact HB.out))); (case aF => exact (fun k_ hk => (Nat.le_trans (zbz (by repeat (first | (with_reducible first | exact HB.out | apply zba | apply zbn | apply zb1 | refine zbs ?_ GE101.out) | exact HB.out))) hk))); (case aO => exact (by (with_reducible repeat (first | apply zRa | apply zRn | apply zRd)); exact HO_24.out)); (case aS => exact (zbz (by repeat (first | (with_reducible first | exact HB.out | apply zba | apply zbn | apply zb1 | refine zbs ?_ GE101.out) | exact HB.out)))); (case aL => have := LMc66.out; omega); intro v142 w67 ho hb hg hat; rw [← Ny141.out] at ho; have n0_ := zam (Kd.V_afterv (ok := (fun k_ => (P2_ k_ ∨ w.heap.size ≤ k_) ∧ some k_ ≠ (v127 : Value).ownBlock ∧ k_ ≠ gb101)) (by (with_reducible repeat (first | apply Kd.V_alloc | apply Kd.V_drewN | apply Kd.V_drew)); exact Kd.V_mono HO_2.out (fun _ hk => ⟨⟨hk.1, ⟨hk.2.1, hk.2.2.2⟩⟩, hk.2.2.1⟩)) hg hat); have n1_ := zam (Kd.N_afterv (ok := (fun k_ => (P2_ k_ ∨ w.heap.size ≤ k_) ∧ k_ ≠ gb101)) (by (with_reducible repeat (first | apply Kd.N_alloc | apply Kd.N_drewN | apply Kd.N_drew)); exact Kd.N_mono HO_21.out (fun _ hk => ⟨⟨hk.1, hk.2.2⟩, hk.2.1⟩)) hg hat); have n2_ := zam (zkg (g := gb101) (o := .cells #[.int .i64 a0_0, .int .i64 a0_1] 72 (0, 0)) (by (with_reducible repeat (first | refine zkn ?_ _ | refine zkd ?_ | refine zka ?_ _)); exact BK101.out) hg (Kd.R_ne HO_24.out BK101.out (by decide))); have n3_ := zam (Kd.V_afterv (ok := (fun k_ => (P2_ k_ ∨ w.heap.size ≤ k_) ∧ some k_ ≠ (v127 : Value).ownBlock ∧ k_ ≠ gb101)) (by (with_reducible repeat (first | apply Kd.V_alloc | apply Kd.V_drewN | apply Kd.V_drew)); exact Kd.V_mono HL138_4.out (fun _ hk => ⟨⟨hk.1, ⟨hk.2.1, hk.2.2.2⟩⟩, hk.2.2.1⟩)) hg hat); have n4_ := zam (Kd.V_afterv (ok := (fun k_ => (P2_ k_ ∨ w.heap.size ≤ k_) ∧ some k_ ≠ (v127 : Value).ownBlock ∧ k_ ≠ gb101)) (by (with_reducible repeat (first | apply Kd.V_alloc | apply Kd.V_drewN | apply Kd.V_drew)); exact Kd.V_mono HL139_4.out (fun _ hk => ⟨⟨hk.1, ⟨hk.2.1, hk.2.2.2⟩⟩, hk.2.2.1⟩)) hg hat); have n5_ := zam (hb); have n6_ := zam (ho); clear HO_2; clear HO_21; clear BK101; clear HL138_4; clear HL139_4; clear HB; clear HO_24; have HO_2 := n0_; have HO_21 := n1_; have BK101 := n2_; have HL138_4 := n3_; have HL139_4 := n4_; have HB := n5_; have HO143 := n6_; clear n0_ n1_ n2_ n3_ n4_ n5_ n6_; clear ho hb hg hat))
                            go_roundg k5
                            case measure => have := HJ5.out; have := HJ15.out; have := HJ35.out; have := HK4.out; have := HK5.out; omega
                            case rel => exact ⟨(y141), (wrap64 (x27_5 + 1)), (by first | rfl | (simp; done) | (simp [*]; done)), H', ⟨by have := HJ5.out; have := HJ15.out; have := HJ35.out; have := HK4.out; have := HK5.out; omega⟩, ⟨by (with_reducible repeat (first | apply Kd.V_alloc | apply Kd.V_drewN | apply Kd.V_drew)); exact Kd.V_mono HO_2.out (fun _ hk => ⟨hk.1.1, ⟨hk.1.2.1, ⟨hk.2, hk.1.2.2⟩⟩⟩)⟩, ⟨by (with_reducible repeat (first | apply Kd.N_alloc | apply Kd.N_drewN | apply Kd.N_drew)); exact Kd.N_mono HO_21.out (fun _ hk => ⟨hk.1.1, ⟨hk.2, hk.1.2⟩⟩)⟩, ⟨by (with_reducible repeat (first | apply zRa | apply zRn | apply zRd)); exact HO143.out⟩, ⟨by (with_reducible repeat (first | refine zkn ?_ _ | refine zkd ?_ | refine zka ?_ _)); exact BK101.out⟩, ⟨by repeat (first | (with_reducible first | exact HB.out | apply zba | apply zbn | apply zb1 | refine zbs ?_ GE101.out) | exact HB.out)⟩⟩
                          rw [if_neg c66] at H
                          exact absurd H (by simp)
                         rw [if_neg c65] at H
                         have c65b0 : decide ((Int.tmod (wrap64 (a4)) (wrap64 (a0_0 * a0_1))) < (rd ((rd_T79 l2 (ji51)).f2) x27_5)) = false := zdf c65
                         clear c65
                         as_aux_lemma =>
                          have H' := zam H
                          clear H
                          have p138 : 0 ≤ ((ji51) : Int) := zod (by first | (with_reducible assumption) | assumption)
                          have q138 : (ji51) < (l2.length : Int) := zod (by first | (with_reducible assumption) | assumption)
                          obtain ⟨ad138, A138_4, c138_4, e138, hx138_0, hx138_1, hx138_2, hx138_3, hx138_4, hl138_4, hi138_4⟩ := at_T79 (Kd.V_reads' HO_2.out).2.2 (ji51) p138 q138
                          obtain rfl : ad129 = ad138 := (by injection e138)
                          obtain ⟨ce138, hce138, hMe138, hcc138⟩ := Kd.V_get HO_2.out z79 (ji51) p138 (by first | exact q138 | exact zod (by first | (with_reducible assumption) | assumption) | (have e_ := (Kd.V_reads' HO_2.out).1; omega))
                          obtain ⟨ua138_4, uc138_4, rfl, ul138_4, ge138_4⟩ := k79_openF hMe138
                          have hv138_4 := hcc138 4 _ rfl
                          rw [add_field _ _ 4 (by omega)] at hv138_4
                          replace hv138_4 := zsi (hv138_4.symm.trans hx138_4)
                          injection hv138_4 with hva_ hvn_ hvc_
                          rw [hva_] at ge138_4
                          rw [hvc_] at ul138_4
                          have HL138_4 := zam (show Kd.V (Kd.int .i64) 3 _ w.heap.size _ _ ((rd_T79 l2 (ji51)).f2) from Kd.V_mk ul138_4 ge138_4)
                          clear hva_ hvn_ hvc_ ge138_4 ul138_4
                          clear hcc138 hce138
                          have HR138_4 := zam hi138_4
                          have HC138_4 := zam hl138_4
                          clear hi138_4 hl138_4
                          replace p138 := eq_true p138
                          replace q138 := eq_true q138
                          (try (have q138x := q138; simp only [zld, zlt] at q138x))
                          have p139 : 0 ≤ ((ji51) : Int) := zod (by first | (with_reducible assumption) | assumption)
                          have q139 : (ji51) < (l2.length : Int) := zod (by first | (with_reducible assumption) | assumption)
                          obtain ⟨ad139, A139_4, c139_4, e139, hx139_0, hx139_1, hx139_2, hx139_3, hx139_4, hl139_4, hi139_4⟩ := at_T79 (Kd.V_reads' HO_2.out).2.2 (ji51) p139 q139
                          obtain rfl : ad129 = ad139 := (by injection e139)
                          obtain ⟨ce139, hce139, hMe139, hcc139⟩ := Kd.V_get HO_2.out z79 (ji51) p139 (by first | exact q139 | exact zod (by first | (with_reducible assumption) | assumption) | (have e_ := (Kd.V_reads' HO_2.out).1; omega))
                          obtain ⟨ua139_4, uc139_4, rfl, ul139_4, ge139_4⟩ := k79_openF hMe139
                          have hv139_4 := hcc139 4 _ rfl
                          rw [add_field _ _ 4 (by omega)] at hv139_4
                          replace hv139_4 := zsi (hv139_4.symm.trans hx139_4)
                          injection hv139_4 with hva_ hvn_ hvc_
                          rw [hva_] at ge139_4
                          rw [hvc_] at ul139_4
                          have HL139_4 := zam (show Kd.V (Kd.int .i64) 3 _ w.heap.size _ _ ((rd_T79 l2 (ji51)).f2) from Kd.V_mk ul139_4 ge139_4)
                          clear hva_ hvn_ hvc_ ge139_4 ul139_4
                          clear hcc139 hce139
                          have HR139_4 := zam hi139_4
                          have HC139_4 := zam hl139_4
                          clear hi139_4 hl139_4
                          replace p139 := eq_true p139
                          replace q139 := eq_true q139
                          (try (have q139x := q139; simp only [zld, zlt] at q139x))
                          have ea_ := zsi (hx138_4.symm.trans hx139_4)
                          injection ea_ with ea_ en_ ec_
                          subst ea_
                          subst ec_
                          clear en_
                          have p140 : 0 ≤ (x27_5 : Int) := zod (by first | (with_reducible assumption) | assumption)
                          have q140 : x27_5 < (((rd_T79 l2 (ji51)).f2).length : Int) := zod (by first | (with_reducible assumption) | assumption)
                          obtain ⟨ad140, e140, hx140_0⟩ := Kd.at_int (by repeat (first | (with_reducible exact HR139_4.out) | (with_reducible refine Kd.C_alloc ?_ _) | (with_reducible refine Kd.C_drewN ?_ _) | (with_reducible refine Kd.C_drew ?_) | exact HR139_4.out)) x27_5 p140 q140
                          cases e140
                          replace p140 := eq_true p140
                          replace q140 := eq_true q140
                          (try (have q140x := q140; simp only [zld, zlt] at q140x))
                          go_wp2
                          go_roundg k5
                          case measure => have := HJ5.out; have := HJ15.out; have := HJ35.out; have := HK4.out; have := HK5.out; omega
                          case rel => exact ⟨(x24_5), (wrap64 (x27_5 + 1)), (by first | rfl | (simp; done) | (simp [*]; done)), H', ⟨by have := HJ5.out; have := HJ15.out; have := HJ35.out; have := HK4.out; have := HK5.out; omega⟩, ⟨by (with_reducible repeat (first | apply Kd.V_alloc | apply Kd.V_drewN | apply Kd.V_drew)); exact HO_2.out⟩, ⟨by (with_reducible repeat (first | apply Kd.N_alloc | apply Kd.N_drewN | apply Kd.N_drew)); exact HO_21.out⟩, ⟨by (with_reducible repeat (first | apply zRa | apply zRn | apply zRd)); exact HO_24.out⟩, ⟨by (with_reducible repeat (first | refine zkn ?_ _ | refine zkd ?_ | refine zka ?_ _)); exact BK101.out⟩, ⟨by repeat (first | (with_reducible first | exact HB.out | apply zba | apply zbn | apply zb1 | refine zbs ?_ GE101.out) | exact HB.out)⟩⟩
                        rw [if_neg c64] at H
                        exact absurd H (by simp)
                       rw [if_neg c63] at H
                       have c63b0 : decide (x27_5 < (((rd_T79 l2 (ji51)).f2).length : Int)) = false := zdf c63
                       clear c63
                       by_cases c68 : (ji51) < (y126.length : Int)
                       ·rw [if_pos c68] at H
                        have c68b0 : decide ((ji51) < (y126.length : Int)) = true := zdt c68
                        clear c68
                        obtain ⟨y144, hy144⟩ : ∃ y_ : List (S79), y_ = (y126.set ((ji51) : Int).toNat (⟨(⟨(rd_T79 y126 (ji51)).f0.f0, (rd_T79 y126 (ji51)).f0.f1⟩ : S57), (⟨(rd_T79 y126 (ji51)).f1.f0, (rd_T79 y126 (ji51)).f1.f1⟩ : S57), x24_5⟩ : S79)) := ⟨_, rfl⟩
                        replace H : ((mooring_Where.f k5 a0_0 a0_1 l1 l2).bind fun bt145 => ((mooring_Where.f k5 a0_0 a0_1 l1 y144).bind fun bt150 => (if bt145.2.2 = 0 then (isobathlaw02_MooringFound.j7 k5 l1 t111 t110 y144 bt145.1 bt150.1 (bt150.2.2 != 0) a0_0 a0_1) else (none)))) = some r := by first | (rw [hy144]; with_reducible exact H) | (have H2_ := (Option.bind_some _ _).symm.trans H; rw [hy144]; with_reducible exact H2_) | (have H2_ := (Option.bind_some _ _).symm.trans H; with_reducible exact H2_) | with_reducible exact H | (rw [hy144]; exact H) | exact H
                        have Ny144 := zam hy144
                        clear hy144
                        replace H := Option.bind_eq_some_iff.mp H
                        obtain ⟨⟨t145, t148, t149⟩, A700, H⟩ := H
                        replace H : ((mooring_Where.f k5 a0_0 a0_1 l1 y144).bind fun bt150 => (if t149 = 0 then (isobathlaw02_MooringFound.j7 k5 l1 t111 t110 y144 t145 bt150.1 (bt150.2.2 != 0) a0_0 a0_1) else (none))) = some r := H
                        have A70 := zam A700
                        clear A700
                        replace H := Option.bind_eq_some_iff.mp H
                        obtain ⟨⟨t150, t153, t154⟩, A710, H⟩ := H
                        replace H : (if t149 = 0 then (isobathlaw02_MooringFound.j7 k5 l1 t111 t110 y144 t145 t150 (t154 != 0) a0_0 a0_1) else (none)) = some r := H
                        have A71 := zam A710
                        clear A710
                        have HC72 := zam H
                        clear H
                        have p138 : 0 ≤ ((ji51) : Int) := zod (by first | (with_reducible assumption) | assumption)
                        have q138 : (ji51) < (l2.length : Int) := zod (by first | (with_reducible assumption) | assumption)
                        obtain ⟨ad138, A138_4, c138_4, e138, hx138_0, hx138_1, hx138_2, hx138_3, hx138_4, hl138_4, hi138_4⟩ := at_T79 (Kd.V_reads' HO_2.out).2.2 (ji51) p138 q138
                        obtain rfl : ad129 = ad138 := (by injection e138)
                        obtain ⟨ce138, hce138, hMe138, hcc138⟩ := Kd.V_get HO_2.out z79 (ji51) p138 (by first | exact q138 | exact zod (by first | (with_reducible assumption) | assumption) | (have e_ := (Kd.V_reads' HO_2.out).1; omega))
                        obtain ⟨ua138_4, uc138_4, rfl, ul138_4, ge138_4⟩ := k79_openF hMe138
                        have hv138_4 := hcc138 4 _ rfl
                        rw [add_field _ _ 4 (by omega)] at hv138_4
                        replace hv138_4 := zsi (hv138_4.symm.trans hx138_4)
                        injection hv138_4 with hva_ hvn_ hvc_
                        rw [hva_] at ge138_4
                        rw [hvc_] at ul138_4
                        have HL138_4 := zam (show Kd.V (Kd.int .i64) 3 _ w.heap.size _ _ ((rd_T79 l2 (ji51)).f2) from Kd.V_mk ul138_4 ge138_4)
                        clear hva_ hvn_ hvc_ ge138_4 ul138_4
                        clear hcc138 hce138
                        have HR138_4 := zam hi138_4
                        have HC138_4 := zam hl138_4
                        clear hi138_4 hl138_4
                        replace p138 := eq_true p138
                        replace q138 := eq_true q138
                        (try (have q138x := q138; simp only [zld, zlt] at q138x))
                        have p69 : 0 ≤ ((ji51) : Int) := zod (by first | (with_reducible assumption) | assumption)
                        have q69 : ((ji51) : Int) < ((y126.length : Int) : Int) := zod (by first | (with_reducible assumption) | assumption)
                        obtain ⟨go69, co69, eo69, gb69, gl69, cl69, HG69⟩ := Kd.N_form HO_21.out (by omega)
                        (first | cases eo69 | (injection eo69 with ea_ en_ ec_; (first | subst ea_ | (injection ea_ with ea_; subst ea_)); subst ec_; clear en_))
                        have GB69 := zam gb69
                        have GG69 := zam HG69
                        clear gb69 gl69 HG69
                        obtain ⟨ce69, hcl69, hM69, hcc69, hfr69⟩ := Kd.N_elem HO_21.out z79 ((ji51) : Int) p69 q69
                        obtain ⟨ua69_4, uc69_4, rfl, ul69_4, ge69_4⟩ := k79_openF hM69
                        have hx69_0 : wr.cell? ⟨go69, ((ji51) : Int).toNat * 5, none⟩ = some (.int .i64 ((rd_T79 y126 (ji51)).f0.f0)) := hcc69 0 _ rfl
                        have hx69_1 : wr.cell? ⟨go69, ((ji51) : Int).toNat * 5 + 1, none⟩ = some (.int .i64 ((rd_T79 y126 (ji51)).f0.f1)) := hcc69 1 _ rfl
                        have hx69_2 : wr.cell? ⟨go69, ((ji51) : Int).toNat * 5 + 2, none⟩ = some (.int .i64 ((rd_T79 y126 (ji51)).f1.f0)) := hcc69 2 _ rfl
                        have hx69_3 : wr.cell? ⟨go69, ((ji51) : Int).toNat * 5 + 3, none⟩ = some (.int .i64 ((rd_T79 y126 (ji51)).f1.f1)) := hcc69 3 _ rfl
                        have hx69_4 : wr.cell? ⟨go69, ((ji51) : Int).toNat * 5 + 4, none⟩ = some (.slice ua69_4 ((rd_T79 y126 (ji51)).f2).length uc69_4) := hcc69 4 _ rfl
                        have hf69_0 : wr.frozen? ⟨go69, ((ji51) : Int).toNat * 5, none⟩ = false := hfr69 0
                        have hf69_1 : wr.frozen? ⟨go69, ((ji51) : Int).toNat * 5 + 1, none⟩ = false := hfr69 1
                        have hf69_2 : wr.frozen? ⟨go69, ((ji51) : Int).toNat * 5 + 2, none⟩ = false := hfr69 2
                        have hf69_3 : wr.frozen? ⟨go69, ((ji51) : Int).toNat * 5 + 3, none⟩ = false := hfr69 3
                        have hf69_4 : wr.frozen? ⟨go69, ((ji51) : Int).toNat * 5 + 4, none⟩ = false := hfr69 4
                        clear hcl69 hcc69 hfr69 hM69
                        replace p69 := eq_true p69
                        replace q69 := eq_true q69
                        (try (have q69x := q69; simp only [zld, zlt] at q69x))
                        have HX73 := zam (show Kd.N k79 79 wr w.heap.size (fun k_ => (P2_ k_ ∨ w.heap.size ≤ k_) ∧ k_ ≠ gb101) (.slice (some ⟨go69, 0, none⟩) y126.length co69) y126 from (by (with_reducible repeat (first | apply Kd.N_alloc | apply Kd.N_drewN | apply Kd.N_drew)); exact Kd.N_mono HO_21.out (fun _ hk => ⟨hk.1, hk.2.2⟩)))
                        obtain ⟨ce73, hcl73, hM73, hcc73, hfr73⟩ := Kd.N_elem HX73.out z79 ((ji51) : Int) (zod (by first | (with_reducible assumption) | assumption)) (by have h_ : ((ji51) : Int) < ((y126.length : Int) : Int) := zod (by first | (with_reducible assumption) | assumption); first | exact h_ | (have e_ := (Kd.N_reads' HO_21.out).1; omega) | simpa using h_)
                        obtain ⟨ua73_4, uc73_4, rfl, ul73_4, ge73_4⟩ := k79_openF hM73
                        obtain ⟨Au_, cu_, hu_⟩ := Kd.R_slice HO_24.out
                        subst hu_
                        have HM0_ := Kd.R_types (Kd.R_apart' (HO_24.out) (Kd.N_typed HO_21.out) (by decide)) BK101.out (by decide)
                        have HMs_ := Kd.R_mono (ok' := (fun k_ => ((fun k_ => (P2_ k_ ∨ w.heap.size ≤ k_) ∧ k_ ≠ gb101)) k_ ∧ k_ ≠ go69)) HM0_ (fun k_ hk => ⟨⟨(.inr (hk.1.1)), hk.2⟩, fun e_ => (hk.1.2) (by rw [e_]; rfl)⟩)
                        have HP73 := Kd.N_seg HX73.out ((ji51) : Int) (zod (by first | (with_reducible assumption) | assumption)) (by have h_ : ((ji51) : Int) < ((y126.length : Int) : Int) := zod (by first | (with_reducible assumption) | assumption); first | exact h_ | (have e_ := (Kd.N_reads' HO_21.out).1; omega) | simpa using h_) (seg := [.slice Au_ x24_5.length cu_]) (j := 4) hcl73 hcc73 (show 5 ≤ 5 from by decide) (x' := (⟨(⟨(rd_T79 y126 (ji51)).f0.f0, (rd_T79 y126 (ji51)).f0.f1⟩ : S57), (⟨(rd_T79 y126 (ji51)).f1.f0, (rd_T79 y126 (ji51)).f1.f1⟩ : S57), x24_5⟩ : S79)) (k79_mkF _ _ (⟨(⟨(rd_T79 y126 (ji51)).f0.f0, (rd_T79 y126 (ji51)).f0.f1⟩ : S57), (⟨(rd_T79 y126 (ji51)).f1.f0, (rd_T79 y126 (ji51)).f1.f1⟩ : S57), x24_5⟩ : S79) (Kd.R_reads' HMs_).2.1 (Kd.R_F HMs_)) (fun _ hk => hk)
                        clear HMs_ HM0_
                        have hx73_4 := hcc73 4 _ rfl
                        (try simp only [show (k79).sz = 5 from rfl, Nat.mul_one, Nat.add_zero] at hx73_4)
                        have hf73_4 := hfr73 4
                        (try simp only [show (k79).sz = 5 from rfl, Nat.mul_one, Nat.add_zero] at hf73_4)
                        clear hcl73 hcc73 hfr73 hM73
                        go_upto_region 40 with (first | ((with_reducible refine gate_store (t := 22) (p := 194) rfl ?_); refine store_event (t := 22) (p := 194) (v := ?vo_w74) (w1 := (wr.setCell ⟨go69, ((ji51) : Int).toNat * 5 + 4, none⟩ ((.slice Au_ x24_5.length cu_)))) ?hg ?ho ?hn ?hr ?_; (case ho => rfl); (case hg => rfl); (case hn => rfl); (case hr => first | (go_simp; done) | (go_simp; rfl)); intro w74 hw; have hg : wr.grownBy w74 (some go69) := (by rw [hw]; exact HP73.2); have hp_ : Kd.N k79 79 w74 w.heap.size (fun k_ => (P2_ k_ ∨ w.heap.size ≤ k_) ∧ k_ ≠ gb101) (.slice (some ⟨go69, 0, none⟩) y126.length co69) y144 := (by rw [hw, Ny144.out]; exact HP73.1); clear HP73; have n0_ := zam (Kd.V_afterv (v := (.slice (some ⟨go69, 0, none⟩) y126.length co69)) (v1 := (.slice (some ⟨go69, 0, none⟩) y126.length co69)) (ok := (fun k_ => (P2_ k_ ∨ w.heap.size ≤ k_) ∧ some k_ ≠ ((.slice Au_ x24_5.length cu_) : Value).ownBlock ∧ k_ ≠ gb101)) (by (with_reducible repeat (first | apply Kd.V_alloc | apply Kd.V_drewN | apply Kd.V_drew)); exact Kd.V_mono HO_2.out (fun _ hk => ⟨⟨hk.1, ⟨hk.2.2.1, hk.2.2.2⟩⟩, hk.2.1⟩)) hg (.inl rfl)); have n1_ := zam (hp_); have n2_ := zam (zkg (g := gb101) (o := .cells #[.int .i64 a0_0, .int .i64 a0_1] 72 (0, 0)) (by (with_reducible repeat (first | refine zkn ?_ _ | refine zkd ?_ | refine zka ?_ _)); exact BK101.out) hg (Kd.N_ne HO_21.out BK101.out (by decide))); have n3_ := zam (Kd.V_afterv (v := (.slice (some ⟨go69, 0, none⟩) y126.length co69)) (v1 := (.slice (some ⟨go69, 0, none⟩) y126.length co69)) (ok := (fun k_ => (P2_ k_ ∨ w.heap.size ≤ k_) ∧ some k_ ≠ ((.slice Au_ x24_5.length cu_) : Value).ownBlock ∧ k_ ≠ gb101)) (by (with_reducible repeat (first | apply Kd.V_alloc | apply Kd.V_drewN | apply Kd.V_drew)); exact Kd.V_mono HL138_4.out (fun _ hk => ⟨⟨hk.1, ⟨hk.2.2.1, hk.2.2.2⟩⟩, hk.2.1⟩)) hg (.inl rfl)); have n4_ := zam ((by rw [hw]; exact zbs (HB.out) GB69.out : Below w.heap.size w w74)); clear HO_2; clear HO_21; clear BK101; clear HL138_4; clear HB; clear HO_24; have HO_2 := n0_; have HO_21 := n1_; have BK101 := n2_; have HL138_4 := n3_; have HB := n4_; clear n0_ n1_ n2_ n3_ n4_; clear hg hw hp_; have hcz75_0 : w74.cell? ⟨gb101, 0, none⟩ = some (.int .i64 a0_0) := (zkc BK101.out 0).trans rfl; have hcz75_1 : w74.cell? ⟨gb101, 1, none⟩ = some (.int .i64 a0_1) := (zkc BK101.out 1).trans rfl; have hfz75_0 := zkz BK101.out 0; have hfz75_1 := zkz BK101.out 1) | ((with_reducible refine zgc (f := 48) rfl ?_); refine goesL_ (some 199) rfl rfl Try.func48 (by kernel_rfl) rfl #[.agg #[.int .i64 a0_0, .int .i64 a0_1], .slice A1 l1.length c1, .slice (some ad129) l2.length c2] rfl (by (try simp only [zmt, List.map_cons, List.map_nil]); first | done | rfl | (simp only [zld, zlt]; rfl)) ?_; (with_reducible refine (mooring_Where.calls k5 a0_0 a0_1 _ _ l1 _ _ l2 t145 t148 t149 _ ?side1 ?side2 ?side3 ?side4 A70.out).mono ?_); (case side1 => repeat (first | exact (Kd.C_below HR1.out HB.out) | (with_reducible refine Kd.C_alloc ?_ _) | (with_reducible refine Kd.C_drewN ?_ _) | (with_reducible refine Kd.C_drew ?_))); (case side2 => exact HC1.out); (case side3 => repeat (first | exact (Kd.V_reads' HO_2.out).2.2 | (with_reducible refine Kd.C_alloc ?_ _) | (with_reducible refine Kd.C_drewN ?_ _) | (with_reducible refine Kd.C_drew ?_))); (case side4 => exact (Kd.V_reads' HO_2.out).2.1); rintro e w76 ⟨v146, rfl, ho0, hb⟩; refine ⟨_, rfl, ?_⟩; have n0_ := zam (Kd.V_elder' (by (with_reducible repeat (first | apply Kd.V_alloc | apply Kd.V_drewN | apply Kd.V_drew)); exact HO_2.out) (Kd.R_base ho0) hb); have n1_ := zam (Kd.N_elder' (by (with_reducible repeat (first | apply Kd.N_alloc | apply Kd.N_drewN | apply Kd.N_drew)); exact HO_21.out) (Kd.R_base ho0) hb); have n2_ := zam (Kd.V_elder' (by (with_reducible repeat (first | apply Kd.V_alloc | apply Kd.V_drewN | apply Kd.V_drew)); exact HL138_4.out) (Kd.R_base ho0) hb); have n3_ := zam (Kd.R_lower (Kd.R_newM (M := fun k_ => (w.heap.size ≤ k_)) ho0 (zbz (by repeat (first | (with_reducible first | exact HB.out | apply zba | apply zbn | apply zb1 | refine zbs ?_ GE101.out) | exact HB.out))) (fun k_ h_ => h_)) (zbz (by repeat (first | (with_reducible first | exact HB.out | apply zba | apply zbn | apply zb1 | refine zbs ?_ GE101.out) | exact HB.out)))); have n4_ := zam (zkb (g := gb101) (o := .cells #[.int .i64 a0_0, .int .i64 a0_1] 72 (0, 0)) (by (with_reducible repeat (first | refine zkn ?_ _ | refine zkd ?_ | refine zka ?_ _)); exact BK101.out) hb); have n5_ := zam (zbt (by repeat (first | (with_reducible first | exact HB.out | apply zba | apply zbn | apply zb1 | refine zbs ?_ GE101.out) | exact HB.out)) hb); clear HO_2; clear HO_21; clear HL138_4; clear BK101; clear HB; have HO_2 := n0_; have HO_21 := n1_; have HL138_4 := n2_; have HO147 := n3_; have BK101 := n4_; have HB := n5_; clear n0_ n1_ n2_ n3_ n4_ n5_; (try clear hb); (try clear hb2); (try clear hk); (try clear hi); (try clear ho0); have hcz77_0 : w76.cell? ⟨gb101, 0, none⟩ = some (.int .i64 a0_0) := (zkc BK101.out 0).trans rfl; have hcz77_1 : w76.cell? ⟨gb101, 1, none⟩ = some (.int .i64 a0_1) := (zkc BK101.out 1).trans rfl; have hfz77_0 := zkz BK101.out 0; have hfz77_1 := zkz BK101.out 1) | ((with_reducible refine zgc (f := 48) rfl ?_); refine goesL_ (some 207) rfl rfl Try.func48 (by kernel_rfl) rfl #[.agg #[.int .i64 a0_0, .int .i64 a0_1], .slice A1 l1.length c1, .slice (some ⟨go69, 0, none⟩) y144.length co69] rfl (by (try simp only [zmt, List.map_cons, List.map_nil]); first | done | (rw [show y144.length = y126.length from (Kd.N_reads' HO_21.out).1.symm] <;> rfl) | rfl | (simp only [zld, zlt]; rfl)) ?_; (with_reducible refine (mooring_Where.calls k5 a0_0 a0_1 _ _ l1 _ _ y144 t150 t153 t154 _ ?side1 ?side2 ?side3 ?side4 A71.out).mono ?_); (case side1 => repeat (first | exact (Kd.C_below HR1.out HB.out) | (with_reducible refine Kd.C_alloc ?_ _) | (with_reducible refine Kd.C_drewN ?_ _) | (with_reducible refine Kd.C_drew ?_))); (case side2 => exact HC1.out); (case side3 => repeat (first | exact (Kd.N_reads' HO_21.out).2.2 | (with_reducible refine Kd.C_alloc ?_ _) | (with_reducible refine Kd.C_drewN ?_ _) | (with_reducible refine Kd.C_drew ?_))); (case side4 => rw [show y144.length = y126.length from (Kd.N_reads' HO_21.out).1.symm]; exact (Kd.N_reads' HO_21.out).2.1); rintro e w78 ⟨v151, rfl, ho0, hb⟩; refine ⟨_, rfl, ?_⟩; have n0_ := zam (Kd.V_elder' (by (with_reducible repeat (first | apply Kd.V_alloc | apply Kd.V_drewN | apply Kd.V_drew)); exact HO_2.out) (Kd.R_base ho0) hb); have n1_ := zam (Kd.N_elder' (by (with_reducible repeat (first | apply Kd.N_alloc | apply Kd.N_drewN | apply Kd.N_drew)); exact HO_21.out) (Kd.R_base ho0) hb); have n2_ := zam (Kd.V_elder' (by (with_reducible repeat (first | apply Kd.V_alloc | apply Kd.V_drewN | apply Kd.V_drew)); exact HL138_4.out) (Kd.R_base ho0) hb); have n3_ := zam (Kd.R_elder' (by (with_reducible repeat (first | apply zRa | apply zRn | apply zRd)); exact HO147.out) (Kd.R_base ho0) hb); have n4_ := zam (Kd.R_lower (Kd.R_new' (Kd.R_newM (M := fun k_ => (w.heap.size ≤ k_)) ho0 (zbz (by repeat (first | (with_reducible first | exact HB.out | apply zba | apply zbn | apply zb1 | refine zbs ?_ GE101.out) | exact HB.out))) (fun k_ h_ => h_)) (Kd.R_lt (by (with_reducible repeat (first | apply zRa | apply zRn | apply zRd)); exact HO147.out))) (zbz (by repeat (first | (with_reducible first | exact HB.out | apply zba | apply zbn | apply zb1 | refine zbs ?_ GE101.out) | exact HB.out)))); have n5_ := zam (zkb (g := gb101) (o := .cells #[.int .i64 a0_0, .int .i64 a0_1] 72 (0, 0)) (by (with_reducible repeat (first | refine zkn ?_ _ | refine zkd ?_ | refine zka ?_ _)); exact BK101.out) hb); have n6_ := zam (zbt (by repeat (first | (with_reducible first | exact HB.out | apply zba | apply zbn | apply zb1 | refine zbs ?_ GE101.out) | exact HB.out)) hb); clear HO_2; clear HO_21; clear HL138_4; clear HO147; clear BK101; clear HB; have HO_2 := n0_; have HO_21 := n1_; have HL138_4 := n2_; have HO147 := n3_; have HO152 := n4_; have BK101 := n5_; have HB := n6_; clear n0_ n1_ n2_ n3_ n4_ n5_ n6_; (try clear hb); (try clear hb2); (try clear hk); (try clear hi); (try clear ho0)))
                        (try simp only [Act.put, zsa, zsz, zss])
                        go_cut [216] (fun v216 wc => ∃ (kq : Nat) (x216_71 : Bool), v216 = .bool x216_71 ∧ Aside0 (isobathlaw02_MooringFound.j7 kq l1 t111 t110 y144 t145 t150 x216_71 a0_0 a0_1 = some r) ∧ Aside0 (kq ≤ k5) ∧ Aside0 (Kd.N k79 79 wc w.heap.size (fun k_ => (P2_ k_ ∨ w.heap.size ≤ k_) ∧ some k_ ≠ (v146 : Value).ownBlock ∧ some k_ ≠ (v151 : Value).ownBlock ∧ k_ ≠ gb101) (.slice (some ⟨go69, 0, none⟩) y126.length co69) y144) ∧ Aside0 (Kd.R (Kd.int .i64) 3 wc w.heap.size (fun k_ => (w.heap.size ≤ k_) ∧ some k_ ≠ (v151 : Value).ownBlock) v146 t145) ∧ Aside0 (Kd.R (Kd.int .i64) 3 wc w.heap.size (fun k_ => (w.heap.size ≤ k_) ∧ some k_ ≠ (v146 : Value).ownBlock) v151 t150) ∧ Aside0 (wc.heap[gb101]? = some (.cells #[.int .i64 a0_0, .int .i64 a0_1] 72 (0, 0))) ∧ Aside0 (Below w.heap.size w wc))
                        case first =>
                         have H := HC72.out
                         clear HC72
                         by_cases c79 : t149 = 0
                         ·rw [if_pos c79] at H
                          have c79b0 : (t149 == 0) = true := beq_iff_eq.mpr c79
                          have c79b1 : (t149 != 0) = false := bne_eq_false_iff_eq.mpr c79
                          clear c79
                          (first | rw [c79b0] | (simp only [i64_w, i32_w]; rw [c79b0]) | skip)
                          as_aux_lemma =>
                           have H' := zam H
                           clear H
                           go_wp2
                           go_meet
                           case rel => exact ⟨_, ((t154 != 0)), (by first | rfl | (simp; done) | (simp [*]; done)), H', ⟨by have := HJ5.out; have := HJ15.out; have := HJ35.out; have := HK4.out; have := HK5.out; first | omega | exact Nat.le_refl _⟩, ⟨by (with_reducible repeat (first | apply Kd.N_alloc | apply Kd.N_drewN | apply Kd.N_drew)); exact Kd.N_mono HO_21.out (fun _ hk => ⟨hk.1.1.1, ⟨hk.1.2, ⟨hk.2, hk.1.1.2⟩⟩⟩)⟩, ⟨by (with_reducible repeat (first | apply zRa | apply zRn | apply zRd)); exact Kd.R_mono HO147.out (fun _ hk => ⟨hk.1.1, hk.2⟩)⟩, ⟨by (with_reducible repeat (first | apply zRa | apply zRn | apply zRd)); exact Kd.R_mono HO152.out (fun _ hk => ⟨hk.1.1, hk.2⟩)⟩, ⟨by (with_reducible repeat (first | refine zkn ?_ _ | refine zkd ?_ | refine zka ?_ _)); exact BK101.out⟩, ⟨by repeat (first | (with_reducible first | exact HB.out | apply zba | apply zbn | apply zb1 | refine zbs ?_ GE101.out) | exact HB.out)⟩⟩
                         rw [if_neg c79] at H
                         exact absurd H (by simp)
                        case rest =>
                         clear HC72
                         try clear c1
                         try clear p1
                         try clear q1
                         try clear hx1
                         try clear c2
                         try clear p2
                         try clear c3
                         try clear q3
                         try clear c4
                         try clear c5
                         try clear c6
                         try clear p6
                         try clear q6
                         try clear hx6
                         try clear hf6
                         try clear c7
                         try clear hx7
                         try clear hf7
                         try clear c9
                         try clear c10
                         try clear c12
                         try clear p12
                         try clear q12
                         try clear hx12
                         try clear c13
                         try clear p13
                         try clear q13
                         try clear hx13
                         try clear c14
                         try clear c14b0
                         try clear c14b1
                         try clear p14
                         try clear q14
                         try clear hx14
                         try clear c22
                         try clear c22b0
                         try clear c23
                         try clear c24
                         try clear c24b0
                         try clear c24b1
                         try clear c25
                         try clear c25b0
                         try clear c25b1
                         try clear c27
                         try clear c27b0
                         try clear c27b1
                         try clear c28
                         try clear q30
                         try clear q33
                         try clear c37
                         try clear c37b0
                         try clear c37b1
                         try clear c37b2
                         try clear c38
                         try clear c39
                         try clear c39b0
                         try clear c39b1
                         try clear c40
                         try clear c40b0
                         try clear c40b1
                         try clear c41
                         try clear c42
                         try clear c42b0
                         try clear c42b1
                         try clear c42b2
                         try clear c45
                         try clear c46
                         try clear c46b0
                         try clear c46b1
                         try clear c48
                         try clear c52
                         try clear c52b0
                         try clear c53
                         try clear c53b0
                         try clear c54
                         try clear c54b0
                         try clear c55
                         try clear c55b0
                         try clear c56
                         try clear c56b0
                         try clear c57
                         try clear c59
                         try clear c61
                         try clear c61b0
                         try clear c62
                         try clear c62b0
                         try clear c63
                         try clear c63b0
                         try clear c64
                         try clear c64b0
                         try clear p64
                         try clear c65
                         try clear c65b0
                         try clear c66
                         try clear c68
                         try clear c68b0
                         try clear c69
                         try clear p69
                         try clear q69
                         try clear hx69
                         try clear hf69
                         try clear c73
                         try clear hx73
                         try clear hf73
                         try clear c79
                         try clear c79b0
                         try clear c79b1
                         try clear hcz17_0
                         try clear hcz17_1
                         try clear hcz19_0
                         try clear hcz19_1
                         try clear hcz50_0
                         try clear hcz50_1
                         try clear hcz75_0
                         try clear hcz75_1
                         try clear hcz77_0
                         try clear hcz77_1
                         try clear hfz17_0
                         try clear hfz17_1
                         try clear hfz19_0
                         try clear hfz19_1
                         try clear hfz50_0
                         try clear hfz50_1
                         try clear hfz75_0
                         try clear hfz75_1
                         try clear hfz77_0
                         try clear hfz77_1
                         try clear hx129_0
                         try clear hx129_1
                         try clear hx129_2
                         try clear hx129_3
                         try clear hx129_4
                         try clear hx130_0
                         try clear hx130_1
                         try clear hx130_2
                         try clear hx130_3
                         try clear hx130_4
                         try clear hx131_0
                         try clear hx138_0
                         try clear hx138_1
                         try clear hx138_2
                         try clear hx138_3
                         try clear hx138_4
                         try clear hx139_0
                         try clear hx139_1
                         try clear hx139_2
                         try clear hx139_3
                         try clear hx139_4
                         try clear hx140_0
                         try clear hx69_0
                         try clear hx69_1
                         try clear hx69_2
                         try clear hx69_3
                         try clear hx69_4
                         try clear hx73_4
                         try clear p1
                         try clear p12
                         try clear p129
                         try clear p13
                         try clear p130
                         try clear p131
                         try clear p138
                         try clear p139
                         try clear p140
                         try clear p2
                         try clear p6
                         try clear p69
                         try clear q1
                         try clear q12
                         try clear q129
                         try clear q13
                         try clear q130
                         try clear q131
                         try clear q138
                         try clear q139
                         try clear q140
                         try clear q3
                         try clear q30
                         try clear q33
                         try clear q69
                         obtain ⟨kq, x216_71, rfl, HA, HJ71, HO_21, HO_29, HO_32, BK101, HB⟩ := hcut
                         as_aux_lemma =>
                          have hl21_71 := (Kd.N_reads' HO_21.out).1
                          rw [hl21_71] at HO_21
                          (try simp only [hl21_71])
                          (try simp only [hl21_71] at BK101)
                          (try simp only [hl21_71] at HO_29)
                          (try simp only [hl21_71] at HO_32)
                          cases kq with
                          | zero => exact absurd HA.out (by simp [isobathlaw02_MooringFound.j7])
                          | succ kj71 =>
                           have H := HA.out
                           clear HA
                           simp only [isobathlaw02_MooringFound.j7] at H
                           by_cases c80 : x216_71 = true
                           ·subst c80
                            have H1 : (none) = some r := by rw [if_pos rfl] at H; exact H
                            clear H
                            have H := H1
                            clear H1
                            exact absurd H (by simp)
                           replace c80 := Bool.eq_false_iff.mpr c80
                           subst c80
                           have H1 : (isobathlaw02_MooringFound.l3 kj71 l1 t111 t110 y144 t145 t150 0 0 a0_0 a0_1) = some r := by rw [if_neg (show ¬ (false = true) by decide)] at H; exact H
                           clear H
                           have H := H1
                           clear H1
                           have H' := zam H
                           clear H
                           go_wp2
                           go_loopg [35, 36] kj71 (fun kq v35 v36 w' => ∃ (x35_7 : Int) (x36_7 : Int), v35 = .int .i64 x35_7 ∧ v36 = .int .i64 x36_7 ∧ Aside0 (isobathlaw02_MooringFound.l3 kq l1 t111 t110 y144 t145 t150 x35_7 x36_7 a0_0 a0_1 = some r) ∧ Aside0 (kq ≤ kj71) ∧ Aside0 (Kd.N k79 79 w' w.heap.size (fun k_ => (P2_ k_ ∨ w.heap.size ≤ k_) ∧ some k_ ≠ (v146 : Value).ownBlock ∧ some k_ ≠ (v151 : Value).ownBlock ∧ k_ ≠ gb101) (.slice (some ⟨go69, 0, none⟩) y144.length co69) y144) ∧ Aside0 (Kd.R (Kd.int .i64) 3 w' w.heap.size (fun k_ => (w.heap.size ≤ k_) ∧ some k_ ≠ (v151 : Value).ownBlock) v146 t145) ∧ Aside0 (Kd.R (Kd.int .i64) 3 w' w.heap.size (fun k_ => (w.heap.size ≤ k_) ∧ some k_ ≠ (v146 : Value).ownBlock) v151 t150) ∧ Aside0 (w'.heap[gb101]? = some (.cells #[.int .i64 a0_0, .int .i64 a0_1] 72 (0, 0))) ∧ Aside0 (Below w.heap.size w w'))
                           case atStart => exact ⟨(0), (0), (by first | rfl | (simp; done) | (simp [*]; done)), (by first | rfl | (simp; done) | (simp [*]; done)), H', ⟨Nat.le_refl _⟩, ⟨by (try simp only [hl21_71]); (with_reducible repeat (first | apply Kd.N_alloc | apply Kd.N_drewN | apply Kd.N_drew)); exact HO_21.out⟩, ⟨by (try simp only [hl21_71]); (with_reducible repeat (first | apply zRa | apply zRn | apply zRd)); exact HO_29.out⟩, ⟨by (try simp only [hl21_71]); (with_reducible repeat (first | apply zRa | apply zRn | apply zRd)); exact HO_32.out⟩, ⟨by (try simp only [hl21_71]); (with_reducible repeat (first | refine zkn ?_ _ | refine zkd ?_ | refine zka ?_ _)); exact BK101.out⟩, ⟨by repeat (first | (with_reducible first | exact HB.out | apply zba | apply zbn | apply zb1 | refine zbs ?_ GE101.out) | exact HB.out)⟩⟩
                           case round =>
                            clear H'
                            try clear c1
                            try clear p1
                            try clear q1
                            try clear hx1
                            try clear c2
                            try clear p2
                            try clear c3
                            try clear q3
                            try clear c4
                            try clear c5
                            try clear c6
                            try clear p6
                            try clear q6
                            try clear hx6
                            try clear hf6
                            try clear c7
                            try clear hx7
                            try clear hf7
                            try clear c8
                            try clear c9
                            try clear c10
                            try clear c12
                            try clear p12
                            try clear q12
                            try clear hx12
                            try clear c13
                            try clear p13
                            try clear q13
                            try clear hx13
                            try clear c14
                            try clear c14b0
                            try clear c14b1
                            try clear p14
                            try clear q14
                            try clear hx14
                            try clear c22
                            try clear c22b0
                            try clear c23
                            try clear c24
                            try clear c24b0
                            try clear c24b1
                            try clear c25
                            try clear c25b0
                            try clear c25b1
                            try clear c27
                            try clear c27b0
                            try clear c27b1
                            try clear c28
                            try clear q30
                            try clear q33
                            try clear c37
                            try clear c37b0
                            try clear c37b1
                            try clear c37b2
                            try clear c38
                            try clear c39
                            try clear c39b0
                            try clear c39b1
                            try clear c40
                            try clear c40b0
                            try clear c40b1
                            try clear c41
                            try clear c42
                            try clear c42b0
                            try clear c42b1
                            try clear c42b2
                            try clear c45
                            try clear c46
                            try clear c46b0
                            try clear c46b1
                            try clear c48
                            try clear c52
                            try clear c52b0
                            try clear c53
                            try clear c53b0
                            try clear c54
                            try clear c54b0
                            try clear c55
                            try clear c55b0
                            try clear c56
                            try clear c56b0
                            try clear c57
                            try clear c59
                            try clear c61
                            try clear c61b0
                            try clear c62
                            try clear c62b0
                            try clear c63
                            try clear c63b0
                            try clear c64
                            try clear c64b0
                            try clear p64
                            try clear c65
                            try clear c65b0
                            try clear c66
                            try clear c68
                            try clear c68b0
                            try clear c69
                            try clear p69
                            try clear q69
                            try clear hx69
                            try clear hf69
                            try clear c73
                            try clear hx73
                            try clear hf73
                            try clear c79
                            try clear c79b0
                            try clear c79b1
                            try clear c80
                            try clear hcz17_0
                            try clear hcz17_1
                            try clear hcz19_0
                            try clear hcz19_1
                            try clear hcz50_0
                            try clear hcz50_1
                            try clear hcz75_0
                            try clear hcz75_1
                            try clear hcz77_0
                            try clear hcz77_1
                            try clear hfz17_0
                            try clear hfz17_1
                            try clear hfz19_0
                            try clear hfz19_1
                            try clear hfz50_0
                            try clear hfz50_1
                            try clear hfz75_0
                            try clear hfz75_1
                            try clear hfz77_0
                            try clear hfz77_1
                            try clear hx129_0
                            try clear hx129_1
                            try clear hx129_2
                            try clear hx129_3
                            try clear hx129_4
                            try clear hx130_0
                            try clear hx130_1
                            try clear hx130_2
                            try clear hx130_3
                            try clear hx130_4
                            try clear hx131_0
                            try clear hx138_0
                            try clear hx138_1
                            try clear hx138_2
                            try clear hx138_3
                            try clear hx138_4
                            try clear hx139_0
                            try clear hx139_1
                            try clear hx139_2
                            try clear hx139_3
                            try clear hx139_4
                            try clear hx140_0
                            try clear hx69_0
                            try clear hx69_1
                            try clear hx69_2
                            try clear hx69_3
                            try clear hx69_4
                            try clear hx73_4
                            try clear p1
                            try clear p12
                            try clear p129
                            try clear p13
                            try clear p130
                            try clear p131
                            try clear p138
                            try clear p139
                            try clear p14
                            try clear p140
                            try clear p2
                            try clear p6
                            try clear p64
                            try clear p69
                            try clear q1
                            try clear q12
                            try clear q129
                            try clear q13
                            try clear q130
                            try clear q131
                            try clear q138
                            try clear q139
                            try clear q14
                            try clear q140
                            try clear q3
                            try clear q30
                            try clear q33
                            try clear q6
                            try clear q69
                            obtain ⟨x35_7, x36_7, rfl, rfl, HA, HK7, HO_21, HO_29, HO_32, BK101, HB⟩ := hrel
                            as_aux_lemma =>
                             cases gk with
                             | zero => exact absurd HA.out (by simp [isobathlaw02_MooringFound.l3])
                             | succ k7 =>
                              have H := HA.out
                              clear HA
                              simp only [isobathlaw02_MooringFound.l3] at H
                              by_cases c81 : x36_7 < (t150.length : Int)
                              ·rw [if_pos c81] at H
                               have c81b0 : decide (x36_7 < (t150.length : Int)) = true := zdt c81
                               clear c81
                               have H' := zam H
                               clear H
                               obtain ⟨Ao82, co82, eo82⟩ := Kd.R_slice HO_32.out
                               subst eo82
                               go_wp2
                               go_loopg [35] k7 (fun kq v35 w' => ∃ (x35_8 : Int), v35 = .int .i64 x35_8 ∧ Aside0 (isobathlaw02_MooringFound.l4 kq l1 t111 t110 y144 t145 t150 x35_8 x36_7 a0_0 a0_1 = some r) ∧ Aside0 (kq ≤ k7) ∧ Aside0 (Kd.N k79 79 w' w.heap.size (fun k_ => (P2_ k_ ∨ w.heap.size ≤ k_) ∧ some k_ ≠ (v146 : Value).ownBlock ∧ some k_ ≠ ((.slice Ao82 t150.length co82) : Value).ownBlock ∧ k_ ≠ gb101) (.slice (some ⟨go69, 0, none⟩) y144.length co69) y144) ∧ Aside0 (Kd.R (Kd.int .i64) 3 w' w.heap.size (fun k_ => (w.heap.size ≤ k_) ∧ some k_ ≠ ((.slice Ao82 t150.length co82) : Value).ownBlock) v146 t145) ∧ Aside0 (Kd.R (Kd.int .i64) 3 w' w.heap.size (fun k_ => (w.heap.size ≤ k_) ∧ some k_ ≠ (v146 : Value).ownBlock) (.slice Ao82 t150.length co82) t150) ∧ Aside0 (w'.heap[gb101]? = some (.cells #[.int .i64 a0_0, .int .i64 a0_1] 72 (0, 0))) ∧ Aside0 (Below w.heap.size w w'))
                               case atStart => exact ⟨(x35_7), (by first | rfl | (simp; done) | (simp [*]; done)), H', ⟨Nat.le_refl _⟩, ⟨by (try simp only [hl21_71]); (with_reducible repeat (first | apply Kd.N_alloc | apply Kd.N_drewN | apply Kd.N_drew)); exact HO_21.out⟩, ⟨by (try simp only [hl21_71]); (with_reducible repeat (first | apply zRa | apply zRn | apply zRd)); exact HO_29.out⟩, ⟨by (try simp only [hl21_71]); (with_reducible repeat (first | apply zRa | apply zRn | apply zRd)); exact HO_32.out⟩, ⟨by (try simp only [hl21_71]); (with_reducible repeat (first | refine zkn ?_ _ | refine zkd ?_ | refine zka ?_ _)); exact BK101.out⟩, ⟨by repeat (first | (with_reducible first | exact HB.out | apply zba | apply zbn | apply zb1 | refine zbs ?_ GE101.out) | exact HB.out)⟩⟩
                               case round =>
                                clear H'
                                try clear c1
                                try clear p1
                                try clear q1
                                try clear hx1
                                try clear c2
                                try clear p2
                                try clear c3
                                try clear q3
                                try clear c4
                                try clear c5
                                try clear c6
                                try clear p6
                                try clear q6
                                try clear hx6
                                try clear hf6
                                try clear c7
                                try clear hx7
                                try clear hf7
                                try clear c8
                                try clear c9
                                try clear c10
                                try clear c12
                                try clear p12
                                try clear q12
                                try clear hx12
                                try clear c13
                                try clear p13
                                try clear q13
                                try clear hx13
                                try clear c14
                                try clear c14b0
                                try clear c14b1
                                try clear p14
                                try clear q14
                                try clear hx14
                                try clear c22
                                try clear c22b0
                                try clear c23
                                try clear c24
                                try clear c24b0
                                try clear c24b1
                                try clear c25
                                try clear c25b0
                                try clear c25b1
                                try clear c27
                                try clear c27b0
                                try clear c27b1
                                try clear c28
                                try clear q30
                                try clear q33
                                try clear c37
                                try clear c37b0
                                try clear c37b1
                                try clear c37b2
                                try clear c38
                                try clear c39
                                try clear c39b0
                                try clear c39b1
                                try clear c40
                                try clear c40b0
                                try clear c40b1
                                try clear c41
                                try clear c42
                                try clear c42b0
                                try clear c42b1
                                try clear c42b2
                                try clear c45
                                try clear c46
                                try clear c46b0
                                try clear c46b1
                                try clear c48
                                try clear c52
                                try clear c52b0
                                try clear c53
                                try clear c53b0
                                try clear c54
                                try clear c54b0
                                try clear c55
                                try clear c55b0
                                try clear c56
                                try clear c56b0
                                try clear c57
                                try clear c59
                                try clear c61
                                try clear c61b0
                                try clear c62
                                try clear c62b0
                                try clear c63
                                try clear c63b0
                                try clear c64
                                try clear c64b0
                                try clear p64
                                try clear c65
                                try clear c65b0
                                try clear c66
                                try clear c68
                                try clear c68b0
                                try clear c69
                                try clear p69
                                try clear q69
                                try clear hx69
                                try clear hf69
                                try clear c73
                                try clear hx73
                                try clear hf73
                                try clear c79
                                try clear c79b0
                                try clear c79b1
                                try clear c80
                                try clear c81
                                try clear c81b0
                                try clear hcz17_0
                                try clear hcz17_1
                                try clear hcz19_0
                                try clear hcz19_1
                                try clear hcz50_0
                                try clear hcz50_1
                                try clear hcz75_0
                                try clear hcz75_1
                                try clear hcz77_0
                                try clear hcz77_1
                                try clear hfz17_0
                                try clear hfz17_1
                                try clear hfz19_0
                                try clear hfz19_1
                                try clear hfz50_0
                                try clear hfz50_1
                                try clear hfz75_0
                                try clear hfz75_1
                                try clear hfz77_0
                                try clear hfz77_1
                                try clear hx129_0
                                try clear hx129_1
                                try clear hx129_2
                                try clear hx129_3
                                try clear hx129_4
                                try clear hx130_0
                                try clear hx130_1
                                try clear hx130_2
                                try clear hx130_3
                                try clear hx130_4
                                try clear hx131_0
                                try clear hx138_0
                                try clear hx138_1
                                try clear hx138_2
                                try clear hx138_3
                                try clear hx138_4
                                try clear hx139_0
                                try clear hx139_1
                                try clear hx139_2
                                try clear hx139_3
                                try clear hx139_4
                                try clear hx140_0
                                try clear hx69_0
                                try clear hx69_1
                                try clear hx69_2
                                try clear hx69_3
                                try clear hx69_4
                                try clear hx73_4
                                try clear p1
                                try clear p12
                                try clear p129
                                try clear p13
                                try clear p130
                                try clear p131
                                try clear p138
                                try clear p139
                                try clear p14
                                try clear p140
                                try clear p2
                                try clear p6
                                try clear p64
                                try clear p69
                                try clear q1
                                try clear q12
                                try clear q129
                                try clear q13
                                try clear q130
                                try clear q131
                                try clear q138
                                try clear q139
                                try clear q14
                                try clear q140
                                try clear q3
                                try clear q30
                                try clear q33
                                try clear q6
                                try clear q69
                                obtain ⟨x35_8, rfl, HA, HK8, HO_21, HO_29, HO_32, BK101, HB⟩ := hrel
                                as_aux_lemma =>
                                 cases gk with
                                 | zero => exact absurd HA.out (by simp [isobathlaw02_MooringFound.l4])
                                 | succ k8 =>
                                  have H := HA.out
                                  clear HA
                                  simp only [isobathlaw02_MooringFound.l4] at H
                                  by_cases c83 : x35_8 < (t145.length : Int)
                                  ·rw [if_pos c83] at H
                                   have c83b0 : decide (x35_8 < (t145.length : Int)) = true := zdt c83
                                   clear c83
                                   by_cases c84 : 0 ≤ x35_8
                                   ·rw [if_pos c84] at H
                                    have c84b0 : decide (0 ≤ x35_8) = true := zdt c84
                                    clear c84
                                    by_cases c85 : 0 ≤ x36_7
                                    ·rw [if_pos c85] at H
                                     have c85b0 : decide (0 ≤ x36_7) = true := zdt c85
                                     clear c85
                                     by_cases c86 : x36_7 < (t150.length : Int)
                                     ·rw [if_pos c86] at H
                                      have c86b0 : decide (x36_7 < (t150.length : Int)) = true := zdt c86
                                      clear c86
                                      by_cases c87 : (rd t145 x35_8) < (rd t150 x36_7)
                                      ·rw [if_pos c87] at H
                                       have c87b0 : decide ((rd t145 x35_8) < (rd t150 x36_7)) = true := zdt c87
                                       clear c87
                                       as_aux_lemma =>
                                        have H' := zam H
                                        clear H
                                        try go_wp2
                                        have n0_ := zam (Kd.N_drew HO_21.out)
                                        have n1_ := zam (zRd HO_29.out)
                                        have n2_ := zam (zRd HO_32.out)
                                        have n3_ := zam (zkd BK101.out)
                                        have n4_ := zam (zb1 HB.out)
                                        clear HO_21
                                        clear HO_29
                                        clear HO_32
                                        clear BK101
                                        clear HB
                                        have HO_21 := n0_
                                        have HO_29 := n1_
                                        have HO_32 := n2_
                                        have BK101 := n3_
                                        have HB := n4_
                                        clear n0_ n1_ n2_ n3_ n4_
                                        obtain ⟨Ao89, co89, eo89⟩ := Kd.R_slice HO_29.out
                                        (first | subst eo89 | (injection eo89 with f1_ f2_ f3_; have f4_ := f1_.symm; have f5_ := f3_.symm; clear f1_ f2_ f3_; subst f4_; subst f5_))
                                        have p159 : 0 ≤ (x35_8 : Int) := zod (by first | (with_reducible assumption) | assumption)
                                        have q159 : x35_8 < (t145.length : Int) := zod (by first | (with_reducible assumption) | assumption)
                                        obtain ⟨ad159, e159, hx159_0⟩ := Kd.at_int (Kd.R_reads' HO_29.out).2.2 x35_8 p159 q159
                                        cases e159
                                        replace p159 := eq_true p159
                                        replace q159 := eq_true q159
                                        (try (have q159x := q159; simp only [zld, zlt] at q159x))
                                        have p160 : 0 ≤ (x36_7 : Int) := zod (by first | (with_reducible assumption) | assumption)
                                        have q160 : x36_7 < (t150.length : Int) := zod (by first | (with_reducible assumption) | assumption)
                                        obtain ⟨ad160, e160, hx160_0⟩ := Kd.at_int (Kd.R_reads' HO_32.out).2.2 x36_7 p160 q160
                                        cases e160
                                        replace p160 := eq_true p160
                                        replace q160 := eq_true q160
                                        (try (have q160x := q160; simp only [zld, zlt] at q160x))
                                        refine start_ (n := 15) (S := fun w' => w'.cell? (ad159.add (x35_8).toNat) = some (.int .i64 (rd t145 x35_8)) ∧ w'.cell? (ad160.add (x36_7).toNat) = some (.int .i64 (rd t150 x36_7))) (ds := []) #[false, false, false, false, false, false, false, false, false, false, false, false, false, false, false] (by kernel_rfl) rfl rfl ⟨hx159_0, hx160_0⟩ (fun hHeld => ?_); refine with_tabW isobathlaw02_MooringFound.tab46 isobathlaw02_MooringFound.bits46 (fun HT_ HW_ => ?_)
                                        generalize wr.drew = w88 at HO_21 HO_29 HO_32 BK101 HB hx159_0 hx160_0 hHeld ⊢
                                        refine pure_ (i := 0) (N := some 223) (v := ?_) (a' := ?_) #[true, false, false, false, false, false, false, false, false, false, false, false, false, false, false] rfl rfl (any_of HT_.out (by kernel_rfl)) (fun _ _ _ h => h) (Or.inl ⟨by rfl, ?_⟩) ?_ ?_
                                        rotate_left
                                        ·intro w'
                                         go_simp
                                         with_reducible rfl
                                        rotate_left
                                        ·simp only [Act.put, zsa, zsz, zss, i64_w, i32_w]
                                         rfl
                                        refine pure_ (i := 1) (N := some 224) (v := ?_) (a' := ?_) #[true, true, false, false, false, false, false, false, false, false, false, false, false, false, false] rfl rfl (any_of HT_.out (by kernel_rfl)) (fun _ _ _ h => h) (Or.inl ⟨by rfl, ?_⟩) ?_ ?_
                                        rotate_left
                                        ·intro w'
                                         go_simp
                                         with_reducible rfl
                                        rotate_left
                                        ·simp only [Act.put, zsa, zsz, zss, i64_w, i32_w]
                                         rfl
                                        refine pure_ (i := 2) (N := some 225) (v := ?_) (a' := ?_) #[true, true, true, false, false, false, false, false, false, false, false, false, false, false, false] rfl rfl (any_of HT_.out (by kernel_rfl)) (fun _ _ _ h => h) (Or.inl ⟨by rfl, ?_⟩) ?_ ?_
                                        rotate_left
                                        ·intro w'
                                         go_simp
                                         with_reducible rfl
                                        rotate_left
                                        ·simp only [Act.put, zsa, zsz, zss, i64_w, i32_w]
                                         rfl
                                        refine pure_ (i := 3) (N := some 226) (v := ?_) (a' := ?_) #[true, true, true, true, false, false, false, false, false, false, false, false, false, false, false] rfl rfl (any_of HT_.out (by kernel_rfl)) (fun _ _ _ h => h) (Or.inl ⟨by rfl, ?_⟩) ?_ ?_
                                        rotate_left
                                        ·intro w'
                                         go_simp
                                         with_reducible rfl
                                        rotate_left
                                        ·simp only [Act.put, zsa, zsz, zss, i64_w, i32_w]
                                         rfl
                                        refine pure_ (i := 4) (N := some 227) (v := ?_) (a' := ?_) #[true, true, true, true, true, false, false, false, false, false, false, false, false, false, false] rfl rfl (any_of HT_.out (by kernel_rfl)) (fun _ _ _ h => h) (Or.inl ⟨by rfl, ?_⟩) ?_ ?_
                                        rotate_left
                                        ·intro w'
                                         go_simp
                                         with_reducible rfl
                                        rotate_left
                                        ·simp only [Act.put, zsa, zsz, zss, i64_w, i32_w]
                                         rfl
                                        refine pure_ (i := 5) (N := some 228) (v := ?_) (a' := ?_) #[true, true, true, true, true, true, false, false, false, false, false, false, false, false, false] rfl rfl (any_of HT_.out (by kernel_rfl)) (fun _ _ _ h => h) (Or.inl ⟨by rfl, ?_⟩) ?_ ?_
                                        rotate_left
                                        ·intro w'
                                         go_simp
                                         with_reducible rfl
                                        rotate_left
                                        ·simp only [Act.put, zsa, zsz, zss, i64_w, i32_w]
                                         rfl
                                        refine pure_ (i := 6) (N := some 229) (v := ?_) (a' := ?_) #[true, true, true, true, true, true, true, false, false, false, false, false, false, false, false] rfl rfl (any_of HT_.out (by kernel_rfl)) (fun _ _ _ h => h) (Or.inl ⟨by rfl, ?_⟩) ?_ ?_
                                        rotate_left
                                        ·intro w'
                                         go_simp
                                         with_reducible rfl
                                        rotate_left
                                        ·simp only [Act.put, zsa, zsz, zss, i64_w, i32_w]
                                         rfl
                                        refine pure_ (i := 7) (N := some 230) (v := ?_) (a' := ?_) #[true, true, true, true, true, true, true, true, false, false, false, false, false, false, false] rfl rfl (any_of HT_.out (by kernel_rfl)) (fun _ _ _ h => h) (Or.inl ⟨by rfl, ?_⟩) ?_ ?_
                                        rotate_left
                                        ·intro w'
                                         go_simp
                                         with_reducible rfl
                                        rotate_left
                                        ·simp only [Act.put, zsa, zsz, zss, i64_w, i32_w]
                                         rfl
                                        refine pure_ (i := 9) (N := some 232) (v := ?_) (a' := ?_) #[true, true, true, true, true, true, true, true, false, true, false, false, false, false, false] rfl rfl (any_of HT_.out (by kernel_rfl)) (fun _ _ _ h => h) (Or.inl ⟨by rfl, ?_⟩) ?_ ?_
                                        rotate_left
                                        ·intro w'
                                         go_simp
                                         with_reducible rfl
                                        rotate_left
                                        ·simp only [Act.put, zsa, zsz, zss, i64_w, i32_w]
                                         rfl
                                        refine pure_ (i := 10) (N := some 233) (v := ?_) (a' := ?_) #[true, true, true, true, true, true, true, true, false, true, true, false, false, false, false] rfl rfl (any_of HT_.out (by kernel_rfl)) (fun _ _ _ h => h) (Or.inl ⟨by rfl, ?_⟩) ?_ ?_
                                        rotate_left
                                        ·intro w'
                                         go_simp
                                         with_reducible rfl
                                        rotate_left
                                        ·simp only [Act.put, zsa, zsz, zss, i64_w, i32_w]
                                         rfl
                                        refine pure_ (i := 11) (N := some 234) (v := ?_) (a' := ?_) #[true, true, true, true, true, true, true, true, false, true, true, true, false, false, false] rfl rfl (any_of HT_.out (by kernel_rfl)) (fun _ _ _ h => h) (Or.inl ⟨by rfl, ?_⟩) ?_ ?_
                                        rotate_left
                                        ·intro w'
                                         go_simp
                                         with_reducible rfl
                                        rotate_left
                                        ·simp only [Act.put, zsa, zsz, zss, i64_w, i32_w]
                                         rfl
                                        refine take_ (i := 8) (N := some 231) (v := ?_) (a' := ?_) #[true, true, true, true, true, true, true, true, true, true, true, true, false, false, false] rfl rfl (take_ofW HT_.out HW_.out (by kernel_rfl)) (fun _ _ _ h => h) (Or.inl ⟨by rfl, ?_⟩) hHeld ?_ ?_
                                        rotate_left
                                        ·rintro w' ⟨s0, s1⟩
                                         go_simp
                                         with_reducible rfl
                                        rotate_left
                                        ·simp only [Act.put, zsa, zsz, zss, i64_w, i32_w]
                                         rfl
                                        refine take_ (i := 12) (N := some 235) (v := ?_) (a' := ?_) #[true, true, true, true, true, true, true, true, true, true, true, true, true, false, false] rfl rfl (take_ofW HT_.out HW_.out (by kernel_rfl)) (fun _ _ _ h => h) (Or.inl ⟨by rfl, ?_⟩) hHeld ?_ ?_
                                        rotate_left
                                        ·rintro w' ⟨s0, s1⟩
                                         go_simp
                                         with_reducible rfl
                                        rotate_left
                                        ·simp only [Act.put, zsa, zsz, zss, i64_w, i32_w]
                                         rfl
                                        refine pure_ (i := 13) (N := some 236) (v := ?_) (a' := ?_) #[true, true, true, true, true, true, true, true, true, true, true, true, true, true, false] rfl rfl (any_of HT_.out (by kernel_rfl)) (fun _ _ _ h => h) (Or.inl ⟨by rfl, ?_⟩) ?_ ?_
                                        rotate_left
                                        ·intro w'
                                         go_simp
                                         with_reducible rfl
                                        rotate_left
                                        ·simp only [Act.put, zsa, zsz, zss, i64_w, i32_w]
                                         rfl
                                        refine pure_ (i := 14) (N := some 237) (v := ?_) (a' := ?_) #[true, true, true, true, true, true, true, true, true, true, true, true, true, true, true] rfl rfl (any_of HT_.out (by kernel_rfl)) (fun _ _ _ h => h) (Or.inl ⟨by rfl, ?_⟩) ?_ ?_
                                        rotate_left
                                        ·intro w'
                                         go_simp
                                         with_reducible rfl
                                        rotate_left
                                        ·simp only [Act.put, zsa, zsz, zss, i64_w, i32_w]
                                         rfl
                                        refine done_ (done_of HT_.out (by kernel_rfl)) ?_
                                        try go_wp2
                                        go_roundg k8
                                        case measure => have := HJ5.out; have := HJ15.out; have := HJ35.out; have := HK4.out; have := HK5.out; have := HJ71.out; have := HK7.out; have := HK8.out; omega
                                        case rel => exact ⟨(wrap64 (x35_8 + 1)), (by first | rfl | (simp; done) | (simp [*]; done)), H', ⟨by have := HJ5.out; have := HJ15.out; have := HJ35.out; have := HK4.out; have := HK5.out; have := HJ71.out; have := HK7.out; have := HK8.out; omega⟩, ⟨by (try simp only [hl21_71]); (with_reducible repeat (first | apply Kd.N_alloc | apply Kd.N_drewN | apply Kd.N_drew)); exact HO_21.out⟩, ⟨by (try simp only [hl21_71]); (with_reducible repeat (first | apply zRa | apply zRn | apply zRd)); exact HO_29.out⟩, ⟨by (try simp only [hl21_71]); (with_reducible repeat (first | apply zRa | apply zRn | apply zRd)); exact HO_32.out⟩, ⟨by (try simp only [hl21_71]); (with_reducible repeat (first | refine zkn ?_ _ | refine zkd ?_ | refine zka ?_ _)); exact BK101.out⟩, ⟨by repeat (first | (with_reducible first | exact HB.out | apply zba | apply zbn | apply zb1 | refine zbs ?_ GE101.out) | exact HB.out)⟩⟩
                                      rw [if_neg c87] at H
                                      have c87b0 : decide ((rd t145 x35_8) < (rd t150 x36_7)) = false := zdf c87
                                      clear c87
                                      by_cases c90 : x35_8 = (t145.length : Int)
                                      ·rw [if_pos c90] at H
                                       have c90b0 : (x35_8 == (t145.length : Int)) = true := beq_iff_eq.mpr c90
                                       have c90b1 : (x35_8 != (t145.length : Int)) = false := bne_eq_false_iff_eq.mpr c90
                                       clear c90
                                       exact absurd H (by simp)
                                      rw [if_neg c90] at H
                                      have c90b0 : (x35_8 == (t145.length : Int)) = false := beq_eq_false_iff_ne.mpr c90
                                      have c90b1 : (x35_8 != (t145.length : Int)) = true := bne_iff_ne.mpr c90
                                      by_cases c91 : (rd t145 x35_8) = (rd t150 x36_7)
                                      ·rw [if_pos c91] at H
                                       have c91b0 : ((rd t145 x35_8) == (rd t150 x36_7)) = true := beq_iff_eq.mpr c91
                                       have c91b1 : ((rd t145 x35_8) != (rd t150 x36_7)) = false := bne_eq_false_iff_eq.mpr c91
                                       clear c91
                                       as_aux_lemma =>
                                        have H' := zam H
                                        clear H
                                        try go_wp2
                                        have n0_ := zam (Kd.N_drew HO_21.out)
                                        have n1_ := zam (zRd HO_29.out)
                                        have n2_ := zam (zRd HO_32.out)
                                        have n3_ := zam (zkd BK101.out)
                                        have n4_ := zam (zb1 HB.out)
                                        clear HO_21
                                        clear HO_29
                                        clear HO_32
                                        clear BK101
                                        clear HB
                                        have HO_21 := n0_
                                        have HO_29 := n1_
                                        have HO_32 := n2_
                                        have BK101 := n3_
                                        have HB := n4_
                                        clear n0_ n1_ n2_ n3_ n4_
                                        obtain ⟨Ao93, co93, eo93⟩ := Kd.R_slice HO_29.out
                                        (first | subst eo93 | (injection eo93 with f1_ f2_ f3_; have f4_ := f1_.symm; have f5_ := f3_.symm; clear f1_ f2_ f3_; subst f4_; subst f5_))
                                        have p159 : 0 ≤ (x35_8 : Int) := zod (by first | (with_reducible assumption) | assumption)
                                        have q159 : x35_8 < (t145.length : Int) := zod (by first | (with_reducible assumption) | assumption)
                                        obtain ⟨ad159, e159, hx159_0⟩ := Kd.at_int (Kd.R_reads' HO_29.out).2.2 x35_8 p159 q159
                                        cases e159
                                        replace p159 := eq_true p159
                                        replace q159 := eq_true q159
                                        (try (have q159x := q159; simp only [zld, zlt] at q159x))
                                        have p160 : 0 ≤ (x36_7 : Int) := zod (by first | (with_reducible assumption) | assumption)
                                        have q160 : x36_7 < (t150.length : Int) := zod (by first | (with_reducible assumption) | assumption)
                                        obtain ⟨ad160, e160, hx160_0⟩ := Kd.at_int (Kd.R_reads' HO_32.out).2.2 x36_7 p160 q160
                                        cases e160
                                        replace p160 := eq_true p160
                                        replace q160 := eq_true q160
                                        (try (have q160x := q160; simp only [zld, zlt] at q160x))
                                        refine start_ (n := 15) (S := fun w' => w'.cell? (ad159.add (x35_8).toNat) = some (.int .i64 (rd t145 x35_8)) ∧ w'.cell? (ad160.add (x36_7).toNat) = some (.int .i64 (rd t150 x36_7))) (ds := []) #[false, false, false, false, false, false, false, false, false, false, false, false, false, false, false] (by kernel_rfl) rfl rfl ⟨hx159_0, hx160_0⟩ (fun hHeld => ?_); refine with_tabW isobathlaw02_MooringFound.tab46 isobathlaw02_MooringFound.bits46 (fun HT_ HW_ => ?_)
                                        generalize wr.drew = w92 at HO_21 HO_29 HO_32 BK101 HB hx159_0 hx160_0 hHeld ⊢
                                        refine pure_ (i := 0) (N := some 223) (v := ?_) (a' := ?_) #[true, false, false, false, false, false, false, false, false, false, false, false, false, false, false] rfl rfl (any_of HT_.out (by kernel_rfl)) (fun _ _ _ h => h) (Or.inl ⟨by rfl, ?_⟩) ?_ ?_
                                        rotate_left
                                        ·intro w'
                                         go_simp
                                         with_reducible rfl
                                        rotate_left
                                        ·simp only [Act.put, zsa, zsz, zss, i64_w, i32_w]
                                         rfl
                                        refine pure_ (i := 1) (N := some 224) (v := ?_) (a' := ?_) #[true, true, false, false, false, false, false, false, false, false, false, false, false, false, false] rfl rfl (any_of HT_.out (by kernel_rfl)) (fun _ _ _ h => h) (Or.inl ⟨by rfl, ?_⟩) ?_ ?_
                                        rotate_left
                                        ·intro w'
                                         go_simp
                                         with_reducible rfl
                                        rotate_left
                                        ·simp only [Act.put, zsa, zsz, zss, i64_w, i32_w]
                                         rfl
                                        refine pure_ (i := 2) (N := some 225) (v := ?_) (a' := ?_) #[true, true, true, false, false, false, false, false, false, false, false, false, false, false, false] rfl rfl (any_of HT_.out (by kernel_rfl)) (fun _ _ _ h => h) (Or.inl ⟨by rfl, ?_⟩) ?_ ?_
                                        rotate_left
                                        ·intro w'
                                         go_simp
                                         with_reducible rfl
                                        rotate_left
                                        ·simp only [Act.put, zsa, zsz, zss, i64_w, i32_w]
                                         rfl
                                        refine pure_ (i := 3) (N := some 226) (v := ?_) (a' := ?_) #[true, true, true, true, false, false, false, false, false, false, false, false, false, false, false] rfl rfl (any_of HT_.out (by kernel_rfl)) (fun _ _ _ h => h) (Or.inl ⟨by rfl, ?_⟩) ?_ ?_
                                        rotate_left
                                        ·intro w'
                                         go_simp
                                         with_reducible rfl
                                        rotate_left
                                        ·simp only [Act.put, zsa, zsz, zss, i64_w, i32_w]
                                         rfl
                                        refine pure_ (i := 4) (N := some 227) (v := ?_) (a' := ?_) #[true, true, true, true, true, false, false, false, false, false, false, false, false, false, false] rfl rfl (any_of HT_.out (by kernel_rfl)) (fun _ _ _ h => h) (Or.inl ⟨by rfl, ?_⟩) ?_ ?_
                                        rotate_left
                                        ·intro w'
                                         go_simp
                                         with_reducible rfl
                                        rotate_left
                                        ·simp only [Act.put, zsa, zsz, zss, i64_w, i32_w]
                                         rfl
                                        refine pure_ (i := 5) (N := some 228) (v := ?_) (a' := ?_) #[true, true, true, true, true, true, false, false, false, false, false, false, false, false, false] rfl rfl (any_of HT_.out (by kernel_rfl)) (fun _ _ _ h => h) (Or.inl ⟨by rfl, ?_⟩) ?_ ?_
                                        rotate_left
                                        ·intro w'
                                         go_simp
                                         with_reducible rfl
                                        rotate_left
                                        ·simp only [Act.put, zsa, zsz, zss, i64_w, i32_w]
                                         rfl
                                        refine pure_ (i := 6) (N := some 229) (v := ?_) (a' := ?_) #[true, true, true, true, true, true, true, false, false, false, false, false, false, false, false] rfl rfl (any_of HT_.out (by kernel_rfl)) (fun _ _ _ h => h) (Or.inl ⟨by rfl, ?_⟩) ?_ ?_
                                        rotate_left
                                        ·intro w'
                                         go_simp
                                         with_reducible rfl
                                        rotate_left
                                        ·simp only [Act.put, zsa, zsz, zss, i64_w, i32_w]
                                         rfl
                                        refine pure_ (i := 7) (N := some 230) (v := ?_) (a' := ?_) #[true, true, true, true, true, true, true, true, false, false, false, false, false, false, false] rfl rfl (any_of HT_.out (by kernel_rfl)) (fun _ _ _ h => h) (Or.inl ⟨by rfl, ?_⟩) ?_ ?_
                                        rotate_left
                                        ·intro w'
                                         go_simp
                                         with_reducible rfl
                                        rotate_left
                                        ·simp only [Act.put, zsa, zsz, zss, i64_w, i32_w]
                                         rfl
                                        refine pure_ (i := 9) (N := some 232) (v := ?_) (a' := ?_) #[true, true, true, true, true, true, true, true, false, true, false, false, false, false, false] rfl rfl (any_of HT_.out (by kernel_rfl)) (fun _ _ _ h => h) (Or.inl ⟨by rfl, ?_⟩) ?_ ?_
                                        rotate_left
                                        ·intro w'
                                         go_simp
                                         with_reducible rfl
                                        rotate_left
                                        ·simp only [Act.put, zsa, zsz, zss, i64_w, i32_w]
                                         rfl
                                        refine pure_ (i := 10) (N := some 233) (v := ?_) (a' := ?_) #[true, true, true, true, true, true, true, true, false, true, true, false, false, false, false] rfl rfl (any_of HT_.out (by kernel_rfl)) (fun _ _ _ h => h) (Or.inl ⟨by rfl, ?_⟩) ?_ ?_
                                        rotate_left
                                        ·intro w'
                                         go_simp
                                         with_reducible rfl
                                        rotate_left
                                        ·simp only [Act.put, zsa, zsz, zss, i64_w, i32_w]
                                         rfl
                                        refine pure_ (i := 11) (N := some 234) (v := ?_) (a' := ?_) #[true, true, true, true, true, true, true, true, false, true, true, true, false, false, false] rfl rfl (any_of HT_.out (by kernel_rfl)) (fun _ _ _ h => h) (Or.inl ⟨by rfl, ?_⟩) ?_ ?_
                                        rotate_left
                                        ·intro w'
                                         go_simp
                                         with_reducible rfl
                                        rotate_left
                                        ·simp only [Act.put, zsa, zsz, zss, i64_w, i32_w]
                                         rfl
                                        refine take_ (i := 8) (N := some 231) (v := ?_) (a' := ?_) #[true, true, true, true, true, true, true, true, true, true, true, true, false, false, false] rfl rfl (take_ofW HT_.out HW_.out (by kernel_rfl)) (fun _ _ _ h => h) (Or.inl ⟨by rfl, ?_⟩) hHeld ?_ ?_
                                        rotate_left
                                        ·rintro w' ⟨s0, s1⟩
                                         go_simp
                                         with_reducible rfl
                                        rotate_left
                                        ·simp only [Act.put, zsa, zsz, zss, i64_w, i32_w]
                                         rfl
                                        refine take_ (i := 12) (N := some 235) (v := ?_) (a' := ?_) #[true, true, true, true, true, true, true, true, true, true, true, true, true, false, false] rfl rfl (take_ofW HT_.out HW_.out (by kernel_rfl)) (fun _ _ _ h => h) (Or.inl ⟨by rfl, ?_⟩) hHeld ?_ ?_
                                        rotate_left
                                        ·rintro w' ⟨s0, s1⟩
                                         go_simp
                                         with_reducible rfl
                                        rotate_left
                                        ·simp only [Act.put, zsa, zsz, zss, i64_w, i32_w]
                                         rfl
                                        refine pure_ (i := 13) (N := some 236) (v := ?_) (a' := ?_) #[true, true, true, true, true, true, true, true, true, true, true, true, true, true, false] rfl rfl (any_of HT_.out (by kernel_rfl)) (fun _ _ _ h => h) (Or.inl ⟨by rfl, ?_⟩) ?_ ?_
                                        rotate_left
                                        ·intro w'
                                         go_simp
                                         with_reducible rfl
                                        rotate_left
                                        ·simp only [Act.put, zsa, zsz, zss, i64_w, i32_w]
                                         rfl
                                        refine pure_ (i := 14) (N := some 237) (v := ?_) (a' := ?_) #[true, true, true, true, true, true, true, true, true, true, true, true, true, true, true] rfl rfl (any_of HT_.out (by kernel_rfl)) (fun _ _ _ h => h) (Or.inl ⟨by rfl, ?_⟩) ?_ ?_
                                        rotate_left
                                        ·intro w'
                                         go_simp
                                         with_reducible rfl
                                        rotate_left
                                        ·simp only [Act.put, zsa, zsz, zss, i64_w, i32_w]
                                         rfl
                                        refine done_ (done_of HT_.out (by kernel_rfl)) ?_
                                        try go_wp2
                                        have n0_ := zam (Kd.N_drew HO_21.out)
                                        have n1_ := zam (zRd HO_29.out)
                                        have n2_ := zam (zRd HO_32.out)
                                        have n3_ := zam (zkd BK101.out)
                                        have n4_ := zam (zb1 HB.out)
                                        clear HO_21
                                        clear HO_29
                                        clear HO_32
                                        clear BK101
                                        clear HB
                                        have HO_21 := n0_
                                        have HO_29 := n1_
                                        have HO_32 := n2_
                                        have BK101 := n3_
                                        have HB := n4_
                                        clear n0_ n1_ n2_ n3_ n4_
                                        have p161 : 0 ≤ (x35_8 : Int) := zod (by first | (with_reducible assumption) | assumption)
                                        have q161 : x35_8 < (t145.length : Int) := zod (by first | (with_reducible assumption) | assumption)
                                        obtain ⟨ad161, e161, hx161_0⟩ := Kd.at_int (Kd.R_reads' HO_29.out).2.2 x35_8 p161 q161
                                        obtain rfl : ad159 = ad161 := (by injection e161)
                                        replace p161 := eq_true p161
                                        replace q161 := eq_true q161
                                        (try (have q161x := q161; simp only [zld, zlt] at q161x))
                                        have p162 : 0 ≤ (x36_7 : Int) := zod (by first | (with_reducible assumption) | assumption)
                                        have q162 : x36_7 < (t150.length : Int) := zod (by first | (with_reducible assumption) | assumption)
                                        obtain ⟨ad162, e162, hx162_0⟩ := Kd.at_int (Kd.R_reads' HO_32.out).2.2 x36_7 p162 q162
                                        obtain rfl : ad160 = ad162 := (by injection e162)
                                        replace p162 := eq_true p162
                                        replace q162 := eq_true q162
                                        (try (have q162x := q162; simp only [zld, zlt] at q162x))
                                        refine start_ (n := 15) (S := fun w' => w'.cell? (ad159.add (x35_8).toNat) = some (.int .i64 (rd t145 x35_8)) ∧ w'.cell? (ad160.add (x36_7).toNat) = some (.int .i64 (rd t150 x36_7))) (ds := []) #[false, false, false, false, false, false, false, false, false, false, false, false, false, false, false] (by kernel_rfl) rfl rfl ⟨hx161_0, hx162_0⟩ (fun hHeld => ?_); refine with_tabW isobathlaw02_MooringFound.tab48 isobathlaw02_MooringFound.bits48 (fun HT_ HW_ => ?_)
                                        generalize w92.drew = w94 at HO_21 HO_29 HO_32 BK101 HB hx161_0 hx162_0 hHeld ⊢
                                        refine pure_ (i := 0) (N := some 240) (v := ?_) (a' := ?_) #[true, false, false, false, false, false, false, false, false, false, false, false, false, false, false] rfl rfl (any_of HT_.out (by kernel_rfl)) (fun _ _ _ h => h) (Or.inl ⟨by rfl, ?_⟩) ?_ ?_
                                        rotate_left
                                        ·intro w'
                                         go_simp
                                         with_reducible rfl
                                        rotate_left
                                        ·simp only [Act.put, zsa, zsz, zss, i64_w, i32_w]
                                         rfl
                                        refine pure_ (i := 1) (N := some 241) (v := ?_) (a' := ?_) #[true, true, false, false, false, false, false, false, false, false, false, false, false, false, false] rfl rfl (any_of HT_.out (by kernel_rfl)) (fun _ _ _ h => h) (Or.inl ⟨by rfl, ?_⟩) ?_ ?_
                                        rotate_left
                                        ·intro w'
                                         go_simp
                                         with_reducible rfl
                                        rotate_left
                                        ·simp only [Act.put, zsa, zsz, zss, i64_w, i32_w]
                                         rfl
                                        refine pure_ (i := 2) (N := some 242) (v := ?_) (a' := ?_) #[true, true, true, false, false, false, false, false, false, false, false, false, false, false, false] rfl rfl (any_of HT_.out (by kernel_rfl)) (fun _ _ _ h => h) (Or.inl ⟨by rfl, ?_⟩) ?_ ?_
                                        rotate_left
                                        ·intro w'
                                         go_simp
                                         with_reducible rfl
                                        rotate_left
                                        ·simp only [Act.put, zsa, zsz, zss, i64_w, i32_w]
                                         rfl
                                        refine pure_ (i := 3) (N := some 243) (v := ?_) (a' := ?_) #[true, true, true, true, false, false, false, false, false, false, false, false, false, false, false] rfl rfl (any_of HT_.out (by kernel_rfl)) (fun _ _ _ h => h) (Or.inl ⟨by rfl, ?_⟩) ?_ ?_
                                        rotate_left
                                        ·intro w'
                                         go_simp
                                         with_reducible rfl
                                        rotate_left
                                        ·simp only [Act.put, zsa, zsz, zss, i64_w, i32_w]
                                         rfl
                                        refine pure_ (i := 4) (N := some 244) (v := ?_) (a' := ?_) #[true, true, true, true, true, false, false, false, false, false, false, false, false, false, false] rfl rfl (any_of HT_.out (by kernel_rfl)) (fun _ _ _ h => h) (Or.inl ⟨by rfl, ?_⟩) ?_ ?_
                                        rotate_left
                                        ·intro w'
                                         go_simp
                                         with_reducible rfl
                                        rotate_left
                                        ·simp only [Act.put, zsa, zsz, zss, i64_w, i32_w]
                                         rfl
                                        refine pure_ (i := 5) (N := some 245) (v := ?_) (a' := ?_) #[true, true, true, true, true, true, false, false, false, false, false, false, false, false, false] rfl rfl (any_of HT_.out (by kernel_rfl)) (fun _ _ _ h => h) (Or.inl ⟨by rfl, ?_⟩) ?_ ?_
                                        rotate_left
                                        ·intro w'
                                         go_simp
                                         with_reducible rfl
                                        rotate_left
                                        ·simp only [Act.put, zsa, zsz, zss, i64_w, i32_w]
                                         rfl
                                        refine pure_ (i := 6) (N := some 246) (v := ?_) (a' := ?_) #[true, true, true, true, true, true, true, false, false, false, false, false, false, false, false] rfl rfl (any_of HT_.out (by kernel_rfl)) (fun _ _ _ h => h) (Or.inl ⟨by rfl, ?_⟩) ?_ ?_
                                        rotate_left
                                        ·intro w'
                                         go_simp
                                         with_reducible rfl
                                        rotate_left
                                        ·simp only [Act.put, zsa, zsz, zss, i64_w, i32_w]
                                         rfl
                                        refine pure_ (i := 7) (N := some 247) (v := ?_) (a' := ?_) #[true, true, true, true, true, true, true, true, false, false, false, false, false, false, false] rfl rfl (any_of HT_.out (by kernel_rfl)) (fun _ _ _ h => h) (Or.inl ⟨by rfl, ?_⟩) ?_ ?_
                                        rotate_left
                                        ·intro w'
                                         go_simp
                                         with_reducible rfl
                                        rotate_left
                                        ·simp only [Act.put, zsa, zsz, zss, i64_w, i32_w]
                                         rfl
                                        refine pure_ (i := 9) (N := some 249) (v := ?_) (a' := ?_) #[true, true, true, true, true, true, true, true, false, true, false, false, false, false, false] rfl rfl (any_of HT_.out (by kernel_rfl)) (fun _ _ _ h => h) (Or.inl ⟨by rfl, ?_⟩) ?_ ?_
                                        rotate_left
                                        ·intro w'
                                         go_simp
                                         with_reducible rfl
                                        rotate_left
                                        ·simp only [Act.put, zsa, zsz, zss, i64_w, i32_w]
                                         rfl
                                        refine pure_ (i := 10) (N := some 250) (v := ?_) (a' := ?_) #[true, true, true, true, true, true, true, true, false, true, true, false, false, false, false] rfl rfl (any_of HT_.out (by kernel_rfl)) (fun _ _ _ h => h) (Or.inl ⟨by rfl, ?_⟩) ?_ ?_
                                        rotate_left
                                        ·intro w'
                                         go_simp
                                         with_reducible rfl
                                        rotate_left
                                        ·simp only [Act.put, zsa, zsz, zss, i64_w, i32_w]
                                         rfl
                                        refine pure_ (i := 11) (N := some 251) (v := ?_) (a' := ?_) #[true, true, true, true, true, true, true, true, false, true, true, true, false, false, false] rfl rfl (any_of HT_.out (by kernel_rfl)) (fun _ _ _ h => h) (Or.inl ⟨by rfl, ?_⟩) ?_ ?_
                                        rotate_left
                                        ·intro w'
                                         go_simp
                                         with_reducible rfl
                                        rotate_left
                                        ·simp only [Act.put, zsa, zsz, zss, i64_w, i32_w]
                                         rfl
                                        refine take_ (i := 8) (N := some 248) (v := ?_) (a' := ?_) #[true, true, true, true, true, true, true, true, true, true, true, true, false, false, false] rfl rfl (take_ofW HT_.out HW_.out (by kernel_rfl)) (fun _ _ _ h => h) (Or.inl ⟨by rfl, ?_⟩) hHeld ?_ ?_
                                        rotate_left
                                        ·rintro w' ⟨s0, s1⟩
                                         go_simp
                                         with_reducible rfl
                                        rotate_left
                                        ·simp only [Act.put, zsa, zsz, zss, i64_w, i32_w]
                                         rfl
                                        refine take_ (i := 12) (N := some 252) (v := ?_) (a' := ?_) #[true, true, true, true, true, true, true, true, true, true, true, true, true, false, false] rfl rfl (take_ofW HT_.out HW_.out (by kernel_rfl)) (fun _ _ _ h => h) (Or.inl ⟨by rfl, ?_⟩) hHeld ?_ ?_
                                        rotate_left
                                        ·rintro w' ⟨s0, s1⟩
                                         go_simp
                                         with_reducible rfl
                                        rotate_left
                                        ·simp only [Act.put, zsa, zsz, zss, i64_w, i32_w]
                                         rfl
                                        refine pure_ (i := 13) (N := some 253) (v := ?_) (a' := ?_) #[true, true, true, true, true, true, true, true, true, true, true, true, true, true, false] rfl rfl (any_of HT_.out (by kernel_rfl)) (fun _ _ _ h => h) (Or.inl ⟨by rfl, ?_⟩) ?_ ?_
                                        rotate_left
                                        ·intro w'
                                         go_simp
                                         with_reducible rfl
                                        rotate_left
                                        ·simp only [Act.put, zsa, zsz, zss, i64_w, i32_w]
                                         rfl
                                        refine pure_ (i := 14) (N := some 254) (v := ?_) (a' := ?_) #[true, true, true, true, true, true, true, true, true, true, true, true, true, true, true] rfl rfl (any_of HT_.out (by kernel_rfl)) (fun _ _ _ h => h) (Or.inl ⟨by rfl, ?_⟩) ?_ ?_
                                        rotate_left
                                        ·intro w'
                                         go_simp
                                         with_reducible rfl
                                        rotate_left
                                        ·simp only [Act.put, zsa, zsz, zss, i64_w, i32_w]
                                         rfl
                                        refine done_ (done_of HT_.out (by kernel_rfl)) ?_
                                        try go_wp2
                                        go_roundg k8
                                        case measure => have := HJ5.out; have := HJ15.out; have := HJ35.out; have := HK4.out; have := HK5.out; have := HJ71.out; have := HK7.out; have := HK8.out; omega
                                        case rel => exact ⟨(x35_8), (wrap64 (x36_7 + 1)), (by first | rfl | (simp; done) | (simp [*]; done)), (by first | rfl | (simp; done) | (simp [*]; done)), H', ⟨by have := HJ5.out; have := HJ15.out; have := HJ35.out; have := HK4.out; have := HK5.out; have := HJ71.out; have := HK7.out; have := HK8.out; omega⟩, ⟨by (try simp only [hl21_71]); (with_reducible repeat (first | apply Kd.N_alloc | apply Kd.N_drewN | apply Kd.N_drew)); exact HO_21.out⟩, ⟨by (try simp only [hl21_71]); (with_reducible repeat (first | apply zRa | apply zRn | apply zRd)); exact HO_29.out⟩, ⟨by (try simp only [hl21_71]); (with_reducible repeat (first | apply zRa | apply zRn | apply zRd)); exact HO_32.out⟩, ⟨by (try simp only [hl21_71]); (with_reducible repeat (first | refine zkn ?_ _ | refine zkd ?_ | refine zka ?_ _)); exact BK101.out⟩, ⟨by repeat (first | (with_reducible first | exact HB.out | apply zba | apply zbn | apply zb1 | refine zbs ?_ GE101.out) | exact HB.out)⟩⟩
                                      rw [if_neg c91] at H
                                      exact absurd H (by simp)
                                     rw [if_neg c86] at H
                                     exact absurd H (by simp)
                                    rw [if_neg c85] at H
                                    exact absurd H (by simp)
                                   rw [if_neg c84] at H
                                   exact absurd H (by simp)
                                  rw [if_neg c83] at H
                                  have c83b0 : decide (x35_8 < (t145.length : Int)) = false := zdf c83
                                  clear c83
                                  by_cases c95 : x35_8 = (t145.length : Int)
                                  ·rw [if_pos c95] at H
                                   have c95b0 : (x35_8 == (t145.length : Int)) = true := beq_iff_eq.mpr c95
                                   have c95b1 : (x35_8 != (t145.length : Int)) = false := bne_eq_false_iff_eq.mpr c95
                                   clear c95
                                   exact absurd H (by simp)
                                  rw [if_neg c95] at H
                                  have c95b0 : (x35_8 == (t145.length : Int)) = false := beq_eq_false_iff_ne.mpr c95
                                  have c95b1 : (x35_8 != (t145.length : Int)) = true := bne_iff_ne.mpr c95
                                  by_cases c96 : 0 ≤ x35_8
                                  ·rw [if_pos c96] at H
                                   exact absurd H (by simp)
                                  rw [if_neg c96] at H
                                  exact absurd H (by simp)
                              rw [if_neg c81] at H
                              have c81b0 : decide (x36_7 < (t150.length : Int)) = false := zdf c81
                              clear c81
                              replace H := Option.bind_eq_some_iff.mp H
                              obtain ⟨⟨t155, t156⟩, A970, H⟩ := H
                              replace H : (if t111 = 0 then (if t156 = 0 then (if t155 ≤ t110 then ((isobathlaw02_fine.f k7).bind fun t157 => (some t157)) else (none)) else (none)) else ((isobathlaw02_fine.f k7).bind fun t158 => (some t158))) = some r := H
                              have A97 := zam A970
                              clear A970
                              by_cases c98 : t111 = 0
                              ·rw [if_pos c98] at H
                               have c98b0 : (t111 == 0) = true := beq_iff_eq.mpr c98
                               have c98b1 : (t111 != 0) = false := bne_eq_false_iff_eq.mpr c98
                               clear c98
                               by_cases c99 : t156 = 0
                               ·rw [if_pos c99] at H
                                have c99b0 : (t156 == 0) = true := beq_iff_eq.mpr c99
                                have c99b1 : (t156 != 0) = false := bne_eq_false_iff_eq.mpr c99
                                clear c99
                                by_cases c100 : t155 ≤ t110
                                ·rw [if_pos c100] at H
                                 have c100b0 : decide (t155 ≤ t110) = true := zdt c100
                                 clear c100
                                 replace H := Option.bind_eq_some_iff.mp H
                                 obtain ⟨t157, A1010, H⟩ := H
                                 replace H : (some t157) = some r := H
                                 have A101 := zam A1010
                                 clear A1010
                                 as_aux_lemma =>
                                  obtain rfl := zsi H
                                  obtain ⟨Ao102, co102, eo102⟩ := Kd.R_slice HO_32.out
                                  subst eo102
                                  have hcz103_0 : wr.cell? ⟨gb101, 0, none⟩ = some (.int .i64 a0_0) := (zkc BK101.out 0).trans rfl
                                  have hcz103_1 : wr.cell? ⟨gb101, 1, none⟩ = some (.int .i64 a0_1) := (zkc BK101.out 1).trans rfl
                                  have hfz103_0 := zkz BK101.out 0
                                  have hfz103_1 := zkz BK101.out 1
                                  go_wp2_with (first | ((with_reducible refine zgc (f := 49) rfl ?_); refine goesL_ (some 259) rfl rfl Try.func49 (by kernel_rfl) rfl #[.agg #[.int .i64 a0_0, .int .i64 a0_1], .slice A1 l1.length c1, .slice (some ⟨go69, 0, none⟩) y144.length co69] rfl (by (try simp only [zmt, List.map_cons, List.map_nil]); first | done | rfl | (simp only [zld, zlt]; rfl)) ?_; (with_reducible refine (mooring_Found.calls k7 a0_0 a0_1 (fun k_ => k_ < w.heap.size) _ _ l1 _ _ y144 t155 t156 _ ?side1 ?side2 ?side3 A97.out).mono ?_); (case side1 => exact Kd.V_mk HC1.out (Kd.F_below (Kd.C_F (Kd.heap_int .i64) HR1.out) (by repeat (first | (with_reducible first | exact HB.out | apply zba | apply zbn | apply zb1 | refine zbs ?_ GE101.out) | exact HB.out)))); (case side2 => repeat (first | exact (Kd.N_reads' HO_21.out).2.2 | (with_reducible refine Kd.C_alloc ?_ _) | (with_reducible refine Kd.C_drewN ?_ _) | (with_reducible refine Kd.C_drew ?_))); (case side3 => exact (Kd.N_reads' HO_21.out).2.1); rintro e w104 ⟨rfl, hb⟩; refine ⟨_, rfl, ?_⟩; have n0_ := zam (Kd.N_below (by (with_reducible repeat (first | apply Kd.N_alloc | apply Kd.N_drewN | apply Kd.N_drew)); exact HO_21.out) hb); have n1_ := zam (Kd.R_below (by (with_reducible repeat (first | apply zRa | apply zRn | apply zRd)); exact HO_29.out) hb); have n2_ := zam (Kd.R_below (by (with_reducible repeat (first | apply zRa | apply zRn | apply zRd)); exact HO_32.out) hb); have n3_ := zam (zkb (g := gb101) (o := .cells #[.int .i64 a0_0, .int .i64 a0_1] 72 (0, 0)) (by (with_reducible repeat (first | refine zkn ?_ _ | refine zkd ?_ | refine zka ?_ _)); exact BK101.out) hb); have n4_ := zam (zbt (by repeat (first | (with_reducible first | exact HB.out | apply zba | apply zbn | apply zb1 | refine zbs ?_ GE101.out) | exact HB.out)) hb); clear HO_21; clear HO_29; clear HO_32; clear BK101; clear HB; have HO_21 := n0_; have HO_29 := n1_; have HO_32 := n2_; have BK101 := n3_; have HB := n4_; clear n0_ n1_ n2_ n3_ n4_; (try clear hb); (try clear hb2); (try clear hk); (try clear hi)) | (go_at_call 14; (with_reducible refine (isobathlaw02_fine.calls k7  t157 _ A101.out).mono ?_); rintro e w105 ⟨rfl, hb⟩; have n0_ := zam (Kd.N_below (by (with_reducible repeat (first | apply Kd.N_alloc | apply Kd.N_drewN | apply Kd.N_drew)); exact HO_21.out) hb); have n1_ := zam (Kd.R_below (by (with_reducible repeat (first | apply zRa | apply zRn | apply zRd)); exact HO_29.out) hb); have n2_ := zam (Kd.R_below (by (with_reducible repeat (first | apply zRa | apply zRn | apply zRd)); exact HO_32.out) hb); have n3_ := zam (zkb (g := gb101) (o := .cells #[.int .i64 a0_0, .int .i64 a0_1] 72 (0, 0)) (by (with_reducible repeat (first | refine zkn ?_ _ | refine zkd ?_ | refine zka ?_ _)); exact BK101.out) hb); have n4_ := zam (zbt (by repeat (first | (with_reducible first | exact HB.out | apply zba | apply zbn | apply zb1 | refine zbs ?_ GE101.out) | exact HB.out)) hb); clear HO_21; clear HO_29; clear HO_32; clear BK101; clear HB; have HO_21 := n0_; have HO_29 := n1_; have HO_32 := n2_; have BK101 := n3_; have HB := n4_; clear n0_ n1_ n2_ n3_ n4_; (try clear hb); (try clear hb2); (try clear hk); (try clear hi)))
                                  go_ret
                                  exact ⟨by first | rfl | (simp [errW_none, errW_some] <;> rfl) | (simp only [← hji51]; first | rfl | (simp [errW_none, errW_some] <;> rfl)) | (simp [*, errW_none, errW_some] <;> rfl), by repeat (first | (with_reducible first | exact HB.out | apply zba | apply zbn | apply zb1 | refine zbs ?_ GE101.out) | exact HB.out)⟩
                                rw [if_neg c100] at H
                                exact absurd H (by simp)
                               rw [if_neg c99] at H
                               exact absurd H (by simp)
                              rw [if_neg c98] at H
                              have c98b0 : (t111 == 0) = false := beq_eq_false_iff_ne.mpr c98
                              have c98b1 : (t111 != 0) = true := bne_iff_ne.mpr c98
                              replace H := Option.bind_eq_some_iff.mp H
                              obtain ⟨t158, A1060, H⟩ := H
                              replace H : (some t158) = some r := H
                              have A106 := zam A1060
                              clear A1060
                              as_aux_lemma =>
                               obtain rfl := zsi H
                               obtain ⟨Ao107, co107, eo107⟩ := Kd.R_slice HO_32.out
                               subst eo107
                               have hcz108_0 : wr.cell? ⟨gb101, 0, none⟩ = some (.int .i64 a0_0) := (zkc BK101.out 0).trans rfl
                               have hcz108_1 : wr.cell? ⟨gb101, 1, none⟩ = some (.int .i64 a0_1) := (zkc BK101.out 1).trans rfl
                               have hfz108_0 := zkz BK101.out 0
                               have hfz108_1 := zkz BK101.out 1
                               go_wp2_with (first | ((with_reducible refine zgc (f := 49) rfl ?_); refine goesL_ (some 259) rfl rfl Try.func49 (by kernel_rfl) rfl #[.agg #[.int .i64 a0_0, .int .i64 a0_1], .slice A1 l1.length c1, .slice (some ⟨go69, 0, none⟩) y144.length co69] rfl (by (try simp only [zmt, List.map_cons, List.map_nil]); first | done | rfl | (simp only [zld, zlt]; rfl)) ?_; (with_reducible refine (mooring_Found.calls k7 a0_0 a0_1 (fun k_ => k_ < w.heap.size) _ _ l1 _ _ y144 t155 t156 _ ?side1 ?side2 ?side3 A97.out).mono ?_); (case side1 => exact Kd.V_mk HC1.out (Kd.F_below (Kd.C_F (Kd.heap_int .i64) HR1.out) (by repeat (first | (with_reducible first | exact HB.out | apply zba | apply zbn | apply zb1 | refine zbs ?_ GE101.out) | exact HB.out)))); (case side2 => repeat (first | exact (Kd.N_reads' HO_21.out).2.2 | (with_reducible refine Kd.C_alloc ?_ _) | (with_reducible refine Kd.C_drewN ?_ _) | (with_reducible refine Kd.C_drew ?_))); (case side3 => exact (Kd.N_reads' HO_21.out).2.1); rintro e w109 ⟨rfl, hb⟩; refine ⟨_, rfl, ?_⟩; have n0_ := zam (Kd.N_below (by (with_reducible repeat (first | apply Kd.N_alloc | apply Kd.N_drewN | apply Kd.N_drew)); exact HO_21.out) hb); have n1_ := zam (Kd.R_below (by (with_reducible repeat (first | apply zRa | apply zRn | apply zRd)); exact HO_29.out) hb); have n2_ := zam (Kd.R_below (by (with_reducible repeat (first | apply zRa | apply zRn | apply zRd)); exact HO_32.out) hb); have n3_ := zam (zkb (g := gb101) (o := .cells #[.int .i64 a0_0, .int .i64 a0_1] 72 (0, 0)) (by (with_reducible repeat (first | refine zkn ?_ _ | refine zkd ?_ | refine zka ?_ _)); exact BK101.out) hb); have n4_ := zam (zbt (by repeat (first | (with_reducible first | exact HB.out | apply zba | apply zbn | apply zb1 | refine zbs ?_ GE101.out) | exact HB.out)) hb); clear HO_21; clear HO_29; clear HO_32; clear BK101; clear HB; have HO_21 := n0_; have HO_29 := n1_; have HO_32 := n2_; have BK101 := n3_; have HB := n4_; clear n0_ n1_ n2_ n3_ n4_; (try clear hb); (try clear hb2); (try clear hk); (try clear hi)) | (go_at_call 14; (with_reducible refine (isobathlaw02_fine.calls k7  t158 _ A106.out).mono ?_); rintro e w110 ⟨rfl, hb⟩; have n0_ := zam (Kd.N_below (by (with_reducible repeat (first | apply Kd.N_alloc | apply Kd.N_drewN | apply Kd.N_drew)); exact HO_21.out) hb); have n1_ := zam (Kd.R_below (by (with_reducible repeat (first | apply zRa | apply zRn | apply zRd)); exact HO_29.out) hb); have n2_ := zam (Kd.R_below (by (with_reducible repeat (first | apply zRa | apply zRn | apply zRd)); exact HO_32.out) hb); have n3_ := zam (zkb (g := gb101) (o := .cells #[.int .i64 a0_0, .int .i64 a0_1] 72 (0, 0)) (by (with_reducible repeat (first | refine zkn ?_ _ | refine zkd ?_ | refine zka ?_ _)); exact BK101.out) hb); have n4_ := zam (zbt (by repeat (first | (with_reducible first | exact HB.out | apply zba | apply zbn | apply zb1 | refine zbs ?_ GE101.out) | exact HB.out)) hb); clear HO_21; clear HO_29; clear HO_32; clear BK101; clear HB; have HO_21 := n0_; have HO_29 := n1_; have HO_32 := n2_; have BK101 := n3_; have HB := n4_; clear n0_ n1_ n2_ n3_ n4_; (try clear hb); (try clear hb2); (try clear hk); (try clear hi)))
                               go_ret
                               exact ⟨by first | rfl | (simp [errW_none, errW_some] <;> rfl) | (simp only [← hji51]; first | rfl | (simp [errW_none, errW_some] <;> rfl)) | (simp [*, errW_none, errW_some] <;> rfl), by repeat (first | (with_reducible first | exact HB.out | apply zba | apply zbn | apply zb1 | refine zbs ?_ GE101.out) | exact HB.out)⟩
                       rw [if_neg c68] at H
                       exact absurd H (by simp)
                      rw [if_neg c62] at H
                      exact absurd H (by simp)
                     rw [if_neg c61] at H
                     exact absurd H (by simp)
                 rw [if_neg c59] at H
                 exact absurd H (by simp)
                rw [if_neg c53] at H
                exact absurd H (by simp)
               rw [if_neg c52] at H
               exact absurd H (by simp)
           rw [if_neg c45] at H
           exact absurd H (by simp)
    rw [if_neg c14] at H
    have c14b0 : (t108 == 0) = false := beq_eq_false_iff_ne.mpr c14
    have c14b1 : (t108 != 0) = true := bne_iff_ne.mpr c14
    replace H := Option.bind_eq_some_iff.mp H
    obtain ⟨t109, A1110, H⟩ := H
    replace H : (some t109) = some r := H
    have A111 := zam A1110
    clear A1110
    as_aux_lemma =>
     obtain rfl := zsi H
     have hcz112_0 : wc.cell? ⟨gb101, 0, none⟩ = some (.int .i64 a0_0) := (zkc BK101.out 0).trans rfl
     have hcz112_1 : wc.cell? ⟨gb101, 1, none⟩ = some (.int .i64 a0_1) := (zkc BK101.out 1).trans rfl
     have hfz112_0 := zkz BK101.out 0
     have hfz112_1 := zkz BK101.out 1
     go_wp2_with (first | ((with_reducible refine zgc (f := 47) rfl ?_); refine goesL_ (some 51) rfl rfl Try.func47 (by kernel_rfl) rfl #[.agg #[.int .i64 a0_0, .int .i64 a0_1], .slice A1 l1.length c1, .slice A2 l2.length c2] rfl (by (try simp only [zmt, List.map_cons, List.map_nil]); first | done | rfl | (simp only [zld, zlt]; rfl)) ?_; (with_reducible refine (isobathref02_Where.calls kj5 a0_0 a0_1 _ _ l1 _ _ l2 t104 t107 t108 _ ?side1 ?side2 ?side3 ?side4 A13.out).mono ?_); (case side1 => repeat (first | exact (Kd.C_below HR1.out HB.out) | (with_reducible refine Kd.C_alloc ?_ _) | (with_reducible refine Kd.C_drewN ?_ _) | (with_reducible refine Kd.C_drew ?_))); (case side2 => exact HC1.out); (case side3 => repeat (first | exact (Kd.V_reads' HO_2.out).2.2 | (with_reducible refine Kd.C_alloc ?_ _) | (with_reducible refine Kd.C_drewN ?_ _) | (with_reducible refine Kd.C_drew ?_))); (case side4 => exact (Kd.V_reads' HO_2.out).2.1); rintro e w113 ⟨v105, rfl, ho0, hb⟩; refine ⟨_, rfl, ?_⟩; have n0_ := zam (Kd.V_elder' (by (with_reducible repeat (first | apply Kd.V_alloc | apply Kd.V_drewN | apply Kd.V_drew)); exact HO_2.out) (Kd.R_base ho0) hb); have n1_ := zam (Kd.R_lower (Kd.R_newM (M := fun k_ => (w.heap.size ≤ k_)) ho0 (zbz (by repeat (first | (with_reducible first | exact HB.out | apply zba | apply zbn | apply zb1 | refine zbs ?_ GE101.out) | exact HB.out))) (fun k_ h_ => h_)) (zbz (by repeat (first | (with_reducible first | exact HB.out | apply zba | apply zbn | apply zb1 | refine zbs ?_ GE101.out) | exact HB.out)))); have n2_ := zam (zkb (g := gb101) (o := .cells #[.int .i64 a0_0, .int .i64 a0_1] 72 (0, 0)) (by (with_reducible repeat (first | refine zkn ?_ _ | refine zkd ?_ | refine zka ?_ _)); exact BK101.out) hb); have n3_ := zam (zbt (by repeat (first | (with_reducible first | exact HB.out | apply zba | apply zbn | apply zb1 | refine zbs ?_ GE101.out) | exact HB.out)) hb); clear HO_2; clear BK101; clear HB; have HO_2 := n0_; have HO106 := n1_; have BK101 := n2_; have HB := n3_; clear n0_ n1_ n2_ n3_; (try clear hb); (try clear hb2); (try clear hk); (try clear hi); (try clear ho0)) | ((with_reducible refine zgc (f := 14) rfl ?_); refine goesL_ (some 57) rfl rfl Try.func14 (by kernel_rfl) rfl #[] rfl (by (try simp only [zmt, List.map_cons, List.map_nil]); first | done | rfl | (simp only [zld, zlt]; rfl)) ?_; (with_reducible refine (isobathlaw02_fine.calls kj5  t109 _ A111.out).mono ?_); rintro e w114 ⟨rfl, hb⟩; refine ⟨_, rfl, ?_⟩; have n0_ := zam (Kd.V_below (by (with_reducible repeat (first | apply Kd.V_alloc | apply Kd.V_drewN | apply Kd.V_drew)); exact HO_2.out) hb); have n1_ := zam (Kd.R_below (by (with_reducible repeat (first | apply zRa | apply zRn | apply zRd)); exact HO106.out) hb); have n2_ := zam (zkb (g := gb101) (o := .cells #[.int .i64 a0_0, .int .i64 a0_1] 72 (0, 0)) (by (with_reducible repeat (first | refine zkn ?_ _ | refine zkd ?_ | refine zka ?_ _)); exact BK101.out) hb); have n3_ := zam (zbt (by repeat (first | (with_reducible first | exact HB.out | apply zba | apply zbn | apply zb1 | refine zbs ?_ GE101.out) | exact HB.out)) hb); clear HO_2; clear HO106; clear BK101; clear HB; have HO_2 := n0_; have HO106 := n1_; have BK101 := n2_; have HB := n3_; clear n0_ n1_ n2_ n3_; (try clear hb); (try clear hb2); (try clear hk); (try clear hi)))
     go_ret
     exact ⟨by first | rfl | (simp [errW_none, errW_some] <;> rfl) | (simp [*, errW_none, errW_some] <;> rfl), by repeat (first | (with_reducible first | exact HB.out | apply zba | apply zbn | apply zb1 | refine zbs ?_ GE101.out) | exact HB.out)⟩
end Go.Proofs.Ytebcmhajbjkojaa.P
