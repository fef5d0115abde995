/- Unite, Cut, Outside and Cover contain just the numbers that their definitions name, and are normal. Part 2 of 3. -/
-- Put together by wip/tools/shake.py, a program of this work: out of the words that the kit's print tool (print.sh) writes for a claim and what wip/tools/xprint.py prints, those that this claim reaches, and this work's own texts.
import Derived.Test.YtlkafgibgipodaaKBoundMembers0
namespace Go.Proofs.Ytlkafgibgipodaa.P
open Go.RowKit Go.Proofs.YtlkafgibgipodaaW.PrintWords Go.Proofs.YtlkafgibgipodaaW.PrintLast Go.Proofs.YtlkafgibgipodaaW.PrintMore
attribute [local go_sem] max2_int min2_int max_two min_two max_three min_three max_four min_four   -- for this text's walks alone
set_option linter.unusedVariables false
set_option linter.unusedSimpArgs false
mutual
def isobathlaw01_BoundMembers.j0 : Nat → List (S32) → List (S32) → Int → Bool → Int → Int → Option (Bool)
 | 0, _, _, _, _, _, _ => none
 | k + 1, x0, x1, x3, x46, x102000, x102001 => if x46 = true then ((isobathlaw01_Works.f k).bind fun t104 => (some t104)) else (isobathlaw01_BoundMembers.l0 k x0 x1 (([x3] : List Int)) 0 x102000 x102001)
def isobathlaw01_BoundMembers.j2 : Nat → List (S32) → List (S32) → List Int → Int → Int → Option (Bool)
 | 0, _, _, _, _, _ => none
 | k + 1, x0, x1, x9, x102000, x102001 => isobathlaw01_BoundMembers.l1 k x0 x1 x9 0 x102000 x102001
def isobathlaw01_BoundMembers.j4 : Nat → List (S32) → List (S32) → List Int → Int → Int → Option (Bool)
 | 0, _, _, _, _, _ => none
 | k + 1, x0, x1, x9, x102000, x102001 => (bound_Unite.f k x0 x1).bind fun bt128 => ((bound_Cut.f k x0 x1).bind fun bt132 => ((bound_Outside.f k x0 x102000 x102001).bind fun bt136 => (if bt128.2 = 0 then ((bound_CheckSet.f k bt128.1).bind fun t140 => (if t140 = 0 then (if bt132.2 = 0 then ((bound_CheckSet.f k bt132.1).bind fun t141 => (if t141 = 0 then (if bt136.2 = 0 then ((bound_CheckSet.f k bt136.1).bind fun t142 => (isobathlaw01_BoundMembers.j5 k x0 x1 x9 bt128.1 bt128.2 bt132.1 bt132.2 bt136.1 bt136.2 (t142 != 0) x102000 x102001)) else (isobathlaw01_BoundMembers.j5 k x0 x1 x9 bt128.1 bt128.2 bt132.1 bt132.2 bt136.1 bt136.2 false x102000 x102001)) else (none))) else (if bt136.2 = 0 then ((bound_CheckSet.f k bt136.1).bind fun t143 => (isobathlaw01_BoundMembers.j5 k x0 x1 x9 bt128.1 bt128.2 bt132.1 bt132.2 bt136.1 bt136.2 (t143 != 0) x102000 x102001)) else (isobathlaw01_BoundMembers.j5 k x0 x1 x9 bt128.1 bt128.2 bt132.1 bt132.2 bt136.1 bt136.2 false x102000 x102001))) else (none))) else (if bt132.2 = 0 then ((bound_CheckSet.f k bt132.1).bind fun t144 => (if t144 = 0 then (if bt136.2 = 0 then ((bound_CheckSet.f k bt136.1).bind fun t145 => (isobathlaw01_BoundMembers.j5 k x0 x1 x9 bt128.1 bt128.2 bt132.1 bt132.2 bt136.1 bt136.2 (t145 != 0) x102000 x102001)) else (isobathlaw01_BoundMembers.j5 k x0 x1 x9 bt128.1 bt128.2 bt132.1 bt132.2 bt136.1 bt136.2 false x102000 x102001)) else (none))) else (if bt136.2 = 0 then ((bound_CheckSet.f k bt136.1).bind fun t146 => (isobathlaw01_BoundMembers.j5 k x0 x1 x9 bt128.1 bt128.2 bt132.1 bt132.2 bt136.1 bt136.2 (t146 != 0) x102000 x102001)) else (isobathlaw01_BoundMembers.j5 k x0 x1 x9 bt128.1 bt128.2 bt132.1 bt132.2 bt136.1 bt136.2 false x102000 x102001))))))
def isobathlaw01_BoundMembers.j5 : Nat → List (S32) → List (S32) → List Int → List (S32) → Int → List (S32) → Int → List (S32) → Int → Bool → Int → Int → Option (Bool)
 | 0, _, _, _, _, _, _, _, _, _, _, _, _ => none
 | k + 1, x0, x1, x9, x12, x13, x14, x15, x16, x17, x162, x102000, x102001 => if x162 = true then (none) else (isobathlaw01_BoundMembers.l2 k x0 x1 x9 x12 x13 x14 x15 x16 x17 0 x102000 x102001)
def isobathlaw01_BoundMembers.l2 : Nat → List (S32) → List (S32) → List Int → List (S32) → Int → List (S32) → Int → List (S32) → Int → Int → Int → Int → Option (Bool)
 | 0, _, _, _, _, _, _, _, _, _, _, _, _ => none
 | k + 1, x0, x1, x9, x12, x13, x14, x15, x16, x17, x18, x102000, x102001 => if x18 < (x9.length : Int) then (if 0 ≤ x18 then ((bound_Has.f k x0 (rd x9 x18)).bind fun bt149 => ((bound_Has.f k x1 (rd x9 x18)).bind fun bt152 => (if bt149.2 = 0 then (isobathlaw01_BoundMembers.j7 k x0 x1 x9 x12 x13 x14 x15 x16 x17 x18 bt149.1 bt152.1 (bt152.2 != 0) x102000 x102001) else (none)))) else (none)) else ((isobathlaw01_Works.f k).bind fun t147 => (some t147))
def isobathlaw01_BoundMembers.j7 : Nat → List (S32) → List (S32) → List Int → List (S32) → Int → List (S32) → Int → List (S32) → Int → Int → Bool → Bool → Bool → Int → Int → Option (Bool)
 | 0, _, _, _, _, _, _, _, _, _, _, _, _, _, _, _ => none
 | k + 1, x0, x1, x9, x12, x13, x14, x15, x16, x17, x18, x19, x21, x192, x102000, x102001 => if x192 = true then (none) else (if x13 = 0 then (if 0 ≤ x18 then (if x18 < (x9.length : Int) then ((bound_Has.f k x12 (rd x9 x18)).bind fun bt155 => (if bt155.2 = 0 then (if x19 = true then (if (bt155.1 != true) = true then (none) else (isobathlaw01_BoundMembers.j8 k x0 x1 x9 x12 x13 x14 x15 x16 x17 x18 x19 x21 x102000 x102001)) else (if (bt155.1 != x21) = true then (none) else (isobathlaw01_BoundMembers.j8 k x0 x1 x9 x12 x13 x14 x15 x16 x17 x18 x19 x21 x102000 x102001))) else (none))) else (none)) else (none)) else (isobathlaw01_BoundMembers.j8 k x0 x1 x9 x12 x13 x14 x15 x16 x17 x18 x19 x21 x102000 x102001))
def isobathlaw01_BoundMembers.j8 : Nat → List (S32) → List (S32) → List Int → List (S32) → Int → List (S32) → Int → List (S32) → Int → Int → Bool → Bool → Int → Int → Option (Bool)
 | 0, _, _, _, _, _, _, _, _, _, _, _, _, _, _ => none
 | k + 1, x0, x1, x9, x12, x13, x14, x15, x16, x17, x18, x19, x21, x102000, x102001 => if x15 = 0 then (if 0 ≤ x18 then (if x18 < (x9.length : Int) then ((bound_Has.f k x14 (rd x9 x18)).bind fun bt158 => (if bt158.2 = 0 then (if x19 = true then (if (bt158.1 != x21) = true then (none) else (isobathlaw01_BoundMembers.j9 k x0 x1 x9 x12 x13 x14 x15 x16 x17 x18 x19 x102000 x102001)) else (if (bt158.1 != false) = true then (none) else (isobathlaw01_BoundMembers.j9 k x0 x1 x9 x12 x13 x14 x15 x16 x17 x18 x19 x102000 x102001))) else (none))) else (none)) else (none)) else (isobathlaw01_BoundMembers.j9 k x0 x1 x9 x12 x13 x14 x15 x16 x17 x18 x19 x102000 x102001)
def isobathlaw01_BoundMembers.j9 : Nat → List (S32) → List (S32) → List Int → List (S32) → Int → List (S32) → Int → List (S32) → Int → Int → Bool → Int → Int → Option (Bool)
 | 0, _, _, _, _, _, _, _, _, _, _, _, _, _ => none
 | k + 1, x0, x1, x9, x12, x13, x14, x15, x16, x17, x18, x19, x102000, x102001 => if x17 = 0 then (if 0 ≤ x18 then (if x18 < (x9.length : Int) then ((bound_Has.f k x16 (rd x9 x18)).bind fun bt161 => (if bt161.2 = 0 then (if x19 = true then (if (bt161.1 != false) = true then (none) else (isobathlaw01_BoundMembers.l2 k x0 x1 x9 x12 x13 x14 x15 x16 x17 (wrap64 (x18 + 1)) x102000 x102001)) else ((isobathlaw01_holds.f x102000 x102001 (rd x9 x18)).bind fun t164 => (if (bt161.1 != t164) = true then (none) else (isobathlaw01_BoundMembers.l2 k x0 x1 x9 x12 x13 x14 x15 x16 x17 (wrap64 (x18 + 1)) x102000 x102001)))) else (none))) else (none)) else (none)) else (isobathlaw01_BoundMembers.l2 k x0 x1 x9 x12 x13 x14 x15 x16 x17 (wrap64 (x18 + 1)) x102000 x102001)
def isobathlaw01_BoundMembers.l1 : Nat → List (S32) → List (S32) → List Int → Int → Int → Int → Option (Bool)
 | 0, _, _, _, _, _, _ => none
 | k + 1, x0, x1, x9, x11, x102000, x102001 => if x11 < (x1.length : Int) then (if x11 < 40 then (if 0 ≤ x11 then ((some (([wrap64 (((rd_T32 x1 x11).f0) - 1), (rd_T32 x1 x11).f0, (rd_T32 x1 x11).f1, wrap64 (((rd_T32 x1 x11).f1) + 1)] : List Int) : List Int)).bind fun y122 => (if x9.length + y122.length < 17592186044416 then (isobathlaw01_BoundMembers.l1 k x0 x1 (x9 ++ y122) (wrap64 (x11 + 1)) x102000 x102001) else (none))) else (none)) else (isobathlaw01_BoundMembers.j4 k x0 x1 x9 x102000 x102001)) else (isobathlaw01_BoundMembers.j4 k x0 x1 x9 x102000 x102001)
def isobathlaw01_BoundMembers.l0 : Nat → List (S32) → List (S32) → List Int → Int → Int → Int → Option (Bool)
 | 0, _, _, _, _, _, _ => none
 | k + 1, x0, x1, x9, x10, x102000, x102001 => if x10 < (x0.length : Int) then (if x10 < 40 then (if 0 ≤ x10 then ((some (([wrap64 (((rd_T32 x0 x10).f0) - 1), (rd_T32 x0 x10).f0, (rd_T32 x0 x10).f1, wrap64 (((rd_T32 x0 x10).f1) + 1)] : List Int) : List Int)).bind fun y112 => (if x9.length + y112.length < 17592186044416 then (isobathlaw01_BoundMembers.l0 k x0 x1 (x9 ++ y112) (wrap64 (x10 + 1)) x102000 x102001) else (none))) else (none)) else (isobathlaw01_BoundMembers.j2 k x0 x1 x9 x102000 x102001)) else (isobathlaw01_BoundMembers.j2 k x0 x1 x9 x102000 x102001)
end
def isobathlaw01_BoundMembers.f (k : Nat) (l0 : List (S32)) (l1 : List (S32)) (a2_0 : Int) (a2_1 : Int) (a3 : Int) : Option (Bool) := if (l0.length : Int) > 256 then (isobathlaw01_BoundMembers.j0 k l0 l1 a3 true a2_0 a2_1) else (if (l1.length : Int) > 256 then (isobathlaw01_BoundMembers.j0 k l0 l1 a3 true a2_0 a2_1) else ((isobathref01_CheckSet.f k l0).bind fun t102 => (if t102 = 0 then ((isobathref01_CheckSet.f k l1).bind fun t103 => (isobathlaw01_BoundMembers.j0 k l0 l1 a3 (t103 != 0) a2_0 a2_1)) else (isobathlaw01_BoundMembers.j0 k l0 l1 a3 true a2_0 a2_1))))
def isobathlaw01_BoundMembers.T7 : Bool × List (List Nat × List Nat) := (true, [([], []), ([], []), ([], []), ([1, 2], [1, 2]), ([3], [3]), ([4], [4]), ([5], [5]), ([], []), ([], []), ([7, 8], [7, 8]), ([9], [9]), ([10], [10]), ([], []), ([], []), ([12, 13], [12, 13]), ([14], [14]), ([15], [15]), ([], []), ([], []), ([17, 18], [17, 18]), ([19], [19]), ([20], [20]), ([21], [21]), ([6, 11, 16, 22], [6, 11, 16, 22]), ([0, 23], [0, 23]), ([24, 24, 0, 1, 2, 3, 4, 5, 6, 7, 8, 9, 10, 11, 12, 13, 14, 15, 16, 17, 18, 19, 20, 21, 22, 23, 24], [0, 24])])
def isobathlaw01_BoundMembers.B7 : List Nat := [0, 0, 0, 6, 14, 30, 62, 0, 0, 384, 896, 1920, 0, 0, 12288, 28672, 61440, 0, 0, 393216, 917504, 1966080, 4063232, 8388606, 16777215, 33554431]
theorem isobathlaw01_BoundMembers.tab7 : rtab .any (opsOf Try.f8 7) = isobathlaw01_BoundMembers.T7 := by kernel_rfl
theorem isobathlaw01_BoundMembers.bits7 : waitsOk isobathlaw01_BoundMembers.T7.2 isobathlaw01_BoundMembers.B7 = true := by kernel_rfl
def isobathlaw01_BoundMembers.T11 : Bool × List (List Nat × List Nat) := (true, [([], []), ([], []), ([], []), ([1, 2], [1, 2]), ([3], [3]), ([4], [4]), ([5], [5]), ([], []), ([], []), ([7, 8], [7, 8]), ([9], [9]), ([10], [10]), ([], []), ([], []), ([12, 13], [12, 13]), ([14], [14]), ([15], [15]), ([], []), ([], []), ([17, 18], [17, 18]), ([19], [19]), ([20], [20]), ([21], [21]), ([6, 11, 16, 22], [6, 11, 16, 22]), ([0, 23], [0, 23]), ([24, 24, 0, 1, 2, 3, 4, 5, 6, 7, 8, 9, 10, 11, 12, 13, 14, 15, 16, 17, 18, 19, 20, 21, 22, 23, 24], [0, 24])])
def isobathlaw01_BoundMembers.B11 : List Nat := [0, 0, 0, 6, 14, 30, 62, 0, 0, 384, 896, 1920, 0, 0, 12288, 28672, 61440, 0, 0, 393216, 917504, 1966080, 4063232, 8388606, 16777215, 33554431]
theorem isobathlaw01_BoundMembers.tab11 : rtab .any (opsOf Try.f8 11) = isobathlaw01_BoundMembers.T11 := by kernel_rfl
theorem isobathlaw01_BoundMembers.bits11 : waitsOk isobathlaw01_BoundMembers.T11.2 isobathlaw01_BoundMembers.B11 = true := by kernel_rfl
def isobathlaw01_BoundMembers.T34 : Bool × List (List Nat × List Nat) := (true, [([], []), ([0], [0]), ([1], [1]), ([2], [2]), ([2], [2]), ([4, 2], [2, 4]), ([5, 2, 2], [2, 5]), ([6], [6]), ([6], [6]), ([6], [6]), ([8, 9, 6], [6, 8, 9]), ([10, 6], [6, 10]), ([7, 11, 6, 6], [6, 7, 11]), ([6, 12, 2], [2, 6, 12]), ([3, 13, 2], [2, 3, 13]), ([2, 14], [2, 14])])
def isobathlaw01_BoundMembers.B34 : List Nat := [0, 1, 3, 7, 7, 23, 55, 119, 119, 119, 887, 1911, 4087, 8183, 16383, 32767]
theorem isobathlaw01_BoundMembers.tab34 : rtab .any (opsOf Try.f8 34) = isobathlaw01_BoundMembers.T34 := by kernel_rfl
theorem isobathlaw01_BoundMembers.bits34 : waitsOk isobathlaw01_BoundMembers.T34.2 isobathlaw01_BoundMembers.B34 = true := by kernel_rfl
set_option maxHeartbeats 8000000 in
set_option maxRecDepth 100000 in
theorem isobathlaw01_BoundMembers.calls (k : Nat) (A0 : Option Addr) (c0 : Nat) (l0 : List (S32)) (A1 : Option Addr) (c1 : Nat) (l1 : List (S32)) (a2_0 : Int) (a2_1 : Int) (a3 : Int) (r : Bool) (w : World) (hr0 : Kd.C k32 w A0 l0.length l0) (hc0 : l0.length ≤ c0) (hr1 : Kd.C k32 w A1 l1.length l1) (hc1 : l1.length ≤ c1) (h : isobathlaw01_BoundMembers.f k l0 l1 a2_0 a2_1 a3 = some r) :
  Calls Try.prog 8 #[.slice A0 l0.length c0, .slice A1 l1.length c1, .agg #[.int .i64 a2_0, .int .i64 a2_1], .int .i64 a3] w fun e w' => e = .returned (.bool r) ∧ Below w.heap.size w w' := by
 have hu32 := Try.underlying32
 have HR0 := zam hr0
 have HC0 := zam hc0
 clear hr0 hc0
 have HR1 := zam hr1
 have HC1 := zam hc1
 clear hr1 hc1
 have HB := zam (Below.refl w.heap.size w)
 have H : (if (l0.length : Int) > 256 then (isobathlaw01_BoundMembers.j0 k l0 l1 a3 true a2_0 a2_1) else (if (l1.length : Int) > 256 then (isobathlaw01_BoundMembers.j0 k l0 l1 a3 true a2_0 a2_1) else ((isobathref01_CheckSet.f k l0).bind fun t102 => (if t102 = 0 then ((isobathref01_CheckSet.f k l1).bind fun t103 => (isobathlaw01_BoundMembers.j0 k l0 l1 a3 (t103 != 0) a2_0 a2_1)) else (isobathlaw01_BoundMembers.j0 k l0 l1 a3 true a2_0 a2_1))))) = some r := h
 clear h
 have HC5 := zam H
 clear H
 go_enter Try.func8, Try.ntmps8
 go_upto_region 1 with (first | ((with_reducible refine zgd (N := 6) rfl ?_); (try (refine gate_guard (by rfl) ?_; dsimp only)); refine box_event ?hg (N := 6) ?hd (cs := #[.int .i64 a2_0, .int .i64 a2_1]) (t := 32) ?hr ?_; (case hd => rfl); (case hg => rfl); (case hr => first | (go_simp; done) | (go_simp; rfl)); intro gb101 hg w6 hbox hb; have n0_ := zam (zbt (by repeat (first | (with_reducible first | exact HB.out | apply zba | apply zbn | apply zb1) | exact HB.out)) hb); have n1_ := zam (hbox); have n2_ := zam ((by rw [hg]; exact (zbz (by repeat (first | (with_reducible first | exact HB.out | apply zba | apply zbn | apply zb1) | exact HB.out))) : w.heap.size ≤ gb101)); have n3_ := zam ((by rw [hg]; exact (zbz (by repeat (first | (with_reducible first | exact HB.out | apply zba | apply zbn | apply zb1) | exact HB.out))) : w.heap.size ≤ gb101)); clear HB; have HB := n0_; have BK101 := n1_; have GW101 := n2_; have GE101 := n3_; clear n0_ n1_ n2_ n3_; clear hb hbox hg))
 (try simp only [Act.put, zsa, zsz, zss])
 go_cut [46] (fun v46 wc => ∃ (kq : Nat) (x46_4 : Bool), v46 = .bool x46_4 ∧ Aside0 (isobathlaw01_BoundMembers.j0 kq l0 l1 a3 x46_4 a2_0 a2_1 = some r) ∧ Aside0 (kq ≤ k) ∧ Aside0 (wc.heap[gb101]? = some (.cells #[.int .i64 a2_0, .int .i64 a2_1] 32 (0, 0))) ∧ Aside0 (Below w.heap.size w wc))
 case first =>
  have H := HC5.out
  clear HC5
  by_cases c7 : (l0.length : Int) > 256
  ·rw [if_pos c7] at H
   have c7b0 : decide (256 < (l0.length : Int)) = true := zdt c7
   have c7b1 : decide (256 < l0.length) = true := zdt (by omega)
   clear c7
   (first | rw [c7b0] | (simp only [i64_w, i32_w]; rw [c7b0]) | skip)
   as_aux_lemma =>
    have H' := zam H
    clear H
    go_wp2
    go_meet
    case rel => exact ⟨_, (true), (by first | rfl | (simp; done) | (simp [*]; done)), H', ⟨by first | omega | exact Nat.le_refl _⟩, ⟨by (with_reducible repeat (first | refine zkn ?_ _ | refine zkd ?_ | refine zka ?_ _)); exact BK101.out⟩, ⟨by repeat (first | (with_reducible first | exact HB.out | apply zba | apply zbn | apply zb1 | refine zbs ?_ GE101.out) | exact HB.out)⟩⟩
  rw [if_neg c7] at H
  have c7b0 : decide (256 < (l0.length : Int)) = false := zdf c7
  have c7b1 : decide (256 < l0.length) = false := zdf (by omega)
  clear c7
  (first | rw [c7b0] | (simp only [i64_w, i32_w]; rw [c7b0]) | skip)
  by_cases c8 : (l1.length : Int) > 256
  ·rw [if_pos c8] at H
   have c8b0 : decide (256 < (l1.length : Int)) = true := zdt c8
   have c8b1 : decide (256 < l1.length) = true := zdt (by omega)
   clear c8
   as_aux_lemma =>
    have H' := zam H
    clear H
    go_wp2
    go_meet
    case rel => exact ⟨_, (true), (by first | rfl | (simp; done) | (simp [*]; done)), H', ⟨by first | omega | exact Nat.le_refl _⟩, ⟨by (with_reducible repeat (first | refine zkn ?_ _ | refine zkd ?_ | refine zka ?_ _)); exact BK101.out⟩, ⟨by repeat (first | (with_reducible first | exact HB.out | apply zba | apply zbn | apply zb1 | refine zbs ?_ GE101.out) | exact HB.out)⟩⟩
  rw [if_neg c8] at H
  have c8b0 : decide (256 < (l1.length : Int)) = false := zdf c8
  have c8b1 : decide (256 < l1.length) = false := zdf (by omega)
  clear c8
  replace H := Option.bind_eq_some_iff.mp H
  obtain ⟨t102, A90, H⟩ := H
  replace H : (if t102 = 0 then ((isobathref01_CheckSet.f k l1).bind fun t103 => (isobathlaw01_BoundMembers.j0 k l0 l1 a3 (t103 != 0) a2_0 a2_1)) else (isobathlaw01_BoundMembers.j0 k l0 l1 a3 true a2_0 a2_1)) = some r := H
  have A9 := zam A90
  clear A90
  by_cases c10 : t102 = 0
  ·rw [if_pos c10] at H
   have c10b0 : (t102 == 0) = true := beq_iff_eq.mpr c10
   have c10b1 : (t102 != 0) = false := bne_eq_false_iff_eq.mpr c10
   clear c10
   replace H := Option.bind_eq_some_iff.mp H
   obtain ⟨t103, A110, H⟩ := H
   replace H : (isobathlaw01_BoundMembers.j0 k l0 l1 a3 (t103 != 0) a2_0 a2_1) = some r := H
   have A11 := zam A110
   clear A110
   as_aux_lemma =>
    have H' := zam H
    clear H
    go_wp2_with (first | (go_at_call 39; (with_reducible refine (isobathref01_CheckSet.calls k _ _ l0 t102 _ ?side1 ?side2 A9.out).mono ?_); (case side1 => repeat (first | exact (Kd.C_below HR0.out HB.out) | (with_reducible refine Kd.C_alloc ?_ _) | (with_reducible refine Kd.C_drewN ?_ _) | (with_reducible refine Kd.C_drew ?_))); (case side2 => exact HC0.out); rintro e w12 ⟨rfl, hb⟩; have n0_ := zam (zkb (g := gb101) (o := .cells #[.int .i64 a2_0, .int .i64 a2_1] 32 (0, 0)) (by (with_reducible repeat (first | refine zkn ?_ _ | refine zkd ?_ | refine zka ?_ _)); exact BK101.out) hb); have n1_ := zam (zbt (by repeat (first | (with_reducible first | exact HB.out | apply zba | apply zbn | apply zb1 | refine zbs ?_ GE101.out) | exact HB.out)) hb); clear BK101; clear HB; have BK101 := n0_; have HB := n1_; clear n0_ n1_; (try clear hb); (try clear hb2); (try clear hk); (try clear hi)) | (go_at_call 39; (with_reducible refine (isobathref01_CheckSet.calls k _ _ l1 t103 _ ?side1 ?side2 A11.out).mono ?_); (case side1 => repeat (first | exact (Kd.C_below HR1.out HB.out) | (with_reducible refine Kd.C_alloc ?_ _) | (with_reducible refine Kd.C_drewN ?_ _) | (with_reducible refine Kd.C_drew ?_))); (case side2 => exact HC1.out); rintro e w13 ⟨rfl, hb⟩; have n0_ := zam (zkb (g := gb101) (o := .cells #[.int .i64 a2_0, .int .i64 a2_1] 32 (0, 0)) (by (with_reducible repeat (first | refine zkn ?_ _ | refine zkd ?_ | refine zka ?_ _)); exact BK101.out) hb); have n1_ := zam (zbt (by repeat (first | (with_reducible first | exact HB.out | apply zba | apply zbn | apply zb1 | refine zbs ?_ GE101.out) | exact HB.out)) hb); clear BK101; clear HB; have BK101 := n0_; have HB := n1_; clear n0_ n1_; (try clear hb); (try clear hb2); (try clear hk); (try clear hi)))
    go_meet
    case rel => exact ⟨_, ((t103 != 0)), (by first | rfl | (simp; done) | (simp [*]; done)), H', ⟨by first | omega | exact Nat.le_refl _⟩, ⟨by (with_reducible repeat (first | refine zkn ?_ _ | refine zkd ?_ | refine zka ?_ _)); exact BK101.out⟩, ⟨by repeat (first | (with_reducible first | exact HB.out | apply zba | apply zbn | apply zb1 | refine zbs ?_ GE101.out) | exact HB.out)⟩⟩
  rw [if_neg c10] at H
  have c10b0 : (t102 == 0) = false := beq_eq_false_iff_ne.mpr c10
  have c10b1 : (t102 != 0) = true := bne_iff_ne.mpr c10
  as_aux_lemma =>
   have H' := zam H
   clear H
   go_wp2_with (first | (go_at_call 39; (with_reducible refine (isobathref01_CheckSet.calls k _ _ l0 t102 _ ?side1 ?side2 A9.out).mono ?_); (case side1 => repeat (first | exact (Kd.C_below HR0.out HB.out) | (with_reducible refine Kd.C_alloc ?_ _) | (with_reducible refine Kd.C_drewN ?_ _) | (with_reducible refine Kd.C_drew ?_))); (case side2 => exact HC0.out); rintro e w14 ⟨rfl, hb⟩; have n0_ := zam (zkb (g := gb101) (o := .cells #[.int .i64 a2_0, .int .i64 a2_1] 32 (0, 0)) (by (with_reducible repeat (first | refine zkn ?_ _ | refine zkd ?_ | refine zka ?_ _)); exact BK101.out) hb); have n1_ := zam (zbt (by repeat (first | (with_reducible first | exact HB.out | apply zba | apply zbn | apply zb1 | refine zbs ?_ GE101.out) | exact HB.out)) hb); clear BK101; clear HB; have BK101 := n0_; have HB := n1_; clear n0_ n1_; (try clear hb); (try clear hb2); (try clear hk); (try clear hi)))
   go_meet
   case rel => exact ⟨_, (true), (by first | rfl | (simp; done) | (simp [*]; done)), H', ⟨by first | omega | exact Nat.le_refl _⟩, ⟨by (with_reducible repeat (first | refine zkn ?_ _ | refine zkd ?_ | refine zka ?_ _)); exact BK101.out⟩, ⟨by repeat (first | (with_reducible first | exact HB.out | apply zba | apply zbn | apply zb1 | refine zbs ?_ GE101.out) | exact HB.out)⟩⟩
 case rest =>
  clear HC5
  try clear c1
  try clear p2
  try clear c7
  try clear c7b0
  try clear c7b1
  try clear c8
  try clear c8b0
  try clear c8b1
  try clear c10
  try clear c10b0
  try clear c10b1
  obtain ⟨kq, x46_4, rfl, HA, HJ4, BK101, HB⟩ := hcut
  as_aux_lemma =>
   cases kq with
   | zero => exact absurd HA.out (by simp [isobathlaw01_BoundMembers.j0])
   | succ kj4 =>
    have H := HA.out
    clear HA
    simp only [isobathlaw01_BoundMembers.j0] at H
    by_cases c15 : x46_4 = true
    ·subst c15
     have H1 : ((isobathlaw01_Works.f kj4).bind fun t104 => (some t104)) = some r := by rw [if_pos rfl] at H; exact H
     clear H
     have H := H1
     clear H1
     replace H := Option.bind_eq_some_iff.mp H
     obtain ⟨t104, A160, H⟩ := H
     replace H : (some t104) = some r := H
     have A16 := zam A160
     clear A160
     as_aux_lemma =>
      obtain rfl := zsi H
      go_wp2_with (first | ((with_reducible refine zgc (f := 18) rfl ?_); refine goesL_ (some 47) rfl rfl Try.func18 (by kernel_rfl) rfl #[] rfl (by (try simp only [zmt, List.map_cons, List.map_nil]); first | done | rfl | (simp only [zld, zlt]; rfl)) ?_; (with_reducible refine (isobathlaw01_Works.calls kj4  t104 _ A16.out).mono ?_); rintro e w17 ⟨rfl, hb⟩; refine ⟨_, rfl, ?_⟩; have n0_ := zam (zkb (g := gb101) (o := .cells #[.int .i64 a2_0, .int .i64 a2_1] 32 (0, 0)) (by (with_reducible repeat (first | refine zkn ?_ _ | refine zkd ?_ | refine zka ?_ _)); exact BK101.out) hb); have n1_ := zam (zbt (by repeat (first | (with_reducible first | exact HB.out | apply zba | apply zbn | apply zb1 | refine zbs ?_ GE101.out) | exact HB.out)) hb); clear BK101; clear HB; have BK101 := n0_; have HB := n1_; clear n0_ n1_; (try clear hb); (try clear hb2); (try clear hk); (try clear hi)))
      go_ret
      exact ⟨by first | rfl | (simp [errW_none, errW_some] <;> rfl) | (simp [*, errW_none, errW_some] <;> rfl), by repeat (first | (with_reducible first | exact HB.out | apply zba | apply zbn | apply zb1 | refine zbs ?_ GE101.out) | exact HB.out)⟩
    replace c15 := Bool.eq_false_iff.mpr c15
    subst c15
    have H1 : (isobathlaw01_BoundMembers.l0 kj4 l0 l1 (([a3] : List Int)) 0 a2_0 a2_1) = some r := by rw [if_neg (show ¬ (false = true) by decide)] at H; exact H
    clear H
    have H := H1
    clear H1
    obtain ⟨y105, hy105⟩ : ∃ y_ : List Int, y_ = (([a3] : List Int)) := ⟨_, rfl⟩
    replace H : (isobathlaw01_BoundMembers.l0 kj4 l0 l1 y105 0 a2_0 a2_1) = some r := by first | (rw [hy105]; with_reducible exact H) | (have H2_ := (Option.bind_some _ _).symm.trans H; rw [hy105]; with_reducible exact H2_) | (have H2_ := (Option.bind_some _ _).symm.trans H; with_reducible exact H2_) | with_reducible exact H | (rw [hy105]; exact H) | exact H
    have Ny105 := zam hy105
    clear hy105
    have HC18 := zam H
    clear H
    go_upto_block 0 with (first | ((with_reducible refine zgd (N := 49) rfl ?_); (try (refine gate_guard (by rfl) ?_; dsimp only)); refine Kd.R_lit (Kd.int .i64) _ 2 ?hg (N := 49) ?hd (xs := ([a3] : List Int)) (inner := [.int .i64 a3]) (ok := fun _ => True) (okp := fun _ => True) ?hr ?hp (fun _ hk => hk) trivial (Below.refl _ _) (Nat.le_refl _) (by simp) ?_; (case hd => rfl); (case hg => rfl); (case hr => first | (go_simp; done) | (go_simp; rfl)); (case hp => exact (Reps.one (show Kd.M (Kd.int .i64) _ _ _ a3 [.int .i64 a3] from rfl) (Reps.none _ _))); intro v106 w19 ho20 hb hg_ hnew_; clear hg_ hnew_; (first | rw [← Ny105.out] at ho20 | (simp only [Int.reduceToNat] at ho20; rw [← Ny105.out] at ho20)); have n0_ := zam (Kd.R_lower ho20 (zbz (by repeat (first | (with_reducible first | exact HB.out | apply zba | apply zbn | apply zb1 | refine zbs ?_ GE101.out) | exact HB.out)))); have n1_ := zam (zkb (g := gb101) (o := .cells #[.int .i64 a2_0, .int .i64 a2_1] 32 (0, 0)) (by (with_reducible repeat (first | refine zkn ?_ _ | refine zkd ?_ | refine zka ?_ _)); exact BK101.out) hb); have n2_ := zam (zbt (by repeat (first | (with_reducible first | exact HB.out | apply zba | apply zbn | apply zb1 | refine zbs ?_ GE101.out) | exact HB.out)) hb); clear BK101; clear HB; have HO107 := n0_; have BK101 := n1_; have HB := n2_; clear n0_ n1_ n2_; clear hb ho20))
    (try simp only [Act.put, zsa, zsz, zss])
    go_cut [9] (fun v9 wc => ∃ (kq : Nat) (x9_17 : List Int), Aside0 (isobathlaw01_BoundMembers.j2 kq l0 l1 x9_17 a2_0 a2_1 = some r) ∧ Aside0 (kq ≤ kj4) ∧ Aside0 (Kd.R (Kd.int .i64) 2 wc w.heap.size (fun _ => True) v9 x9_17) ∧ Aside0 (wc.heap[gb101]? = some (.cells #[.int .i64 a2_0, .int .i64 a2_1] 32 (0, 0))) ∧ Aside0 (Below w.heap.size w wc))
    case first =>
     have H := HC18.out
     clear HC18
     have H' := zam H
     clear H
     go_wp2
     go_loopg [9, 10] kj4 (fun kq v9 v10 w' => ∃ (x9_2 : List Int) (x10_2 : Int), v10 = .int .i64 x10_2 ∧ Aside0 (isobathlaw01_BoundMembers.l0 kq l0 l1 x9_2 x10_2 a2_0 a2_1 = some r) ∧ Aside0 (kq ≤ kj4) ∧ Aside0 (Kd.R (Kd.int .i64) 2 w' w.heap.size (fun _ => True) v9 x9_2) ∧ Aside0 (w'.heap[gb101]? = some (.cells #[.int .i64 a2_0, .int .i64 a2_1] 32 (0, 0))) ∧ Aside0 (Below w.heap.size w w'))
     case atStart => exact ⟨(y105), (0), (by first | rfl | (simp; done) | (simp [*]; done)), H', ⟨Nat.le_refl _⟩, ⟨by (with_reducible repeat (first | apply zRa | apply zRn | apply zRd)); exact HO107.out⟩, ⟨by (with_reducible repeat (first | refine zkn ?_ _ | refine zkd ?_ | refine zka ?_ _)); exact BK101.out⟩, ⟨by repeat (first | (with_reducible first | exact HB.out | apply zba | apply zbn | apply zb1 | refine zbs ?_ GE101.out) | exact HB.out)⟩⟩
     case round =>
      clear H'
      try clear c1
      try clear p2
      try clear c7
      try clear c7b0
      try clear c7b1
      try clear c8
      try clear c8b0
      try clear c8b1
      try clear c10
      try clear c10b0
      try clear c10b1
      try clear c15
      try clear c18
      try clear p2
      obtain ⟨x9_2, x10_2, rfl, HA, HK2, HO_9, BK101, HB⟩ := hrel
      as_aux_lemma =>
       cases gk with
       | zero => exact absurd HA.out (by simp [isobathlaw01_BoundMembers.l0])
       | succ k2 =>
        have H := HA.out
        clear HA
        simp only [isobathlaw01_BoundMembers.l0] at H
        by_cases c21 : x10_2 < (l0.length : Int)
        ·rw [if_pos c21] at H
         have c21b0 : decide (x10_2 < (l0.length : Int)) = true := zdt c21
         clear c21
         (first | rw [c21b0] | (simp only [i64_w, i32_w]; rw [c21b0]) | skip)
         by_cases c22 : x10_2 < 40
         ·rw [if_pos c22] at H
          have c22b0 : decide (x10_2 < 40) = true := zdt c22
          clear c22
          by_cases c23 : 0 ≤ x10_2
          ·rw [if_pos c23] at H
           have c23b0 : decide (0 ≤ x10_2) = true := zdt c23
           clear c23
           obtain ⟨y112, hy112⟩ : ∃ y_ : List Int, y_ = (([wrap64 (((rd_T32 l0 x10_2).f0) - 1), (rd_T32 l0 x10_2).f0, (rd_T32 l0 x10_2).f1, wrap64 (((rd_T32 l0 x10_2).f1) + 1)] : List Int)) := ⟨_, rfl⟩
           replace H : (if x9_2.length + y112.length < 17592186044416 then (isobathlaw01_BoundMembers.l0 k2 l0 l1 (x9_2 ++ y112) (wrap64 (x10_2 + 1)) a2_0 a2_1) else (none)) = some r := by first | (rw [hy112]; with_reducible exact H) | (have H2_ := (Option.bind_some _ _).symm.trans H; rw [hy112]; with_reducible exact H2_) | (have H2_ := (Option.bind_some _ _).symm.trans H; with_reducible exact H2_) | with_reducible exact H | (rw [hy112]; exact H) | exact H
           have Ny112 := zam hy112
           clear hy112
           by_cases c24 : x9_2.length + y112.length < 17592186044416
           ·rw [if_pos c24] at H
            have LMc24 := zam c24
            clear c24
            obtain ⟨y115, hy115⟩ : ∃ y_ : List Int, y_ = (x9_2 ++ y112) := ⟨_, rfl⟩
            replace H : (isobathlaw01_BoundMembers.l0 k2 l0 l1 y115 (wrap64 (x10_2 + 1)) a2_0 a2_1) = some r := by first | (rw [hy115]; with_reducible exact H) | (have H2_ := (Option.bind_some _ _).symm.trans H; rw [hy115]; with_reducible exact H2_) | (have H2_ := (Option.bind_some _ _).symm.trans H; with_reducible exact H2_) | with_reducible exact H | (rw [hy115]; exact H) | exact H
            have Ny115 := zam hy115
            clear hy115
            as_aux_lemma =>
             have H' := zam H
             clear H
             try go_wp2
             have n0_ := zam (zRd HO_9.out)
             have n1_ := zam (zkd BK101.out)
             have n2_ := zam (zb1 HB.out)
             clear HO_9
             clear BK101
             clear HB
             have HO_9 := n0_
             have BK101 := n1_
             have HB := n2_
             clear n0_ n1_ n2_
             have p108 : 0 ≤ (x10_2 : Int) := zod (by first | (with_reducible assumption) | assumption)
             have q108 : x10_2 < (l0.length : Int) := zod (by first | (with_reducible assumption) | assumption)
             obtain ⟨ad108, e108, hx108_0, hx108_1⟩ := at_T32 HR0.out x10_2 p108 q108
             have hw108_1 := hx108_1
             have hw108_0 := hx108_0
             cases e108
             replace hx108_0 := (HB.out.cell (zwb w _ hx108_0)).trans hx108_0
             replace hx108_1 := (HB.out.cell (zwb w _ hx108_1)).trans hx108_1
             replace p108 := eq_true p108
             replace q108 := eq_true q108
             have p109 : 0 ≤ (x10_2 : Int) := zod (by first | (with_reducible assumption) | assumption)
             have q109 : x10_2 < (l0.length : Int) := zod (by first | (with_reducible assumption) | assumption)
             obtain ⟨ad109, e109, hx109_0, hx109_1⟩ := at_T32 HR0.out x10_2 p109 q109
             have hw109_1 := hx109_1
             have hw109_0 := hx109_0
             obtain rfl : ad108 = ad109 := (by injection e109)
             replace hx109_0 := (HB.out.cell (zwb w _ hx109_0)).trans hx109_0
             replace hx109_1 := (HB.out.cell (zwb w _ hx109_1)).trans hx109_1
             replace p109 := eq_true p109
             replace q109 := eq_true q109
             have p110 : 0 ≤ (x10_2 : Int) := zod (by first | (with_reducible assumption) | assumption)
             have q110 : x10_2 < (l0.length : Int) := zod (by first | (with_reducible assumption) | assumption)
             obtain ⟨ad110, e110, hx110_0, hx110_1⟩ := at_T32 HR0.out x10_2 p110 q110
             have hw110_1 := hx110_1
             have hw110_0 := hx110_0
             obtain rfl : ad108 = ad110 := (by injection e110)
             replace hx110_0 := (HB.out.cell (zwb w _ hx110_0)).trans hx110_0
             replace hx110_1 := (HB.out.cell (zwb w _ hx110_1)).trans hx110_1
             replace p110 := eq_true p110
             replace q110 := eq_true q110
             have p111 : 0 ≤ (x10_2 : Int) := zod (by first | (with_reducible assumption) | assumption)
             have q111 : x10_2 < (l0.length : Int) := zod (by first | (with_reducible assumption) | assumption)
             obtain ⟨ad111, e111, hx111_0, hx111_1⟩ := at_T32 HR0.out x10_2 p111 q111
             have hw111_1 := hx111_1
             have hw111_0 := hx111_0
             obtain rfl : ad108 = ad111 := (by injection e111)
             replace hx111_0 := (HB.out.cell (zwb w _ hx111_0)).trans hx111_0
             replace hx111_1 := (HB.out.cell (zwb w _ hx111_1)).trans hx111_1
             replace p111 := eq_true p111
             replace q111 := eq_true q111
             refine start_ (n := 26) (S := fun w' => w'.cell? (ad108.add ((x10_2).toNat * 2)) = some (.int .i64 ((rd_T32 l0 x10_2).f0)) ∧ w'.cell? ⟨(ad108.add ((x10_2).toNat * 2)).block, (ad108.add ((x10_2).toNat * 2)).off + 1, none⟩ = some (.int .i64 ((rd_T32 l0 x10_2).f1)) ∧ w'.cell? (ad108.add ((x10_2).toNat * 2)) = some (.int .i64 ((rd_T32 l0 x10_2).f0)) ∧ w'.cell? ⟨(ad108.add ((x10_2).toNat * 2)).block, (ad108.add ((x10_2).toNat * 2)).off + 1, none⟩ = some (.int .i64 ((rd_T32 l0 x10_2).f1)) ∧ w'.cell? (ad108.add ((x10_2).toNat * 2)) = some (.int .i64 ((rd_T32 l0 x10_2).f0)) ∧ w'.cell? ⟨(ad108.add ((x10_2).toNat * 2)).block, (ad108.add ((x10_2).toNat * 2)).off + 1, none⟩ = some (.int .i64 ((rd_T32 l0 x10_2).f1)) ∧ w'.cell? (ad108.add ((x10_2).toNat * 2)) = some (.int .i64 ((rd_T32 l0 x10_2).f0)) ∧ w'.cell? ⟨(ad108.add ((x10_2).toNat * 2)).block, (ad108.add ((x10_2).toNat * 2)).off + 1, none⟩ = some (.int .i64 ((rd_T32 l0 x10_2).f1))) (ds := []) #[false, false, false, false, false, false, false, false, false, false, false, false, false, false, false, false, false, false, false, false, false, false, false, false, false, false] (by kernel_rfl) rfl rfl ⟨((HB.out.cell (zwb w _ hw108_0)).trans hw108_0), ((HB.out.cell (zwb w _ hw108_1)).trans hw108_1), ((HB.out.cell (zwb w _ hw109_0)).trans hw109_0), ((HB.out.cell (zwb w _ hw109_1)).trans hw109_1), ((HB.out.cell (zwb w _ hw110_0)).trans hw110_0), ((HB.out.cell (zwb w _ hw110_1)).trans hw110_1), ((HB.out.cell (zwb w _ hw111_0)).trans hw111_0), ((HB.out.cell (zwb w _ hw111_1)).trans hw111_1)⟩ (fun hHeld => ?_); refine with_tabW isobathlaw01_BoundMembers.tab7 isobathlaw01_BoundMembers.bits7 (fun HT_ HW_ => ?_)
             generalize wr.drew = w25 at HO_9 BK101 HB hx108_0 hx108_1 hx109_0 hx109_1 hx110_0 hx110_1 hx111_0 hx111_1 hHeld ⊢
             refine pure_ (i := 0) (N := some 60) (v := ?_) (a' := ?_) #[true, false, false, false, false, false, false, false, false, false, false, false, false, false, false, false, false, false, false, false, false, false, false, false, false, false] rfl rfl (any_of HT_.out (by kernel_rfl)) (fun _ _ _ h => h) (Or.inl ⟨by rfl, ?_⟩) ?_ ?_
             rotate_left
             ·intro w'
              go_simp
              with_reducible rfl
             rotate_left
             ·simp only [Act.put, zsa, zsz, zss, i64_w, i32_w]
              rfl
             refine pure_ (i := 1) (N := some 61) (v := ?_) (a' := ?_) #[true, true, false, false, false, false, false, false, false, false, false, false, false, false, false, false, false, false, false, false, false, false, false, false, false, false] rfl rfl (any_of HT_.out (by kernel_rfl)) (fun _ _ _ h => h) (Or.inl ⟨by rfl, ?_⟩) ?_ ?_
             rotate_left
             ·intro w'
              go_simp
              with_reducible rfl
             rotate_left
             ·simp only [Act.put, zsa, zsz, zss, i64_w, i32_w]
              rfl
             refine pure_ (i := 2) (N := some 62) (v := ?_) (a' := ?_) #[true, true, true, false, false, false, false, false, false, false, false, false, false, false, false, false, false, false, false, false, false, false, false, false, false, false] rfl rfl (any_of HT_.out (by kernel_rfl)) (fun _ _ _ h => h) (Or.inl ⟨by rfl, ?_⟩) ?_ ?_
             rotate_left
             ·intro w'
              go_simp
              with_reducible rfl
             rotate_left
             ·simp only [Act.put, zsa, zsz, zss, i64_w, i32_w]
              rfl
             refine pure_ (i := 3) (N := some 63) (v := ?_) (a' := ?_) #[true, true, true, true, false, false, false, false, false, false, false, false, false, false, false, false, false, false, false, false, false, false, false, false, false, false] rfl rfl (any_of HT_.out (by kernel_rfl)) (fun _ _ _ h => h) (Or.inl ⟨by rfl, ?_⟩) ?_ ?_
             rotate_left
             ·intro w'
              go_simp
              with_reducible rfl
             rotate_left
             ·simp only [Act.put, zsa, zsz, zss, i64_w, i32_w]
              rfl
             refine pure_ (i := 4) (N := some 64) (v := ?_) (a' := ?_) #[true, true, true, true, true, false, false, false, false, false, false, false, false, false, false, false, false, false, false, false, false, false, false, false, false, false] rfl rfl (any_of HT_.out (by kernel_rfl)) (fun _ _ _ h => h) (Or.inl ⟨by rfl, ?_⟩) ?_ ?_
             rotate_left
             ·intro w'
              go_simp
              with_reducible rfl
             rotate_left
             ·simp only [Act.put, zsa, zsz, zss, i64_w, i32_w]
              rfl
             refine pure_ (i := 7) (N := some 67) (v := ?_) (a' := ?_) #[true, true, true, true, true, false, false, true, false, false, false, false, false, false, false, false, false, false, false, false, false, false, false, false, false, false] rfl rfl (any_of HT_.out (by kernel_rfl)) (fun _ _ _ h => h) (Or.inl ⟨by rfl, ?_⟩) ?_ ?_
             rotate_left
             ·intro w'
              go_simp
              with_reducible rfl
             rotate_left
             ·simp only [Act.put, zsa, zsz, zss, i64_w, i32_w]
              rfl
             refine pure_ (i := 8) (N := some 68) (v := ?_) (a' := ?_) #[true, true, true, true, true, false, false, true, true, false, false, false, false, false, false, false, false, false, false, false, false, false, false, false, false, false] rfl rfl (any_of HT_.out (by kernel_rfl)) (fun _ _ _ h => h) (Or.inl ⟨by rfl, ?_⟩) ?_ ?_
             rotate_left
             ·intro w'
              go_simp
              with_reducible rfl
             rotate_left
             ·simp only [Act.put, zsa, zsz, zss, i64_w, i32_w]
              rfl
             refine pure_ (i := 9) (N := some 69) (v := ?_) (a' := ?_) #[true, true, true, true, true, false, false, true, true, true, false, false, false, false, false, false, false, false, false, false, false, false, false, false, false, false] rfl rfl (any_of HT_.out (by kernel_rfl)) (fun _ _ _ h => h) (Or.inl ⟨by rfl, ?_⟩) ?_ ?_
             rotate_left
             ·intro w'
              go_simp
              with_reducible rfl
             rotate_left
             ·simp only [Act.put, zsa, zsz, zss, i64_w, i32_w]
              rfl
             refine pure_ (i := 10) (N := some 70) (v := ?_) (a' := ?_) #[true, true, true, true, true, false, false, true, true, true, true, false, false, false, false, false, false, false, false, false, false, false, false, false, false, false] rfl rfl (any_of HT_.out (by kernel_rfl)) (fun _ _ _ h => h) (Or.inl ⟨by rfl, ?_⟩) ?_ ?_
             rotate_left
             ·intro w'
              go_simp
              with_reducible rfl
             rotate_left
             ·simp only [Act.put, zsa, zsz, zss, i64_w, i32_w]
              rfl
             refine pure_ (i := 12) (N := some 72) (v := ?_) (a' := ?_) #[true, true, true, true, true, false, false, true, true, true, true, false, true, false, false, false, false, false, false, false, false, false, false, false, false, false] rfl rfl (any_of HT_.out (by kernel_rfl)) (fun _ _ _ h => h) (Or.inl ⟨by rfl, ?_⟩) ?_ ?_
             rotate_left
             ·intro w'
              go_simp
              with_reducible rfl
             rotate_left
             ·simp only [Act.put, zsa, zsz, zss, i64_w, i32_w]
              rfl
             refine pure_ (i := 13) (N := some 73) (v := ?_) (a' := ?_) #[true, true, true, true, true, false, false, true, true, true, true, false, true, true, false, false, false, false, false, false, false, false, false, false, false, false] rfl rfl (any_of HT_.out (by kernel_rfl)) (fun _ _ _ h => h) (Or.inl ⟨by rfl, ?_⟩) ?_ ?_
             rotate_left
             ·intro w'
              go_simp
              with_reducible rfl
             rotate_left
             ·simp only [Act.put, zsa, zsz, zss, i64_w, i32_w]
              rfl
             refine pure_ (i := 14) (N := some 74) (v := ?_) (a' := ?_) #[true, true, true, true, true, false, false, true, true, true, true, false, true, true, true, false, false, false, false, false, false, false, false, false, false, false] rfl rfl (any_of HT_.out (by kernel_rfl)) (fun _ _ _ h => h) (Or.inl ⟨by rfl, ?_⟩) ?_ ?_
             rotate_left
             ·intro w'
              go_simp
              with_reducible rfl
             rotate_left
             ·simp only [Act.put, zsa, zsz, zss, i64_w, i32_w]
              rfl
             refine pure_ (i := 15) (N := some 75) (v := ?_) (a' := ?_) #[true, true, true, true, true, false, false, true, true, true, true, false, true, true, true, true, false, false, false, false, false, false, false, false, false, false] rfl rfl (any_of HT_.out (by kernel_rfl)) (fun _ _ _ h => h) (Or.inl ⟨by rfl, ?_⟩) ?_ ?_
             rotate_left
             ·intro w'
              go_simp
              with_reducible rfl
             rotate_left
             ·simp only [Act.put, zsa, zsz, zss, i64_w, i32_w]
              rfl
             refine pure_ (i := 17) (N := some 77) (v := ?_) (a' := ?_) #[true, true, true, true, true, false, false, true, true, true, true, false, true, true, true, true, false, true, false, false, false, false, false, false, false, false] rfl rfl (any_of HT_.out (by kernel_rfl)) (fun _ _ _ h => h) (Or.inl ⟨by rfl, ?_⟩) ?_ ?_
             rotate_left
             ·intro w'
              go_simp
              with_reducible rfl
             rotate_left
             ·simp only [Act.put, zsa, zsz, zss, i64_w, i32_w]
              rfl
             refine pure_ (i := 18) (N := some 78) (v := ?_) (a' := ?_) #[true, true, true, true, true, false, false, true, true, true, true, false, true, true, true, true, false, true, true, false, false, false, false, false, false, false] rfl rfl (any_of HT_.out (by kernel_rfl)) (fun _ _ _ h => h) (Or.inl ⟨by rfl, ?_⟩) ?_ ?_
             rotate_left
             ·intro w'
              go_simp
              with_reducible rfl
             rotate_left
             ·simp only [Act.put, zsa, zsz, zss, i64_w, i32_w]
              rfl
             refine pure_ (i := 19) (N := some 79) (v := ?_) (a' := ?_) #[true, true, true, true, true, false, false, true, true, true, true, false, true, true, true, true, false, true, true, true, false, false, false, false, false, false] rfl rfl (any_of HT_.out (by kernel_rfl)) (fun _ _ _ h => h) (Or.inl ⟨by rfl, ?_⟩) ?_ ?_
             rotate_left
             ·intro w'
              go_simp
              with_reducible rfl
             rotate_left
             ·simp only [Act.put, zsa, zsz, zss, i64_w, i32_w]
              rfl
             refine pure_ (i := 20) (N := some 80) (v := ?_) (a' := ?_) #[true, true, true, true, true, false, false, true, true, true, true, false, true, true, true, true, false, true, true, true, true, false, false, false, false, false] rfl rfl (any_of HT_.out (by kernel_rfl)) (fun _ _ _ h => h) (Or.inl ⟨by rfl, ?_⟩) ?_ ?_
             rotate_left
             ·intro w'
              go_simp
              with_reducible rfl
             rotate_left
             ·simp only [Act.put, zsa, zsz, zss, i64_w, i32_w]
              rfl
             refine take_ (i := 5) (N := some 65) (v := ?_) (a' := ?_) #[true, true, true, true, true, true, false, true, true, true, true, false, true, true, true, true, false, true, true, true, true, false, false, false, false, false] rfl rfl (take_ofW HT_.out HW_.out (by kernel_rfl)) (fun _ _ _ h => h) (Or.inl ⟨by rfl, ?_⟩) hHeld ?_ ?_
             rotate_left
             ·rintro w' ⟨s0, s1, s2, s3, s4, s5, s6, s7⟩
              go_simp
              with_reducible rfl
             rotate_left
             ·simp only [Act.put, zsa, zsz, zss, i64_w, i32_w]
              rfl
             refine pure_ (i := 6) (N := some 66) (v := ?_) (a' := ?_) #[true, true, true, true, true, true, true, true, true, true, true, false, true, true, true, true, false, true, true, true, true, false, false, false, false, false] rfl rfl (any_of HT_.out (by kernel_rfl)) (fun _ _ _ h => h) (Or.inl ⟨by rfl, ?_⟩) ?_ ?_
             rotate_left
             ·intro w'
              go_simp
              with_reducible rfl
             rotate_left
             ·simp only [Act.put, zsa, zsz, zss, i64_w, i32_w]
              rfl
             refine take_ (i := 11) (N := some 71) (v := ?_) (a' := ?_) #[true, true, true, true, true, true, true, true, true, true, true, true, true, true, true, true, false, true, true, true, true, false, false, false, false, false] rfl rfl (take_ofW HT_.out HW_.out (by kernel_rfl)) (fun _ _ _ h => h) (Or.inl ⟨by rfl, ?_⟩) hHeld ?_ ?_
             rotate_left
             ·rintro w' ⟨s0, s1, s2, s3, s4, s5, s6, s7⟩
              go_simp
              with_reducible rfl
             rotate_left
             ·simp only [Act.put, zsa, zsz, zss, i64_w, i32_w]
              rfl
             refine take_ (i := 16) (N := some 76) (v := ?_) (a' := ?_) #[true, true, true, true, true, true, true, true, true, true, true, true, true, true, true, true, true, true, true, true, true, false, false, false, false, false] rfl rfl (take_ofW HT_.out HW_.out (by kernel_rfl)) (fun _ _ _ h => h) (Or.inl ⟨by rfl, ?_⟩) hHeld ?_ ?_
             rotate_left
             ·rintro w' ⟨s0, s1, s2, s3, s4, s5, s6, s7⟩
              go_simp
              with_reducible rfl
             rotate_left
             ·simp only [Act.put, zsa, zsz, zss, i64_w, i32_w]
              rfl
             refine take_ (i := 21) (N := some 81) (v := ?_) (a' := ?_) #[true, true, true, true, true, true, true, true, true, true, true, true, true, true, true, true, true, true, true, true, true, true, false, false, false, false] rfl rfl (take_ofW HT_.out HW_.out (by kernel_rfl)) (fun _ _ _ h => h) (Or.inl ⟨by rfl, ?_⟩) hHeld ?_ ?_
             rotate_left
             ·rintro w' ⟨s0, s1, s2, s3, s4, s5, s6, s7⟩
              go_simp
              with_reducible rfl
             rotate_left
             ·simp only [Act.put, zsa, zsz, zss, i64_w, i32_w]
              rfl
             refine pure_ (i := 22) (N := some 82) (v := ?_) (a' := ?_) #[true, true, true, true, true, true, true, true, true, true, true, true, true, true, true, true, true, true, true, true, true, true, true, false, false, false] rfl rfl (any_of HT_.out (by kernel_rfl)) (fun _ _ _ h => h) (Or.inl ⟨by rfl, ?_⟩) ?_ ?_
             rotate_left
             ·intro w'
              go_simp
              with_reducible rfl
             rotate_left
             ·simp only [Act.put, zsa, zsz, zss, i64_w, i32_w]
              rfl
             refine one_ (i := 23) (N := some 83) #[true, true, true, true, true, true, true, true, true, true, true, true, true, true, true, true, true, true, true, true, true, true, true, true, false, false] rfl rfl (one_of HT_.out (by kernel_rfl)) (by decide) (fun K hK => ?_)
             refine Kd.R_lit_step (Kd.int .i64) _ 2 ?hg (N := 83) ?hd (xs := ([wrap64 (((rd_T32 l0 x10_2).f0) - 1), (rd_T32 l0 x10_2).f0, (rd_T32 l0 x10_2).f1, wrap64 (((rd_T32 l0 x10_2).f1) + 1)] : List Int)) (inner := [.int .i64 (wrap64 (((rd_T32 l0 x10_2).f0) - 1)), .int .i64 ((rd_T32 l0 x10_2).f0), .int .i64 ((rd_T32 l0 x10_2).f1), .int .i64 (wrap64 (((rd_T32 l0 x10_2).f1) + 1))]) (ok := fun _ => True) (okp := fun _ => True) ?hr ?hp (fun _ hk => hk) trivial (Below.refl _ _) (Nat.le_refl _) (by simp) ?_; (case hd => rfl); (case hg => rfl); (case hr => first | (go_simp; done) | (go_simp; rfl)); (case hp => exact (Reps.one (show Kd.M (Kd.int .i64) _ _ _ (wrap64 (((rd_T32 l0 x10_2).f0) - 1)) [.int .i64 (wrap64 (((rd_T32 l0 x10_2).f0) - 1))] from rfl) (Reps.one (show Kd.M (Kd.int .i64) _ _ _ ((rd_T32 l0 x10_2).f0) [.int .i64 ((rd_T32 l0 x10_2).f0)] from rfl) (Reps.one (show Kd.M (Kd.int .i64) _ _ _ ((rd_T32 l0 x10_2).f1) [.int .i64 ((rd_T32 l0 x10_2).f1)] from rfl) (Reps.one (show Kd.M (Kd.int .i64) _ _ _ (wrap64 (((rd_T32 l0 x10_2).f1) + 1)) [.int .i64 (wrap64 (((rd_T32 l0 x10_2).f1) + 1))] from rfl) (Reps.none _ _))))))
             intro v113 w26 ho27 hb hg_ hnew_
             clear hg_ hnew_
             (first | rw [← Ny112.out] at ho27 | (simp only [Int.reduceToNat] at ho27; rw [← Ny112.out] at ho27))
             have n0_ := zam (Kd.R_elder' (by (with_reducible repeat (first | apply zRa | apply zRn | apply zRd)); exact HO_9.out) (Kd.R_base ho27) hb)
             have n1_ := zam (Kd.R_lower (Kd.R_new' ho27 (Kd.R_lt (by (with_reducible repeat (first | apply zRa | apply zRn | apply zRd)); exact HO_9.out))) (zbz (by repeat (first | (with_reducible first | exact HB.out | apply zba | apply zbn | apply zb1 | refine zbs ?_ GE101.out) | exact HB.out))))
             have n2_ := zam (zkb (g := gb101) (o := .cells #[.int .i64 a2_0, .int .i64 a2_1] 32 (0, 0)) (by (with_reducible repeat (first | refine zkn ?_ _ | refine zkd ?_ | refine zka ?_ _)); exact BK101.out) hb)
             have n3_ := zam (zbt (by repeat (first | (with_reducible first | exact HB.out | apply zba | apply zbn | apply zb1 | refine zbs ?_ GE101.out) | exact HB.out)) hb)
             clear HO_9
             clear BK101
             clear HB
             have HO_9 := n0_
             have HO114 := n1_
             have BK101 := n2_
             have HB := n3_
             clear n0_ n1_ n2_ n3_
             clear hb ho27
             obtain ⟨Ao29, co29, eo29⟩ := Kd.R_slice HO114.out
             (first | subst eo29 | (injection eo29 with f1_ f2_ f3_; have f4_ := f1_.symm; have f5_ := f3_.symm; clear f1_ f2_ f3_; subst f4_; subst f5_))
             refine hK.out _ _ ⟨((HB.out.cell (zwb w _ hw108_0)).trans hw108_0), ((HB.out.cell (zwb w _ hw108_1)).trans hw108_1), ((HB.out.cell (zwb w _ hw109_0)).trans hw109_0), ((HB.out.cell (zwb w _ hw109_1)).trans hw109_1), ((HB.out.cell (zwb w _ hw110_0)).trans hw110_0), ((HB.out.cell (zwb w _ hw110_1)).trans hw110_1), ((HB.out.cell (zwb w _ hw111_0)).trans hw111_0), ((HB.out.cell (zwb w _ hw111_1)).trans hw111_1)⟩ (fun hHeld => ?_)
             clear hK K
             refine norm_ (a' := ?_) ?_ ?_
             rotate_left
             ·show Act.put _ (some 83) _ = _
              simp only [Act.put, zsa, zsz, zss, i64_w, i32_w]
              rfl
             refine one_ (i := 24) (N := some 84) #[true, true, true, true, true, true, true, true, true, true, true, true, true, true, true, true, true, true, true, true, true, true, true, true, true, false] rfl rfl (one_of HT_.out (by kernel_rfl)) (by decide) (fun K hK => ?_)
             refine Kd.R_append_rows_step (Kd.int .i64) (w0 := w) w.heap.size (by rfl) (.tmp 60) (.tmp 83) 52 2 (.int .i64 0) 8 rfl Try.underlying52 info2 rfl (by decide) (by omega) u9 x9_2 y112 _ _ _ (fun k_ => some k_ ≠ (.slice Ao29 y112.length co29 : Value).ownBlock) (fun _ => False) rfl rfl ?aO ?aR (fun _ _ h => h) (fun _ h => h.elim) ?aF ?aB ?aS ?aL ?_
             (case aR => repeat (first | exact (Kd.R_reads' HO114.out).2.2 | (with_reducible refine Kd.C_alloc ?_ _) | (with_reducible refine Kd.C_drewN ?_ _) | (with_reducible refine Kd.C_drew ?_)))
             (case aB => exact (by repeat (first | (with_reducible first | exact HB.out | apply zba | apply zbn | apply zb1 | refine zbs ?_ GE101.out) | exact HB.out)))
             (case aF => exact (fun k_ hk => Kd.fresh' (Kd.R_lt (by (with_reducible repeat (first | apply zRa | apply zRn | apply zRd)); exact HO114.out)) k_ hk))
             (case aO => exact (by (with_reducible repeat (first | apply zRa | apply zRn | apply zRd)); exact Kd.R_mono HO_9.out (fun _ hk => hk.2)))
             (case aS => exact (zbz (by repeat (first | (with_reducible first | exact HB.out | apply zba | apply zbn | apply zb1 | refine zbs ?_ GE101.out) | exact HB.out))))
             (case aL => have := LMc24.out; omega)
             intro v116 w28 ho hb hg hat
             rw [← Ny115.out] at ho
             have n0_ := zam (blk_grown (g := gb101) (o := .cells #[.int .i64 a2_0, .int .i64 a2_1] 32 (0, 0)) (by (with_reducible repeat (first | refine zkn ?_ _ | refine zkd ?_ | refine zka ?_ _)); exact BK101.out) hg (Kd.R_ne HO_9.out BK101.out (by decide)))
             have n1_ := zam (Kd.R_after (ok := (fun _ => True)) (by (with_reducible repeat (first | apply zRa | apply zRn | apply zRd)); exact HO114.out) hg hat)
             have n2_ := zam (hb)
             have n3_ := zam (ho)
             clear BK101
             clear HO114
             clear HB
             clear HO_9
             have BK101 := n0_
             have HO114 := n1_
             have HB := n2_
             have HO117 := n3_
             clear n0_ n1_ n2_ n3_
             clear ho hb hg hat
             refine hK.out _ _ ⟨((HB.out.cell (zwb w _ hw108_0)).trans hw108_0), ((HB.out.cell (zwb w _ hw108_1)).trans hw108_1), ((HB.out.cell (zwb w _ hw109_0)).trans hw109_0), ((HB.out.cell (zwb w _ hw109_1)).trans hw109_1), ((HB.out.cell (zwb w _ hw110_0)).trans hw110_0), ((HB.out.cell (zwb w _ hw110_1)).trans hw110_1), ((HB.out.cell (zwb w _ hw111_0)).trans hw111_0), ((HB.out.cell (zwb w _ hw111_1)).trans hw111_1)⟩ (fun hHeld => ?_)
             clear hK K
             refine norm_ (a' := ?_) ?_ ?_
             rotate_left
             ·show Act.put _ (some 84) _ = _
              simp only [Act.put, zsa, zsz, zss, i64_w, i32_w]
              rfl
             refine pure_ (i := 25) (N := some 9) (v := ?_) (a' := ?_) #[true, true, true, true, true, true, true, true, true, true, true, true, true, true, true, true, true, true, true, true, true, true, true, true, true, true] rfl rfl (any_of HT_.out (by kernel_rfl)) (fun _ _ _ h => h) (Or.inl ⟨by rfl, ?_⟩) ?_ ?_
             rotate_left
             ·intro w'
              go_simp
              with_reducible rfl
             rotate_left
             ·simp only [Act.put, zsa, zsz, zss, i64_w, i32_w]
              rfl
             refine done_ (done_of HT_.out (by kernel_rfl)) ?_
             try go_wp2
             go_roundg k2
             case measure => have := HJ4.out; have := HK2.out; omega
             case rel => exact ⟨(y115), (wrap64 (x10_2 + 1)), (by first | rfl | (simp; done) | (simp [*]; done)), H', ⟨by have := HJ4.out; have := HK2.out; omega⟩, ⟨by (with_reducible repeat (first | apply zRa | apply zRn | apply zRd)); exact Kd.R_mono HO117.out (fun _ hk => trivial)⟩, ⟨by (with_reducible repeat (first | refine zkn ?_ _ | refine zkd ?_ | refine zka ?_ _)); exact BK101.out⟩, ⟨by repeat (first | (with_reducible first | exact HB.out | apply zba | apply zbn | apply zb1 | refine zbs ?_ GE101.out) | exact HB.out)⟩⟩
           rw [if_neg c24] at H
           exact absurd H (by simp)
          rw [if_neg c23] at H
          exact absurd H (by simp)
         rw [if_neg c22] at H
         have c22b0 : decide (x10_2 < 40) = false := zdf c22
         clear c22
         as_aux_lemma =>
          have H' := zam H
          clear H
          go_wp2
          go_meet
          case rel => exact ⟨_, (x9_2), H', ⟨by have := HJ4.out; have := HK2.out; first | omega | exact Nat.le_refl _⟩, ⟨by (with_reducible repeat (first | apply zRa | apply zRn | apply zRd)); exact HO_9.out⟩, ⟨by (with_reducible repeat (first | refine zkn ?_ _ | refine zkd ?_ | refine zka ?_ _)); exact BK101.out⟩, ⟨by repeat (first | (with_reducible first | exact HB.out | apply zba | apply zbn | apply zb1 | refine zbs ?_ GE101.out) | exact HB.out)⟩⟩
        rw [if_neg c21] at H
        have c21b0 : decide (x10_2 < (l0.length : Int)) = false := zdf c21
        clear c21
        (first | rw [c21b0] | (simp only [i64_w, i32_w]; rw [c21b0]) | skip)
        as_aux_lemma =>
         have H' := zam H
         clear H
         go_wp2
         go_meet
         case rel => exact ⟨_, (x9_2), H', ⟨by have := HJ4.out; have := HK2.out; first | omega | exact Nat.le_refl _⟩, ⟨by (with_reducible repeat (first | apply zRa | apply zRn | apply zRd)); exact HO_9.out⟩, ⟨by (with_reducible repeat (first | refine zkn ?_ _ | refine zkd ?_ | refine zka ?_ _)); exact BK101.out⟩, ⟨by repeat (first | (with_reducible first | exact HB.out | apply zba | apply zbn | apply zb1 | refine zbs ?_ GE101.out) | exact HB.out)⟩⟩
    case rest =>
     clear HC18
     try clear c1
     try clear p1
     try clear q1
     try clear hx1
     try clear c2
     try clear p2
     try clear p6
     try clear c7
     try clear c7b0
     try clear c7b1
     try clear c8
     try clear c8b0
     try clear c8b1
     try clear c10
     try clear c10b0
     try clear c10b1
     try clear p10
     try clear q10
     try clear hx10
     try clear p11
     try clear q11
     try clear hx11
     try clear c15
     try clear c18
     try clear c21
     try clear c21b0
     try clear c22
     try clear c22b0
     try clear c23
     try clear c23b0
     try clear c24
     try clear hx108_0
     try clear hx108_1
     try clear hx109_0
     try clear hx109_1
     try clear hx110_0
     try clear hx110_1
     try clear hx111_0
     try clear hx111_1
     try clear p108
     try clear p109
     try clear p110
     try clear p111
     try clear p2
     try clear q108
     try clear q109
     try clear q110
     try clear q111
     obtain ⟨kq, x9_17, HA, HJ17, HO_9, BK101, HB⟩ := hcut
     as_aux_lemma =>
      cases kq with
      | zero => exact absurd HA.out (by simp [isobathlaw01_BoundMembers.j2])
      | succ kj17 =>
       have H := HA.out
       clear HA
       simp only [isobathlaw01_BoundMembers.j2] at H
       have HC30 := zam H
       clear H
       go_upto_block 2 with (fail)
       go_cut [9] (fun v9 wc => ∃ (kq : Nat) (x9_29 : List Int), Aside0 (isobathlaw01_BoundMembers.j4 kq l0 l1 x9_29 a2_0 a2_1 = some r) ∧ Aside0 (kq ≤ kj17) ∧ Aside0 (Kd.R (Kd.int .i64) 2 wc w.heap.size (fun _ => True) v9 x9_29) ∧ Aside0 (wc.heap[gb101]? = some (.cells #[.int .i64 a2_0, .int .i64 a2_1] 32 (0, 0))) ∧ Aside0 (Below w.heap.size w wc))
       case first =>
        have H := HC30.out
        clear HC30
        have H' := zam H
        clear H
        go_wp2
        go_loopg [9, 11] kj17 (fun kq v9 v11 w' => ∃ (x9_3 : List Int) (x11_3 : Int), v11 = .int .i64 x11_3 ∧ Aside0 (isobathlaw01_BoundMembers.l1 kq l0 l1 x9_3 x11_3 a2_0 a2_1 = some r) ∧ Aside0 (kq ≤ kj17) ∧ Aside0 (Kd.R (Kd.int .i64) 2 w' w.heap.size (fun _ => True) v9 x9_3) ∧ Aside0 (w'.heap[gb101]? = some (.cells #[.int .i64 a2_0, .int .i64 a2_1] 32 (0, 0))) ∧ Aside0 (Below w.heap.size w w'))
        case atStart => exact ⟨(x9_17), (0), (by first | rfl | (simp; done) | (simp [*]; done)), H', ⟨Nat.le_refl _⟩, ⟨by (with_reducible repeat (first | apply zRa | apply zRn | apply zRd)); exact HO_9.out⟩, ⟨by (with_reducible repeat (first | refine zkn ?_ _ | refine zkd ?_ | refine zka ?_ _)); exact BK101.out⟩, ⟨by repeat (first | (with_reducible first | exact HB.out | apply zba | apply zbn | apply zb1 | refine zbs ?_ GE101.out) | exact HB.out)⟩⟩
        case round =>
         clear H'
         try clear c1
         try clear p1
         try clear q1
         try clear hx1
         try clear c2
         try clear p2
         try clear p6
         try clear c7
         try clear c7b0
         try clear c7b1
         try clear c8
         try clear c8b0
         try clear c8b1
         try clear c10
         try clear c10b0
         try clear c10b1
         try clear p10
         try clear q10
         try clear hx10
         try clear p11
         try clear q11
         try clear hx11
         try clear c15
         try clear c18
         try clear c21
         try clear c21b0
         try clear c22
         try clear c22b0
         try clear c23
         try clear c23b0
         try clear c24
         try clear hx108_0
         try clear hx108_1
         try clear hx109_0
         try clear hx109_1
         try clear hx110_0
         try clear hx110_1
         try clear hx111_0
         try clear hx111_1
         try clear p1
         try clear p10
         try clear p108
         try clear p109
         try clear p11
         try clear p110
         try clear p111
         try clear p2
         try clear p6
         try clear q1
         try clear q10
         try clear q108
         try clear q109
         try clear q11
         try clear q110
         try clear q111
         obtain ⟨x9_3, x11_3, rfl, HA, HK3, HO_9, BK101, HB⟩ := hrel
         as_aux_lemma =>
          cases gk with
          | zero => exact absurd HA.out (by simp [isobathlaw01_BoundMembers.l1])
          | succ k3 =>
           have H := HA.out
           clear HA
           simp only [isobathlaw01_BoundMembers.l1] at H
           by_cases c31 : x11_3 < (l1.length : Int)
           ·rw [if_pos c31] at H
            have c31b0 : decide (x11_3 < (l1.length : Int)) = true := zdt c31
            clear c31
            (first | rw [c31b0] | (simp only [i64_w, i32_w]; rw [c31b0]) | skip)
            by_cases c32 : x11_3 < 40
            ·rw [if_pos c32] at H
             have c32b0 : decide (x11_3 < 40) = true := zdt c32
             clear c32
             by_cases c33 : 0 ≤ x11_3
             ·rw [if_pos c33] at H
              have c33b0 : decide (0 ≤ x11_3) = true := zdt c33
              clear c33
              obtain ⟨y122, hy122⟩ : ∃ y_ : List Int, y_ = (([wrap64 (((rd_T32 l1 x11_3).f0) - 1), (rd_T32 l1 x11_3).f0, (rd_T32 l1 x11_3).f1, wrap64 (((rd_T32 l1 x11_3).f1) + 1)] : List Int)) := ⟨_, rfl⟩
              replace H : (if x9_3.length + y122.length < 17592186044416 then (isobathlaw01_BoundMembers.l1 k3 l0 l1 (x9_3 ++ y122) (wrap64 (x11_3 + 1)) a2_0 a2_1) else (none)) = some r := by first | (rw [hy122]; with_reducible exact H) | (have H2_ := (Option.bind_some _ _).symm.trans H; rw [hy122]; with_reducible exact H2_) | (have H2_ := (Option.bind_some _ _).symm.trans H; with_reducible exact H2_) | with_reducible exact H | (rw [hy122]; exact H) | exact H
              have Ny122 := zam hy122
              clear hy122
              by_cases c34 : x9_3.length + y122.length < 17592186044416
              ·rw [if_pos c34] at H
               have LMc34 := zam c34
               clear c34
               obtain ⟨y125, hy125⟩ : ∃ y_ : List Int, y_ = (x9_3 ++ y122) := ⟨_, rfl⟩
               replace H : (isobathlaw01_BoundMembers.l1 k3 l0 l1 y125 (wrap64 (x11_3 + 1)) a2_0 a2_1) = some r := by first | (rw [hy125]; with_reducible exact H) | (have H2_ := (Option.bind_some _ _).symm.trans H; rw [hy125]; with_reducible exact H2_) | (have H2_ := (Option.bind_some _ _).symm.trans H; with_reducible exact H2_) | with_reducible exact H | (rw [hy125]; exact H) | exact H
               have Ny125 := zam hy125
               clear hy125
               as_aux_lemma =>
                have H' := zam H
                clear H
                try go_wp2
                have n0_ := zam (zRd HO_9.out)
                have n1_ := zam (zkd BK101.out)
                have n2_ := zam (zb1 HB.out)
                clear HO_9
                clear BK101
                clear HB
                have HO_9 := n0_
                have BK101 := n1_
                have HB := n2_
                clear n0_ n1_ n2_
                have p118 : 0 ≤ (x11_3 : Int) := zod (by first | (with_reducible assumption) | assumption)
                have q118 : x11_3 < (l1.length : Int) := zod (by first | (with_reducible assumption) | assumption)
                obtain ⟨ad118, e118, hx118_0, hx118_1⟩ := at_T32 HR1.out x11_3 p118 q118
                have hw118_1 := hx118_1
                have hw118_0 := hx118_0
                cases e118
                replace hx118_0 := (HB.out.cell (zwb w _ hx118_0)).trans hx118_0
                replace hx118_1 := (HB.out.cell (zwb w _ hx118_1)).trans hx118_1
                replace p118 := eq_true p118
                replace q118 := eq_true q118
                have p119 : 0 ≤ (x11_3 : Int) := zod (by first | (with_reducible assumption) | assumption)
                have q119 : x11_3 < (l1.length : Int) := zod (by first | (with_reducible assumption) | assumption)
                obtain ⟨ad119, e119, hx119_0, hx119_1⟩ := at_T32 HR1.out x11_3 p119 q119
                have hw119_1 := hx119_1
                have hw119_0 := hx119_0
                obtain rfl : ad118 = ad119 := (by injection e119)
                replace hx119_0 := (HB.out.cell (zwb w _ hx119_0)).trans hx119_0
                replace hx119_1 := (HB.out.cell (zwb w _ hx119_1)).trans hx119_1
                replace p119 := eq_true p119
                replace q119 := eq_true q119
                have p120 : 0 ≤ (x11_3 : Int) := zod (by first | (with_reducible assumption) | assumption)
                have q120 : x11_3 < (l1.length : Int) := zod (by first | (with_reducible assumption) | assumption)
                obtain ⟨ad120, e120, hx120_0, hx120_1⟩ := at_T32 HR1.out x11_3 p120 q120
                have hw120_1 := hx120_1
                have hw120_0 := hx120_0
                obtain rfl : ad118 = ad120 := (by injection e120)
                replace hx120_0 := (HB.out.cell (zwb w _ hx120_0)).trans hx120_0
                replace hx120_1 := (HB.out.cell (zwb w _ hx120_1)).trans hx120_1
                replace p120 := eq_true p120
                replace q120 := eq_true q120
                have p121 : 0 ≤ (x11_3 : Int) := zod (by first | (with_reducible assumption) | assumption)
                have q121 : x11_3 < (l1.length : Int) := zod (by first | (with_reducible assumption) | assumption)
                obtain ⟨ad121, e121, hx121_0, hx121_1⟩ := at_T32 HR1.out x11_3 p121 q121
                have hw121_1 := hx121_1
                have hw121_0 := hx121_0
                obtain rfl : ad118 = ad121 := (by injection e121)
                replace hx121_0 := (HB.out.cell (zwb w _ hx121_0)).trans hx121_0
                replace hx121_1 := (HB.out.cell (zwb w _ hx121_1)).trans hx121_1
                replace p121 := eq_true p121
                replace q121 := eq_true q121
                refine start_ (n := 26) (S := fun w' => w'.cell? (ad118.add ((x11_3).toNat * 2)) = some (.int .i64 ((rd_T32 l1 x11_3).f0)) ∧ w'.cell? ⟨(ad118.add ((x11_3).toNat * 2)).block, (ad118.add ((x11_3).toNat * 2)).off + 1, none⟩ = some (.int .i64 ((rd_T32 l1 x11_3).f1)) ∧ w'.cell? (ad118.add ((x11_3).toNat * 2)) = some (.int .i64 ((rd_T32 l1 x11_3).f0)) ∧ w'.cell? ⟨(ad118.add ((x11_3).toNat * 2)).block, (ad118.add ((x11_3).toNat * 2)).off + 1, none⟩ = some (.int .i64 ((rd_T32 l1 x11_3).f1)) ∧ w'.cell? (ad118.add ((x11_3).toNat * 2)) = some (.int .i64 ((rd_T32 l1 x11_3).f0)) ∧ w'.cell? ⟨(ad118.add ((x11_3).toNat * 2)).block, (ad118.add ((x11_3).toNat * 2)).off + 1, none⟩ = some (.int .i64 ((rd_T32 l1 x11_3).f1)) ∧ w'.cell? (ad118.add ((x11_3).toNat * 2)) = some (.int .i64 ((rd_T32 l1 x11_3).f0)) ∧ w'.cell? ⟨(ad118.add ((x11_3).toNat * 2)).block, (ad118.add ((x11_3).toNat * 2)).off + 1, none⟩ = some (.int .i64 ((rd_T32 l1 x11_3).f1))) (ds := []) #[false, false, false, false, false, false, false, false, false, false, false, false, false, false, false, false, false, false, false, false, false, false, false, false, false, false] (by kernel_rfl) rfl rfl ⟨((HB.out.cell (zwb w _ hw118_0)).trans hw118_0), ((HB.out.cell (zwb w _ hw118_1)).trans hw118_1), ((HB.out.cell (zwb w _ hw119_0)).trans hw119_0), ((HB.out.cell (zwb w _ hw119_1)).trans hw119_1), ((HB.out.cell (zwb w _ hw120_0)).trans hw120_0), ((HB.out.cell (zwb w _ hw120_1)).trans hw120_1), ((HB.out.cell (zwb w _ hw121_0)).trans hw121_0), ((HB.out.cell (zwb w _ hw121_1)).trans hw121_1)⟩ (fun hHeld => ?_); refine with_tabW isobathlaw01_BoundMembers.tab11 isobathlaw01_BoundMembers.bits11 (fun HT_ HW_ => ?_)
                generalize wr.drew = w35 at HO_9 BK101 HB hx118_0 hx118_1 hx119_0 hx119_1 hx120_0 hx120_1 hx121_0 hx121_1 hHeld ⊢
                refine pure_ (i := 0) (N := some 95) (v := ?_) (a' := ?_) #[true, false, false, false, false, false, false, false, false, false, false, false, false, false, false, false, false, false, false, false, false, false, false, false, false, false] rfl rfl (any_of HT_.out (by kernel_rfl)) (fun _ _ _ h => h) (Or.inl ⟨by rfl, ?_⟩) ?_ ?_
                rotate_left
                ·intro w'
                 go_simp
                 with_reducible rfl
                rotate_left
                ·simp only [Act.put, zsa, zsz, zss, i64_w, i32_w]
                 rfl
                refine pure_ (i := 1) (N := some 96) (v := ?_) (a' := ?_) #[true, true, false, false, false, false, false, false, false, false, false, false, false, false, false, false, false, false, false, false, false, false, false, false, false, false] rfl rfl (any_of HT_.out (by kernel_rfl)) (fun _ _ _ h => h) (Or.inl ⟨by rfl, ?_⟩) ?_ ?_
                rotate_left
                ·intro w'
                 go_simp
                 with_reducible rfl
                rotate_left
                ·simp only [Act.put, zsa, zsz, zss, i64_w, i32_w]
                 rfl
                refine pure_ (i := 2) (N := some 97) (v := ?_) (a' := ?_) #[true, true, true, false, false, false, false, false, false, false, false, false, false, false, false, false, false, false, false, false, false, false, false, false, false, false] rfl rfl (any_of HT_.out (by kernel_rfl)) (fun _ _ _ h => h) (Or.inl ⟨by rfl, ?_⟩) ?_ ?_
                rotate_left
                ·intro w'
                 go_simp
                 with_reducible rfl
                rotate_left
                ·simp only [Act.put, zsa, zsz, zss, i64_w, i32_w]
                 rfl
                refine pure_ (i := 3) (N := some 98) (v := ?_) (a' := ?_) #[true, true, true, true, false, false, false, false, false, false, false, false, false, false, false, false, false, false, false, false, false, false, false, false, false, false] rfl rfl (any_of HT_.out (by kernel_rfl)) (fun _ _ _ h => h) (Or.inl ⟨by rfl, ?_⟩) ?_ ?_
                rotate_left
                ·intro w'
                 go_simp
                 with_reducible rfl
                rotate_left
                ·simp only [Act.put, zsa, zsz, zss, i64_w, i32_w]
                 rfl
                refine pure_ (i := 4) (N := some 99) (v := ?_) (a' := ?_) #[true, true, true, true, true, false, false, false, false, false, false, false, false, false, false, false, false, false, false, false, false, false, false, false, false, false] rfl rfl (any_of HT_.out (by kernel_rfl)) (fun _ _ _ h => h) (Or.inl ⟨by rfl, ?_⟩) ?_ ?_
                rotate_left
                ·intro w'
                 go_simp
                 with_reducible rfl
                rotate_left
                ·simp only [Act.put, zsa, zsz, zss, i64_w, i32_w]
                 rfl
                refine pure_ (i := 7) (N := some 102) (v := ?_) (a' := ?_) #[true, true, true, true, true, false, false, true, false, false, false, false, false, false, false, false, false, false, false, false, false, false, false, false, false, false] rfl rfl (any_of HT_.out (by kernel_rfl)) (fun _ _ _ h => h) (Or.inl ⟨by rfl, ?_⟩) ?_ ?_
                rotate_left
                ·intro w'
                 go_simp
                 with_reducible rfl
                rotate_left
                ·simp only [Act.put, zsa, zsz, zss, i64_w, i32_w]
                 rfl
                refine pure_ (i := 8) (N := some 103) (v := ?_) (a' := ?_) #[true, true, true, true, true, false, false, true, true, false, false, false, false, false, false, false, false, false, false, false, false, false, false, false, false, false] rfl rfl (any_of HT_.out (by kernel_rfl)) (fun _ _ _ h => h) (Or.inl ⟨by rfl, ?_⟩) ?_ ?_
                rotate_left
                ·intro w'
                 go_simp
                 with_reducible rfl
                rotate_left
                ·simp only [Act.put, zsa, zsz, zss, i64_w, i32_w]
                 rfl
                refine pure_ (i := 9) (N := some 104) (v := ?_) (a' := ?_) #[true, true, true, true, true, false, false, true, true, true, false, false, false, false, false, false, false, false, false, false, false, false, false, false, false, false] rfl rfl (any_of HT_.out (by kernel_rfl)) (fun _ _ _ h => h) (Or.inl ⟨by rfl, ?_⟩) ?_ ?_
                rotate_left
                ·intro w'
                 go_simp
                 with_reducible rfl
                rotate_left
                ·simp only [Act.put, zsa, zsz, zss, i64_w, i32_w]
                 rfl
                refine pure_ (i := 10) (N := some 105) (v := ?_) (a' := ?_) #[true, true, true, true, true, false, false, true, true, true, true, false, false, false, false, false, false, false, false, false, false, false, false, false, false, false] rfl rfl (any_of HT_.out (by kernel_rfl)) (fun _ _ _ h => h) (Or.inl ⟨by rfl, ?_⟩) ?_ ?_
                rotate_left
                ·intro w'
                 go_simp
                 with_reducible rfl
                rotate_left
                ·simp only [Act.put, zsa, zsz, zss, i64_w, i32_w]
                 rfl
                refine pure_ (i := 12) (N := some 107) (v := ?_) (a' := ?_) #[true, true, true, true, true, false, false, true, true, true, true, false, true, false, false, false, false, false, false, false, false, false, false, false, false, false] rfl rfl (any_of HT_.out (by kernel_rfl)) (fun _ _ _ h => h) (Or.inl ⟨by rfl, ?_⟩) ?_ ?_
                rotate_left
                ·intro w'
                 go_simp
                 with_reducible rfl
                rotate_left
                ·simp only [Act.put, zsa, zsz, zss, i64_w, i32_w]
                 rfl
                refine pure_ (i := 13) (N := some 108) (v := ?_) (a' := ?_) #[true, true, true, true, true, false, false, true, true, true, true, false, true, true, false, false, false, false, false, false, false, false, false, false, false, false] rfl rfl (any_of HT_.out (by kernel_rfl)) (fun _ _ _ h => h) (Or.inl ⟨by rfl, ?_⟩) ?_ ?_
                rotate_left
                ·intro w'
                 go_simp
                 with_reducible rfl
                rotate_left
                ·simp only [Act.put, zsa, zsz, zss, i64_w, i32_w]
                 rfl
                refine pure_ (i := 14) (N := some 109) (v := ?_) (a' := ?_) #[true, true, true, true, true, false, false, true, true, true, true, false, true, true, true, false, false, false, false, false, false, false, false, false, false, false] rfl rfl (any_of HT_.out (by kernel_rfl)) (fun _ _ _ h => h) (Or.inl ⟨by rfl, ?_⟩) ?_ ?_
                rotate_left
                ·intro w'
                 go_simp
                 with_reducible rfl
                rotate_left
                ·simp only [Act.put, zsa, zsz, zss, i64_w, i32_w]
                 rfl
                refine pure_ (i := 15) (N := some 110) (v := ?_) (a' := ?_) #[true, true, true, true, true, false, false, true, true, true, true, false, true, true, true, true, false, false, false, false, false, false, false, false, false, false] rfl rfl (any_of HT_.out (by kernel_rfl)) (fun _ _ _ h => h) (Or.inl ⟨by rfl, ?_⟩) ?_ ?_
                rotate_left
                ·intro w'
                 go_simp
                 with_reducible rfl
                rotate_left
                ·simp only [Act.put, zsa, zsz, zss, i64_w, i32_w]
                 rfl
                refine pure_ (i := 17) (N := some 112) (v := ?_) (a' := ?_) #[true, true, true, true, true, false, false, true, true, true, true, false, true, true, true, true, false, true, false, false, false, false, false, false, false, false] rfl rfl (any_of HT_.out (by kernel_rfl)) (fun _ _ _ h => h) (Or.inl ⟨by rfl, ?_⟩) ?_ ?_
                rotate_left
                ·intro w'
                 go_simp
                 with_reducible rfl
                rotate_left
                ·simp only [Act.put, zsa, zsz, zss, i64_w, i32_w]
                 rfl
                refine pure_ (i := 18) (N := some 113) (v := ?_) (a' := ?_) #[true, true, true, true, true, false, false, true, true, true, true, false, true, true, true, true, false, true, true, false, false, false, false, false, false, false] rfl rfl (any_of HT_.out (by kernel_rfl)) (fun _ _ _ h => h) (Or.inl ⟨by rfl, ?_⟩) ?_ ?_
                rotate_left
                ·intro w'
                 go_simp
                 with_reducible rfl
                rotate_left
                ·simp only [Act.put, zsa, zsz, zss, i64_w, i32_w]
                 rfl
                refine pure_ (i := 19) (N := some 114) (v := ?_) (a' := ?_) #[true, true, true, true, true, false, false, true, true, true, true, false, true, true, true, true, false, true, true, true, false, false, false, false, false, false] rfl rfl (any_of HT_.out (by kernel_rfl)) (fun _ _ _ h => h) (Or.inl ⟨by rfl, ?_⟩) ?_ ?_
                rotate_left
                ·intro w'
                 go_simp
                 with_reducible rfl
                rotate_left
                ·simp only [Act.put, zsa, zsz, zss, i64_w, i32_w]
                 rfl
                refine pure_ (i := 20) (N := some 115) (v := ?_) (a' := ?_) #[true, true, true, true, true, false, false, true, true, true, true, false, true, true, true, true, false, true, true, true, true, false, false, false, false, false] rfl rfl (any_of HT_.out (by kernel_rfl)) (fun _ _ _ h => h) (Or.inl ⟨by rfl, ?_⟩) ?_ ?_
                rotate_left
                ·intro w'
                 go_simp
                 with_reducible rfl
                rotate_left
                ·simp only [Act.put, zsa, zsz, zss, i64_w, i32_w]
                 rfl
                refine take_ (i := 5) (N := some 100) (v := ?_) (a' := ?_) #[true, true, true, true, true, true, false, true, true, true, true, false, true, true, true, true, false, true, true, true, true, false, false, false, false, false] rfl rfl (take_ofW HT_.out HW_.out (by kernel_rfl)) (fun _ _ _ h => h) (Or.inl ⟨by rfl, ?_⟩) hHeld ?_ ?_
                rotate_left
                ·rintro w' ⟨s0, s1, s2, s3, s4, s5, s6, s7⟩
                 go_simp
                 with_reducible rfl
                rotate_left
                ·simp only [Act.put, zsa, zsz, zss, i64_w, i32_w]
                 rfl
                refine pure_ (i := 6) (N := some 101) (v := ?_) (a' := ?_) #[true, true, true, true, true, true, true, true, true, true, true, false, true, true, true, true, false, true, true, true, true, false, false, false, false, false] rfl rfl (any_of HT_.out (by kernel_rfl)) (fun _ _ _ h => h) (Or.inl ⟨by rfl, ?_⟩) ?_ ?_
                rotate_left
                ·intro w'
                 go_simp
                 with_reducible rfl
                rotate_left
                ·simp only [Act.put, zsa, zsz, zss, i64_w, i32_w]
                 rfl
                refine take_ (i := 11) (N := some 106) (v := ?_) (a' := ?_) #[true, true, true, true, true, true, true, true, true, true, true, true, true, true, true, true, false, true, true, true, true, false, false, false, false, false] rfl rfl (take_ofW HT_.out HW_.out (by kernel_rfl)) (fun _ _ _ h => h) (Or.inl ⟨by rfl, ?_⟩) hHeld ?_ ?_
                rotate_left
                ·rintro w' ⟨s0, s1, s2, s3, s4, s5, s6, s7⟩
                 go_simp
                 with_reducible rfl
                rotate_left
                ·simp only [Act.put, zsa, zsz, zss, i64_w, i32_w]
                 rfl
                refine take_ (i := 16) (N := some 111) (v := ?_) (a' := ?_) #[true, true, true, true, true, true, true, true, true, true, true, true, true, true, true, true, true, true, true, true, true, false, false, false, false, false] rfl rfl (take_ofW HT_.out HW_.out (by kernel_rfl)) (fun _ _ _ h => h) (Or.inl ⟨by rfl, ?_⟩) hHeld ?_ ?_
                rotate_left
                ·rintro w' ⟨s0, s1, s2, s3, s4, s5, s6, s7⟩
                 go_simp
                 with_reducible rfl
                rotate_left
                ·simp only [Act.put, zsa, zsz, zss, i64_w, i32_w]
                 rfl
                refine take_ (i := 21) (N := some 116) (v := ?_) (a' := ?_) #[true, true, true, true, true, true, true, true, true, true, true, true, true, true, true, true, true, true, true, true, true, true, false, false, false, false] rfl rfl (take_ofW HT_.out HW_.out (by kernel_rfl)) (fun _ _ _ h => h) (Or.inl ⟨by rfl, ?_⟩) hHeld ?_ ?_
                rotate_left
                ·rintro w' ⟨s0, s1, s2, s3, s4, s5, s6, s7⟩
                 go_simp
                 with_reducible rfl
                rotate_left
                ·simp only [Act.put, zsa, zsz, zss, i64_w, i32_w]
                 rfl
                refine pure_ (i := 22) (N := some 117) (v := ?_) (a' := ?_) #[true, true, true, true, true, true, true, true, true, true, true, true, true, true, true, true, true, true, true, true, true, true, true, false, false, false] rfl rfl (any_of HT_.out (by kernel_rfl)) (fun _ _ _ h => h) (Or.inl ⟨by rfl, ?_⟩) ?_ ?_
                rotate_left
                ·intro w'
                 go_simp
                 with_reducible rfl
                rotate_left
                ·simp only [Act.put, zsa, zsz, zss, i64_w, i32_w]
                 rfl
                refine one_ (i := 23) (N := some 118) #[true, true, true, true, true, true, true, true, true, true, true, true, true, true, true, true, true, true, true, true, true, true, true, true, false, false] rfl rfl (one_of HT_.out (by kernel_rfl)) (by decide) (fun K hK => ?_)
                refine Kd.R_lit_step (Kd.int .i64) _ 2 ?hg (N := 118) ?hd (xs := ([wrap64 (((rd_T32 l1 x11_3).f0) - 1), (rd_T32 l1 x11_3).f0, (rd_T32 l1 x11_3).f1, wrap64 (((rd_T32 l1 x11_3).f1) + 1)] : List Int)) (inner := [.int .i64 (wrap64 (((rd_T32 l1 x11_3).f0) - 1)), .int .i64 ((rd_T32 l1 x11_3).f0), .int .i64 ((rd_T32 l1 x11_3).f1), .int .i64 (wrap64 (((rd_T32 l1 x11_3).f1) + 1))]) (ok := fun _ => True) (okp := fun _ => True) ?hr ?hp (fun _ hk => hk) trivial (Below.refl _ _) (Nat.le_refl _) (by simp) ?_; (case hd => rfl); (case hg => rfl); (case hr => first | (go_simp; done) | (go_simp; rfl)); (case hp => exact (Reps.one (show Kd.M (Kd.int .i64) _ _ _ (wrap64 (((rd_T32 l1 x11_3).f0) - 1)) [.int .i64 (wrap64 (((rd_T32 l1 x11_3).f0) - 1))] from rfl) (Reps.one (show Kd.M (Kd.int .i64) _ _ _ ((rd_T32 l1 x11_3).f0) [.int .i64 ((rd_T32 l1 x11_3).f0)] from rfl) (Reps.one (show Kd.M (Kd.int .i64) _ _ _ ((rd_T32 l1 x11_3).f1) [.int .i64 ((rd_T32 l1 x11_3).f1)] from rfl) (Reps.one (show Kd.M (Kd.int .i64) _ _ _ (wrap64 (((rd_T32 l1 x11_3).f1) + 1)) [.int .i64 (wrap64 (((rd_T32 l1 x11_3).f1) + 1))] from rfl) (Reps.none _ _))))))
                intro v123 w36 ho37 hb hg_ hnew_
                clear hg_ hnew_
                (first | rw [← Ny122.out] at ho37 | (simp only [Int.reduceToNat] at ho37; rw [← Ny122.out] at ho37))
                have n0_ := zam (Kd.R_elder' (by (with_reducible repeat (first | apply zRa | apply zRn | apply zRd)); exact HO_9.out) (Kd.R_base ho37) hb)
                have n1_ := zam (Kd.R_lower (Kd.R_new' ho37 (Kd.R_lt (by (with_reducible repeat (first | apply zRa | apply zRn | apply zRd)); exact HO_9.out))) (zbz (by repeat (first | (with_reducible first | exact HB.out | apply zba | apply zbn | apply zb1 | refine zbs ?_ GE101.out) | exact HB.out))))
                have n2_ := zam (zkb (g := gb101) (o := .cells #[.int .i64 a2_0, .int .i64 a2_1] 32 (0, 0)) (by (with_reducible repeat (first | refine zkn ?_ _ | refine zkd ?_ | refine zka ?_ _)); exact BK101.out) hb)
                have n3_ := zam (zbt (by repeat (first | (with_reducible first | exact HB.out | apply zba | apply zbn | apply zb1 | refine zbs ?_ GE101.out) | exact HB.out)) hb)
                clear HO_9
                clear BK101
                clear HB
                have HO_9 := n0_
                have HO124 := n1_
                have BK101 := n2_
                have HB := n3_
                clear n0_ n1_ n2_ n3_
                clear hb ho37
                obtain ⟨Ao39, co39, eo39⟩ := Kd.R_slice HO124.out
                (first | subst eo39 | (injection eo39 with f1_ f2_ f3_; have f4_ := f1_.symm; have f5_ := f3_.symm; clear f1_ f2_ f3_; subst f4_; subst f5_))
                refine hK.out _ _ ⟨((HB.out.cell (zwb w _ hw118_0)).trans hw118_0), ((HB.out.cell (zwb w _ hw118_1)).trans hw118_1), ((HB.out.cell (zwb w _ hw119_0)).trans hw119_0), ((HB.out.cell (zwb w _ hw119_1)).trans hw119_1), ((HB.out.cell (zwb w _ hw120_0)).trans hw120_0), ((HB.out.cell (zwb w _ hw120_1)).trans hw120_1), ((HB.out.cell (zwb w _ hw121_0)).trans hw121_0), ((HB.out.cell (zwb w _ hw121_1)).trans hw121_1)⟩ (fun hHeld => ?_)
                clear hK K
                refine norm_ (a' := ?_) ?_ ?_
                rotate_left
                ·show Act.put _ (some 118) _ = _
                 simp only [Act.put, zsa, zsz, zss, i64_w, i32_w]
                 rfl
                refine one_ (i := 24) (N := some 119) #[true, true, true, true, true, true, true, true, true, true, true, true, true, true, true, true, true, true, true, true, true, true, true, true, true, false] rfl rfl (one_of HT_.out (by kernel_rfl)) (by decide) (fun K hK => ?_)
                refine Kd.R_append_rows_step (Kd.int .i64) (w0 := w) w.heap.size (by rfl) (.tmp 95) (.tmp 118) 52 2 (.int .i64 0) 8 rfl Try.underlying52 info2 rfl (by decide) (by omega) u9 x9_3 y122 _ _ _ (fun k_ => some k_ ≠ (.slice Ao39 y122.length co39 : Value).ownBlock) (fun _ => False) rfl rfl ?aO ?aR (fun _ _ h => h) (fun _ h => h.elim) ?aF ?aB ?aS ?aL ?_
                (case aR => repeat (first | exact (Kd.R_reads' HO124.out).2.2 | (with_reducible refine Kd.C_alloc ?_ _) | (with_reducible refine Kd.C_drewN ?_ _) | (with_reducible refine Kd.C_drew ?_)))
                (case aB => exact (by repeat (first | (with_reducible first | exact HB.out | apply zba | apply zbn | apply zb1 | refine zbs ?_ GE101.out) | exact HB.out)))
                (case aF => exact (fun k_ hk => Kd.fresh' (Kd.R_lt (by (with_reducible repeat (first | apply zRa | apply zRn | apply zRd)); exact HO124.out)) k_ hk))
                (case aO => exact (by (with_reducible repeat (first | apply zRa | apply zRn | apply zRd)); exact Kd.R_mono HO_9.out (fun _ hk => hk.2)))
                (case aS => exact (zbz (by repeat (first | (with_reducible first | exact HB.out | apply zba | apply zbn | apply zb1 | refine zbs ?_ GE101.out) | exact HB.out))))
                (case aL => have := LMc34.out; omega)
                intro v126 w38 ho hb hg hat
                rw [← Ny125.out] at ho
                have n0_ := zam (blk_grown (g := gb101) (o := .cells #[.int .i64 a2_0, .int .i64 a2_1] 32 (0, 0)) (by (with_reducible repeat (first | refine zkn ?_ _ | refine zkd ?_ | refine zka ?_ _)); exact BK101.out) hg (Kd.R_ne HO_9.out BK101.out (by decide)))
                have n1_ := zam (Kd.R_after (ok := (fun _ => True)) (by (with_reducible repeat (first | apply zRa | apply zRn | apply zRd)); exact HO124.out) hg hat)
                have n2_ := zam (hb)
                have n3_ := zam (ho)
                clear BK101
                clear HO124
                clear HB
                clear HO_9
                have BK101 := n0_
                have HO124 := n1_
                have HB := n2_
                have HO127 := n3_
                clear n0_ n1_ n2_ n3_
                clear ho hb hg hat
                refine hK.out _ _ ⟨((HB.out.cell (zwb w _ hw118_0)).trans hw118_0), ((HB.out.cell (zwb w _ hw118_1)).trans hw118_1), ((HB.out.cell (zwb w _ hw119_0)).trans hw119_0), ((HB.out.cell (zwb w _ hw119_1)).trans hw119_1), ((HB.out.cell (zwb w _ hw120_0)).trans hw120_0), ((HB.out.cell (zwb w _ hw120_1)).trans hw120_1), ((HB.out.cell (zwb w _ hw121_0)).trans hw121_0), ((HB.out.cell (zwb w _ hw121_1)).trans hw121_1)⟩ (fun hHeld => ?_)
                clear hK K
                refine norm_ (a' := ?_) ?_ ?_
                rotate_left
                ·show Act.put _ (some 119) _ = _
                 simp only [Act.put, zsa, zsz, zss, i64_w, i32_w]
                 rfl
                refine pure_ (i := 25) (N := some 9) (v := ?_) (a' := ?_) #[true, true, true, true, true, true, true, true, true, true, true, true, true, true, true, true, true, true, true, true, true, true, true, true, true, true] rfl rfl (any_of HT_.out (by kernel_rfl)) (fun _ _ _ h => h) (Or.inl ⟨by rfl, ?_⟩) ?_ ?_
                rotate_left
                ·intro w'
                 go_simp
                 with_reducible rfl
                rotate_left
                ·simp only [Act.put, zsa, zsz, zss, i64_w, i32_w]
                 rfl
                refine done_ (done_of HT_.out (by kernel_rfl)) ?_
                try go_wp2
                go_roundg k3
                case measure => have := HJ4.out; have := HJ17.out; have := HK3.out; omega
                case rel => exact ⟨(y125), (wrap64 (x11_3 + 1)), (by first | rfl | (simp; done) | (simp [*]; done)), H', ⟨by have := HJ4.out; have := HJ17.out; have := HK3.out; omega⟩, ⟨by (with_reducible repeat (first | apply zRa | apply zRn | apply zRd)); exact Kd.R_mono HO127.out (fun _ hk => trivial)⟩, ⟨by (with_reducible repeat (first | refine zkn ?_ _ | refine zkd ?_ | refine zka ?_ _)); exact BK101.out⟩, ⟨by repeat (first | (with_reducible first | exact HB.out | apply zba | apply zbn | apply zb1 | refine zbs ?_ GE101.out) | exact HB.out)⟩⟩
              rw [if_neg c34] at H
              exact absurd H (by simp)
             rw [if_neg c33] at H
             exact absurd H (by simp)
            rw [if_neg c32] at H
            have c32b0 : decide (x11_3 < 40) = false := zdf c32
            clear c32
            as_aux_lemma =>
             have H' := zam H
             clear H
             go_wp2
             go_meet
             case rel => exact ⟨_, (x9_3), H', ⟨by have := HJ4.out; have := HJ17.out; have := HK3.out; first | omega | exact Nat.le_refl _⟩, ⟨by (with_reducible repeat (first | apply zRa | apply zRn | apply zRd)); exact HO_9.out⟩, ⟨by (with_reducible repeat (first | refine zkn ?_ _ | refine zkd ?_ | refine zka ?_ _)); exact BK101.out⟩, ⟨by repeat (first | (with_reducible first | exact HB.out | apply zba | apply zbn | apply zb1 | refine zbs ?_ GE101.out) | exact HB.out)⟩⟩
           rw [if_neg c31] at H
           have c31b0 : decide (x11_3 < (l1.length : Int)) = false := zdf c31
           clear c31
           (first | rw [c31b0] | (simp only [i64_w, i32_w]; rw [c31b0]) | skip)
           as_aux_lemma =>
            have H' := zam H
            clear H
            go_wp2
            go_meet
            case rel => exact ⟨_, (x9_3), H', ⟨by have := HJ4.out; have := HJ17.out; have := HK3.out; first | omega | exact Nat.le_refl _⟩, ⟨by (with_reducible repeat (first | apply zRa | apply zRn | apply zRd)); exact HO_9.out⟩, ⟨by (with_reducible repeat (first | refine zkn ?_ _ | refine zkd ?_ | refine zka ?_ _)); exact BK101.out⟩, ⟨by repeat (first | (with_reducible first | exact HB.out | apply zba | apply zbn | apply zb1 | refine zbs ?_ GE101.out) | exact HB.out)⟩⟩
       case rest =>
        clear HC30
        try clear c1
        try clear p1
        try clear q1
        try clear hx1
        try clear c2
        try clear p2
        try clear c3
        try clear p6
        try clear c7
        try clear c7b0
        try clear c7b1
        try clear c8
        try clear c8b0
        try clear c8b1
        try clear c10
        try clear c10b0
        try clear c10b1
        try clear p10
        try clear q10
        try clear hx10
        try clear p11
        try clear q11
        try clear hx11
        try clear p12
        try clear q12
        try clear hx12
        try clear c15
        try clear c18
        try clear c21
        try clear c21b0
        try clear c22
        try clear c22b0
        try clear c23
        try clear c23b0
        try clear c24
        try clear c31
        try clear c31b0
        try clear c32
        try clear c32b0
        try clear c33
        try clear c33b0
        try clear c34
        try clear hx108_0
        try clear hx108_1
        try clear hx109_0
        try clear hx109_1
        try clear hx110_0
        try clear hx110_1
        try clear hx111_0
        try clear hx111_1
        try clear hx118_0
        try clear hx118_1
        try clear hx119_0
        try clear hx119_1
        try clear hx120_0
        try clear hx120_1
        try clear hx121_0
        try clear hx121_1
        try clear p1
        try clear p10
        try clear p108
        try clear p109
        try clear p11
        try clear p110
        try clear p111
        try clear p118
        try clear p119
        try clear p120
        try clear p121
        try clear p2
        try clear p6
        try clear q1
        try clear q10
        try clear q108
        try clear q109
        try clear q11
        try clear q110
        try clear q111
        try clear q118
        try clear q119
        try clear q120
        try clear q121
        obtain ⟨kq, x9_29, HA, HJ29, HO_9, BK101, HB⟩ := hcut
        as_aux_lemma =>
         cases kq with
         | zero => exact absurd HA.out (by simp [isobathlaw01_BoundMembers.j4])
         | succ kj29 =>
          have H := HA.out
          clear HA
          simp only [isobathlaw01_BoundMembers.j4] at H
          replace H := Option.bind_eq_some_iff.mp H
          obtain ⟨⟨t128, t129⟩, A400, H⟩ := H
          replace H : ((bound_Cut.f kj29 l0 l1).bind fun bt132 => ((bound_Outside.f kj29 l0 a2_0 a2_1).bind fun bt136 => (if t129 = 0 then ((bound_CheckSet.f kj29 t128).bind fun t140 => (if t140 = 0 then (if bt132.2 = 0 then ((bound_CheckSet.f kj29 bt132.1).bind fun t141 => (if t141 = 0 then (if bt136.2 = 0 then ((bound_CheckSet.f kj29 bt136.1).bind fun t142 => (isobathlaw01_BoundMembers.j5 kj29 l0 l1 x9_29 t128 t129 bt132.1 bt132.2 bt136.1 bt136.2 (t142 != 0) a2_0 a2_1)) else (isobathlaw01_BoundMembers.j5 kj29 l0 l1 x9_29 t128 t129 bt132.1 bt132.2 bt136.1 bt136.2 false a2_0 a2_1)) else (none))) else (if bt136.2 = 0 then ((bound_CheckSet.f kj29 bt136.1).bind fun t143 => (isobathlaw01_BoundMembers.j5 kj29 l0 l1 x9_29 t128 t129 bt132.1 bt132.2 bt136.1 bt136.2 (t143 != 0) a2_0 a2_1)) else (isobathlaw01_BoundMembers.j5 kj29 l0 l1 x9_29 t128 t129 bt132.1 bt132.2 bt136.1 bt136.2 false a2_0 a2_1))) else (none))) else (if bt132.2 = 0 then ((bound_CheckSet.f kj29 bt132.1).bind fun t144 => (if t144 = 0 then (if bt136.2 = 0 then ((bound_CheckSet.f kj29 bt136.1).bind fun t145 => (isobathlaw01_BoundMembers.j5 kj29 l0 l1 x9_29 t128 t129 bt132.1 bt132.2 bt136.1 bt136.2 (t145 != 0) a2_0 a2_1)) else (isobathlaw01_BoundMembers.j5 kj29 l0 l1 x9_29 t128 t129 bt132.1 bt132.2 bt136.1 bt136.2 false a2_0 a2_1)) else (none))) else (if bt136.2 = 0 then ((bound_CheckSet.f kj29 bt136.1).bind fun t146 => (isobathlaw01_BoundMembers.j5 kj29 l0 l1 x9_29 t128 t129 bt132.1 bt132.2 bt136.1 bt136.2 (t146 != 0) a2_0 a2_1)) else (isobathlaw01_BoundMembers.j5 kj29 l0 l1 x9_29 t128 t129 bt132.1 bt132.2 bt136.1 bt136.2 false a2_0 a2_1)))))) = some r := H
          have A40 := zam A400
          clear A400
          replace H := Option.bind_eq_some_iff.mp H
          obtain ⟨⟨t132, t133⟩, A410, H⟩ := H
          replace H : ((bound_Outside.f kj29 l0 a2_0 a2_1).bind fun bt136 => (if t129 = 0 then ((bound_CheckSet.f kj29 t128).bind fun t140 => (if t140 = 0 then (if t133 = 0 then ((bound_CheckSet.f kj29 t132).bind fun t141 => (if t141 = 0 then (if bt136.2 = 0 then ((bound_CheckSet.f kj29 bt136.1).bind fun t142 => (isobathlaw01_BoundMembers.j5 kj29 l0 l1 x9_29 t128 t129 t132 t133 bt136.1 bt136.2 (t142 != 0) a2_0 a2_1)) else (isobathlaw01_BoundMembers.j5 kj29 l0 l1 x9_29 t128 t129 t132 t133 bt136.1 bt136.2 false a2_0 a2_1)) else (none))) else (if bt136.2 = 0 then ((bound_CheckSet.f kj29 bt136.1).bind fun t143 => (isobathlaw01_BoundMembers.j5 kj29 l0 l1 x9_29 t128 t129 t132 t133 bt136.1 bt136.2 (t143 != 0) a2_0 a2_1)) else (isobathlaw01_BoundMembers.j5 kj29 l0 l1 x9_29 t128 t129 t132 t133 bt136.1 bt136.2 false a2_0 a2_1))) else (none))) else (if t133 = 0 then ((bound_CheckSet.f kj29 t132).bind fun t144 => (if t144 = 0 then (if bt136.2 = 0 then ((bound_CheckSet.f kj29 bt136.1).bind fun t145 => (isobathlaw01_BoundMembers.j5 kj29 l0 l1 x9_29 t128 t129 t132 t133 bt136.1 bt136.2 (t145 != 0) a2_0 a2_1)) else (isobathlaw01_BoundMembers.j5 kj29 l0 l1 x9_29 t128 t129 t132 t133 bt136.1 bt136.2 false a2_0 a2_1)) else (none))) else (if bt136.2 = 0 then ((bound_CheckSet.f kj29 bt136.1).bind fun t146 => (isobathlaw01_BoundMembers.j5 kj29 l0 l1 x9_29 t128 t129 t132 t133 bt136.1 bt136.2 (t146 != 0) a2_0 a2_1)) else (isobathlaw01_BoundMembers.j5 kj29 l0 l1 x9_29 t128 t129 t132 t133 bt136.1 bt136.2 false a2_0 a2_1))))) = some r := H
          have A41 := zam A410
          clear A410
          replace H := Option.bind_eq_some_iff.mp H
          obtain ⟨⟨t136, t139⟩, A420, H⟩ := H
          replace H : (if t129 = 0 then ((bound_CheckSet.f kj29 t128).bind fun t140 => (if t140 = 0 then (if t133 = 0 then ((bound_CheckSet.f kj29 t132).bind fun t141 => (if t141 = 0 then (if t139 = 0 then ((bound_CheckSet.f kj29 t136).bind fun t142 => (isobathlaw01_BoundMembers.j5 kj29 l0 l1 x9_29 t128 t129 t132 t133 t136 t139 (t142 != 0) a2_0 a2_1)) else (isobathlaw01_BoundMembers.j5 kj29 l0 l1 x9_29 t128 t129 t132 t133 t136 t139 false a2_0 a2_1)) else (none))) else (if t139 = 0 then ((bound_CheckSet.f kj29 t136).bind fun t143 => (isobathlaw01_BoundMembers.j5 kj29 l0 l1 x9_29 t128 t129 t132 t133 t136 t139 (t143 != 0) a2_0 a2_1)) else (isobathlaw01_BoundMembers.j5 kj29 l0 l1 x9_29 t128 t129 t132 t133 t136 t139 false a2_0 a2_1))) else (none))) else (if t133 = 0 then ((bound_CheckSet.f kj29 t132).bind fun t144 => (if t144 = 0 then (if t139 = 0 then ((bound_CheckSet.f kj29 t136).bind fun t145 => (isobathlaw01_BoundMembers.j5 kj29 l0 l1 x9_29 t128 t129 t132 t133 t136 t139 (t145 != 0) a2_0 a2_1)) else (isobathlaw01_BoundMembers.j5 kj29 l0 l1 x9_29 t128 t129 t132 t133 t136 t139 false a2_0 a2_1)) else (none))) else (if t139 = 0 then ((bound_CheckSet.f kj29 t136).bind fun t146 => (isobathlaw01_BoundMembers.j5 kj29 l0 l1 x9_29 t128 t129 t132 t133 t136 t139 (t146 != 0) a2_0 a2_1)) else (isobathlaw01_BoundMembers.j5 kj29 l0 l1 x9_29 t128 t129 t132 t133 t136 t139 false a2_0 a2_1)))) = some r := H
          have A42 := zam A420
          clear A420
          have HC43 := zam H
          clear H
          go_upto_region 15 with (first | ((with_reducible refine zgc (f := 40) rfl ?_); refine goesL_ (some 123) rfl rfl Try.func40 (by kernel_rfl) rfl #[.slice A0 l0.length c0, .slice A1 l1.length c1] rfl (by (try simp only [zmt, List.map_cons, List.map_nil]); first | done | rfl | (simp only [zld, zlt]; rfl)) ?_; (with_reducible refine (bound_Unite.calls kj29 _ _ l0 _ _ l1 t128 t129 _ ?side1 ?side2 ?side3 ?side4 A40.out).mono ?_); (case side1 => repeat (first | exact (Kd.C_below HR0.out HB.out) | (with_reducible refine Kd.C_alloc ?_ _) | (with_reducible refine Kd.C_drewN ?_ _) | (with_reducible refine Kd.C_drew ?_))); (case side2 => exact HC0.out); (case side3 => repeat (first | exact (Kd.C_below HR1.out HB.out) | (with_reducible refine Kd.C_alloc ?_ _) | (with_reducible refine Kd.C_drewN ?_ _) | (with_reducible refine Kd.C_drew ?_))); (case side4 => exact HC1.out); rintro e w44 ⟨v130, rfl, ho0, hb⟩; refine ⟨_, rfl, ?_⟩; have n0_ := zam (Kd.R_below (by (with_reducible repeat (first | apply zRa | apply zRn | apply zRd)); exact HO_9.out) hb); have n1_ := zam (Kd.R_lower (Kd.R_newB ho0 (g := gb101) (o := .cells #[.int .i64 a2_0, .int .i64 a2_1] 32 (0, 0)) (by (with_reducible repeat (first | refine zkn ?_ _ | refine zkd ?_ | refine zka ?_ _)); exact BK101.out)) (zbz (by repeat (first | (with_reducible first | exact HB.out | apply zba | apply zbn | apply zb1 | refine zbs ?_ GE101.out) | exact HB.out)))); have n2_ := zam (zkb (g := gb101) (o := .cells #[.int .i64 a2_0, .int .i64 a2_1] 32 (0, 0)) (by (with_reducible repeat (first | refine zkn ?_ _ | refine zkd ?_ | refine zka ?_ _)); exact BK101.out) hb); have n3_ := zam (zbt (by repeat (first | (with_reducible first | exact HB.out | apply zba | apply zbn | apply zb1 | refine zbs ?_ GE101.out) | exact HB.out)) hb); clear HO_9; clear BK101; clear HB; have HO_9 := n0_; have HO131 := n1_; have BK101 := n2_; have HB := n3_; clear n0_ n1_ n2_ n3_; (try clear hb); (try clear hb2); (try clear hk); (try clear hi); (try clear ho0)) | ((with_reducible refine zgc (f := 41) rfl ?_); refine goesL_ (some 129) rfl rfl Try.func41 (by kernel_rfl) rfl #[.slice A0 l0.length c0, .slice A1 l1.length c1] rfl (by (try simp only [zmt, List.map_cons, List.map_nil]); first | done | rfl | (simp only [zld, zlt]; rfl)) ?_; (with_reducible refine (bound_Cut.calls kj29 _ _ l0 _ _ l1 t132 t133 _ ?side1 ?side2 ?side3 ?side4 A41.out).mono ?_); (case side1 => repeat (first | exact (Kd.C_below HR0.out HB.out) | (with_reducible refine Kd.C_alloc ?_ _) | (with_reducible refine Kd.C_drewN ?_ _) | (with_reducible refine Kd.C_drew ?_))); (case side2 => exact HC0.out); (case side3 => repeat (first | exact (Kd.C_below HR1.out HB.out) | (with_reducible refine Kd.C_alloc ?_ _) | (with_reducible refine Kd.C_drewN ?_ _) | (with_reducible refine Kd.C_drew ?_))); (case side4 => exact HC1.out); rintro e w45 ⟨v134, rfl, ho0, hb⟩; refine ⟨_, rfl, ?_⟩; have n0_ := zam (Kd.R_below (by (with_reducible repeat (first | apply zRa | apply zRn | apply zRd)); exact HO_9.out) hb); have n1_ := zam (Kd.R_elder' (by (with_reducible repeat (first | apply zRa | apply zRn | apply zRd)); exact HO131.out) (Kd.R_base ho0) hb); have n2_ := zam (Kd.R_lower (Kd.R_newB (Kd.R_new' ho0 (Kd.R_lt (by (with_reducible repeat (first | apply zRa | apply zRn | apply zRd)); exact HO131.out))) (g := gb101) (o := .cells #[.int .i64 a2_0, .int .i64 a2_1] 32 (0, 0)) (by (with_reducible repeat (first | refine zkn ?_ _ | refine zkd ?_ | refine zka ?_ _)); exact BK101.out)) (zbz (by repeat (first | (with_reducible first | exact HB.out | apply zba | apply zbn | apply zb1 | refine zbs ?_ GE101.out) | exact HB.out)))); have n3_ := zam (zkb (g := gb101) (o := .cells #[.int .i64 a2_0, .int .i64 a2_1] 32 (0, 0)) (by (with_reducible repeat (first | refine zkn ?_ _ | refine zkd ?_ | refine zka ?_ _)); exact BK101.out) hb); have n4_ := zam (zbt (by repeat (first | (with_reducible first | exact HB.out | apply zba | apply zbn | apply zb1 | refine zbs ?_ GE101.out) | exact HB.out)) hb); clear HO_9; clear HO131; clear BK101; clear HB; have HO_9 := n0_; have HO131 := n1_; have HO135 := n2_; have BK101 := n3_; have HB := n4_; clear n0_ n1_ n2_ n3_ n4_; (try clear hb); (try clear hb2); (try clear hk); (try clear hi); (try clear ho0); have hcz46_0 : w45.cell? ⟨gb101, 0, none⟩ = some (.int .i64 a2_0) := (zkc BK101.out 0).trans rfl; have hcz46_1 : w45.cell? ⟨gb101, 1, none⟩ = some (.int .i64 a2_1) := (zkc BK101.out 1).trans rfl; have hfz46_0 := zkz BK101.out 0; have hfz46_1 := zkz BK101.out 1) | ((with_reducible refine zgc (f := 43) rfl ?_); refine goesL_ (some 135) rfl rfl Try.func43 (by kernel_rfl) rfl #[.slice A0 l0.length c0, .agg #[.int .i64 a2_0, .int .i64 a2_1]] rfl (by (try simp only [zmt, List.map_cons, List.map_nil]); first | done | rfl | (simp only [zld, zlt]; rfl)) ?_; (with_reducible refine (bound_Outside.calls kj29 _ _ l0 a2_0 a2_1 t136 t139 _ ?side1 ?side2 A42.out).mono ?_); (case side1 => repeat (first | exact (Kd.C_below HR0.out HB.out) | (with_reducible refine Kd.C_alloc ?_ _) | (with_reducible refine Kd.C_drewN ?_ _) | (with_reducible refine Kd.C_drew ?_))); (case side2 => exact HC0.out); rintro e w47 ⟨v137, rfl, ho0, hb⟩; refine ⟨_, rfl, ?_⟩; have n0_ := zam (Kd.R_below (by (with_reducible repeat (first | apply zRa | apply zRn | apply zRd)); exact HO_9.out) hb); have n1_ := zam (Kd.R_elder' (by (with_reducible repeat (first | apply zRa | apply zRn | apply zRd)); exact HO131.out) (Kd.R_base ho0) hb); have n2_ := zam (Kd.R_elder' (by (with_reducible repeat (first | apply zRa | apply zRn | apply zRd)); exact HO135.out) (Kd.R_base ho0) hb); have n3_ := zam (Kd.R_lower (Kd.R_newB (Kd.R_new' (Kd.R_new' ho0 (Kd.R_lt (by (with_reducible repeat (first | apply zRa | apply zRn | apply zRd)); exact HO131.out))) (Kd.R_lt (by (with_reducible repeat (first | apply zRa | apply zRn | apply zRd)); exact HO135.out))) (g := gb101) (o := .cells #[.int .i64 a2_0, .int .i64 a2_1] 32 (0, 0)) (by (with_reducible repeat (first | refine zkn ?_ _ | refine zkd ?_ | refine zka ?_ _)); exact BK101.out)) (zbz (by repeat (first | (with_reducible first | exact HB.out | apply zba | apply zbn | apply zb1 | refine zbs ?_ GE101.out) | exact HB.out)))); have n4_ := zam (zkb (g := gb101) (o := .cells #[.int .i64 a2_0, .int .i64 a2_1] 32 (0, 0)) (by (with_reducible repeat (first | refine zkn ?_ _ | refine zkd ?_ | refine zka ?_ _)); exact BK101.out) hb); have n5_ := zam (zbt (by repeat (first | (with_reducible first | exact HB.out | apply zba | apply zbn | apply zb1 | refine zbs ?_ GE101.out) | exact HB.out)) hb); clear HO_9; clear HO131; clear HO135; clear BK101; clear HB; have HO_9 := n0_; have HO131 := n1_; have HO135 := n2_; have HO138 := n3_; have BK101 := n4_; have HB := n5_; clear n0_ n1_ n2_ n3_ n4_ n5_; (try clear hb); (try clear hb2); (try clear hk); (try clear hi); (try clear ho0)))
          (try simp only [Act.put, zsa, zsz, zss])
          go_cut [162] (fun v162 wc => ∃ (kq : Nat) (x162_42 : Bool), v162 = .bool x162_42 ∧ Aside0 (isobathlaw01_BoundMembers.j5 kq l0 l1 x9_29 t128 t129 t132 t133 t136 t139 x162_42 a2_0 a2_1 = some r) ∧ Aside0 (kq ≤ kj29) ∧ Aside0 (Kd.R (Kd.int .i64) 2 wc w.heap.size (fun _ => True) u9 x9_29) ∧ Aside0 (Kd.R k32 32 wc w.heap.size (fun k_ => some k_ ≠ (v134 : Value).ownBlock ∧ some k_ ≠ (v137 : Value).ownBlock ∧ k_ ≠ gb101) v130 t128) ∧ Aside0 (Kd.R k32 32 wc w.heap.size (fun k_ => some k_ ≠ (v130 : Value).ownBlock ∧ some k_ ≠ (v137 : Value).ownBlock ∧ k_ ≠ gb101) v134 t132) ∧ Aside0 (Kd.R k32 32 wc w.heap.size (fun k_ => some k_ ≠ (v130 : Value).ownBlock ∧ some k_ ≠ (v134 : Value).ownBlock ∧ k_ ≠ gb101) v137 t136) ∧ Aside0 (wc.heap[gb101]? = some (.cells #[.int .i64 a2_0, .int .i64 a2_1] 32 (0, 0))) ∧ Aside0 (Below w.heap.size w wc))
          case first =>
           have H := HC43.out
           clear HC43
           by_cases c48 : t129 = 0
           ·rw [if_pos c48] at H
            have c48b0 : (t129 == 0) = true := beq_iff_eq.mpr c48
            have c48b1 : (t129 != 0) = false := bne_eq_false_iff_eq.mpr c48
            clear c48
            (first | rw [c48b0] | (simp only [i64_w, i32_w]; rw [c48b0]) | skip)
            replace H := Option.bind_eq_some_iff.mp H
            obtain ⟨t140, A490, H⟩ := H
            replace H : (if t140 = 0 then (if t133 = 0 then ((bound_CheckSet.f kj29 t132).bind fun t141 => (if t141 = 0 then (if t139 = 0 then ((bound_CheckSet.f kj29 t136).bind fun t142 => (isobathlaw01_BoundMembers.j5 kj29 l0 l1 x9_29 t128 t129 t132 t133 t136 t139 (t142 != 0) a2_0 a2_1)) else (isobathlaw01_BoundMembers.j5 kj29 l0 l1 x9_29 t128 t129 t132 t133 t136 t139 false a2_0 a2_1)) else (none))) else (if t139 = 0 then ((bound_CheckSet.f kj29 t136).bind fun t143 => (isobathlaw01_BoundMembers.j5 kj29 l0 l1 x9_29 t128 t129 t132 t133 t136 t139 (t143 != 0) a2_0 a2_1)) else (isobathlaw01_BoundMembers.j5 kj29 l0 l1 x9_29 t128 t129 t132 t133 t136 t139 false a2_0 a2_1))) else (none)) = some r := H
            have A49 := zam A490
            clear A490
            by_cases c50 : t140 = 0
            ·rw [if_pos c50] at H
             have c50b0 : (t140 == 0) = true := beq_iff_eq.mpr c50
             have c50b1 : (t140 != 0) = false := bne_eq_false_iff_eq.mpr c50
             clear c50
             by_cases c51 : t133 = 0
             ·rw [if_pos c51] at H
              have c51b0 : (t133 == 0) = true := beq_iff_eq.mpr c51
              have c51b1 : (t133 != 0) = false := bne_eq_false_iff_eq.mpr c51
              clear c51
              replace H := Option.bind_eq_some_iff.mp H
              obtain ⟨t141, A520, H⟩ := H
              replace H : (if t141 = 0 then (if t139 = 0 then ((bound_CheckSet.f kj29 t136).bind fun t142 => (isobathlaw01_BoundMembers.j5 kj29 l0 l1 x9_29 t128 t129 t132 t133 t136 t139 (t142 != 0) a2_0 a2_1)) else (isobathlaw01_BoundMembers.j5 kj29 l0 l1 x9_29 t128 t129 t132 t133 t136 t139 false a2_0 a2_1)) else (none)) = some r := H
              have A52 := zam A520
              clear A520
              by_cases c53 : t141 = 0
              ·rw [if_pos c53] at H
               have c53b0 : (t141 == 0) = true := beq_iff_eq.mpr c53
               have c53b1 : (t141 != 0) = false := bne_eq_false_iff_eq.mpr c53
               clear c53
               by_cases c54 : t139 = 0
               ·rw [if_pos c54] at H
                have c54b0 : (t139 == 0) = true := beq_iff_eq.mpr c54
                have c54b1 : (t139 != 0) = false := bne_eq_false_iff_eq.mpr c54
                clear c54
                replace H := Option.bind_eq_some_iff.mp H
                obtain ⟨t142, A550, H⟩ := H
                replace H : (isobathlaw01_BoundMembers.j5 kj29 l0 l1 x9_29 t128 t129 t132 t133 t136 t139 (t142 != 0) a2_0 a2_1) = some r := H
                have A55 := zam A550
                clear A550
                as_aux_lemma =>
                 have H' := zam H
                 clear H
                 obtain ⟨Ao56, co56, eo56⟩ := Kd.R_slice HO131.out
                 subst eo56
                 go_wp2_with (first | (go_at_call 44; (with_reducible refine (bound_CheckSet.calls kj29 _ _ t128 t140 _ ?side1 ?side2 A49.out).mono ?_); (case side1 => repeat (first | exact (Kd.R_reads' HO131.out).2.2 | (with_reducible refine Kd.C_alloc ?_ _) | (with_reducible refine Kd.C_drewN ?_ _) | (with_reducible refine Kd.C_drew ?_))); (case side2 => exact (Kd.R_reads' HO131.out).2.1); rintro e w57 ⟨rfl, hb⟩; have n0_ := zam (Kd.R_below (by (with_reducible repeat (first | apply zRa | apply zRn | apply zRd)); exact HO_9.out) hb); have n1_ := zam (Kd.R_below (by (with_reducible repeat (first | apply zRa | apply zRn | apply zRd)); exact HO131.out) hb); have n2_ := zam (Kd.R_below (by (with_reducible repeat (first | apply zRa | apply zRn | apply zRd)); exact HO135.out) hb); have n3_ := zam (Kd.R_below (by (with_reducible repeat (first | apply zRa | apply zRn | apply zRd)); exact HO138.out) hb); have n4_ := zam (zkb (g := gb101) (o := .cells #[.int .i64 a2_0, .int .i64 a2_1] 32 (0, 0)) (by (with_reducible repeat (first | refine zkn ?_ _ | refine zkd ?_ | refine zka ?_ _)); exact BK101.out) hb); have n5_ := zam (zbt (by repeat (first | (with_reducible first | exact HB.out | apply zba | apply zbn | apply zb1 | refine zbs ?_ GE101.out) | exact HB.out)) hb); clear HO_9; clear HO131; clear HO135; clear HO138; clear BK101; clear HB; have HO_9 := n0_; have HO131 := n1_; have HO135 := n2_; have HO138 := n3_; have BK101 := n4_; have HB := n5_; clear n0_ n1_ n2_ n3_ n4_ n5_; (try clear hb); (try clear hb2); (try clear hk); (try clear hi); obtain ⟨Ao58, co58, eo58⟩ := Kd.R_slice HO135.out; subst eo58) | (go_at_call 44; (with_reducible refine (bound_CheckSet.calls kj29 _ _ t132 t141 _ ?side1 ?side2 A52.out).mono ?_); (case side1 => repeat (first | exact (Kd.R_reads' HO135.out).2.2 | (with_reducible refine Kd.C_alloc ?_ _) | (with_reducible refine Kd.C_drewN ?_ _) | (with_reducible refine Kd.C_drew ?_))); (case side2 => exact (Kd.R_reads' HO135.out).2.1); rintro e w59 ⟨rfl, hb⟩; have n0_ := zam (Kd.R_below (by (with_reducible repeat (first | apply zRa | apply zRn | apply zRd)); exact HO_9.out) hb); have n1_ := zam (Kd.R_below (by (with_reducible repeat (first | apply zRa | apply zRn | apply zRd)); exact HO131.out) hb); have n2_ := zam (Kd.R_below (by (with_reducible repeat (first | apply zRa | apply zRn | apply zRd)); exact HO135.out) hb); have n3_ := zam (Kd.R_below (by (with_reducible repeat (first | apply zRa | apply zRn | apply zRd)); exact HO138.out) hb); have n4_ := zam (zkb (g := gb101) (o := .cells #[.int .i64 a2_0, .int .i64 a2_1] 32 (0, 0)) (by (with_reducible repeat (first | refine zkn ?_ _ | refine zkd ?_ | refine zka ?_ _)); exact BK101.out) hb); have n5_ := zam (zbt (by repeat (first | (with_reducible first | exact HB.out | apply zba | apply zbn | apply zb1 | refine zbs ?_ GE101.out) | exact HB.out)) hb); clear HO_9; clear HO131; clear HO135; clear HO138; clear BK101; clear HB; have HO_9 := n0_; have HO131 := n1_; have HO135 := n2_; have HO138 := n3_; have BK101 := n4_; have HB := n5_; clear n0_ n1_ n2_ n3_ n4_ n5_; (try clear hb); (try clear hb2); (try clear hk); (try clear hi); obtain ⟨Ao60, co60, eo60⟩ := Kd.R_slice HO138.out; subst eo60) | (go_at_call 44; (with_reducible refine (bound_CheckSet.calls kj29 _ _ t136 t142 _ ?side1 ?side2 A55.out).mono ?_); (case side1 => repeat (first | exact (Kd.R_reads' HO138.out).2.2 | (with_reducible refine Kd.C_alloc ?_ _) | (with_reducible refine Kd.C_drewN ?_ _) | (with_reducible refine Kd.C_drew ?_))); (case side2 => exact (Kd.R_reads' HO138.out).2.1); rintro e w61 ⟨rfl, hb⟩; have n0_ := zam (Kd.R_below (by (with_reducible repeat (first | apply zRa | apply zRn | apply zRd)); exact HO_9.out) hb); have n1_ := zam (Kd.R_below (by (with_reducible repeat (first | apply zRa | apply zRn | apply zRd)); exact HO131.out) hb); have n2_ := zam (Kd.R_below (by (with_reducible repeat (first | apply zRa | apply zRn | apply zRd)); exact HO135.out) hb); have n3_ := zam (Kd.R_below (by (with_reducible repeat (first | apply zRa | apply zRn | apply zRd)); exact HO138.out) hb); have n4_ := zam (zkb (g := gb101) (o := .cells #[.int .i64 a2_0, .int .i64 a2_1] 32 (0, 0)) (by (with_reducible repeat (first | refine zkn ?_ _ | refine zkd ?_ | refine zka ?_ _)); exact BK101.out) hb); have n5_ := zam (zbt (by repeat (first | (with_reducible first | exact HB.out | apply zba | apply zbn | apply zb1 | refine zbs ?_ GE101.out) | exact HB.out)) hb); clear HO_9; clear HO131; clear HO135; clear HO138; clear BK101; clear HB; have HO_9 := n0_; have HO131 := n1_; have HO135 := n2_; have HO138 := n3_; have BK101 := n4_; have HB := n5_; clear n0_ n1_ n2_ n3_ n4_ n5_; (try clear hb); (try clear hb2); (try clear hk); (try clear hi)))
                 go_meet
                 case rel => exact ⟨_, ((t142 != 0)), (by first | rfl | (simp; done) | (simp [*]; done)), H', ⟨by have := HJ4.out; have := HJ17.out; have := HJ29.out; first | omega | exact Nat.le_refl _⟩, ⟨by (with_reducible repeat (first | apply zRa | apply zRn | apply zRd)); exact HO_9.out⟩, ⟨by (with_reducible repeat (first | apply zRa | apply zRn | apply zRd)); exact Kd.R_mono HO131.out (fun _ hk => ⟨hk.1.2, ⟨hk.2, hk.1.1.2⟩⟩)⟩, ⟨by (with_reducible repeat (first | apply zRa | apply zRn | apply zRd)); exact Kd.R_mono HO135.out (fun _ hk => ⟨hk.1.1.2, ⟨hk.2, hk.1.2⟩⟩)⟩, ⟨by (with_reducible repeat (first | apply zRa | apply zRn | apply zRd)); exact Kd.R_mono HO138.out (fun _ hk => ⟨hk.1.1.2, ⟨hk.1.2, hk.2⟩⟩)⟩, ⟨by (with_reducible repeat (first | refine zkn ?_ _ | refine zkd ?_ | refine zka ?_ _)); exact BK101.out⟩, ⟨by repeat (first | (with_reducible first | exact HB.out | apply zba | apply zbn | apply zb1 | refine zbs ?_ GE101.out) | exact HB.out)⟩⟩
               rw [if_neg c54] at H
               have c54b0 : (t139 == 0) = false := beq_eq_false_iff_ne.mpr c54
               have c54b1 : (t139 != 0) = true := bne_iff_ne.mpr c54
               as_aux_lemma =>
                have H' := zam H
                clear H
                obtain ⟨Ao62, co62, eo62⟩ := Kd.R_slice HO131.out
                subst eo62
                go_wp2_with (first | (go_at_call 44; (with_reducible refine (bound_CheckSet.calls kj29 _ _ t128 t140 _ ?side1 ?side2 A49.out).mono ?_); (case side1 => repeat (first | exact (Kd.R_reads' HO131.out).2.2 | (with_reducible refine Kd.C_alloc ?_ _) | (with_reducible refine Kd.C_drewN ?_ _) | (with_reducible refine Kd.C_drew ?_))); (case side2 => exact (Kd.R_reads' HO131.out).2.1); rintro e w63 ⟨rfl, hb⟩; have n0_ := zam (Kd.R_below (by (with_reducible repeat (first | apply zRa | apply zRn | apply zRd)); exact HO_9.out) hb); have n1_ := zam (Kd.R_below (by (with_reducible repeat (first | apply zRa | apply zRn | apply zRd)); exact HO131.out) hb); have n2_ := zam (Kd.R_below (by (with_reducible repeat (first | apply zRa | apply zRn | apply zRd)); exact HO135.out) hb); have n3_ := zam (Kd.R_below (by (with_reducible repeat (first | apply zRa | apply zRn | apply zRd)); exact HO138.out) hb); have n4_ := zam (zkb (g := gb101) (o := .cells #[.int .i64 a2_0, .int .i64 a2_1] 32 (0, 0)) (by (with_reducible repeat (first | refine zkn ?_ _ | refine zkd ?_ | refine zka ?_ _)); exact BK101.out) hb); have n5_ := zam (zbt (by repeat (first | (with_reducible first | exact HB.out | apply zba | apply zbn | apply zb1 | refine zbs ?_ GE101.out) | exact HB.out)) hb); clear HO_9; clear HO131; clear HO135; clear HO138; clear BK101; clear HB; have HO_9 := n0_; have HO131 := n1_; have HO135 := n2_; have HO138 := n3_; have BK101 := n4_; have HB := n5_; clear n0_ n1_ n2_ n3_ n4_ n5_; (try clear hb); (try clear hb2); (try clear hk); (try clear hi); obtain ⟨Ao64, co64, eo64⟩ := Kd.R_slice HO135.out; subst eo64) | (go_at_call 44; (with_reducible refine (bound_CheckSet.calls kj29 _ _ t132 t141 _ ?side1 ?side2 A52.out).mono ?_); (case side1 => repeat (first | exact (Kd.R_reads' HO135.out).2.2 | (with_reducible refine Kd.C_alloc ?_ _) | (with_reducible refine Kd.C_drewN ?_ _) | (with_reducible refine Kd.C_drew ?_))); (case side2 => exact (Kd.R_reads' HO135.out).2.1); rintro e w65 ⟨rfl, hb⟩; have n0_ := zam (Kd.R_below (by (with_reducible repeat (first | apply zRa | apply zRn | apply zRd)); exact HO_9.out) hb); have n1_ := zam (Kd.R_below (by (with_reducible repeat (first | apply zRa | apply zRn | apply zRd)); exact HO131.out) hb); have n2_ := zam (Kd.R_below (by (with_reducible repeat (first | apply zRa | apply zRn | apply zRd)); exact HO135.out) hb); have n3_ := zam (Kd.R_below (by (with_reducible repeat (first | apply zRa | apply zRn | apply zRd)); exact HO138.out) hb); have n4_ := zam (zkb (g := gb101) (o := .cells #[.int .i64 a2_0, .int .i64 a2_1] 32 (0, 0)) (by (with_reducible repeat (first | refine zkn ?_ _ | refine zkd ?_ | refine zka ?_ _)); exact BK101.out) hb); have n5_ := zam (zbt (by repeat (first | (with_reducible first | exact HB.out | apply zba | apply zbn | apply zb1 | refine zbs ?_ GE101.out) | exact HB.out)) hb); clear HO_9; clear HO131; clear HO135; clear HO138; clear BK101; clear HB; have HO_9 := n0_; have HO131 := n1_; have HO135 := n2_; have HO138 := n3_; have BK101 := n4_; have HB := n5_; clear n0_ n1_ n2_ n3_ n4_ n5_; (try clear hb); (try clear hb2); (try clear hk); (try clear hi)))
                go_meet
                case rel => exact ⟨_, (false), (by first | rfl | (simp; done) | (simp [*]; done)), H', ⟨by have := HJ4.out; have := HJ17.out; have := HJ29.out; first | omega | exact Nat.le_refl _⟩, ⟨by (with_reducible repeat (first | apply zRa | apply zRn | apply zRd)); exact HO_9.out⟩, ⟨by (with_reducible repeat (first | apply zRa | apply zRn | apply zRd)); exact Kd.R_mono HO131.out (fun _ hk => ⟨hk.1.2, ⟨hk.2, hk.1.1.2⟩⟩)⟩, ⟨by (with_reducible repeat (first | apply zRa | apply zRn | apply zRd)); exact Kd.R_mono HO135.out (fun _ hk => ⟨hk.1.1.2, ⟨hk.2, hk.1.2⟩⟩)⟩, ⟨by (with_reducible repeat (first | apply zRa | apply zRn | apply zRd)); exact Kd.R_mono HO138.out (fun _ hk => ⟨hk.1.1.2, ⟨hk.1.2, hk.2⟩⟩)⟩, ⟨by (with_reducible repeat (first | refine zkn ?_ _ | refine zkd ?_ | refine zka ?_ _)); exact BK101.out⟩, ⟨by repeat (first | (with_reducible first | exact HB.out | apply zba | apply zbn | apply zb1 | refine zbs ?_ GE101.out) | exact HB.out)⟩⟩
              rw [if_neg c53] at H
              exact absurd H (by simp)
             rw [if_neg c51] at H
             have c51b0 : (t133 == 0) = false := beq_eq_false_iff_ne.mpr c51
             have c51b1 : (t133 != 0) = true := bne_iff_ne.mpr c51
             by_cases c66 : t139 = 0
             ·rw [if_pos c66] at H
              have c66b0 : (t139 == 0) = true := beq_iff_eq.mpr c66
              have c66b1 : (t139 != 0) = false := bne_eq_false_iff_eq.mpr c66
              clear c66
              replace H := Option.bind_eq_some_iff.mp H
              obtain ⟨t143, A670, H⟩ := H
              replace H : (isobathlaw01_BoundMembers.j5 kj29 l0 l1 x9_29 t128 t129 t132 t133 t136 t139 (t143 != 0) a2_0 a2_1) = some r := H
              have A67 := zam A670
              clear A670
              as_aux_lemma =>
               have H' := zam H
               clear H
               obtain ⟨Ao68, co68, eo68⟩ := Kd.R_slice HO131.out
               subst eo68
               go_wp2_with (first | (go_at_call 44; (with_reducible refine (bound_CheckSet.calls kj29 _ _ t128 t140 _ ?side1 ?side2 A49.out).mono ?_); (case side1 => repeat (first | exact (Kd.R_reads' HO131.out).2.2 | (with_reducible refine Kd.C_alloc ?_ _) | (with_reducible refine Kd.C_drewN ?_ _) | (with_reducible refine Kd.C_drew ?_))); (case side2 => exact (Kd.R_reads' HO131.out).2.1); rintro e w69 ⟨rfl, hb⟩; have n0_ := zam (Kd.R_below (by (with_reducible repeat (first | apply zRa | apply zRn | apply zRd)); exact HO_9.out) hb); have n1_ := zam (Kd.R_below (by (with_reducible repeat (first | apply zRa | apply zRn | apply zRd)); exact HO131.out) hb); have n2_ := zam (Kd.R_below (by (with_reducible repeat (first | apply zRa | apply zRn | apply zRd)); exact HO135.out) hb); have n3_ := zam (Kd.R_below (by (with_reducible repeat (first | apply zRa | apply zRn | apply zRd)); exact HO138.out) hb); have n4_ := zam (zkb (g := gb101) (o := .cells #[.int .i64 a2_0, .int .i64 a2_1] 32 (0, 0)) (by (with_reducible repeat (first | refine zkn ?_ _ | refine zkd ?_ | refine zka ?_ _)); exact BK101.out) hb); have n5_ := zam (zbt (by repeat (first | (with_reducible first | exact HB.out | apply zba | apply zbn | apply zb1 | refine zbs ?_ GE101.out) | exact HB.out)) hb); clear HO_9; clear HO131; clear HO135; clear HO138; clear BK101; clear HB; have HO_9 := n0_; have HO131 := n1_; have HO135 := n2_; have HO138 := n3_; have BK101 := n4_; have HB := n5_; clear n0_ n1_ n2_ n3_ n4_ n5_; (try clear hb); (try clear hb2); (try clear hk); (try clear hi); obtain ⟨Ao70, co70, eo70⟩ := Kd.R_slice HO138.out; subst eo70) | (go_at_call 44; (with_reducible refine (bound_CheckSet.calls kj29 _ _ t136 t143 _ ?side1 ?side2 A67.out).mono ?_); (case side1 => repeat (first | exact (Kd.R_reads' HO138.out).2.2 | (with_reducible refine Kd.C_alloc ?_ _) | (with_reducible refine Kd.C_drewN ?_ _) | (with_reducible refine Kd.C_drew ?_))); (case side2 => exact (Kd.R_reads' HO138.out).2.1); rintro e w71 ⟨rfl, hb⟩; have n0_ := zam (Kd.R_below (by (with_reducible repeat (first | apply zRa | apply zRn | apply zRd)); exact HO_9.out) hb); have n1_ := zam (Kd.R_below (by (with_reducible repeat (first | apply zRa | apply zRn | apply zRd)); exact HO131.out) hb); have n2_ := zam (Kd.R_below (by (with_reducible repeat (first | apply zRa | apply zRn | apply zRd)); exact HO135.out) hb); have n3_ := zam (Kd.R_below (by (with_reducible repeat (first | apply zRa | apply zRn | apply zRd)); exact HO138.out) hb); have n4_ := zam (zkb (g := gb101) (o := .cells #[.int .i64 a2_0, .int .i64 a2_1] 32 (0, 0)) (by (with_reducible repeat (first | refine zkn ?_ _ | refine zkd ?_ | refine zka ?_ _)); exact BK101.out) hb); have n5_ := zam (zbt (by repeat (first | (with_reducible first | exact HB.out | apply zba | apply zbn | apply zb1 | refine zbs ?_ GE101.out) | exact HB.out)) hb); clear HO_9; clear HO131; clear HO135; clear HO138; clear BK101; clear HB; have HO_9 := n0_; have HO131 := n1_; have HO135 := n2_; have HO138 := n3_; have BK101 := n4_; have HB := n5_; clear n0_ n1_ n2_ n3_ n4_ n5_; (try clear hb); (try clear hb2); (try clear hk); (try clear hi)))
               go_meet
               case rel => exact ⟨_, ((t143 != 0)), (by first | rfl | (simp; done) | (simp [*]; done)), H', ⟨by have := HJ4.out; have := HJ17.out; have := HJ29.out; first | omega | exact Nat.le_refl _⟩, ⟨by (with_reducible repeat (first | apply zRa | apply zRn | apply zRd)); exact HO_9.out⟩, ⟨by (with_reducible repeat (first | apply zRa | apply zRn | apply zRd)); exact Kd.R_mono HO131.out (fun _ hk => ⟨hk.1.2, ⟨hk.2, hk.1.1.2⟩⟩)⟩, ⟨by (with_reducible repeat (first | apply zRa | apply zRn | apply zRd)); exact Kd.R_mono HO135.out (fun _ hk => ⟨hk.1.1.2, ⟨hk.2, hk.1.2⟩⟩)⟩, ⟨by (with_reducible repeat (first | apply zRa | apply zRn | apply zRd)); exact Kd.R_mono HO138.out (fun _ hk => ⟨hk.1.1.2, ⟨hk.1.2, hk.2⟩⟩)⟩, ⟨by (with_reducible repeat (first | refine zkn ?_ _ | refine zkd ?_ | refine zka ?_ _)); exact BK101.out⟩, ⟨by repeat (first | (with_reducible first | exact HB.out | apply zba | apply zbn | apply zb1 | refine zbs ?_ GE101.out) | exact HB.out)⟩⟩
             rw [if_neg c66] at H
             have c66b0 : (t139 == 0) = false := beq_eq_false_iff_ne.mpr c66
             have c66b1 : (t139 != 0) = true := bne_iff_ne.mpr c66
             as_aux_lemma =>
              have H' := zam H
              clear H
              obtain ⟨Ao72, co72, eo72⟩ := Kd.R_slice HO131.out
              subst eo72
              go_wp2_with (first | (go_at_call 44; (with_reducible refine (bound_CheckSet.calls kj29 _ _ t128 t140 _ ?side1 ?side2 A49.out).mono ?_); (case side1 => repeat (first | exact (Kd.R_reads' HO131.out).2.2 | (with_reducible refine Kd.C_alloc ?_ _) | (with_reducible refine Kd.C_drewN ?_ _) | (with_reducible refine Kd.C_drew ?_))); (case side2 => exact (Kd.R_reads' HO131.out).2.1); rintro e w73 ⟨rfl, hb⟩; have n0_ := zam (Kd.R_below (by (with_reducible repeat (first | apply zRa | apply zRn | apply zRd)); exact HO_9.out) hb); have n1_ := zam (Kd.R_below (by (with_reducible repeat (first | apply zRa | apply zRn | apply zRd)); exact HO131.out) hb); have n2_ := zam (Kd.R_below (by (with_reducible repeat (first | apply zRa | apply zRn | apply zRd)); exact HO135.out) hb); have n3_ := zam (Kd.R_below (by (with_reducible repeat (first | apply zRa | apply zRn | apply zRd)); exact HO138.out) hb); have n4_ := zam (zkb (g := gb101) (o := .cells #[.int .i64 a2_0, .int .i64 a2_1] 32 (0, 0)) (by (with_reducible repeat (first | refine zkn ?_ _ | refine zkd ?_ | refine zka ?_ _)); exact BK101.out) hb); have n5_ := zam (zbt (by repeat (first | (with_reducible first | exact HB.out | apply zba | apply zbn | apply zb1 | refine zbs ?_ GE101.out) | exact HB.out)) hb); clear HO_9; clear HO131; clear HO135; clear HO138; clear BK101; clear HB; have HO_9 := n0_; have HO131 := n1_; have HO135 := n2_; have HO138 := n3_; have BK101 := n4_; have HB := n5_; clear n0_ n1_ n2_ n3_ n4_ n5_; (try clear hb); (try clear hb2); (try clear hk); (try clear hi)))
              go_meet
              case rel => exact ⟨_, (false), (by first | rfl | (simp; done) | (simp [*]; done)), H', ⟨by have := HJ4.out; have := HJ17.out; have := HJ29.out; first | omega | exact Nat.le_refl _⟩, ⟨by (with_reducible repeat (first | apply zRa | apply zRn | apply zRd)); exact HO_9.out⟩, ⟨by (with_reducible repeat (first | apply zRa | apply zRn | apply zRd)); exact Kd.R_mono HO131.out (fun _ hk => ⟨hk.1.2, ⟨hk.2, hk.1.1.2⟩⟩)⟩, ⟨by (with_reducible repeat (first | apply zRa | apply zRn | apply zRd)); exact Kd.R_mono HO135.out (fun _ hk => ⟨hk.1.1.2, ⟨hk.2, hk.1.2⟩⟩)⟩, ⟨by (with_reducible repeat (first | apply zRa | apply zRn | apply zRd)); exact Kd.R_mono HO138.out (fun _ hk => ⟨hk.1.1.2, ⟨hk.1.2, hk.2⟩⟩)⟩, ⟨by (with_reducible repeat (first | refine zkn ?_ _ | refine zkd ?_ | refine zka ?_ _)); exact BK101.out⟩, ⟨by repeat (first | (with_reducible first | exact HB.out | apply zba | apply zbn | apply zb1 | refine zbs ?_ GE101.out) | exact HB.out)⟩⟩
            rw [if_neg c50] at H
            exact absurd H (by simp)
           rw [if_neg c48] at H
           have c48b0 : (t129 == 0) = false := beq_eq_false_iff_ne.mpr c48
           have c48b1 : (t129 != 0) = true := bne_iff_ne.mpr c48
           (first | rw [c48b0] | (simp only [i64_w, i32_w]; rw [c48b0]) | skip)
           by_cases c74 : t133 = 0
           ·rw [if_pos c74] at H
            have c74b0 : (t133 == 0) = true := beq_iff_eq.mpr c74
            have c74b1 : (t133 != 0) = false := bne_eq_false_iff_eq.mpr c74
            clear c74
            replace H := Option.bind_eq_some_iff.mp H
            obtain ⟨t144, A750, H⟩ := H
            replace H : (if t144 = 0 then (if t139 = 0 then ((bound_CheckSet.f kj29 t136).bind fun t145 => (isobathlaw01_BoundMembers.j5 kj29 l0 l1 x9_29 t128 t129 t132 t133 t136 t139 (t145 != 0) a2_0 a2_1)) else (isobathlaw01_BoundMembers.j5 kj29 l0 l1 x9_29 t128 t129 t132 t133 t136 t139 false a2_0 a2_1)) else (none)) = some r := H
            have A75 := zam A750
            clear A750
            by_cases c76 : t144 = 0
            ·rw [if_pos c76] at H
             have c76b0 : (t144 == 0) = true := beq_iff_eq.mpr c76
             have c76b1 : (t144 != 0) = false := bne_eq_false_iff_eq.mpr c76
             clear c76
             by_cases c77 : t139 = 0
             ·rw [if_pos c77] at H
              have c77b0 : (t139 == 0) = true := beq_iff_eq.mpr c77
              have c77b1 : (t139 != 0) = false := bne_eq_false_iff_eq.mpr c77
              clear c77
              replace H := Option.bind_eq_some_iff.mp H
              obtain ⟨t145, A780, H⟩ := H
              replace H : (isobathlaw01_BoundMembers.j5 kj29 l0 l1 x9_29 t128 t129 t132 t133 t136 t139 (t145 != 0) a2_0 a2_1) = some r := H
              have A78 := zam A780
              clear A780
              as_aux_lemma =>
               have H' := zam H
               clear H
               obtain ⟨Ao79, co79, eo79⟩ := Kd.R_slice HO135.out
               subst eo79
               go_wp2_with (first | (go_at_call 44; (with_reducible refine (bound_CheckSet.calls kj29 _ _ t132 t144 _ ?side1 ?side2 A75.out).mono ?_); (case side1 => repeat (first | exact (Kd.R_reads' HO135.out).2.2 | (with_reducible refine Kd.C_alloc ?_ _) | (with_reducible refine Kd.C_drewN ?_ _) | (with_reducible refine Kd.C_drew ?_))); (case side2 => exact (Kd.R_reads' HO135.out).2.1); rintro e w80 ⟨rfl, hb⟩; have n0_ := zam (Kd.R_below (by (with_reducible repeat (first | apply zRa | apply zRn | apply zRd)); exact HO_9.out) hb); have n1_ := zam (Kd.R_below (by (with_reducible repeat (first | apply zRa | apply zRn | apply zRd)); exact HO131.out) hb); have n2_ := zam (Kd.R_below (by (with_reducible repeat (first | apply zRa | apply zRn | apply zRd)); exact HO135.out) hb); have n3_ := zam (Kd.R_below (by (with_reducible repeat (first | apply zRa | apply zRn | apply zRd)); exact HO138.out) hb); have n4_ := zam (zkb (g := gb101) (o := .cells #[.int .i64 a2_0, .int .i64 a2_1] 32 (0, 0)) (by (with_reducible repeat (first | refine zkn ?_ _ | refine zkd ?_ | refine zka ?_ _)); exact BK101.out) hb); have n5_ := zam (zbt (by repeat (first | (with_reducible first | exact HB.out | apply zba | apply zbn | apply zb1 | refine zbs ?_ GE101.out) | exact HB.out)) hb); clear HO_9; clear HO131; clear HO135; clear HO138; clear BK101; clear HB; have HO_9 := n0_; have HO131 := n1_; have HO135 := n2_; have HO138 := n3_; have BK101 := n4_; have HB := n5_; clear n0_ n1_ n2_ n3_ n4_ n5_; (try clear hb); (try clear hb2); (try clear hk); (try clear hi); obtain ⟨Ao81, co81, eo81⟩ := Kd.R_slice HO138.out; subst eo81) | (go_at_call 44; (with_reducible refine (bound_CheckSet.calls kj29 _ _ t136 t145 _ ?side1 ?side2 A78.out).mono ?_); (case side1 => repeat (first | exact (Kd.R_reads' HO138.out).2.2 | (with_reducible refine Kd.C_alloc ?_ _) | (with_reducible refine Kd.C_drewN ?_ _) | (with_reducible refine Kd.C_drew ?_))); (case side2 => exact (Kd.R_reads' HO138.out).2.1); rintro e w82 ⟨rfl, hb⟩; have n0_ := zam (Kd.R_below (by (with_reducible repeat (first | apply zRa | apply zRn | apply zRd)); exact HO_9.out) hb); have n1_ := zam (Kd.R_below (by (with_reducible repeat (first | apply zRa | apply zRn | apply zRd)); exact HO131.out) hb); have n2_ := zam (Kd.R_below (by (with_reducible repeat (first | apply zRa | apply zRn | apply zRd)); exact HO135.out) hb); have n3_ := zam (Kd.R_below (by (with_reducible repeat (first | apply zRa | apply zRn | apply zRd)); exact HO138.out) hb); have n4_ := zam (zkb (g := gb101) (o := .cells #[.int .i64 a2_0, .int .i64 a2_1] 32 (0, 0)) (by (with_reducible repeat (first | refine zkn ?_ _ | refine zkd ?_ | refine zka ?_ _)); exact BK101.out) hb); have n5_ := zam (zbt (by repeat (first | (with_reducible first | exact HB.out | apply zba | apply zbn | apply zb1 | refine zbs ?_ GE101.out) | exact HB.out)) hb); clear HO_9; clear HO131; clear HO135; clear HO138; clear BK101; clear HB; have HO_9 := n0_; have HO131 := n1_; have HO135 := n2_; have HO138 := n3_; have BK101 := n4_; have HB := n5_; clear n0_ n1_ n2_ n3_ n4_ n5_; (try clear hb); (try clear hb2); (try clear hk); (try clear hi)))
               go_meet
               case rel => exact ⟨_, ((t145 != 0)), (by first | rfl | (simp; done) | (simp [*]; done)), H', ⟨by have := HJ4.out; have := HJ17.out; have := HJ29.out; first | omega | exact Nat.le_refl _⟩, ⟨by (with_reducible repeat (first | apply zRa | apply zRn | apply zRd)); exact HO_9.out⟩, ⟨by (with_reducible repeat (first | apply zRa | apply zRn | apply zRd)); exact Kd.R_mono HO131.out (fun _ hk => ⟨hk.1.2, ⟨hk.2, hk.1.1.2⟩⟩)⟩, ⟨by (with_reducible repeat (first | apply zRa | apply zRn | apply zRd)); exact Kd.R_mono HO135.out (fun _ hk => ⟨hk.1.1.2, ⟨hk.2, hk.1.2⟩⟩)⟩, ⟨by (with_reducible repeat (first | apply zRa | apply zRn | apply zRd)); exact Kd.R_mono HO138.out (fun _ hk => ⟨hk.1.1.2, ⟨hk.1.2, hk.2⟩⟩)⟩, ⟨by (with_reducible repeat (first | refine zkn ?_ _ | refine zkd ?_ | refine zka ?_ _)); exact BK101.out⟩, ⟨by repeat (first | (with_reducible first | exact HB.out | apply zba | apply zbn | apply zb1 | refine zbs ?_ GE101.out) | exact HB.out)⟩⟩
             rw [if_neg c77] at H
             have c77b0 : (t139 == 0) = false := beq_eq_false_iff_ne.mpr c77
             have c77b1 : (t139 != 0) = true := bne_iff_ne.mpr c77
             as_aux_lemma =>
              have H' := zam H
              clear H
              obtain ⟨Ao83, co83, eo83⟩ := Kd.R_slice HO135.out
              subst eo83
              go_wp2_with (first | (go_at_call 44; (with_reducible refine (bound_CheckSet.calls kj29 _ _ t132 t144 _ ?side1 ?side2 A75.out).mono ?_); (case side1 => repeat (first | exact (Kd.R_reads' HO135.out).2.2 | (with_reducible refine Kd.C_alloc ?_ _) | (with_reducible refine Kd.C_drewN ?_ _) | (with_reducible refine Kd.C_drew ?_))); (case side2 => exact (Kd.R_reads' HO135.out).2.1); rintro e w84 ⟨rfl, hb⟩; have n0_ := zam (Kd.R_below (by (with_reducible repeat (first | apply zRa | apply zRn | apply zRd)); exact HO_9.out) hb); have n1_ := zam (Kd.R_below (by (with_reducible repeat (first | apply zRa | apply zRn | apply zRd)); exact HO131.out) hb); have n2_ := zam (Kd.R_below (by (with_reducible repeat (first | apply zRa | apply zRn | apply zRd)); exact HO135.out) hb); have n3_ := zam (Kd.R_below (by (with_reducible repeat (first | apply zRa | apply zRn | apply zRd)); exact HO138.out) hb); have n4_ := zam (zkb (g := gb101) (o := .cells #[.int .i64 a2_0, .int .i64 a2_1] 32 (0, 0)) (by (with_reducible repeat (first | refine zkn ?_ _ | refine zkd ?_ | refine zka ?_ _)); exact BK101.out) hb); have n5_ := zam (zbt (by repeat (first | (with_reducible first | exact HB.out | apply zba | apply zbn | apply zb1 | refine zbs ?_ GE101.out) | exact HB.out)) hb); clear HO_9; clear HO131; clear HO135; clear HO138; clear BK101; clear HB; have HO_9 := n0_; have HO131 := n1_; have HO135 := n2_; have HO138 := n3_; have BK101 := n4_; have HB := n5_; clear n0_ n1_ n2_ n3_ n4_ n5_; (try clear hb); (try clear hb2); (try clear hk); (try clear hi)))
              go_meet
              case rel => exact ⟨_, (false), (by first | rfl | (simp; done) | (simp [*]; done)), H', ⟨by have := HJ4.out; have := HJ17.out; have := HJ29.out; first | omega | exact Nat.le_refl _⟩, ⟨by (with_reducible repeat (first | apply zRa | apply zRn | apply zRd)); exact HO_9.out⟩, ⟨by (with_reducible repeat (first | apply zRa | apply zRn | apply zRd)); exact Kd.R_mono HO131.out (fun _ hk => ⟨hk.1.2, ⟨hk.2, hk.1.1.2⟩⟩)⟩, ⟨by (with_reducible repeat (first | apply zRa | apply zRn | apply zRd)); exact Kd.R_mono HO135.out (fun _ hk => ⟨hk.1.1.2, ⟨hk.2, hk.1.2⟩⟩)⟩, ⟨by (with_reducible repeat (first | apply zRa | apply zRn | apply zRd)); exact Kd.R_mono HO138.out (fun _ hk => ⟨hk.1.1.2, ⟨hk.1.2, hk.2⟩⟩)⟩, ⟨by (with_reducible repeat (first | refine zkn ?_ _ | refine zkd ?_ | refine zka ?_ _)); exact BK101.out⟩, ⟨by repeat (first | (with_reducible first | exact HB.out | apply zba | apply zbn | apply zb1 | refine zbs ?_ GE101.out) | exact HB.out)⟩⟩
            rw [if_neg c76] at H
            exact absurd H (by simp)
           rw [if_neg c74] at H
           have c74b0 : (t133 == 0) = false := beq_eq_false_iff_ne.mpr c74
           have c74b1 : (t133 != 0) = true := bne_iff_ne.mpr c74
           by_cases c85 : t139 = 0
           ·rw [if_pos c85] at H
            have c85b0 : (t139 == 0) = true := beq_iff_eq.mpr c85
            have c85b1 : (t139 != 0) = false := bne_eq_false_iff_eq.mpr c85
            clear c85
            replace H := Option.bind_eq_some_iff.mp H
            obtain ⟨t146, A860, H⟩ := H
            replace H : (isobathlaw01_BoundMembers.j5 kj29 l0 l1 x9_29 t128 t129 t132 t133 t136 t139 (t146 != 0) a2_0 a2_1) = some r := H
            have A86 := zam A860
            clear A860
            as_aux_lemma =>
             have H' := zam H
             clear H
             obtain ⟨Ao87, co87, eo87⟩ := Kd.R_slice HO138.out
             subst eo87
             go_wp2_with (first | (go_at_call 44; (with_reducible refine (bound_CheckSet.calls kj29 _ _ t136 t146 _ ?side1 ?side2 A86.out).mono ?_); (case side1 => repeat (first | exact (Kd.R_reads' HO138.out).2.2 | (with_reducible refine Kd.C_alloc ?_ _) | (with_reducible refine Kd.C_drewN ?_ _) | (with_reducible refine Kd.C_drew ?_))); (case side2 => exact (Kd.R_reads' HO138.out).2.1); rintro e w88 ⟨rfl, hb⟩; have n0_ := zam (Kd.R_below (by (with_reducible repeat (first | apply zRa | apply zRn | apply zRd)); exact HO_9.out) hb); have n1_ := zam (Kd.R_below (by (with_reducible repeat (first | apply zRa | apply zRn | apply zRd)); exact HO131.out) hb); have n2_ := zam (Kd.R_below (by (with_reducible repeat (first | apply zRa | apply zRn | apply zRd)); exact HO135.out) hb); have n3_ := zam (Kd.R_below (by (with_reducible repeat (first | apply zRa | apply zRn | apply zRd)); exact HO138.out) hb); have n4_ := zam (zkb (g := gb101) (o := .cells #[.int .i64 a2_0, .int .i64 a2_1] 32 (0, 0)) (by (with_reducible repeat (first | refine zkn ?_ _ | refine zkd ?_ | refine zka ?_ _)); exact BK101.out) hb); have n5_ := zam (zbt (by repeat (first | (with_reducible first | exact HB.out | apply zba | apply zbn | apply zb1 | refine zbs ?_ GE101.out) | exact HB.out)) hb); clear HO_9; clear HO131; clear HO135; clear HO138; clear BK101; clear HB; have HO_9 := n0_; have HO131 := n1_; have HO135 := n2_; have HO138 := n3_; have BK101 := n4_; have HB := n5_; clear n0_ n1_ n2_ n3_ n4_ n5_; (try clear hb); (try clear hb2); (try clear hk); (try clear hi)))
             go_meet
             case rel => exact ⟨_, ((t146 != 0)), (by first | rfl | (simp; done) | (simp [*]; done)), H', ⟨by have := HJ4.out; have := HJ17.out; have := HJ29.out; first | omega | exact Nat.le_refl _⟩, ⟨by (with_reducible repeat (first | apply zRa | apply zRn | apply zRd)); exact HO_9.out⟩, ⟨by (with_reducible repeat (first | apply zRa | apply zRn | apply zRd)); exact Kd.R_mono HO131.out (fun _ hk => ⟨hk.1.2, ⟨hk.2, hk.1.1.2⟩⟩)⟩, ⟨by (with_reducible repeat (first | apply zRa | apply zRn | apply zRd)); exact Kd.R_mono HO135.out (fun _ hk => ⟨hk.1.1.2, ⟨hk.2, hk.1.2⟩⟩)⟩, ⟨by (with_reducible repeat (first | apply zRa | apply zRn | apply zRd)); exact Kd.R_mono HO138.out (fun _ hk => ⟨hk.1.1.2, ⟨hk.1.2, hk.2⟩⟩)⟩, ⟨by (with_reducible repeat (first | refine zkn ?_ _ | refine zkd ?_ | refine zka ?_ _)); exact BK101.out⟩, ⟨by repeat (first | (with_reducible first | exact HB.out | apply zba | apply zbn | apply zb1 | refine zbs ?_ GE101.out) | exact HB.out)⟩⟩
           rw [if_neg c85] at H
           have c85b0 : (t139 == 0) = false := beq_eq_false_iff_ne.mpr c85
           have c85b1 : (t139 != 0) = true := bne_iff_ne.mpr c85
           as_aux_lemma =>
            have H' := zam H
            clear H
            go_wp2
            go_meet
            case rel => exact ⟨_, (false), (by first | rfl | (simp; done) | (simp [*]; done)), H', ⟨by have := HJ4.out; have := HJ17.out; have := HJ29.out; first | omega | exact Nat.le_refl _⟩, ⟨by (with_reducible repeat (first | apply zRa | apply zRn | apply zRd)); exact HO_9.out⟩, ⟨by (with_reducible repeat (first | apply zRa | apply zRn | apply zRd)); exact Kd.R_mono HO131.out (fun _ hk => ⟨hk.1.2, ⟨hk.2, hk.1.1.2⟩⟩)⟩, ⟨by (with_reducible repeat (first | apply zRa | apply zRn | apply zRd)); exact Kd.R_mono HO135.out (fun _ hk => ⟨hk.1.1.2, ⟨hk.2, hk.1.2⟩⟩)⟩, ⟨by (with_reducible repeat (first | apply zRa | apply zRn | apply zRd)); exact Kd.R_mono HO138.out (fun _ hk => ⟨hk.1.1.2, ⟨hk.1.2, hk.2⟩⟩)⟩, ⟨by (with_reducible repeat (first | refine zkn ?_ _ | refine zkd ?_ | refine zka ?_ _)); exact BK101.out⟩, ⟨by repeat (first | (with_reducible first | exact HB.out | apply zba | apply zbn | apply zb1 | refine zbs ?_ GE101.out) | exact HB.out)⟩⟩
          case rest =>
           clear HC43
           try clear c1
           try clear p1
           try clear q1
           try clear hx1
           try clear c2
           try clear p2
           try clear c3
           try clear c4
           try clear c5
           try clear c6
           try clear p6
           try clear c7
           try clear c7b0
           try clear c7b1
           try clear c8
           try clear c8b0
           try clear c8b1
           try clear c10
           try clear c10b0
           try clear c10b1
           try clear p10
           try clear q10
           try clear hx10
           try clear p11
           try clear q11
           try clear hx11
           try clear p12
           try clear q12
           try clear hx12
           try clear c15
           try clear c18
           try clear c21
           try clear c21b0
           try clear c22
           try clear c22b0
           try clear c23
           try clear c23b0
           try clear c24
           try clear c31
           try clear c31b0
           try clear c32
           try clear c32b0
           try clear c33
           try clear c33b0
           try clear c34
           try clear c40
           try clear c41
           try clear c43
           try clear c48
           try clear c48b0
           try clear c48b1
           try clear c50
           try clear c50b0
           try clear c50b1
           try clear c51
           try clear c51b0
           try clear c51b1
           try clear c53
           try clear c53b0
           try clear c53b1
           try clear c54
           try clear c54b0
           try clear c54b1
           try clear p64
           try clear c66
           try clear c66b0
           try clear c66b1
           try clear c74
           try clear c74b0
           try clear c74b1
           try clear c76
           try clear c76b0
           try clear c76b1
           try clear c77
           try clear c77b0
           try clear c77b1
           try clear c85
           try clear c85b0
           try clear c85b1
           try clear hcz46_0
           try clear hcz46_1
           try clear hfz46_0
           try clear hfz46_1
           try clear hx108_0
           try clear hx108_1
           try clear hx109_0
           try clear hx109_1
           try clear hx110_0
           try clear hx110_1
           try clear hx111_0
           try clear hx111_1
           try clear hx118_0
           try clear hx118_1
           try clear hx119_0
           try clear hx119_1
           try clear hx120_0
           try clear hx120_1
           try clear hx121_0
           try clear hx121_1
           try clear p1
           try clear p10
           try clear p108
           try clear p109
           try clear p11
           try clear p110
           try clear p111
           try clear p118
           try clear p119
           try clear p12
           try clear p120
           try clear p121
           try clear p2
           try clear p6
           try clear q1
           try clear q10
           try clear q108
           try clear q109
           try clear q11
           try clear q110
           try clear q111
           try clear q118
           try clear q119
           try clear q12
           try clear q120
           try clear q121
           obtain ⟨kq, x162_42, rfl, HA, HJ42, HO_9, HO_12, HO_14, HO_16, BK101, HB⟩ := hcut
           as_aux_lemma =>
            cases kq with
            | zero => exact absurd HA.out (by simp [isobathlaw01_BoundMembers.j5])
            | succ kj42 =>
             have H := HA.out
             clear HA
             simp only [isobathlaw01_BoundMembers.j5] at H
             by_cases c89 : x162_42 = true
             ·subst c89
              have H1 : (none) = some r := by rw [if_pos rfl] at H; exact H
              clear H
              have H := H1
              clear H1
              exact absurd H (by simp)
             replace c89 := Bool.eq_false_iff.mpr c89
             subst c89
             have H1 : (isobathlaw01_BoundMembers.l2 kj42 l0 l1 x9_29 t128 t129 t132 t133 t136 t139 0 a2_0 a2_1) = some r := by rw [if_neg (show ¬ (false = true) by decide)] at H; exact H
             clear H
             have H := H1
             clear H1
             have H' := zam H
             clear H
             go_wp2
             go_loopg [18] kj42 (fun kq v18 w' => ∃ (x18_5 : Int), v18 = .int .i64 x18_5 ∧ Aside0 (isobathlaw01_BoundMembers.l2 kq l0 l1 x9_29 t128 t129 t132 t133 t136 t139 x18_5 a2_0 a2_1 = some r) ∧ Aside0 (kq ≤ kj42) ∧ Aside0 (Kd.R (Kd.int .i64) 2 w' w.heap.size (fun _ => True) u9 x9_29) ∧ Aside0 (Kd.R k32 32 w' w.heap.size (fun k_ => some k_ ≠ (v134 : Value).ownBlock ∧ some k_ ≠ (v137 : Value).ownBlock ∧ k_ ≠ gb101) v130 t128) ∧ Aside0 (Kd.R k32 32 w' w.heap.size (fun k_ => some k_ ≠ (v130 : Value).ownBlock ∧ some k_ ≠ (v137 : Value).ownBlock ∧ k_ ≠ gb101) v134 t132) ∧ Aside0 (Kd.R k32 32 w' w.heap.size (fun k_ => some k_ ≠ (v130 : Value).ownBlock ∧ some k_ ≠ (v134 : Value).ownBlock ∧ k_ ≠ gb101) v137 t136) ∧ Aside0 (w'.heap[gb101]? = some (.cells #[.int .i64 a2_0, .int .i64 a2_1] 32 (0, 0))) ∧ Aside0 (Below w.heap.size w w'))
             case atStart => exact ⟨(0), (by first | rfl | (simp; done) | (simp [*]; done)), H', ⟨Nat.le_refl _⟩, ⟨by (with_reducible repeat (first | apply zRa | apply zRn | apply zRd)); exact HO_9.out⟩, ⟨by (with_reducible repeat (first | apply zRa | apply zRn | apply zRd)); exact HO_12.out⟩, ⟨by (with_reducible repeat (first | apply zRa | apply zRn | apply zRd)); exact HO_14.out⟩, ⟨by (with_reducible repeat (first | apply zRa | apply zRn | apply zRd)); exact HO_16.out⟩, ⟨by (with_reducible repeat (first | refine zkn ?_ _ | refine zkd ?_ | refine zka ?_ _)); exact BK101.out⟩, ⟨by repeat (first | (with_reducible first | exact HB.out | apply zba | apply zbn | apply zb1 | refine zbs ?_ GE101.out) | exact HB.out)⟩⟩
             case round =>
              clear H'
              try clear c1
              try clear p1
              try clear q1
              try clear hx1
              try clear c2
              try clear p2
              try clear c3
              try clear c4
              try clear c5
              try clear c6
              try clear p6
              try clear c7
              try clear c7b0
              try clear c7b1
              try clear c8
              try clear c8b0
              try clear c8b1
              try clear c10
              try clear c10b0
              try clear c10b1
              try clear p10
              try clear q10
              try clear hx10
              try clear p11
              try clear q11
              try clear hx11
              try clear p12
              try clear q12
              try clear hx12
              try clear c15
              try clear c18
              try clear c21
              try clear c21b0
              try clear c22
              try clear c22b0
              try clear c23
              try clear c23b0
              try clear c24
              try clear c31
              try clear c31b0
              try clear c32
              try clear c32b0
              try clear c33
              try clear c33b0
              try clear c34
              try clear c40
              try clear c41
              try clear c43
              try clear c48
              try clear c48b0
              try clear c48b1
              try clear c50
              try clear c50b0
              try clear c50b1
              try clear c51
              try clear c51b0
              try clear c51b1
              try clear c53
              try clear c53b0
              try clear c53b1
              try clear c54
              try clear c54b0
              try clear c54b1
              try clear p64
              try clear c66
              try clear c66b0
              try clear c66b1
              try clear c74
              try clear c74b0
              try clear c74b1
              try clear c76
              try clear c76b0
              try clear c76b1
              try clear c77
              try clear c77b0
              try clear c77b1
              try clear c85
              try clear c85b0
              try clear c85b1
              try clear c89
              try clear hcz46_0
              try clear hcz46_1
              try clear hfz46_0
              try clear hfz46_1
              try clear hx108_0
              try clear hx108_1
              try clear hx109_0
              try clear hx109_1
              try clear hx110_0
              try clear hx110_1
              try clear hx111_0
              try clear hx111_1
              try clear hx118_0
              try clear hx118_1
              try clear hx119_0
              try clear hx119_1
              try clear hx120_0
              try clear hx120_1
              try clear hx121_0
              try clear hx121_1
              try clear p1
              try clear p10
              try clear p108
              try clear p109
              try clear p11
              try clear p110
              try clear p111
              try clear p118
              try clear p119
              try clear p12
              try clear p120
              try clear p121
              try clear p2
              try clear p6
              try clear p64
              try clear q1
              try clear q10
              try clear q108
              try clear q109
              try clear q11
              try clear q110
              try clear q111
              try clear q118
              try clear q119
              try clear q12
              try clear q120
              try clear q121
              obtain ⟨x18_5, rfl, HA, HK5, HO_9, HO_12, HO_14, HO_16, BK101, HB⟩ := hrel
              as_aux_lemma =>
               cases gk with
               | zero => exact absurd HA.out (by simp [isobathlaw01_BoundMembers.l2])
               | succ k5 =>
                have H := HA.out
                clear HA
                simp only [isobathlaw01_BoundMembers.l2] at H
                by_cases c90 : x18_5 < (x9_29.length : Int)
                ·rw [if_pos c90] at H
                 have c90b0 : decide (x18_5 < (x9_29.length : Int)) = true := zdt c90
                 clear c90
                 by_cases c91 : 0 ≤ x18_5
                 ·rw [if_pos c91] at H
                  have c91b0 : decide (0 ≤ x18_5) = true := zdt c91
                  clear c91
                  replace H := Option.bind_eq_some_iff.mp H
                  obtain ⟨⟨t149, t150⟩, A920, H⟩ := H
                  replace H : ((bound_Has.f k5 l1 (rd x9_29 x18_5)).bind fun bt152 => (if t150 = 0 then (isobathlaw01_BoundMembers.j7 k5 l0 l1 x9_29 t128 t129 t132 t133 t136 t139 x18_5 t149 bt152.1 (bt152.2 != 0) a2_0 a2_1) else (none))) = some r := H
                  have A92 := zam A920
                  clear A920
                  replace H := Option.bind_eq_some_iff.mp H
                  obtain ⟨⟨t152, t153⟩, A930, H⟩ := H
                  replace H : (if t150 = 0 then (isobathlaw01_BoundMembers.j7 k5 l0 l1 x9_29 t128 t129 t132 t133 t136 t139 x18_5 t149 t152 (t153 != 0) a2_0 a2_1) else (none)) = some r := H
                  have A93 := zam A930
                  clear A930
                  have HC94 := zam H
                  clear H
                  obtain ⟨Ao95, co95, eo95⟩ := Kd.R_slice HO_9.out
                  subst eo95
                  have p148 : 0 ≤ (x18_5 : Int) := zod (by first | (with_reducible assumption) | assumption)
                  have q148 : x18_5 < (x9_29.length : Int) := zod (by first | (with_reducible assumption) | assumption)
                  obtain ⟨ad148, e148, hx148_0⟩ := Kd.at_int (Kd.R_reads' HO_9.out).2.2 x18_5 p148 q148
                  cases e148
                  replace p148 := eq_true p148
                  replace q148 := eq_true q148
                  go_upto_region 22 with (first | ((with_reducible refine zgc (f := 45) rfl ?_); refine goesL_ (some 175) rfl rfl Try.func45 (by kernel_rfl) rfl #[.slice A0 l0.length c0, .int .i64 (rd x9_29 x18_5)] rfl (by (try simp only [zmt, List.map_cons, List.map_nil]); first | done | rfl | (simp only [zld, zlt]; rfl)) ?_; (with_reducible refine (bound_Has.calls k5 _ _ l0 (rd x9_29 x18_5) t149 t150 _ ?side1 ?side2 A92.out).mono ?_); (case side1 => repeat (first | exact (Kd.C_below HR0.out HB.out) | (with_reducible refine Kd.C_alloc ?_ _) | (with_reducible refine Kd.C_drewN ?_ _) | (with_reducible refine Kd.C_drew ?_))); (case side2 => exact HC0.out); rintro e w96 ⟨rfl, hb⟩; refine ⟨_, rfl, ?_⟩; have n0_ := zam (Kd.R_below (by (with_reducible repeat (first | apply zRa | apply zRn | apply zRd)); exact HO_9.out) hb); have n1_ := zam (Kd.R_below (by (with_reducible repeat (first | apply zRa | apply zRn | apply zRd)); exact HO_12.out) hb); have n2_ := zam (Kd.R_below (by (with_reducible repeat (first | apply zRa | apply zRn | apply zRd)); exact HO_14.out) hb); have n3_ := zam (Kd.R_below (by (with_reducible repeat (first | apply zRa | apply zRn | apply zRd)); exact HO_16.out) hb); have n4_ := zam (zkb (g := gb101) (o := .cells #[.int .i64 a2_0, .int .i64 a2_1] 32 (0, 0)) (by (with_reducible repeat (first | refine zkn ?_ _ | refine zkd ?_ | refine zka ?_ _)); exact BK101.out) hb); have n5_ := zam (zbt (by repeat (first | (with_reducible first | exact HB.out | apply zba | apply zbn | apply zb1 | refine zbs ?_ GE101.out) | exact HB.out)) hb); clear HO_9; clear HO_12; clear HO_14; clear HO_16; clear BK101; clear HB; have HO_9 := n0_; have HO_12 := n1_; have HO_14 := n2_; have HO_16 := n3_; have BK101 := n4_; have HB := n5_; clear n0_ n1_ n2_ n3_ n4_ n5_; (try clear hb); (try clear hb2); (try clear hk); (try clear hi); have p151 : 0 ≤ (x18_5 : Int) := zod (by first | (with_reducible assumption) | assumption); have q151 : x18_5 < (x9_29.length : Int) := zod (by first | (with_reducible assumption) | assumption); obtain ⟨ad151, e151, hx151_0⟩ := Kd.at_int (Kd.R_reads' HO_9.out).2.2 x18_5 p151 q151; obtain rfl : ad148 = ad151 := (by injection e151); replace p151 := eq_true p151; replace q151 := eq_true q151) | ((with_reducible refine zgc (f := 45) rfl ?_); refine goesL_ (some 184) rfl rfl Try.func45 (by kernel_rfl) rfl #[.slice A1 l1.length c1, .int .i64 (rd x9_29 x18_5)] rfl (by (try simp only [zmt, List.map_cons, List.map_nil]); first | done | rfl | (simp only [zld, zlt]; rfl)) ?_; (with_reducible refine (bound_Has.calls k5 _ _ l1 (rd x9_29 x18_5) t152 t153 _ ?side1 ?side2 A93.out).mono ?_); (case side1 => repeat (first | exact (Kd.C_below HR1.out HB.out) | (with_reducible refine Kd.C_alloc ?_ _) | (with_reducible refine Kd.C_drewN ?_ _) | (with_reducible refine Kd.C_drew ?_))); (case side2 => exact HC1.out); rintro e w97 ⟨rfl, hb⟩; refine ⟨_, rfl, ?_⟩; have n0_ := zam (Kd.R_below (by (with_reducible repeat (first | apply zRa | apply zRn | apply zRd)); exact HO_9.out) hb); have n1_ := zam (Kd.R_below (by (with_reducible repeat (first | apply zRa | apply zRn | apply zRd)); exact HO_12.out) hb); have n2_ := zam (Kd.R_below (by (with_reducible repeat (first | apply zRa | apply zRn | apply zRd)); exact HO_14.out) hb); have n3_ := zam (Kd.R_below (by (with_reducible repeat (first | apply zRa | apply zRn | apply zRd)); exact HO_16.out) hb); have n4_ := zam (zkb (g := gb101) (o := .cells #[.int .i64 a2_0, .int .i64 a2_1] 32 (0, 0)) (by (with_reducible repeat (first | refine zkn ?_ _ | refine zkd ?_ | refine zka ?_ _)); exact BK101.out) hb); have n5_ := zam (zbt (by repeat (first | (with_reducible first | exact HB.out | apply zba | apply zbn | apply zb1 | refine zbs ?_ GE101.out) | exact HB.out)) hb); clear HO_9; clear HO_12; clear HO_14; clear HO_16; clear BK101; clear HB; have HO_9 := n0_; have HO_12 := n1_; have HO_14 := n2_; have HO_16 := n3_; have BK101 := n4_; have HB := n5_; clear n0_ n1_ n2_ n3_ n4_ n5_; (try clear hb); (try clear hb2); (try clear hk); (try clear hi)))
                  (try simp only [Act.put, zsa, zsz, zss])
                  go_cut [192] (fun v192 wc => ∃ (kq : Nat) (x192_93 : Bool), v192 = .bool x192_93 ∧ Aside0 (isobathlaw01_BoundMembers.j7 kq l0 l1 x9_29 t128 t129 t132 t133 t136 t139 x18_5 t149 t152 x192_93 a2_0 a2_1 = some r) ∧ Aside0 (kq ≤ k5) ∧ Aside0 (Kd.R (Kd.int .i64) 2 wc w.heap.size (fun _ => True) (.slice (some ad148) x9_29.length co95) x9_29) ∧ Aside0 (Kd.R k32 32 wc w.heap.size (fun k_ => some k_ ≠ (v134 : Value).ownBlock ∧ some k_ ≠ (v137 : Value).ownBlock ∧ k_ ≠ gb101) v130 t128) ∧ Aside0 (Kd.R k32 32 wc w.heap.size (fun k_ => some k_ ≠ (v130 : Value).ownBlock ∧ some k_ ≠ (v137 : Value).ownBlock ∧ k_ ≠ gb101) v134 t132) ∧ Aside0 (Kd.R k32 32 wc w.heap.size (fun k_ => some k_ ≠ (v130 : Value).ownBlock ∧ some k_ ≠ (v134 : Value).ownBlock ∧ k_ ≠ gb101) v137 t136) ∧ Aside0 (wc.heap[gb101]? = some (.cells #[.int .i64 a2_0, .int .i64 a2_1] 32 (0, 0))) ∧ Aside0 (Below w.heap.size w wc))
                  case first =>
                   have H := HC94.out
                   clear HC94
                   by_cases c98 : t150 = 0
                   ·rw [if_pos c98] at H
                    have c98b0 : (t150 == 0) = true := beq_iff_eq.mpr c98
                    have c98b1 : (t150 != 0) = false := bne_eq_false_iff_eq.mpr c98
                    clear c98
                    (first | rw [c98b0] | (simp only [i64_w, i32_w]; rw [c98b0]) | skip)
                    as_aux_lemma =>
                     have H' := zam H
                     clear H
                     go_wp2
                     go_meet
                     case rel => exact ⟨_, ((t153 != 0)), (by first | rfl | (simp; done) | (simp [*]; done)), H', ⟨by have := HJ4.out; have := HJ17.out; have := HJ29.out; have := HJ42.out; have := HK5.out; first | omega | exact Nat.le_refl _⟩, ⟨by (with_reducible repeat (first | apply zRa | apply zRn | apply zRd)); exact HO_9.out⟩, ⟨by (with_reducible repeat (first | apply zRa | apply zRn | apply zRd)); exact HO_12.out⟩, ⟨by (with_reducible repeat (first | apply zRa | apply zRn | apply zRd)); exact HO_14.out⟩, ⟨by (with_reducible repeat (first | apply zRa | apply zRn | apply zRd)); exact HO_16.out⟩, ⟨by (with_reducible repeat (first | refine zkn ?_ _ | refine zkd ?_ | refine zka ?_ _)); exact BK101.out⟩, ⟨by repeat (first | (with_reducible first | exact HB.out | apply zba | apply zbn | apply zb1 | refine zbs ?_ GE101.out) | exact HB.out)⟩⟩
                   rw [if_neg c98] at H
                   exact absurd H (by simp)
                  case rest =>
                   clear HC94
                   try clear c1
                   try clear p1
                   try clear q1
                   try clear hx1
                   try clear c2
                   try clear p2
                   try clear c3
                   try clear c4
                   try clear c5
                   try clear c6
                   try clear p6
                   try clear c7
                   try clear c7b0
                   try clear c7b1
                   try clear c8
                   try clear c8b0
                   try clear c8b1
                   try clear c9
                   try clear c10
                   try clear c10b0
                   try clear c10b1
                   try clear p10
                   try clear q10
                   try clear hx10
                   try clear p11
                   try clear q11
                   try clear hx11
                   try clear p12
                   try clear q12
                   try clear hx12
                   try clear p14
                   try clear q14
                   try clear hx14
                   try clear c15
                   try clear p15
                   try clear q15
                   try clear hx15
                   try clear c18
                   try clear c21
                   try clear c21b0
                   try clear c22
                   try clear c22b0
                   try clear c23
                   try clear c23b0
                   try clear c24
                   try clear c31
                   try clear c31b0
                   try clear c32
                   try clear c32b0
                   try clear c33
                   try clear c33b0
                   try clear c34
                   try clear c40
                   try clear c41
                   try clear c43
                   try clear c45
                   try clear c48
                   try clear c48b0
                   try clear c48b1
                   try clear c50
                   try clear c50b0
                   try clear c50b1
                   try clear c51
                   try clear c51b0
                   try clear c51b1
                   try clear c53
                   try clear c53b0
                   try clear c53b1
                   try clear c54
                   try clear c54b0
                   try clear c54b1
                   try clear p64
                   try clear c66
                   try clear c66b0
                   try clear c66b1
                   try clear c74
                   try clear c74b0
                   try clear c74b1
                   try clear c76
                   try clear c76b0
                   try clear c76b1
                   try clear c77
                   try clear c77b0
                   try clear c77b1
                   try clear c85
                   try clear c85b0
                   try clear c85b1
                   try clear c89
                   try clear c90
                   try clear c90b0
                   try clear c91
                   try clear c91b0
                   try clear c98
                   try clear c98b0
                   try clear c98b1
                   try clear hcz46_0
                   try clear hcz46_1
                   try clear hfz46_0
                   try clear hfz46_1
                   try clear hx108_0
                   try clear hx108_1
                   try clear hx109_0
                   try clear hx109_1
                   try clear hx110_0
                   try clear hx110_1
                   try clear hx111_0
                   try clear hx111_1
                   try clear hx118_0
                   try clear hx118_1
                   try clear hx119_0
                   try clear hx119_1
                   try clear hx120_0
                   try clear hx120_1
                   try clear hx121_0
                   try clear hx121_1
                   try clear hx148_0
                   try clear hx151_0
                   try clear p1
                   try clear p10
                   try clear p108
                   try clear p109
                   try clear p11
                   try clear p110
                   try clear p111
                   try clear p118
                   try clear p119
                   try clear p12
                   try clear p120
                   try clear p121
                   try clear p148
                   try clear p151
                   try clear p2
                   try clear p6
                   try clear p64
                   try clear q1
                   try clear q10
                   try clear q108
                   try clear q109
                   try clear q11
                   try clear q110
                   try clear q111
                   try clear q118
                   try clear q119
                   try clear q12
                   try clear q120
                   try clear q121
                   try clear q148
                   try clear q151
                   obtain ⟨kq, x192_93, rfl, HA, HJ93, HO_9, HO_12, HO_14, HO_16, BK101, HB⟩ := hcut
                   as_aux_lemma =>
                    cases kq with
                    | zero => exact absurd HA.out (by simp [isobathlaw01_BoundMembers.j7])
                    | succ kj93 =>
                     have H := HA.out
                     clear HA
                     simp only [isobathlaw01_BoundMembers.j7] at H
                     by_cases c99 : x192_93 = true
                     ·subst c99
                      have H1 : (none) = some r := by rw [if_pos rfl] at H; exact H
                      clear H
                      have H := H1
                      clear H1
                      exact absurd H (by simp)
                     replace c99 := Bool.eq_false_iff.mpr c99
                     subst c99
                     have H1 : (if t129 = 0 then (if 0 ≤ x18_5 then (if x18_5 < (x9_29.length : Int) then ((bound_Has.f kj93 t128 (rd x9_29 x18_5)).bind fun bt155 => (if bt155.2 = 0 then (if t149 = true then (if (bt155.1 != true) = true then (none) else (isobathlaw01_BoundMembers.j8 kj93 l0 l1 x9_29 t128 t129 t132 t133 t136 t139 x18_5 t149 t152 a2_0 a2_1)) else (if (bt155.1 != t152) = true then (none) else (isobathlaw01_BoundMembers.j8 kj93 l0 l1 x9_29 t128 t129 t132 t133 t136 t139 x18_5 t149 t152 a2_0 a2_1))) else (none))) else (none)) else (none)) else (isobathlaw01_BoundMembers.j8 kj93 l0 l1 x9_29 t128 t129 t132 t133 t136 t139 x18_5 t149 t152 a2_0 a2_1)) = some r := by rw [if_neg (show ¬ (false = true) by decide)] at H; exact H
                     clear H
                     have H := H1
                     clear H1
                     have HC100 := zam H
                     clear H
                     go_upto_if 194 with (fail)
                     go_cut [] (fun wc => ∃ (kq : Nat), Aside0 (isobathlaw01_BoundMembers.j8 kq l0 l1 x9_29 t128 t129 t132 t133 t136 t139 x18_5 t149 t152 a2_0 a2_1 = some r) ∧ Aside0 (kq ≤ kj93) ∧ Aside0 (Kd.R (Kd.int .i64) 2 wc w.heap.size (fun _ => True) (.slice (some ad148) x9_29.length co95) x9_29) ∧ Aside0 (Kd.R k32 32 wc w.heap.size (fun k_ => some k_ ≠ (v134 : Value).ownBlock ∧ some k_ ≠ (v137 : Value).ownBlock ∧ k_ ≠ gb101) v130 t128) ∧ Aside0 (Kd.R k32 32 wc w.heap.size (fun k_ => some k_ ≠ (v130 : Value).ownBlock ∧ some k_ ≠ (v137 : Value).ownBlock ∧ k_ ≠ gb101) v134 t132) ∧ Aside0 (Kd.R k32 32 wc w.heap.size (fun k_ => some k_ ≠ (v130 : Value).ownBlock ∧ some k_ ≠ (v134 : Value).ownBlock ∧ k_ ≠ gb101) v137 t136) ∧ Aside0 (wc.heap[gb101]? = some (.cells #[.int .i64 a2_0, .int .i64 a2_1] 32 (0, 0))) ∧ Aside0 (Below w.heap.size w wc))
                     case first =>
                      have H := HC100.out
                      clear HC100
                      by_cases c101 : t129 = 0
                      ·rw [if_pos c101] at H
                       have c101b0 : (t129 == 0) = true := beq_iff_eq.mpr c101
                       have c101b1 : (t129 != 0) = false := bne_eq_false_iff_eq.mpr c101
                       clear c101
                       (first | rw [c101b0] | (simp only [i64_w, i32_w]; rw [c101b0]) | skip)
                       by_cases c102 : 0 ≤ x18_5
                       ·rw [if_pos c102] at H
                        have c102b0 : decide (0 ≤ x18_5) = true := zdt c102
                        clear c102
                        by_cases c103 : x18_5 < (x9_29.length : Int)
                        ·rw [if_pos c103] at H
                         have c103b0 : decide (x18_5 < (x9_29.length : Int)) = true := zdt c103
                         clear c103
                         replace H := Option.bind_eq_some_iff.mp H
                         obtain ⟨⟨t155, t156⟩, A1040, H⟩ := H
                         replace H : (if t156 = 0 then (if t149 = true then (if (t155 != true) = true then (none) else (isobathlaw01_BoundMembers.j8 kj93 l0 l1 x9_29 t128 t129 t132 t133 t136 t139 x18_5 t149 t152 a2_0 a2_1)) else (if (t155 != t152) = true then (none) else (isobathlaw01_BoundMembers.j8 kj93 l0 l1 x9_29 t128 t129 t132 t133 t136 t139 x18_5 t149 t152 a2_0 a2_1))) else (none)) = some r := H
                         have A104 := zam A1040
                         clear A1040
                         by_cases c105 : t156 = 0
                         ·rw [if_pos c105] at H
                          have c105b0 : (t156 == 0) = true := beq_iff_eq.mpr c105
                          have c105b1 : (t156 != 0) = false := bne_eq_false_iff_eq.mpr c105
                          clear c105
                          by_cases c106 : t149 = true
                          ·subst c106
                           have H1 : (if (t155 != true) = true then (none) else (isobathlaw01_BoundMembers.j8 kj93 l0 l1 x9_29 t128 t129 t132 t133 t136 t139 x18_5 true t152 a2_0 a2_1)) = some r := by rw [if_pos rfl] at H; exact H
                           clear H
                           have H := H1
                           clear H1
                           by_cases c107 : (t155 != true) = true
                           ·rw [if_pos c107] at H
                            exact absurd H (by simp)
                           rw [if_neg c107] at H
                           have c107b0 : (t155 != true) = false := by simpa using c107
                           (try (have c107b1 : decide (t155 = true) = true := by simpa using c107))
                           (try (have c107b2 : (t155 == true) = true := by simpa using c107))
                           clear c107
                           as_aux_lemma =>
                            have H' := zam H
                            clear H
                            have p154 : 0 ≤ (x18_5 : Int) := zod (by first | (with_reducible assumption) | assumption)
                            have q154 : x18_5 < (x9_29.length : Int) := zod (by first | (with_reducible assumption) | assumption)
                            obtain ⟨ad154, e154, hx154_0⟩ := Kd.at_int (Kd.R_reads' HO_9.out).2.2 x18_5 p154 q154
                            obtain rfl : ad148 = ad154 := (by injection e154)
                            replace p154 := eq_true p154
                            replace q154 := eq_true q154
                            obtain ⟨Ao108, co108, eo108⟩ := Kd.R_slice HO_12.out
                            subst eo108
                            go_wp2_with (first | ((with_reducible refine zgc (f := 45) rfl ?_); refine goesL_ (some 201) rfl rfl Try.func45 (by kernel_rfl) rfl #[.slice Ao108 t128.length co108, .int .i64 (rd x9_29 x18_5)] rfl (by (try simp only [zmt, List.map_cons, List.map_nil]); first | done | rfl | (simp only [zld, zlt]; rfl)) ?_; (with_reducible refine (bound_Has.calls kj93 _ _ t128 (rd x9_29 x18_5) t155 t156 _ ?side1 ?side2 A104.out).mono ?_); (case side1 => repeat (first | exact (Kd.R_reads' HO_12.out).2.2 | (with_reducible refine Kd.C_alloc ?_ _) | (with_reducible refine Kd.C_drewN ?_ _) | (with_reducible refine Kd.C_drew ?_))); (case side2 => exact (Kd.R_reads' HO_12.out).2.1); rintro e w109 ⟨rfl, hb⟩; refine ⟨_, rfl, ?_⟩; have n0_ := zam (Kd.R_below (by (with_reducible repeat (first | apply zRa | apply zRn | apply zRd)); exact HO_9.out) hb); have n1_ := zam (Kd.R_below (by (with_reducible repeat (first | apply zRa | apply zRn | apply zRd)); exact HO_12.out) hb); have n2_ := zam (Kd.R_below (by (with_reducible repeat (first | apply zRa | apply zRn | apply zRd)); exact HO_14.out) hb); have n3_ := zam (Kd.R_below (by (with_reducible repeat (first | apply zRa | apply zRn | apply zRd)); exact HO_16.out) hb); have n4_ := zam (zkb (g := gb101) (o := .cells #[.int .i64 a2_0, .int .i64 a2_1] 32 (0, 0)) (by (with_reducible repeat (first | refine zkn ?_ _ | refine zkd ?_ | refine zka ?_ _)); exact BK101.out) hb); have n5_ := zam (zbt (by repeat (first | (with_reducible first | exact HB.out | apply zba | apply zbn | apply zb1 | refine zbs ?_ GE101.out) | exact HB.out)) hb); clear HO_9; clear HO_12; clear HO_14; clear HO_16; clear BK101; clear HB; have HO_9 := n0_; have HO_12 := n1_; have HO_14 := n2_; have HO_16 := n3_; have BK101 := n4_; have HB := n5_; clear n0_ n1_ n2_ n3_ n4_ n5_; (try clear hb); (try clear hb2); (try clear hk); (try clear hi)))
                            go_meet
                            case rel => exact ⟨_, H', ⟨by have := HJ4.out; have := HJ17.out; have := HJ29.out; have := HJ42.out; have := HK5.out; have := HJ93.out; first | omega | exact Nat.le_refl _⟩, ⟨by (with_reducible repeat (first | apply zRa | apply zRn | apply zRd)); exact HO_9.out⟩, ⟨by (with_reducible repeat (first | apply zRa | apply zRn | apply zRd)); exact HO_12.out⟩, ⟨by (with_reducible repeat (first | apply zRa | apply zRn | apply zRd)); exact HO_14.out⟩, ⟨by (with_reducible repeat (first | apply zRa | apply zRn | apply zRd)); exact HO_16.out⟩, ⟨by (with_reducible repeat (first | refine zkn ?_ _ | refine zkd ?_ | refine zka ?_ _)); exact BK101.out⟩, ⟨by repeat (first | (with_reducible first | exact HB.out | apply zba | apply zbn | apply zb1 | refine zbs ?_ GE101.out) | exact HB.out)⟩⟩
                          replace c106 := Bool.eq_false_iff.mpr c106
                          subst c106
                          have H1 : (if (t155 != t152) = true then (none) else (isobathlaw01_BoundMembers.j8 kj93 l0 l1 x9_29 t128 t129 t132 t133 t136 t139 x18_5 false t152 a2_0 a2_1)) = some r := by rw [if_neg (show ¬ (false = true) by decide)] at H; exact H
                          clear H
                          have H := H1
                          clear H1
                          by_cases c110 : (t155 != t152) = true
                          ·rw [if_pos c110] at H
                           exact absurd H (by simp)
                          rw [if_neg c110] at H
                          have c110b0 : (t155 != t152) = false := by simpa using c110
                          (try (have c110b1 : decide (t155 = t152) = true := by simpa using c110))
                          (try (have c110b2 : (t155 == t152) = true := by simpa using c110))
                          clear c110
                          as_aux_lemma =>
                           have H' := zam H
                           clear H
                           have p154 : 0 ≤ (x18_5 : Int) := zod (by first | (with_reducible assumption) | assumption)
                           have q154 : x18_5 < (x9_29.length : Int) := zod (by first | (with_reducible assumption) | assumption)
                           obtain ⟨ad154, e154, hx154_0⟩ := Kd.at_int (Kd.R_reads' HO_9.out).2.2 x18_5 p154 q154
                           obtain rfl : ad148 = ad154 := (by injection e154)
                           replace p154 := eq_true p154
                           replace q154 := eq_true q154
                           obtain ⟨Ao111, co111, eo111⟩ := Kd.R_slice HO_12.out
                           subst eo111
                           go_wp2_with (first | ((with_reducible refine zgc (f := 45) rfl ?_); refine goesL_ (some 201) rfl rfl Try.func45 (by kernel_rfl) rfl #[.slice Ao111 t128.length co111, .int .i64 (rd x9_29 x18_5)] rfl (by (try simp only [zmt, List.map_cons, List.map_nil]); first | done | rfl | (simp only [zld, zlt]; rfl)) ?_; (with_reducible refine (bound_Has.calls kj93 _ _ t128 (rd x9_29 x18_5) t155 t156 _ ?side1 ?side2 A104.out).mono ?_); (case side1 => repeat (first | exact (Kd.R_reads' HO_12.out).2.2 | (with_reducible refine Kd.C_alloc ?_ _) | (with_reducible refine Kd.C_drewN ?_ _) | (with_reducible refine Kd.C_drew ?_))); (case side2 => exact (Kd.R_reads' HO_12.out).2.1); rintro e w112 ⟨rfl, hb⟩; refine ⟨_, rfl, ?_⟩; have n0_ := zam (Kd.R_below (by (with_reducible repeat (first | apply zRa | apply zRn | apply zRd)); exact HO_9.out) hb); have n1_ := zam (Kd.R_below (by (with_reducible repeat (first | apply zRa | apply zRn | apply zRd)); exact HO_12.out) hb); have n2_ := zam (Kd.R_below (by (with_reducible repeat (first | apply zRa | apply zRn | apply zRd)); exact HO_14.out) hb); have n3_ := zam (Kd.R_below (by (with_reducible repeat (first | apply zRa | apply zRn | apply zRd)); exact HO_16.out) hb); have n4_ := zam (zkb (g := gb101) (o := .cells #[.int .i64 a2_0, .int .i64 a2_1] 32 (0, 0)) (by (with_reducible repeat (first | refine zkn ?_ _ | refine zkd ?_ | refine zka ?_ _)); exact BK101.out) hb); have n5_ := zam (zbt (by repeat (first | (with_reducible first | exact HB.out | apply zba | apply zbn | apply zb1 | refine zbs ?_ GE101.out) | exact HB.out)) hb); clear HO_9; clear HO_12; clear HO_14; clear HO_16; clear BK101; clear HB; have HO_9 := n0_; have HO_12 := n1_; have HO_14 := n2_; have HO_16 := n3_; have BK101 := n4_; have HB := n5_; clear n0_ n1_ n2_ n3_ n4_ n5_; (try clear hb); (try clear hb2); (try clear hk); (try clear hi)))
                           go_meet
                           case rel => exact ⟨_, H', ⟨by have := HJ4.out; have := HJ17.out; have := HJ29.out; have := HJ42.out; have := HK5.out; have := HJ93.out; first | omega | exact Nat.le_refl _⟩, ⟨by (with_reducible repeat (first | apply zRa | apply zRn | apply zRd)); exact HO_9.out⟩, ⟨by (with_reducible repeat (first | apply zRa | apply zRn | apply zRd)); exact HO_12.out⟩, ⟨by (with_reducible repeat (first | apply zRa | apply zRn | apply zRd)); exact HO_14.out⟩, ⟨by (with_reducible repeat (first | apply zRa | apply zRn | apply zRd)); exact HO_16.out⟩, ⟨by (with_reducible repeat (first | refine zkn ?_ _ | refine zkd ?_ | refine zka ?_ _)); exact BK101.out⟩, ⟨by repeat (first | (with_reducible first | exact HB.out | apply zba | apply zbn | apply zb1 | refine zbs ?_ GE101.out) | exact HB.out)⟩⟩
                         rw [if_neg c105] at H
                         exact absurd H (by simp)
                        rw [if_neg c103] at H
                        exact absurd H (by simp)
                       rw [if_neg c102] at H
                       exact absurd H (by simp)
                      rw [if_neg c101] at H
                      have c101b0 : (t129 == 0) = false := beq_eq_false_iff_ne.mpr c101
                      have c101b1 : (t129 != 0) = true := bne_iff_ne.mpr c101
                      (first | rw [c101b0] | (simp only [i64_w, i32_w]; rw [c101b0]) | skip)
                      as_aux_lemma =>
                       have H' := zam H
                       clear H
                       go_wp2
                       go_meet
                       case rel => exact ⟨_, H', ⟨by have := HJ4.out; have := HJ17.out; have := HJ29.out; have := HJ42.out; have := HK5.out; have := HJ93.out; first | omega | exact Nat.le_refl _⟩, ⟨by (with_reducible repeat (first | apply zRa | apply zRn | apply zRd)); exact HO_9.out⟩, ⟨by (with_reducible repeat (first | apply zRa | apply zRn | apply zRd)); exact HO_12.out⟩, ⟨by (with_reducible repeat (first | apply zRa | apply zRn | apply zRd)); exact HO_14.out⟩, ⟨by (with_reducible repeat (first | apply zRa | apply zRn | apply zRd)); exact HO_16.out⟩, ⟨by (with_reducible repeat (first | refine zkn ?_ _ | refine zkd ?_ | refine zka ?_ _)); exact BK101.out⟩, ⟨by repeat (first | (with_reducible first | exact HB.out | apply zba | apply zbn | apply zb1 | refine zbs ?_ GE101.out) | exact HB.out)⟩⟩
                     case rest =>
                      clear HC100
                      try clear c1
                      try clear p1
                      try clear q1
                      try clear hx1
                      try clear c2
                      try clear p2
                      try clear c3
                      try clear c4
                      try clear c5
                      try clear c6
                      try clear p6
                      try clear c7
                      try clear c7b0
                      try clear c7b1
                      try clear c8
                      try clear c8b0
                      try clear c8b1
                      try clear c9
                      try clear c10
                      try clear c10b0
                      try clear c10b1
                      try clear p10
                      try clear q10
                      try clear hx10
                      try clear c11
                      try clear p11
                      try clear q11
                      try clear hx11
                      try clear p12
                      try clear q12
                      try clear hx12
                      try clear p14
                      try clear q14
                      try clear hx14
                      try clear c15
                      try clear p15
                      try clear q15
                      try clear hx15
                      try clear c18
                      try clear c21
                      try clear c21b0
                      try clear c22
                      try clear c22b0
                      try clear c23
                      try clear c23b0
                      try clear c24
                      try clear c31
                      try clear c31b0
                      try clear c32
                      try clear c32b0
                      try clear c33
                      try clear c33b0
                      try clear c34
                      try clear c40
                      try clear c41
                      try clear c43
                      try clear c45
                      try clear c48
                      try clear c48b0
                      try clear c48b1
                      try clear c50
                      try clear c50b0
                      try clear c50b1
                      try clear c51
                      try clear c51b0
                      try clear c51b1
                      try clear c53
                      try clear c53b0
                      try clear c53b1
                      try clear c54
                      try clear c54b0
                      try clear c54b1
                      try clear p64
                      try clear c66
                      try clear c66b0
                      try clear c66b1
                      try clear c74
                      try clear c74b0
                      try clear c74b1
                      try clear c76
                      try clear c76b0
                      try clear c76b1
                      try clear c77
                      try clear c77b0
                      try clear c77b1
                      try clear c85
                      try clear c85b0
                      try clear c85b1
                      try clear c89
                      try clear c90
                      try clear c90b0
                      try clear c91
                      try clear c91b0
                      try clear c98
                      try clear c98b0
                      try clear c98b1
                      try clear c99
                      try clear c101
                      try clear c101b0
                      try clear c101b1
                      try clear c102
                      try clear c102b0
                      try clear c103
                      try clear c103b0
                      try clear c105
                      try clear c105b0
                      try clear c105b1
                      try clear c106
                      try clear c107
                      try clear c107b0
                      try clear c107b1
                      try clear c107b2
                      try clear p108
                      try clear q108
                      try clear hx108
                      try clear p109
                      try clear q109
                      try clear hx109
                      try clear c110
                      try clear c110b0
                      try clear c110b1
                      try clear c110b2
                      try clear p110
                      try clear q110
                      try clear hx110
                      try clear p111
                      try clear q111
                      try clear hx111
                      try clear hcz46_0
                      try clear hcz46_1
                      try clear hfz46_0
                      try clear hfz46_1
                      try clear hx108_0
                      try clear hx108_1
                      try clear hx109_0
                      try clear hx109_1
                      try clear hx110_0
                      try clear hx110_1
                      try clear hx111_0
                      try clear hx111_1
                      try clear hx118_0
                      try clear hx118_1
                      try clear hx119_0
                      try clear hx119_1
                      try clear hx120_0
                      try clear hx120_1
                      try clear hx121_0
                      try clear hx121_1
                      try clear hx148_0
                      try clear hx151_0
                      try clear hx154_0
                      try clear p1
                      try clear p10
                      try clear p108
                      try clear p109
                      try clear p11
                      try clear p110
                      try clear p111
                      try clear p118
                      try clear p119
                      try clear p12
                      try clear p120
                      try clear p121
                      try clear p14
                      try clear p148
                      try clear p15
                      try clear p151
                      try clear p154
                      try clear p2
                      try clear p6
                      try clear p64
                      try clear q1
                      try clear q10
                      try clear q108
                      try clear q109
                      try clear q11
                      try clear q110
                      try clear q111
                      try clear q118
                      try clear q119
                      try clear q12
                      try clear q120
                      try clear q121
                      try clear q14
                      try clear q148
                      try clear q15
                      try clear q151
                      try clear q154
                      obtain ⟨kq, HA, HJ99, HO_9, HO_12, HO_14, HO_16, BK101, HB⟩ := hcut
                      as_aux_lemma =>
                       cases kq with
                       | zero => exact absurd HA.out (by simp [isobathlaw01_BoundMembers.j8])
                       | succ kj99 =>
                        have H := HA.out
                        clear HA
                        simp only [isobathlaw01_BoundMembers.j8] at H
                        have HC113 := zam H
                        clear H
                        go_upto_if 215 with (fail)
                        go_cut [] (fun wc => ∃ (kq : Nat), Aside0 (isobathlaw01_BoundMembers.j9 kq l0 l1 x9_29 t128 t129 t132 t133 t136 t139 x18_5 t149 a2_0 a2_1 = some r) ∧ Aside0 (kq ≤ kj99) ∧ Aside0 (Kd.R (Kd.int .i64) 2 wc w.heap.size (fun _ => True) (.slice (some ad148) x9_29.length co95) x9_29) ∧ Aside0 (Kd.R k32 32 wc w.heap.size (fun k_ => some k_ ≠ (v134 : Value).ownBlock ∧ some k_ ≠ (v137 : Value).ownBlock ∧ k_ ≠ gb101) v130 t128) ∧ Aside0 (Kd.R k32 32 wc w.heap.size (fun k_ => some k_ ≠ (v130 : Value).ownBlock ∧ some k_ ≠ (v137 : Value).ownBlock ∧ k_ ≠ gb101) v134 t132) ∧ Aside0 (Kd.R k32 32 wc w.heap.size (fun k_ => some k_ ≠ (v130 : Value).ownBlock ∧ some k_ ≠ (v134 : Value).ownBlock ∧ k_ ≠ gb101) v137 t136) ∧ Aside0 (wc.heap[gb101]? = some (.cells #[.int .i64 a2_0, .int .i64 a2_1] 32 (0, 0))) ∧ Aside0 (Below w.heap.size w wc))
                        case first =>
                         have H := HC113.out
                         clear HC113
                         by_cases c114 : t133 = 0
                         ·rw [if_pos c114] at H
                          have c114b0 : (t133 == 0) = true := beq_iff_eq.mpr c114
                          have c114b1 : (t133 != 0) = false := bne_eq_false_iff_eq.mpr c114
                          clear c114
                          (first | rw [c114b0] | (simp only [i64_w, i32_w]; rw [c114b0]) | skip)
                          by_cases c115 : 0 ≤ x18_5
                          ·rw [if_pos c115] at H
                           have c115b0 : decide (0 ≤ x18_5) = true := zdt c115
                           clear c115
                           by_cases c116 : x18_5 < (x9_29.length : Int)
                           ·rw [if_pos c116] at H
                            have c116b0 : decide (x18_5 < (x9_29.length : Int)) = true := zdt c116
                            clear c116
                            replace H := Option.bind_eq_some_iff.mp H
                            obtain ⟨⟨t158, t159⟩, A1170, H⟩ := H
                            replace H : (if t159 = 0 then (if t149 = true then (if (t158 != t152) = true then (none) else (isobathlaw01_BoundMembers.j9 kj99 l0 l1 x9_29 t128 t129 t132 t133 t136 t139 x18_5 t149 a2_0 a2_1)) else (if (t158 != false) = true then (none) else (isobathlaw01_BoundMembers.j9 kj99 l0 l1 x9_29 t128 t129 t132 t133 t136 t139 x18_5 t149 a2_0 a2_1))) else (none)) = some r := H
                            have A117 := zam A1170
                            clear A1170
                            by_cases c118 : t159 = 0
                            ·rw [if_pos c118] at H
                             have c118b0 : (t159 == 0) = true := beq_iff_eq.mpr c118
                             have c118b1 : (t159 != 0) = false := bne_eq_false_iff_eq.mpr c118
                             clear c118
                             by_cases c119 : t149 = true
                             ·subst c119
                              have H1 : (if (t158 != t152) = true then (none) else (isobathlaw01_BoundMembers.j9 kj99 l0 l1 x9_29 t128 t129 t132 t133 t136 t139 x18_5 true a2_0 a2_1)) = some r := by rw [if_pos rfl] at H; exact H
                              clear H
                              have H := H1
                              clear H1
                              by_cases c120 : (t158 != t152) = true
                              ·rw [if_pos c120] at H
                               exact absurd H (by simp)
                              rw [if_neg c120] at H
                              have c120b0 : (t158 != t152) = false := by simpa using c120
                              (try (have c120b1 : decide (t158 = t152) = true := by simpa using c120))
                              (try (have c120b2 : (t158 == t152) = true := by simpa using c120))
                              clear c120
                              as_aux_lemma =>
                               have H' := zam H
                               clear H
                               have p157 : 0 ≤ (x18_5 : Int) := zod (by first | (with_reducible assumption) | assumption)
                               have q157 : x18_5 < (x9_29.length : Int) := zod (by first | (with_reducible assumption) | assumption)
                               obtain ⟨ad157, e157, hx157_0⟩ := Kd.at_int (Kd.R_reads' HO_9.out).2.2 x18_5 p157 q157
                               obtain rfl : ad148 = ad157 := (by injection e157)
                               replace p157 := eq_true p157
                               replace q157 := eq_true q157
                               obtain ⟨Ao121, co121, eo121⟩ := Kd.R_slice HO_14.out
                               subst eo121
                               go_wp2_with (first | ((with_reducible refine zgc (f := 45) rfl ?_); refine goesL_ (some 222) rfl rfl Try.func45 (by kernel_rfl) rfl #[.slice Ao121 t132.length co121, .int .i64 (rd x9_29 x18_5)] rfl (by (try simp only [zmt, List.map_cons, List.map_nil]); first | done | rfl | (simp only [zld, zlt]; rfl)) ?_; (with_reducible refine (bound_Has.calls kj99 _ _ t132 (rd x9_29 x18_5) t158 t159 _ ?side1 ?side2 A117.out).mono ?_); (case side1 => repeat (first | exact (Kd.R_reads' HO_14.out).2.2 | (with_reducible refine Kd.C_alloc ?_ _) | (with_reducible refine Kd.C_drewN ?_ _) | (with_reducible refine Kd.C_drew ?_))); (case side2 => exact (Kd.R_reads' HO_14.out).2.1); rintro e w122 ⟨rfl, hb⟩; refine ⟨_, rfl, ?_⟩; have n0_ := zam (Kd.R_below (by (with_reducible repeat (first | apply zRa | apply zRn | apply zRd)); exact HO_9.out) hb); have n1_ := zam (Kd.R_below (by (with_reducible repeat (first | apply zRa | apply zRn | apply zRd)); exact HO_12.out) hb); have n2_ := zam (Kd.R_below (by (with_reducible repeat (first | apply zRa | apply zRn | apply zRd)); exact HO_14.out) hb); have n3_ := zam (Kd.R_below (by (with_reducible repeat (first | apply zRa | apply zRn | apply zRd)); exact HO_16.out) hb); have n4_ := zam (zkb (g := gb101) (o := .cells #[.int .i64 a2_0, .int .i64 a2_1] 32 (0, 0)) (by (with_reducible repeat (first | refine zkn ?_ _ | refine zkd ?_ | refine zka ?_ _)); exact BK101.out) hb); have n5_ := zam (zbt (by repeat (first | (with_reducible first | exact HB.out | apply zba | apply zbn | apply zb1 | refine zbs ?_ GE101.out) | exact HB.out)) hb); clear HO_9; clear HO_12; clear HO_14; clear HO_16; clear BK101; clear HB; have HO_9 := n0_; have HO_12 := n1_; have HO_14 := n2_; have HO_16 := n3_; have BK101 := n4_; have HB := n5_; clear n0_ n1_ n2_ n3_ n4_ n5_; (try clear hb); (try clear hb2); (try clear hk); (try clear hi)))
                               go_meet
                               case rel => exact ⟨_, H', ⟨by have := HJ4.out; have := HJ17.out; have := HJ29.out; have := HJ42.out; have := HK5.out; have := HJ93.out; have := HJ99.out; first | omega | exact Nat.le_refl _⟩, ⟨by (with_reducible repeat (first | apply zRa | apply zRn | apply zRd)); exact HO_9.out⟩, ⟨by (with_reducible repeat (first | apply zRa | apply zRn | apply zRd)); exact HO_12.out⟩, ⟨by (with_reducible repeat (first | apply zRa | apply zRn | apply zRd)); exact HO_14.out⟩, ⟨by (with_reducible repeat (first | apply zRa | apply zRn | apply zRd)); exact HO_16.out⟩, ⟨by (with_reducible repeat (first | refine zkn ?_ _ | refine zkd ?_ | refine zka ?_ _)); exact BK101.out⟩, ⟨by repeat (first | (with_reducible first | exact HB.out | apply zba | apply zbn | apply zb1 | refine zbs ?_ GE101.out) | exact HB.out)⟩⟩
                             replace c119 := Bool.eq_false_iff.mpr c119
                             subst c119
                             have H1 : (if (t158 != false) = true then (none) else (isobathlaw01_BoundMembers.j9 kj99 l0 l1 x9_29 t128 t129 t132 t133 t136 t139 x18_5 false a2_0 a2_1)) = some r := by rw [if_neg (show ¬ (false = true) by decide)] at H; exact H
                             clear H
                             have H := H1
                             clear H1
                             by_cases c123 : (t158 != false) = true
                             ·rw [if_pos c123] at H
                              exact absurd H (by simp)
                             rw [if_neg c123] at H
                             have c123b0 : (t158 != false) = false := by simpa using c123
                             (try (have c123b1 : decide (t158 = false) = true := by simpa using c123))
                             (try (have c123b2 : (t158 == false) = true := by simpa using c123))
                             clear c123
                             as_aux_lemma =>
                              have H' := zam H
                              clear H
                              have p157 : 0 ≤ (x18_5 : Int) := zod (by first | (with_reducible assumption) | assumption)
                              have q157 : x18_5 < (x9_29.length : Int) := zod (by first | (with_reducible assumption) | assumption)
                              obtain ⟨ad157, e157, hx157_0⟩ := Kd.at_int (Kd.R_reads' HO_9.out).2.2 x18_5 p157 q157
                              obtain rfl : ad148 = ad157 := (by injection e157)
                              replace p157 := eq_true p157
                              replace q157 := eq_true q157
                              obtain ⟨Ao124, co124, eo124⟩ := Kd.R_slice HO_14.out
                              subst eo124
                              go_wp2_with (first | ((with_reducible refine zgc (f := 45) rfl ?_); refine goesL_ (some 222) rfl rfl Try.func45 (by kernel_rfl) rfl #[.slice Ao124 t132.length co124, .int .i64 (rd x9_29 x18_5)] rfl (by (try simp only [zmt, List.map_cons, List.map_nil]); first | done | rfl | (simp only [zld, zlt]; rfl)) ?_; (with_reducible refine (bound_Has.calls kj99 _ _ t132 (rd x9_29 x18_5) t158 t159 _ ?side1 ?side2 A117.out).mono ?_); (case side1 => repeat (first | exact (Kd.R_reads' HO_14.out).2.2 | (with_reducible refine Kd.C_alloc ?_ _) | (with_reducible refine Kd.C_drewN ?_ _) | (with_reducible refine Kd.C_drew ?_))); (case side2 => exact (Kd.R_reads' HO_14.out).2.1); rintro e w125 ⟨rfl, hb⟩; refine ⟨_, rfl, ?_⟩; have n0_ := zam (Kd.R_below (by (with_reducible repeat (first | apply zRa | apply zRn | apply zRd)); exact HO_9.out) hb); have n1_ := zam (Kd.R_below (by (with_reducible repeat (first | apply zRa | apply zRn | apply zRd)); exact HO_12.out) hb); have n2_ := zam (Kd.R_below (by (with_reducible repeat (first | apply zRa | apply zRn | apply zRd)); exact HO_14.out) hb); have n3_ := zam (Kd.R_below (by (with_reducible repeat (first | apply zRa | apply zRn | apply zRd)); exact HO_16.out) hb); have n4_ := zam (zkb (g := gb101) (o := .cells #[.int .i64 a2_0, .int .i64 a2_1] 32 (0, 0)) (by (with_reducible repeat (first | refine zkn ?_ _ | refine zkd ?_ | refine zka ?_ _)); exact BK101.out) hb); have n5_ := zam (zbt (by repeat (first | (with_reducible first | exact HB.out | apply zba | apply zbn | apply zb1 | refine zbs ?_ GE101.out) | exact HB.out)) hb); clear HO_9; clear HO_12; clear HO_14; clear HO_16; clear BK101; clear HB; have HO_9 := n0_; have HO_12 := n1_; have HO_14 := n2_; have HO_16 := n3_; have BK101 := n4_; have HB := n5_; clear n0_ n1_ n2_ n3_ n4_ n5_; (try clear hb); (try clear hb2); (try clear hk); (try clear hi)))
                              go_meet
                              case rel => exact ⟨_, H', ⟨by have := HJ4.out; have := HJ17.out; have := HJ29.out; have := HJ42.out; have := HK5.out; have := HJ93.out; have := HJ99.out; first | omega | exact Nat.le_refl _⟩, ⟨by (with_reducible repeat (first | apply zRa | apply zRn | apply zRd)); exact HO_9.out⟩, ⟨by (with_reducible repeat (first | apply zRa | apply zRn | apply zRd)); exact HO_12.out⟩, ⟨by (with_reducible repeat (first | apply zRa | apply zRn | apply zRd)); exact HO_14.out⟩, ⟨by (with_reducible repeat (first | apply zRa | apply zRn | apply zRd)); exact HO_16.out⟩, ⟨by (with_reducible repeat (first | refine zkn ?_ _ | refine zkd ?_ | refine zka ?_ _)); exact BK101.out⟩, ⟨by repeat (first | (with_reducible first | exact HB.out | apply zba | apply zbn | apply zb1 | refine zbs ?_ GE101.out) | exact HB.out)⟩⟩
                            rw [if_neg c118] at H
                            exact absurd H (by simp)
                           rw [if_neg c116] at H
                           exact absurd H (by simp)
                          rw [if_neg c115] at H
                          exact absurd H (by simp)
                         rw [if_neg c114] at H
                         have c114b0 : (t133 == 0) = false := beq_eq_false_iff_ne.mpr c114
                         have c114b1 : (t133 != 0) = true := bne_iff_ne.mpr c114
                         (first | rw [c114b0] | (simp only [i64_w, i32_w]; rw [c114b0]) | skip)
                         as_aux_lemma =>
                          have H' := zam H
                          clear H
                          go_wp2
                          go_meet
                          case rel => exact ⟨_, H', ⟨by have := HJ4.out; have := HJ17.out; have := HJ29.out; have := HJ42.out; have := HK5.out; have := HJ93.out; have := HJ99.out; first | omega | exact Nat.le_refl _⟩, ⟨by (with_reducible repeat (first | apply zRa | apply zRn | apply zRd)); exact HO_9.out⟩, ⟨by (with_reducible repeat (first | apply zRa | apply zRn | apply zRd)); exact HO_12.out⟩, ⟨by (with_reducible repeat (first | apply zRa | apply zRn | apply zRd)); exact HO_14.out⟩, ⟨by (with_reducible repeat (first | apply zRa | apply zRn | apply zRd)); exact HO_16.out⟩, ⟨by (with_reducible repeat (first | refine zkn ?_ _ | refine zkd ?_ | refine zka ?_ _)); exact BK101.out⟩, ⟨by repeat (first | (with_reducible first | exact HB.out | apply zba | apply zbn | apply zb1 | refine zbs ?_ GE101.out) | exact HB.out)⟩⟩
                        case rest =>
                         clear HC113
                         try clear c1
                         try clear p1
                         try clear q1
                         try clear hx1
                         try clear c2
                         try clear p2
                         try clear c3
                         try clear c4
                         try clear c5
                         try clear c6
                         try clear p6
                         try clear c7
                         try clear c7b0
                         try clear c7b1
                         try clear c8
                         try clear c8b0
                         try clear c8b1
                         try clear c9
                         try clear c10
                         try clear c10b0
                         try clear c10b1
                         try clear p10
                         try clear q10
                         try clear hx10
                         try clear c11
                         try clear p11
                         try clear q11
                         try clear hx11
                         try clear c12
                         try clear p12
                         try clear q12
                         try clear hx12
                         try clear p14
                         try clear q14
                         try clear hx14
                         try clear c15
                         try clear p15
                         try clear q15
                         try clear hx15
                         try clear c18
                         try clear c21
                         try clear c21b0
                         try clear c22
                         try clear c22b0
                         try clear c23
                         try clear c23b0
                         try clear c24
                         try clear c31
                         try clear c31b0
                         try clear c32
                         try clear c32b0
                         try clear c33
                         try clear c33b0
                         try clear c34
                         try clear c40
                         try clear c41
                         try clear c43
                         try clear c45
                         try clear c48
                         try clear c48b0
                         try clear c48b1
                         try clear c50
                         try clear c50b0
                         try clear c50b1
                         try clear c51
                         try clear c51b0
                         try clear c51b1
                         try clear c53
                         try clear c53b0
                         try clear c53b1
                         try clear c54
                         try clear c54b0
                         try clear c54b1
                         try clear p64
                         try clear c66
                         try clear c66b0
                         try clear c66b1
                         try clear c74
                         try clear c74b0
                         try clear c74b1
                         try clear c76
                         try clear c76b0
                         try clear c76b1
                         try clear c77
                         try clear c77b0
                         try clear c77b1
                         try clear c85
                         try clear c85b0
                         try clear c85b1
                         try clear c89
                         try clear c90
                         try clear c90b0
                         try clear c91
                         try clear c91b0
                         try clear c98
                         try clear c98b0
                         try clear c98b1
                         try clear c99
                         try clear c101
                         try clear c101b0
                         try clear c101b1
                         try clear c102
                         try clear c102b0
                         try clear c103
                         try clear c103b0
                         try clear c105
                         try clear c105b0
                         try clear c105b1
                         try clear c106
                         try clear c107
                         try clear c107b0
                         try clear c107b1
                         try clear c107b2
                         try clear p108
                         try clear q108
                         try clear hx108
                         try clear p109
                         try clear q109
                         try clear hx109
                         try clear c110
                         try clear c110b0
                         try clear c110b1
                         try clear c110b2
                         try clear p110
                         try clear q110
                         try clear hx110
                         try clear p111
                         try clear q111
                         try clear hx111
                         try clear c114
                         try clear c114b0
                         try clear c114b1
                         try clear c115
                         try clear c115b0
                         try clear c116
                         try clear c116b0
                         try clear c118
                         try clear c118b0
                         try clear c118b1
                         try clear p118
                         try clear q118
                         try clear hx118
                         try clear c119
                         try clear p119
                         try clear q119
                         try clear hx119
                         try clear c120
                         try clear c120b0
                         try clear c120b1
                         try clear c120b2
                         try clear p120
                         try clear q120
                         try clear hx120
                         try clear p121
                         try clear q121
                         try clear hx121
                         try clear c123
                         try clear c123b0
                         try clear c123b1
                         try clear c123b2
                         try clear hcz46_0
                         try clear hcz46_1
                         try clear hfz46_0
                         try clear hfz46_1
                         try clear hx108_0
                         try clear hx108_1
                         try clear hx109_0
                         try clear hx109_1
                         try clear hx110_0
                         try clear hx110_1
                         try clear hx111_0
                         try clear hx111_1
                         try clear hx118_0
                         try clear hx118_1
                         try clear hx119_0
                         try clear hx119_1
                         try clear hx120_0
                         try clear hx120_1
                         try clear hx121_0
                         try clear hx121_1
                         try clear hx148_0
                         try clear hx151_0
                         try clear hx154_0
                         try clear hx157_0
                         try clear p1
                         try clear p10
                         try clear p108
                         try clear p109
                         try clear p11
                         try clear p110
                         try clear p111
                         try clear p118
                         try clear p119
                         try clear p12
                         try clear p120
                         try clear p121
                         try clear p14
                         try clear p148
                         try clear p15
                         try clear p151
                         try clear p154
                         try clear p157
                         try clear p2
                         try clear p6
                         try clear p64
                         try clear q1
                         try clear q10
                         try clear q108
                         try clear q109
                         try clear q11
                         try clear q110
                         try clear q111
                         try clear q118
                         try clear q119
                         try clear q12
                         try clear q120
                         try clear q121
                         try clear q14
                         try clear q148
                         try clear q15
                         try clear q151
                         try clear q154
                         try clear q157
                         obtain ⟨kq, HA, HJ112, HO_9, HO_12, HO_14, HO_16, BK101, HB⟩ := hcut
                         as_aux_lemma =>
                          cases kq with
                          | zero => exact absurd HA.out (by simp [isobathlaw01_BoundMembers.j9])
                          | succ kj112 =>
                           have H := HA.out
                           clear HA
                           simp only [isobathlaw01_BoundMembers.j9] at H
                           by_cases c126 : t139 = 0
                           ·rw [if_pos c126] at H
                            have c126b0 : (t139 == 0) = true := beq_iff_eq.mpr c126
                            have c126b1 : (t139 != 0) = false := bne_eq_false_iff_eq.mpr c126
                            clear c126
                            by_cases c127 : 0 ≤ x18_5
                            ·rw [if_pos c127] at H
                             have c127b0 : decide (0 ≤ x18_5) = true := zdt c127
                             clear c127
                             by_cases c128 : x18_5 < (x9_29.length : Int)
                             ·rw [if_pos c128] at H
                              have c128b0 : decide (x18_5 < (x9_29.length : Int)) = true := zdt c128
                              clear c128
                              replace H := Option.bind_eq_some_iff.mp H
                              obtain ⟨⟨t161, t162⟩, A1290, H⟩ := H
                              replace H : (if t162 = 0 then (if t149 = true then (if (t161 != false) = true then (none) else (isobathlaw01_BoundMembers.l2 kj112 l0 l1 x9_29 t128 t129 t132 t133 t136 t139 (wrap64 (x18_5 + 1)) a2_0 a2_1)) else ((isobathlaw01_holds.f a2_0 a2_1 (rd x9_29 x18_5)).bind fun t164 => (if (t161 != t164) = true then (none) else (isobathlaw01_BoundMembers.l2 kj112 l0 l1 x9_29 t128 t129 t132 t133 t136 t139 (wrap64 (x18_5 + 1)) a2_0 a2_1)))) else (none)) = some r := H
                              have A129 := zam A1290
                              clear A1290
                              by_cases c130 : t162 = 0
                              ·rw [if_pos c130] at H
                               have c130b0 : (t162 == 0) = true := beq_iff_eq.mpr c130
                               have c130b1 : (t162 != 0) = false := bne_eq_false_iff_eq.mpr c130
                               clear c130
                               by_cases c131 : t149 = true
                               ·subst c131
                                have H1 : (if (t161 != false) = true then (none) else (isobathlaw01_BoundMembers.l2 kj112 l0 l1 x9_29 t128 t129 t132 t133 t136 t139 (wrap64 (x18_5 + 1)) a2_0 a2_1)) = some r := by rw [if_pos rfl] at H; exact H
                                clear H
                                have H := H1
                                clear H1
                                by_cases c132 : (t161 != false) = true
                                ·rw [if_pos c132] at H
                                 exact absurd H (by simp)
                                rw [if_neg c132] at H
                                have c132b0 : (t161 != false) = false := by simpa using c132
                                (try (have c132b1 : decide (t161 = false) = true := by simpa using c132))
                                (try (have c132b2 : (t161 == false) = true := by simpa using c132))
                                clear c132
                                as_aux_lemma =>
                                 have H' := zam H
                                 clear H
                                 have p160 : 0 ≤ (x18_5 : Int) := zod (by first | (with_reducible assumption) | assumption)
                                 have q160 : x18_5 < (x9_29.length : Int) := zod (by first | (with_reducible assumption) | assumption)
                                 obtain ⟨ad160, e160, hx160_0⟩ := Kd.at_int (Kd.R_reads' HO_9.out).2.2 x18_5 p160 q160
                                 obtain rfl : ad148 = ad160 := (by injection e160)
                                 replace p160 := eq_true p160
                                 replace q160 := eq_true q160
                                 obtain ⟨Ao133, co133, eo133⟩ := Kd.R_slice HO_16.out
                                 subst eo133
                                 try go_wp2_with (first | ((with_reducible refine zgc (f := 45) rfl ?_); refine goesL_ (some 243) rfl rfl Try.func45 (by kernel_rfl) rfl #[.slice Ao133 t136.length co133, .int .i64 (rd x9_29 x18_5)] rfl (by (try simp only [zmt, List.map_cons, List.map_nil]); first | done | rfl | (simp only [zld, zlt]; rfl)) ?_; (with_reducible refine (bound_Has.calls kj112 _ _ t136 (rd x9_29 x18_5) t161 t162 _ ?side1 ?side2 A129.out).mono ?_); (case side1 => repeat (first | exact (Kd.R_reads' HO_16.out).2.2 | (with_reducible refine Kd.C_alloc ?_ _) | (with_reducible refine Kd.C_drewN ?_ _) | (with_reducible refine Kd.C_drew ?_))); (case side2 => exact (Kd.R_reads' HO_16.out).2.1); rintro e w134 ⟨rfl, hb⟩; refine ⟨_, rfl, ?_⟩; have n0_ := zam (Kd.R_below (by (with_reducible repeat (first | apply zRa | apply zRn | apply zRd)); exact HO_9.out) hb); have n1_ := zam (Kd.R_below (by (with_reducible repeat (first | apply zRa | apply zRn | apply zRd)); exact HO_12.out) hb); have n2_ := zam (Kd.R_below (by (with_reducible repeat (first | apply zRa | apply zRn | apply zRd)); exact HO_14.out) hb); have n3_ := zam (Kd.R_below (by (with_reducible repeat (first | apply zRa | apply zRn | apply zRd)); exact HO_16.out) hb); have n4_ := zam (zkb (g := gb101) (o := .cells #[.int .i64 a2_0, .int .i64 a2_1] 32 (0, 0)) (by (with_reducible repeat (first | refine zkn ?_ _ | refine zkd ?_ | refine zka ?_ _)); exact BK101.out) hb); have n5_ := zam (zbt (by repeat (first | (with_reducible first | exact HB.out | apply zba | apply zbn | apply zb1 | refine zbs ?_ GE101.out) | exact HB.out)) hb); clear HO_9; clear HO_12; clear HO_14; clear HO_16; clear BK101; clear HB; have HO_9 := n0_; have HO_12 := n1_; have HO_14 := n2_; have HO_16 := n3_; have BK101 := n4_; have HB := n5_; clear n0_ n1_ n2_ n3_ n4_ n5_; (try clear hb); (try clear hb2); (try clear hk); (try clear hi)))
                                 have n0_ := zam (zRd HO_9.out)
                                 have n1_ := zam (zRd HO_12.out)
                                 have n2_ := zam (zRd HO_14.out)
                                 have n3_ := zam (zRd HO_16.out)
                                 have n4_ := zam (zkd BK101.out)
                                 have n5_ := zam (zb1 HB.out)
                                 clear HO_9
                                 clear HO_12
                                 clear HO_14
                                 clear HO_16
                                 clear BK101
                                 clear HB
                                 have HO_9 := n0_
                                 have HO_12 := n1_
                                 have HO_14 := n2_
                                 have HO_16 := n3_
                                 have BK101 := n4_
                                 have HB := n5_
                                 clear n0_ n1_ n2_ n3_ n4_ n5_
                                 refine start_ (n := 16) (S := fun w' => True) (ds := []) #[false, false, false, false, false, false, false, false, false, false, false, false, false, false, false, false] (by kernel_rfl) rfl rfl trivial (fun hHeld => ?_); refine with_tabW isobathlaw01_BoundMembers.tab34 isobathlaw01_BoundMembers.bits34 (fun HT_ HW_ => ?_)
                                 generalize w134.drew = w135 at HO_9 HO_12 HO_14 HO_16 BK101 HB hHeld ⊢
                                 refine pure_ (i := 0) (N := some 246) (v := ?_) (a' := ?_) #[true, false, false, false, false, false, false, false, false, false, false, false, false, false, false, false] rfl rfl (any_of HT_.out (by kernel_rfl)) (fun _ _ _ h => h) (Or.inl ⟨by rfl, ?_⟩) ?_ ?_
                                 rotate_left
                                 ·intro w'
                                  go_simp
                                  with_reducible rfl
                                 rotate_left
                                 ·simp only [Act.put, zsa, zsz, zss, i64_w, i32_w]
                                  rfl
                                 refine pure_ (i := 1) (N := some 247) (v := ?_) (a' := ?_) #[true, true, false, false, false, false, false, false, false, false, false, false, false, false, false, false] rfl rfl (any_of HT_.out (by kernel_rfl)) (fun _ _ _ h => h) (Or.inl ⟨by rfl, ?_⟩) ?_ ?_
                                 rotate_left
                                 ·intro w'
                                  go_simp
                                  with_reducible rfl
                                 rotate_left
                                 ·simp only [Act.put, zsa, zsz, zss, i64_w, i32_w]
                                  rfl
                                 refine pure_ (i := 2) (N := some 248) (v := ?_) (a' := ?_) #[true, true, true, false, false, false, false, false, false, false, false, false, false, false, false, false] rfl rfl (any_of HT_.out (by kernel_rfl)) (fun _ _ _ h => h) (Or.inl ⟨by rfl, ?_⟩) ?_ ?_
                                 rotate_left
                                 ·intro w'
                                  go_simp
                                  with_reducible rfl
                                 rotate_left
                                 ·simp only [Act.put, zsa, zsz, zss, i64_w, i32_w]
                                  rfl
                                 refine pure_ (i := 3) (N := some 249) (v := ?_) (a' := ?_) #[true, true, true, true, false, false, false, false, false, false, false, false, false, false, false, false] rfl rfl (any_of HT_.out (by kernel_rfl)) (fun _ _ _ h => h) (Or.inl ⟨by rfl, ?_⟩) ?_ ?_
                                 rotate_left
                                 ·intro w'
                                  go_simp
                                  with_reducible rfl
                                 rotate_left
                                 ·simp only [Act.put, zsa, zsz, zss, i64_w, i32_w]
                                  rfl
                                 refine pure_ (i := 4) (N := some 250) (v := ?_) (a' := ?_) #[true, true, true, true, true, false, false, false, false, false, false, false, false, false, false, false] rfl rfl (any_of HT_.out (by kernel_rfl)) (fun _ _ _ h => h) (Or.inl ⟨by rfl, ?_⟩) ?_ ?_
                                 rotate_left
                                 ·intro w'
                                  go_simp
                                  with_reducible rfl
                                 rotate_left
                                 ·simp only [Act.put, zsa, zsz, zss, i64_w, i32_w]
                                  rfl
                                 refine pure_ (i := 5) (N := some 251) (v := ?_) (a' := ?_) #[true, true, true, true, true, true, false, false, false, false, false, false, false, false, false, false] rfl rfl (any_of HT_.out (by kernel_rfl)) (fun _ _ _ h => h) (Or.inl ⟨by rfl, ?_⟩) ?_ ?_
                                 rotate_left
                                 ·intro w'
                                  go_simp
                                  with_reducible rfl
                                 rotate_left
                                 ·simp only [Act.put, zsa, zsz, zss, i64_w, i32_w]
                                  rfl
                                 refine pure_ (i := 6) (N := some 252) (v := ?_) (a' := ?_) #[true, true, true, true, true, true, true, false, false, false, false, false, false, false, false, false] rfl rfl (any_of HT_.out (by kernel_rfl)) (fun _ _ _ h => h) (Or.inl ⟨by rfl, ?_⟩) ?_ ?_
                                 rotate_left
                                 ·intro w'
                                  go_simp
                                  with_reducible rfl
                                 rotate_left
                                 ·simp only [Act.put, zsa, zsz, zss, i64_w, i32_w]
                                  rfl
                                 refine pure_ (i := 7) (N := some 253) (v := undef) (a' := ?_) #[true, true, true, true, true, true, true, true, false, false, false, false, false, false, false, false] rfl rfl (any_of HT_.out (by kernel_rfl)) (fun _ _ _ h => h) (Or.inr ⟨by rfl, rfl⟩) ?_ ?_
                                 rotate_left
                                 ·simp only [Act.put, zsa, zsz, zss, i64_w, i32_w]
                                  rfl
                                 refine pure_ (i := 8) (N := some 254) (v := undef) (a' := ?_) #[true, true, true, true, true, true, true, true, true, false, false, false, false, false, false, false] rfl rfl (any_of HT_.out (by kernel_rfl)) (fun _ _ _ h => h) (Or.inr ⟨by rfl, rfl⟩) ?_ ?_
                                 rotate_left
                                 ·simp only [Act.put, zsa, zsz, zss, i64_w, i32_w]
                                  rfl
                                 refine pure_ (i := 9) (N := some 255) (v := undef) (a' := ?_) #[true, true, true, true, true, true, true, true, true, true, false, false, false, false, false, false] rfl rfl (any_of HT_.out (by kernel_rfl)) (fun _ _ _ h => h) (Or.inr ⟨by rfl, rfl⟩) ?_ ?_
                                 rotate_left
                                 ·simp only [Act.put, zsa, zsz, zss, i64_w, i32_w]
                                  rfl
                                 refine pure_ (i := 10) (N := some 256) (v := undef) (a' := ?_) #[true, true, true, true, true, true, true, true, true, true, true, false, false, false, false, false] rfl rfl (any_of HT_.out (by kernel_rfl)) (fun _ _ _ h => h) (Or.inr ⟨by rfl, rfl⟩) ?_ ?_
                                 rotate_left
                                 ·simp only [Act.put, zsa, zsz, zss, i64_w, i32_w]
                                  rfl
                                 refine pure_ (i := 11) (N := some 257) (v := undef) (a' := ?_) #[true, true, true, true, true, true, true, true, true, true, true, true, false, false, false, false] rfl rfl (any_of HT_.out (by kernel_rfl)) (fun _ _ _ h => h) (Or.inr ⟨by rfl, rfl⟩) ?_ ?_
                                 rotate_left
                                 ·simp only [Act.put, zsa, zsz, zss, i64_w, i32_w]
                                  rfl
                                 refine pure_ (i := 12) (N := some 258) (v := undef) (a' := ?_) #[true, true, true, true, true, true, true, true, true, true, true, true, true, false, false, false] rfl rfl (any_of HT_.out (by kernel_rfl)) (fun _ _ _ h => h) (Or.inr ⟨by rfl, rfl⟩) ?_ ?_
                                 rotate_left
                                 ·simp only [Act.put, zsa, zsz, zss, i64_w, i32_w]
                                  rfl
                                 refine pure_ (i := 13) (N := some 259) (v := ?_) (a' := ?_) #[true, true, true, true, true, true, true, true, true, true, true, true, true, true, false, false] rfl rfl (any_of HT_.out (by kernel_rfl)) (fun _ _ _ h => h) (Or.inl ⟨by rfl, ?_⟩) ?_ ?_
                                 rotate_left
                                 ·intro w'
                                  go_simp
                                  with_reducible rfl
                                 rotate_left
                                 ·simp only [Act.put, zsa, zsz, zss, i64_w, i32_w]
                                  rfl
                                 refine pure_ (i := 14) (N := some 260) (v := ?_) (a' := ?_) #[true, true, true, true, true, true, true, true, true, true, true, true, true, true, true, false] rfl rfl (any_of HT_.out (by kernel_rfl)) (fun _ _ _ h => h) (Or.inl ⟨by rfl, ?_⟩) ?_ ?_
                                 rotate_left
                                 ·intro w'
                                  go_simp
                                  with_reducible rfl
                                 rotate_left
                                 ·simp only [Act.put, zsa, zsz, zss, i64_w, i32_w]
                                  rfl
                                 refine pure_ (i := 15) (N := some 261) (v := ?_) (a' := ?_) #[true, true, true, true, true, true, true, true, true, true, true, true, true, true, true, true] rfl rfl (any_of HT_.out (by kernel_rfl)) (fun _ _ _ h => h) (Or.inl ⟨by rfl, ?_⟩) ?_ ?_
                                 rotate_left
                                 ·intro w'
                                  go_simp
                                  with_reducible rfl
                                 rotate_left
                                 ·simp only [Act.put, zsa, zsz, zss, i64_w, i32_w]
                                  rfl
                                 refine done_ (done_of HT_.out (by kernel_rfl)) ?_
                                 try go_wp2
                                 go_roundg kj112
                                 case measure => have := HJ4.out; have := HJ17.out; have := HJ29.out; have := HJ42.out; have := HK5.out; have := HJ93.out; have := HJ99.out; have := HJ112.out; omega
                                 case rel => exact ⟨(wrap64 (x18_5 + 1)), (by first | rfl | (simp; done) | (simp [*]; done)), H', ⟨by have := HJ4.out; have := HJ17.out; have := HJ29.out; have := HJ42.out; have := HK5.out; have := HJ93.out; have := HJ99.out; have := HJ112.out; omega⟩, ⟨by (with_reducible repeat (first | apply zRa | apply zRn | apply zRd)); exact HO_9.out⟩, ⟨by (with_reducible repeat (first | apply zRa | apply zRn | apply zRd)); exact HO_12.out⟩, ⟨by (with_reducible repeat (first | apply zRa | apply zRn | apply zRd)); exact HO_14.out⟩, ⟨by (with_reducible repeat (first | apply zRa | apply zRn | apply zRd)); exact HO_16.out⟩, ⟨by (with_reducible repeat (first | refine zkn ?_ _ | refine zkd ?_ | refine zka ?_ _)); exact BK101.out⟩, ⟨by repeat (first | (with_reducible first | exact HB.out | apply zba | apply zbn | apply zb1 | refine zbs ?_ GE101.out) | exact HB.out)⟩⟩
                               replace c131 := Bool.eq_false_iff.mpr c131
                               subst c131
                               have H1 : ((isobathlaw01_holds.f a2_0 a2_1 (rd x9_29 x18_5)).bind fun t164 => (if (t161 != t164) = true then (none) else (isobathlaw01_BoundMembers.l2 kj112 l0 l1 x9_29 t128 t129 t132 t133 t136 t139 (wrap64 (x18_5 + 1)) a2_0 a2_1))) = some r := by rw [if_neg (show ¬ (false = true) by decide)] at H; exact H
                               clear H
                               have H := H1
                               clear H1
                               replace H := Option.bind_eq_some_iff.mp H
                               obtain ⟨t164, A1360, H⟩ := H
                               replace H : (if (t161 != t164) = true then (none) else (isobathlaw01_BoundMembers.l2 kj112 l0 l1 x9_29 t128 t129 t132 t133 t136 t139 (wrap64 (x18_5 + 1)) a2_0 a2_1)) = some r := H
                               have A136 := zam A1360
                               clear A1360
                               by_cases c137 : (t161 != t164) = true
                               ·rw [if_pos c137] at H
                                exact absurd H (by simp)
                               rw [if_neg c137] at H
                               have c137b0 : (t161 != t164) = false := by simpa using c137
                               (try (have c137b1 : decide (t161 = t164) = true := by simpa using c137))
                               (try (have c137b2 : (t161 == t164) = true := by simpa using c137))
                               clear c137
                               as_aux_lemma =>
                                have H' := zam H
                                clear H
                                have p160 : 0 ≤ (x18_5 : Int) := zod (by first | (with_reducible assumption) | assumption)
                                have q160 : x18_5 < (x9_29.length : Int) := zod (by first | (with_reducible assumption) | assumption)
                                obtain ⟨ad160, e160, hx160_0⟩ := Kd.at_int (Kd.R_reads' HO_9.out).2.2 x18_5 p160 q160
                                obtain rfl : ad148 = ad160 := (by injection e160)
                                replace p160 := eq_true p160
                                replace q160 := eq_true q160
                                obtain ⟨Ao138, co138, eo138⟩ := Kd.R_slice HO_16.out
                                subst eo138
                                try go_wp2_with (first | ((with_reducible refine zgc (f := 45) rfl ?_); refine goesL_ (some 243) rfl rfl Try.func45 (by kernel_rfl) rfl #[.slice Ao138 t136.length co138, .int .i64 (rd x9_29 x18_5)] rfl (by (try simp only [zmt, List.map_cons, List.map_nil]); first | done | rfl | (simp only [zld, zlt]; rfl)) ?_; (with_reducible refine (bound_Has.calls kj112 _ _ t136 (rd x9_29 x18_5) t161 t162 _ ?side1 ?side2 A129.out).mono ?_); (case side1 => repeat (first | exact (Kd.R_reads' HO_16.out).2.2 | (with_reducible refine Kd.C_alloc ?_ _) | (with_reducible refine Kd.C_drewN ?_ _) | (with_reducible refine Kd.C_drew ?_))); (case side2 => exact (Kd.R_reads' HO_16.out).2.1); rintro e w139 ⟨rfl, hb⟩; refine ⟨_, rfl, ?_⟩; have n0_ := zam (Kd.R_below (by (with_reducible repeat (first | apply zRa | apply zRn | apply zRd)); exact HO_9.out) hb); have n1_ := zam (Kd.R_below (by (with_reducible repeat (first | apply zRa | apply zRn | apply zRd)); exact HO_12.out) hb); have n2_ := zam (Kd.R_below (by (with_reducible repeat (first | apply zRa | apply zRn | apply zRd)); exact HO_14.out) hb); have n3_ := zam (Kd.R_below (by (with_reducible repeat (first | apply zRa | apply zRn | apply zRd)); exact HO_16.out) hb); have n4_ := zam (zkb (g := gb101) (o := .cells #[.int .i64 a2_0, .int .i64 a2_1] 32 (0, 0)) (by (with_reducible repeat (first | refine zkn ?_ _ | refine zkd ?_ | refine zka ?_ _)); exact BK101.out) hb); have n5_ := zam (zbt (by repeat (first | (with_reducible first | exact HB.out | apply zba | apply zbn | apply zb1 | refine zbs ?_ GE101.out) | exact HB.out)) hb); clear HO_9; clear HO_12; clear HO_14; clear HO_16; clear BK101; clear HB; have HO_9 := n0_; have HO_12 := n1_; have HO_14 := n2_; have HO_16 := n3_; have BK101 := n4_; have HB := n5_; clear n0_ n1_ n2_ n3_ n4_ n5_; (try clear hb); (try clear hb2); (try clear hk); (try clear hi)))
                                have n0_ := zam (zRd HO_9.out)
                                have n1_ := zam (zRd HO_12.out)
                                have n2_ := zam (zRd HO_14.out)
                                have n3_ := zam (zRd HO_16.out)
                                have n4_ := zam (zkd BK101.out)
                                have n5_ := zam (zb1 HB.out)
                                clear HO_9
                                clear HO_12
                                clear HO_14
                                clear HO_16
                                clear BK101
                                clear HB
                                have HO_9 := n0_
                                have HO_12 := n1_
                                have HO_14 := n2_
                                have HO_16 := n3_
                                have BK101 := n4_
                                have HB := n5_
                                clear n0_ n1_ n2_ n3_ n4_ n5_
                                have p163 : 0 ≤ (x18_5 : Int) := zod (by first | (with_reducible assumption) | assumption)
                                have q163 : x18_5 < (x9_29.length : Int) := zod (by first | (with_reducible assumption) | assumption)
                                obtain ⟨ad163, e163, hx163_0⟩ := Kd.at_int (Kd.R_reads' HO_9.out).2.2 x18_5 p163 q163
                                obtain rfl : ad148 = ad163 := (by injection e163)
                                replace p163 := eq_true p163
                                replace q163 := eq_true q163
                                refine start_ (n := 16) (S := fun w' => w'.cell? ⟨gb101, 0, none⟩ = some (.int .i64 a2_0) ∧ w'.cell? ⟨gb101, 1, none⟩ = some (.int .i64 a2_1) ∧ w'.cell? (ad148.add (x18_5).toNat) = some (.int .i64 (rd x9_29 x18_5))) (ds := []) #[false, false, false, false, false, false, false, false, false, false, false, false, false, false, false, false] (by kernel_rfl) rfl rfl ⟨(zkc BK101.out 0).trans rfl, (zkc BK101.out 1).trans rfl, hx163_0⟩ (fun hHeld => ?_); refine with_tabW isobathlaw01_BoundMembers.tab34 isobathlaw01_BoundMembers.bits34 (fun HT_ HW_ => ?_)
                                generalize w139.drew = w140 at HO_9 HO_12 HO_14 HO_16 BK101 HB hx163_0 hHeld ⊢
                                refine pure_ (i := 0) (N := some 246) (v := ?_) (a' := ?_) #[true, false, false, false, false, false, false, false, false, false, false, false, false, false, false, false] rfl rfl (any_of HT_.out (by kernel_rfl)) (fun _ _ _ h => h) (Or.inl ⟨by rfl, ?_⟩) ?_ ?_
                                rotate_left
                                ·intro w'
                                 go_simp
                                 with_reducible rfl
                                rotate_left
                                ·simp only [Act.put, zsa, zsz, zss, i64_w, i32_w]
                                 rfl
                                refine pure_ (i := 1) (N := some 247) (v := ?_) (a' := ?_) #[true, true, false, false, false, false, false, false, false, false, false, false, false, false, false, false] rfl rfl (any_of HT_.out (by kernel_rfl)) (fun _ _ _ h => h) (Or.inl ⟨by rfl, ?_⟩) ?_ ?_
                                rotate_left
                                ·intro w'
                                 go_simp
                                 with_reducible rfl
                                rotate_left
                                ·simp only [Act.put, zsa, zsz, zss, i64_w, i32_w]
                                 rfl
                                refine pure_ (i := 2) (N := some 248) (v := ?_) (a' := ?_) #[true, true, true, false, false, false, false, false, false, false, false, false, false, false, false, false] rfl rfl (any_of HT_.out (by kernel_rfl)) (fun _ _ _ h => h) (Or.inl ⟨by rfl, ?_⟩) ?_ ?_
                                rotate_left
                                ·intro w'
                                 go_simp
                                 with_reducible rfl
                                rotate_left
                                ·simp only [Act.put, zsa, zsz, zss, i64_w, i32_w]
                                 rfl
                                refine pure_ (i := 3) (N := some 249) (v := ?_) (a' := ?_) #[true, true, true, true, false, false, false, false, false, false, false, false, false, false, false, false] rfl rfl (any_of HT_.out (by kernel_rfl)) (fun _ _ _ h => h) (Or.inl ⟨by rfl, ?_⟩) ?_ ?_
                                rotate_left
                                ·intro w'
                                 go_simp
                                 with_reducible rfl
                                rotate_left
                                ·simp only [Act.put, zsa, zsz, zss, i64_w, i32_w]
                                 rfl
                                refine pure_ (i := 4) (N := some 250) (v := ?_) (a' := ?_) #[true, true, true, true, true, false, false, false, false, false, false, false, false, false, false, false] rfl rfl (any_of HT_.out (by kernel_rfl)) (fun _ _ _ h => h) (Or.inl ⟨by rfl, ?_⟩) ?_ ?_
                                rotate_left
                                ·intro w'
                                 go_simp
                                 with_reducible rfl
                                rotate_left
                                ·simp only [Act.put, zsa, zsz, zss, i64_w, i32_w]
                                 rfl
                                refine pure_ (i := 5) (N := some 251) (v := ?_) (a' := ?_) #[true, true, true, true, true, true, false, false, false, false, false, false, false, false, false, false] rfl rfl (any_of HT_.out (by kernel_rfl)) (fun _ _ _ h => h) (Or.inl ⟨by rfl, ?_⟩) ?_ ?_
                                rotate_left
                                ·intro w'
                                 go_simp
                                 with_reducible rfl
                                rotate_left
                                ·simp only [Act.put, zsa, zsz, zss, i64_w, i32_w]
                                 rfl
                                refine pure_ (i := 6) (N := some 252) (v := ?_) (a' := ?_) #[true, true, true, true, true, true, true, false, false, false, false, false, false, false, false, false] rfl rfl (any_of HT_.out (by kernel_rfl)) (fun _ _ _ h => h) (Or.inl ⟨by rfl, ?_⟩) ?_ ?_
                                rotate_left
                                ·intro w'
                                 go_simp
                                 with_reducible rfl
                                rotate_left
                                ·simp only [Act.put, zsa, zsz, zss, i64_w, i32_w]
                                 rfl
                                refine pure_ (i := 8) (N := some 254) (v := ?_) (a' := ?_) #[true, true, true, true, true, true, true, false, true, false, false, false, false, false, false, false] rfl rfl (any_of HT_.out (by kernel_rfl)) (fun _ _ _ h => h) (Or.inl ⟨by rfl, ?_⟩) ?_ ?_
                                rotate_left
                                ·intro w'
                                 go_simp
                                 with_reducible rfl
                                rotate_left
                                ·simp only [Act.put, zsa, zsz, zss, i64_w, i32_w]
                                 rfl
                                refine pure_ (i := 9) (N := some 255) (v := ?_) (a' := ?_) #[true, true, true, true, true, true, true, false, true, true, false, false, false, false, false, false] rfl rfl (any_of HT_.out (by kernel_rfl)) (fun _ _ _ h => h) (Or.inl ⟨by rfl, ?_⟩) ?_ ?_
                                rotate_left
                                ·intro w'
                                 go_simp
                                 with_reducible rfl
                                rotate_left
                                ·simp only [Act.put, zsa, zsz, zss, i64_w, i32_w]
                                 rfl
                                refine pure_ (i := 10) (N := some 256) (v := ?_) (a' := ?_) #[true, true, true, true, true, true, true, false, true, true, true, false, false, false, false, false] rfl rfl (any_of HT_.out (by kernel_rfl)) (fun _ _ _ h => h) (Or.inl ⟨by rfl, ?_⟩) ?_ ?_
                                rotate_left
                                ·intro w'
                                 go_simp
                                 with_reducible rfl
                                rotate_left
                                ·simp only [Act.put, zsa, zsz, zss, i64_w, i32_w]
                                 rfl
                                refine take_ (i := 7) (N := some 253) (v := ?_) (a' := ?_) #[true, true, true, true, true, true, true, true, true, true, true, false, false, false, false, false] rfl rfl (take_ofW HT_.out HW_.out (by kernel_rfl)) (fun _ _ _ h => h) (Or.inl ⟨by rfl, ?_⟩) hHeld ?_ ?_
                                rotate_left
                                ·rintro w' ⟨s0, s1, s2⟩
                                 go_simp
                                 with_reducible rfl
                                rotate_left
                                ·simp only [Act.put, zsa, zsz, zss, i64_w, i32_w]
                                 rfl
                                refine take_ (i := 11) (N := some 257) (v := ?_) (a' := ?_) #[true, true, true, true, true, true, true, true, true, true, true, true, false, false, false, false] rfl rfl (take_ofW HT_.out HW_.out (by kernel_rfl)) (fun _ _ _ h => h) (Or.inl ⟨by rfl, ?_⟩) hHeld ?_ ?_
                                rotate_left
                                ·rintro w' ⟨s0, s1, s2⟩
                                 go_simp
                                 with_reducible rfl
                                rotate_left
                                ·simp only [Act.put, zsa, zsz, zss, i64_w, i32_w]
                                 rfl
                                refine one_ (i := 12) (N := some 258) #[true, true, true, true, true, true, true, true, true, true, true, true, true, false, false, false] rfl rfl (one_of HT_.out (by kernel_rfl)) (by decide) (fun K hK => ?_)
                                refine goes_ Try.func26 (by kernel_rfl) rfl #[.agg #[.int .i64 a2_0, .int .i64 a2_1], .int .i64 (rd x9_29 x18_5)] (by rfl) rfl rfl (by (try simp only [zmt, List.map_cons, List.map_nil]); first | done | rfl | (simp only [zld, zlt]; rfl)) ?_
                                with_reducible refine (isobathlaw01_holds.calls a2_0 a2_1 (rd x9_29 x18_5) t164 _ A136.out).mono ?_
                                rintro e w141 ⟨rfl, hb⟩
                                have HS2_ := (hb.cell (zwb _ _ (hHeld.2.2))).trans (hHeld.2.2)
                                refine ⟨_, rfl, ?_⟩
                                have n0_ := zam (Kd.R_below (by (with_reducible repeat (first | apply zRa | apply zRn | apply zRd)); exact HO_9.out) hb)
                                have n1_ := zam (Kd.R_below (by (with_reducible repeat (first | apply zRa | apply zRn | apply zRd)); exact HO_12.out) hb)
                                have n2_ := zam (Kd.R_below (by (with_reducible repeat (first | apply zRa | apply zRn | apply zRd)); exact HO_14.out) hb)
                                have n3_ := zam (Kd.R_below (by (with_reducible repeat (first | apply zRa | apply zRn | apply zRd)); exact HO_16.out) hb)
                                have n4_ := zam (zkb (g := gb101) (o := .cells #[.int .i64 a2_0, .int .i64 a2_1] 32 (0, 0)) (by (with_reducible repeat (first | refine zkn ?_ _ | refine zkd ?_ | refine zka ?_ _)); exact BK101.out) hb)
                                have n5_ := zam (zbt (by repeat (first | (with_reducible first | exact HB.out | apply zba | apply zbn | apply zb1 | refine zbs ?_ GE101.out) | exact HB.out)) hb)
                                clear HO_9
                                clear HO_12
                                clear HO_14
                                clear HO_16
                                clear BK101
                                clear HB
                                have HO_9 := n0_
                                have HO_12 := n1_
                                have HO_14 := n2_
                                have HO_16 := n3_
                                have BK101 := n4_
                                have HB := n5_
                                clear n0_ n1_ n2_ n3_ n4_ n5_
                                (try clear hb)
                                (try clear hb2)
                                (try clear hk)
                                (try clear hi)
                                refine hK.out _ _ ⟨(zkc BK101.out 0).trans rfl, (zkc BK101.out 1).trans rfl, HS2_⟩ (fun hHeld => ?_)
                                clear hK K
                                refine norm_ (a' := ?_) ?_ ?_
                                rotate_left
                                ·show Act.put _ (some 258) _ = _
                                 simp only [Act.put, zsa, zsz, zss, i64_w, i32_w]
                                 rfl
                                refine pure_ (i := 13) (N := some 259) (v := ?_) (a' := ?_) #[true, true, true, true, true, true, true, true, true, true, true, true, true, true, false, false] rfl rfl (any_of HT_.out (by kernel_rfl)) (fun _ _ _ h => h) (Or.inl ⟨by rfl, ?_⟩) ?_ ?_
                                rotate_left
                                ·intro w'
                                 go_simp
                                 with_reducible rfl
                                rotate_left
                                ·simp only [Act.put, zsa, zsz, zss, i64_w, i32_w]
                                 rfl
                                refine pure_ (i := 14) (N := some 260) (v := ?_) (a' := ?_) #[true, true, true, true, true, true, true, true, true, true, true, true, true, true, true, false] rfl rfl (any_of HT_.out (by kernel_rfl)) (fun _ _ _ h => h) (Or.inl ⟨by rfl, ?_⟩) ?_ ?_
                                rotate_left
                                ·intro w'
                                 go_simp
                                 with_reducible rfl
                                rotate_left
                                ·simp only [Act.put, zsa, zsz, zss, i64_w, i32_w]
                                 rfl
                                refine pure_ (i := 15) (N := some 261) (v := ?_) (a' := ?_) #[true, true, true, true, true, true, true, true, true, true, true, true, true, true, true, true] rfl rfl (any_of HT_.out (by kernel_rfl)) (fun _ _ _ h => h) (Or.inl ⟨by rfl, ?_⟩) ?_ ?_
                                rotate_left
                                ·intro w'
                                 go_simp
                                 with_reducible rfl
                                rotate_left
                                ·simp only [Act.put, zsa, zsz, zss, i64_w, i32_w]
                                 rfl
                                refine done_ (done_of HT_.out (by kernel_rfl)) ?_
                                try go_wp2
                                go_roundg kj112
                                case measure => have := HJ4.out; have := HJ17.out; have := HJ29.out; have := HJ42.out; have := HK5.out; have := HJ93.out; have := HJ99.out; have := HJ112.out; omega
                                case rel => exact ⟨(wrap64 (x18_5 + 1)), (by first | rfl | (simp; done) | (simp [*]; done)), H', ⟨by have := HJ4.out; have := HJ17.out; have := HJ29.out; have := HJ42.out; have := HK5.out; have := HJ93.out; have := HJ99.out; have := HJ112.out; omega⟩, ⟨by (with_reducible repeat (first | apply zRa | apply zRn | apply zRd)); exact HO_9.out⟩, ⟨by (with_reducible repeat (first | apply zRa | apply zRn | apply zRd)); exact HO_12.out⟩, ⟨by (with_reducible repeat (first | apply zRa | apply zRn | apply zRd)); exact HO_14.out⟩, ⟨by (with_reducible repeat (first | apply zRa | apply zRn | apply zRd)); exact HO_16.out⟩, ⟨by (with_reducible repeat (first | refine zkn ?_ _ | refine zkd ?_ | refine zka ?_ _)); exact BK101.out⟩, ⟨by repeat (first | (with_reducible first | exact HB.out | apply zba | apply zbn | apply zb1 | refine zbs ?_ GE101.out) | exact HB.out)⟩⟩
                              rw [if_neg c130] at H
                              have c130b0 : (t162 == 0) = false := beq_eq_false_iff_ne.mpr c130
                              have c130b1 : (t162 != 0) = true := bne_iff_ne.mpr c130
                              exact absurd H (by simp)
                             rw [if_neg c128] at H
                             exact absurd H (by simp)
                            rw [if_neg c127] at H
                            exact absurd H (by simp)
                           rw [if_neg c126] at H
                           have c126b0 : (t139 == 0) = false := beq_eq_false_iff_ne.mpr c126
                           have c126b1 : (t139 != 0) = true := bne_iff_ne.mpr c126
                           as_aux_lemma =>
                            have H' := zam H
                            clear H
                            go_wp2
                            go_roundg kj112
                            case measure => have := HJ4.out; have := HJ17.out; have := HJ29.out; have := HJ42.out; have := HK5.out; have := HJ93.out; have := HJ99.out; have := HJ112.out; omega
                            case rel => exact ⟨(wrap64 (x18_5 + 1)), (by first | rfl | (simp; done) | (simp [*]; done)), H', ⟨by have := HJ4.out; have := HJ17.out; have := HJ29.out; have := HJ42.out; have := HK5.out; have := HJ93.out; have := HJ99.out; have := HJ112.out; omega⟩, ⟨by (with_reducible repeat (first | apply zRa | apply zRn | apply zRd)); exact HO_9.out⟩, ⟨by (with_reducible repeat (first | apply zRa | apply zRn | apply zRd)); exact HO_12.out⟩, ⟨by (with_reducible repeat (first | apply zRa | apply zRn | apply zRd)); exact HO_14.out⟩, ⟨by (with_reducible repeat (first | apply zRa | apply zRn | apply zRd)); exact HO_16.out⟩, ⟨by (with_reducible repeat (first | refine zkn ?_ _ | refine zkd ?_ | refine zka ?_ _)); exact BK101.out⟩, ⟨by repeat (first | (with_reducible first | exact HB.out | apply zba | apply zbn | apply zb1 | refine zbs ?_ GE101.out) | exact HB.out)⟩⟩
                 rw [if_neg c91] at H
                 exact absurd H (by simp)
                rw [if_neg c90] at H
                have c90b0 : decide (x18_5 < (x9_29.length : Int)) = false := zdf c90
                clear c90
                replace H := Option.bind_eq_some_iff.mp H
                obtain ⟨t147, A1420, H⟩ := H
                replace H : (some t147) = some r := H
                have A142 := zam A1420
                clear A1420
                as_aux_lemma =>
                 obtain rfl := zsi H
                 obtain ⟨Ao143, co143, eo143⟩ := Kd.R_slice HO_9.out
                 subst eo143
                 go_wp2_with (first | ((with_reducible refine zgc (f := 18) rfl ?_); refine goesL_ (some 262) rfl rfl Try.func18 (by kernel_rfl) rfl #[] rfl (by (try simp only [zmt, List.map_cons, List.map_nil]); first | done | rfl | (simp only [zld, zlt]; rfl)) ?_; (with_reducible refine (isobathlaw01_Works.calls k5  t147 _ A142.out).mono ?_); rintro e w144 ⟨rfl, hb⟩; refine ⟨_, rfl, ?_⟩; have n0_ := zam (Kd.R_below (by (with_reducible repeat (first | apply zRa | apply zRn | apply zRd)); exact HO_9.out) hb); have n1_ := zam (Kd.R_below (by (with_reducible repeat (first | apply zRa | apply zRn | apply zRd)); exact HO_12.out) hb); have n2_ := zam (Kd.R_below (by (with_reducible repeat (first | apply zRa | apply zRn | apply zRd)); exact HO_14.out) hb); have n3_ := zam (Kd.R_below (by (with_reducible repeat (first | apply zRa | apply zRn | apply zRd)); exact HO_16.out) hb); have n4_ := zam (zkb (g := gb101) (o := .cells #[.int .i64 a2_0, .int .i64 a2_1] 32 (0, 0)) (by (with_reducible repeat (first | refine zkn ?_ _ | refine zkd ?_ | refine zka ?_ _)); exact BK101.out) hb); have n5_ := zam (zbt (by repeat (first | (with_reducible first | exact HB.out | apply zba | apply zbn | apply zb1 | refine zbs ?_ GE101.out) | exact HB.out)) hb); clear HO_9; clear HO_12; clear HO_14; clear HO_16; clear BK101; clear HB; have HO_9 := n0_; have HO_12 := n1_; have HO_14 := n2_; have HO_16 := n3_; have BK101 := n4_; have HB := n5_; clear n0_ n1_ n2_ n3_ n4_ n5_; (try clear hb); (try clear hb2); (try clear hk); (try clear hi)))
                 go_ret
                 exact ⟨by first | rfl | (simp [errW_none, errW_some] <;> rfl) | (simp [*, errW_none, errW_some] <;> rfl), by repeat (first | (with_reducible first | exact HB.out | apply zba | apply zbn | apply zb1 | refine zbs ?_ GE101.out) | exact HB.out)⟩
end Go.Proofs.Ytlkafgibgipodaa.P
