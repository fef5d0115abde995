/- THE STAGE'S THEOREM: wherever the source is in the area, whenever it was, whatever the speed, and wherever the stations are in their boxes, if each arrival lies in its span, the region has a box that contains the source, for each depth, and the origin lies in the origin of this box. Part 6 of 6. -/
-- Put together by wip/tools/shake.py, a program of this work: out of the words that the kit's print tool (print.sh) writes for a claim and what wip/tools/xprint.py prints, those that this claim reaches, and this work's own texts.
import Derived.Deep.Slices
import Derived.OpenShut
import Derived.Test.YtaheamdoldiojaaRows
import Derived.WalkKit
import Derived.ProofKit
import Derived.ShutString
import Derived.ChangeOld
import Derived.Below
import Derived.SizedLaws
import Derived.Carry
import Derived.Test.YtaheamdoldiojaaKSoundFinds4
namespace Go.Proofs.Ytaheamdoldiojaa.P
open Go.RowKit Go.Proofs.YtaheamdoldiojaaW.PrintWords Go.Proofs.YtaheamdoldiojaaW.PrintLast Go.Proofs.YtaheamdoldiojaaW.PrintMore
attribute [local go_sem] max2_int min2_int max_two min_two max_three min_three max_four min_four   -- for this text's walks alone
set_option linter.unusedVariables false
set_option linter.unusedSimpArgs false
mutual
def isobathlaw07_SoundFinds.j0 : Nat → Int → Int → List Int → Int → Bool → List (S29) → Int → Int → Int → Int → Int → Int → Int → Int → Option (Bool)
 | 0, _, _, _, _, _, _, _, _, _, _, _, _, _, _ => none
 | k + 1, x3, x4, x5, x6, x31, x102000, x102001, x102002, x103000, x103001, x103002, x103003, x104000, x104001 => if x31 = true then ((isobathlaw07_Works.f k).bind fun t106 => (some t106)) else ((isobathlaw01_Part.f x103000 x103001 x104000).bind fun t107 => ((isobathlaw01_Part.f x103002 x103003 x104001).bind fun t108 => ((isobathlaw01_Part.f x102001 x102002 x4).bind fun t109 => ((isobathlaw07_truth.f k x102000 x102001 x102002 t107 t108 (wrap64 (x3)) t109 x5).bind fun t110 => ((sound_Region.f k x102000 x102001 x102002 t110 x103000 x103001 x103002 x103003 (Int.tmod (wrap64 (x6)) 6)).bind fun bt113 => (if bt113.2 = 0 then (isobathlaw07_SoundFinds.l0 k t107 t108 (wrap64 (x3)) t110 bt113.1 0 x102000 x102001 x102002) else (none)))))))
def isobathlaw07_SoundFinds.l0 : Nat → Int → Int → Int → List (S24) → List (S29) → Int → List (S29) → Int → Int → Option (Bool)
 | 0, _, _, _, _, _, _, _, _, _ => none
 | k + 1, x15, x16, x17, x18, x19, x21, x102000, x102001, x102002 => if x21 < (x19.length : Int) then (if 0 ≤ x21 then ((isobathlaw07_inside.f ((rd_T29 x19 x21).f0.f0) ((rd_T29 x19 x21).f0.f1) ((rd_T29 x19 x21).f1.f0) ((rd_T29 x19 x21).f1.f1) x15 x16).bind fun t118 => (if t118 = true then ((sound_Origin.f k x102000 x102001 x102002 x18 ((rd_T29 x19 x21).f0.f0) ((rd_T29 x19 x21).f0.f1) ((rd_T29 x19 x21).f1.f0) ((rd_T29 x19 x21).f1.f1)).bind fun bt120 => (if bt120.2.2 = 0 then (if bt120.1 ≤ x17 then (if x17 ≤ bt120.2.1 then ((isobathlaw07_Works.f k).bind fun t124 => (some t124)) else (isobathlaw07_SoundFinds.l0 k x15 x16 x17 x18 x19 (wrap64 (x21 + 1)) x102000 x102001 x102002)) else (isobathlaw07_SoundFinds.l0 k x15 x16 x17 x18 x19 (wrap64 (x21 + 1)) x102000 x102001 x102002)) else (isobathlaw07_SoundFinds.l0 k x15 x16 x17 x18 x19 (wrap64 (x21 + 1)) x102000 x102001 x102002))) else (isobathlaw07_SoundFinds.l0 k x15 x16 x17 x18 x19 (wrap64 (x21 + 1)) x102000 x102001 x102002))) else (none)) else (none)
end
def isobathlaw07_SoundFinds.f (k : Nat) (l0_0 : List (S29)) (a0_1 : Int) (a0_2 : Int) (a1_0 : Int) (a1_1 : Int) (a1_2 : Int) (a1_3 : Int) (a2_0 : Int) (a2_1 : Int) (a3 : Int) (a4 : Int) (l5 : List Int) (a6 : Int) : Option (Bool) := (isobathref07_CheckNet.f k l0_0 a0_1 a0_2).bind fun t104 => (if t104 = 0 then ((isobathref01_ValidBox.f a1_0 a1_1 a1_2 a1_3).bind fun t105 => (isobathlaw07_SoundFinds.j0 k a3 a4 l5 a6 (!t105) l0_0 a0_1 a0_2 a1_0 a1_1 a1_2 a1_3 a2_0 a2_1)) else (isobathlaw07_SoundFinds.j0 k a3 a4 l5 a6 true l0_0 a0_1 a0_2 a1_0 a1_1 a1_2 a1_3 a2_0 a2_1))
def isobathlaw07_SoundFinds.T3 : Bool × List (List Nat × List Nat) := (true, [([], []), ([0], [0]), ([], []), ([2], [2]), ([1, 3], [1, 3]), ([], []), ([5], [5]), ([], []), ([7], [7]), ([6, 8, 4], [6, 8]), ([4, 9, 0, 1, 2, 3, 4], [4]), ([9, 10, 0, 1, 2, 3, 4, 5, 6, 7, 8, 9, 10], [9])])
def isobathlaw07_SoundFinds.B3 : List Nat := [0, 1, 0, 4, 15, 0, 32, 0, 128, 511, 1023, 2047]
theorem isobathlaw07_SoundFinds.tab3 : rtab .any (opsOf Try.f5 3) = isobathlaw07_SoundFinds.T3 := by kernel_rfl
theorem isobathlaw07_SoundFinds.bits3 : waitsOk isobathlaw07_SoundFinds.T3.2 isobathlaw07_SoundFinds.B3 = true := by kernel_rfl
def isobathlaw07_SoundFinds.T5 : Bool × List (List Nat × List Nat) := (true, [([], []), ([], []), ([], []), ([], []), ([], []), ([4], [4]), ([], []), ([5, 6], [5, 6]), ([], []), ([0, 1, 2, 3, 7, 8, 7], [0, 1, 2, 3, 7, 8]), ([9, 9, 0, 1, 2, 3, 4, 5, 6, 7, 8, 9], [9])])
def isobathlaw07_SoundFinds.B5 : List Nat := [0, 0, 0, 0, 0, 16, 0, 112, 0, 511, 1023]
theorem isobathlaw07_SoundFinds.tab5 : rtab .any (opsOf Try.f5 5) = isobathlaw07_SoundFinds.T5 := by kernel_rfl
theorem isobathlaw07_SoundFinds.bits5 : waitsOk isobathlaw07_SoundFinds.T5.2 isobathlaw07_SoundFinds.B5 = true := by kernel_rfl
def isobathlaw07_SoundFinds.T13 : Bool × List (List Nat × List Nat) := (true, [([], []), ([], []), ([], []), ([], []), ([2, 3], [2, 3]), ([4], [4]), ([0, 1, 5], [0, 1, 5]), ([6], [6]), ([7], [7]), ([7], [7]), ([], []), ([10, 8, 6, 0, 1, 2, 3, 4, 5, 6, 7, 8, 10], [8, 10]), ([9, 11, 0, 1, 2, 3, 4, 5, 6, 7, 8, 9, 10, 11], [9])])
def isobathlaw07_SoundFinds.B13 : List Nat := [0, 0, 0, 0, 12, 28, 63, 127, 255, 255, 0, 1535, 4095]
theorem isobathlaw07_SoundFinds.tab13 : rtab .any (opsOf Try.f5 13) = isobathlaw07_SoundFinds.T13 := by kernel_rfl
theorem isobathlaw07_SoundFinds.bits13 : waitsOk isobathlaw07_SoundFinds.T13.2 isobathlaw07_SoundFinds.B13 = true := by kernel_rfl
set_option maxHeartbeats 8000000 in
set_option maxRecDepth 100000 in
theorem isobathlaw07_SoundFinds.calls (k : Nat) (A0_0 : Option Addr) (c0_0 : Nat) (l0_0 : List (S29)) (a0_1 : Int) (a0_2 : Int) (a1_0 : Int) (a1_1 : Int) (a1_2 : Int) (a1_3 : Int) (a2_0 : Int) (a2_1 : Int) (a3 : Int) (a4 : Int) (A5 : Option Addr) (c5 : Nat) (l5 : List Int) (a6 : Int) (r : Bool) (w : World) (hr0_0 : Kd.C k29 w A0_0 l0_0.length l0_0) (hc0_0 : l0_0.length ≤ c0_0) (hr5 : Kd.C (Kd.int .u16) w A5 l5.length l5) (hc5 : l5.length ≤ c5) (h : isobathlaw07_SoundFinds.f k l0_0 a0_1 a0_2 a1_0 a1_1 a1_2 a1_3 a2_0 a2_1 a3 a4 l5 a6 = some r) :
  Calls Try.prog 5 #[.agg #[.slice A0_0 l0_0.length c0_0, .int .i64 a0_1, .int .i64 a0_2], .agg #[.int .i64 a1_0, .int .i64 a1_1, .int .i64 a1_2, .int .i64 a1_3], .agg #[.int .u16 a2_0, .int .u16 a2_1], .int .u32 a3, .int .u16 a4, .slice A5 l5.length c5, .int .u8 a6] w fun e w' => e = .returned (.bool r) ∧ Below w.heap.size w w' := by
 have hu26 := Try.underlying26
 have hu29 := Try.underlying29
 have hu57 := Try.underlying57
 have hu24 := Try.underlying24
 have HR0_0 := zam hr0_0
 have HC0_0 := zam hc0_0
 clear hr0_0 hc0_0
 have HR5 := zam hr5
 have HC5 := zam hc5
 clear hr5 hc5
 have HB := zam (Below.refl w.heap.size w)
 have H : ((isobathref07_CheckNet.f k l0_0 a0_1 a0_2).bind fun t104 => (if t104 = 0 then ((isobathref01_ValidBox.f a1_0 a1_1 a1_2 a1_3).bind fun t105 => (isobathlaw07_SoundFinds.j0 k a3 a4 l5 a6 (!t105) l0_0 a0_1 a0_2 a1_0 a1_1 a1_2 a1_3 a2_0 a2_1)) else (isobathlaw07_SoundFinds.j0 k a3 a4 l5 a6 true l0_0 a0_1 a0_2 a1_0 a1_1 a1_2 a1_3 a2_0 a2_1))) = some r := h
 clear h
 have HC8 := zam H
 clear H
 go_enter Try.func5, Try.ntmps5
 go_upto_region 1 with (first | ((with_reducible refine zgd (N := 7) rfl ?_); refine box_event ?hg (N := 7) ?hd (cs := #[.slice A0_0 l0_0.length c0_0, .int .i64 a0_1, .int .i64 a0_2]) (t := 26) ?hr ?_; (case hd => rfl); (case hg => rfl); (case hr => first | (go_simp; done) | (go_simp; rfl)); intro gb101 hg w9 hbox hb; have n0_ := zam (zbt zq1 hb); have n1_ := zam (hbox); have n2_ := zam ((by rw [hg]; exact (zbz zq1) : w.heap.size ≤ gb101)); have n3_ := zam ((by rw [hg]; exact (zbz zq1) : w.heap.size ≤ gb101)); clear HB; have HB := n0_; have BK101 := n1_; have GW101 := n2_; have GE101 := n3_; clear n0_ n1_ n2_ n3_; clear hb hbox hg) | ((with_reducible refine zgd (N := 8) rfl ?_); refine box_event ?hg (N := 8) ?hd (cs := #[.int .i64 a1_0, .int .i64 a1_1, .int .i64 a1_2, .int .i64 a1_3]) (t := 29) ?hr ?_; (case hd => rfl); (case hg => rfl); (case hr => first | (go_simp; done) | (go_simp; rfl)); intro gb102 hg w10 hbox hb; have n0_ := zam (zkb (g := gb101) (o := .cells #[.slice A0_0 l0_0.length c0_0, .int .i64 a0_1, .int .i64 a0_2] 26 (0, 0)) zq0 hb); have n1_ := zam (zbt zq2 hb); have n2_ := zam (hbox); have n3_ := zam ((by rw [hg]; exact (zbz zq2) : w.heap.size ≤ gb102)); have n4_ := zam ((by rw [hg]; exact (zbz zq2) : w.heap.size ≤ gb102)); have n5_ := zam ((by rw [hg]; exact Nat.ne_of_lt (blk_lt (g := gb101) (o := .cells #[.slice A0_0 l0_0.length c0_0, .int .i64 a0_1, .int .i64 a0_2] 26 (0, 0)) zq0) : gb101 ≠ gb102)); have n6_ := zam ((by rw [hg]; exact Nat.ne_of_gt (blk_lt (g := gb101) (o := .cells #[.slice A0_0 l0_0.length c0_0, .int .i64 a0_1, .int .i64 a0_2] 26 (0, 0)) zq0) : gb102 ≠ gb101)); clear BK101; clear HB; have BK101 := n0_; have HB := n1_; have BK102 := n2_; have GW102 := n3_; have GE102 := n4_; have NB101_102 := n5_; have NB102_101 := n6_; clear n0_ n1_ n2_ n3_ n4_ n5_ n6_; clear hb hbox hg) | ((with_reducible refine zgd (N := 9) rfl ?_); refine box_event ?hg (N := 9) ?hd (cs := #[.int .u16 a2_0, .int .u16 a2_1]) (t := 57) ?hr ?_; (case hd => rfl); (case hg => rfl); (case hr => first | (go_simp; done) | (go_simp; rfl)); intro gb103 hg w11 hbox hb; have n0_ := zam (zkb (g := gb101) (o := .cells #[.slice A0_0 l0_0.length c0_0, .int .i64 a0_1, .int .i64 a0_2] 26 (0, 0)) zq0 hb); have n1_ := zam (zkb (g := gb102) (o := .cells #[.int .i64 a1_0, .int .i64 a1_1, .int .i64 a1_2, .int .i64 a1_3] 29 (0, 0)) zq6 hb); have n2_ := zam (zbt zq10 hb); have n3_ := zam (hbox); have n4_ := zam ((by rw [hg]; exact (zbz zq10) : w.heap.size ≤ gb103)); have n5_ := zam ((by rw [hg]; exact (zbz zq10) : w.heap.size ≤ gb103)); have n6_ := zam ((by rw [hg]; exact Nat.ne_of_lt (blk_lt (g := gb101) (o := .cells #[.slice A0_0 l0_0.length c0_0, .int .i64 a0_1, .int .i64 a0_2] 26 (0, 0)) zq0) : gb101 ≠ gb103)); have n7_ := zam ((by rw [hg]; exact Nat.ne_of_gt (blk_lt (g := gb101) (o := .cells #[.slice A0_0 l0_0.length c0_0, .int .i64 a0_1, .int .i64 a0_2] 26 (0, 0)) zq0) : gb103 ≠ gb101)); have n8_ := zam ((by rw [hg]; exact Nat.ne_of_lt (blk_lt (g := gb102) (o := .cells #[.int .i64 a1_0, .int .i64 a1_1, .int .i64 a1_2, .int .i64 a1_3] 29 (0, 0)) zq6) : gb102 ≠ gb103)); have n9_ := zam ((by rw [hg]; exact Nat.ne_of_gt (blk_lt (g := gb102) (o := .cells #[.int .i64 a1_0, .int .i64 a1_1, .int .i64 a1_2, .int .i64 a1_3] 29 (0, 0)) zq6) : gb103 ≠ gb102)); clear BK101; clear BK102; clear HB; have BK101 := n0_; have BK102 := n1_; have HB := n2_; have BK103 := n3_; have GW103 := n4_; have GE103 := n5_; have NB101_103 := n6_; have NB103_101 := n7_; have NB102_103 := n8_; have NB103_102 := n9_; clear n0_ n1_ n2_ n3_ n4_ n5_ n6_ n7_ n8_ n9_; clear hb hbox hg))
 (try simp only [Act.put, zsa, zsz, zss])
 go_cut [31] (fun v31 wc => ∃ (kq : Nat) (x31_7 : Bool), v31 = .bool x31_7 ∧ Aside0 (isobathlaw07_SoundFinds.j0 kq a3 a4 l5 a6 x31_7 l0_0 a0_1 a0_2 a1_0 a1_1 a1_2 a1_3 a2_0 a2_1 = some r) ∧ Aside0 (kq ≤ k) ∧ Aside0 (wc.heap[gb101]? = some (.cells #[(.slice A0_0 l0_0.length c0_0), .int .i64 a0_1, .int .i64 a0_2] 26 (0, 0))) ∧ Aside0 (wc.heap[gb102]? = some (.cells #[.int .i64 a1_0, .int .i64 a1_1, .int .i64 a1_2, .int .i64 a1_3] 29 (0, 0))) ∧ Aside0 (wc.heap[gb103]? = some (.cells #[.int .u16 a2_0, .int .u16 a2_1] 57 (0, 0))) ∧ Aside0 (Below w.heap.size w wc))
 case first =>
  have H := HC8.out
  clear HC8
  replace H := Option.bind_eq_some_iff.mp H
  obtain ⟨t104, A120, H⟩ := H
  replace H : (if t104 = 0 then ((isobathref01_ValidBox.f a1_0 a1_1 a1_2 a1_3).bind fun t105 => (isobathlaw07_SoundFinds.j0 k a3 a4 l5 a6 (!t105) l0_0 a0_1 a0_2 a1_0 a1_1 a1_2 a1_3 a2_0 a2_1)) else (isobathlaw07_SoundFinds.j0 k a3 a4 l5 a6 true l0_0 a0_1 a0_2 a1_0 a1_1 a1_2 a1_3 a2_0 a2_1)) = some r := H
  have A12 := zam A120
  clear A120
  by_cases c13 : t104 = 0
  ·rw [if_pos c13] at H
   have c13b0 : (t104 == 0) = true := beq_iff_eq.mpr c13
   have c13b1 : (t104 != 0) = false := bne_eq_false_iff_eq.mpr c13
   clear c13
   (first | rw [c13b0] | (simp only [i64_w, i32_w]; rw [c13b0]) | skip)
   replace H := Option.bind_eq_some_iff.mp H
   obtain ⟨t105, A140, H⟩ := H
   replace H : (isobathlaw07_SoundFinds.j0 k a3 a4 l5 a6 (!t105) l0_0 a0_1 a0_2 a1_0 a1_1 a1_2 a1_3 a2_0 a2_1) = some r := H
   have A14 := zam A140
   clear A140
   have H' := zam H
   clear H
   have hnb15 := NB101_102.out
   have hnc15 := NB102_101.out
   have hnb16 := NB101_103.out
   have hnc16 := NB103_101.out
   have hcz17_0 : w11.cell? ⟨gb101, 0, none⟩ = some (.slice A0_0 l0_0.length c0_0) := (zkc BK101.out 0).trans rfl
   have hcz17_1 : w11.cell? ⟨gb101, 1, none⟩ = some (.int .i64 a0_1) := (zkc BK101.out 1).trans rfl
   have hcz17_2 : w11.cell? ⟨gb101, 2, none⟩ = some (.int .i64 a0_2) := (zkc BK101.out 2).trans rfl
   have hfz17_0 := zkz BK101.out 0
   have hfz17_1 := zkz BK101.out 1
   have hfz17_2 := zkz BK101.out 2
   go_wp2_with (first | ((with_reducible refine zgc (f := 24) rfl ?_); refine goesL_ (some 25) rfl rfl Try.func24 (by kernel_rfl) rfl #[.agg #[.slice A0_0 l0_0.length c0_0, .int .i64 a0_1, .int .i64 a0_2]] rfl zq4 ?_; (with_reducible refine (isobathref07_CheckNet.calls k _ _ l0_0 a0_1 a0_2 t104 _ ?side1 ?side2 A12.out).mono ?_); (case side1 => repeat (first | exact (Kd.C_below HR0_0.out HB.out) | (with_reducible refine Kd.C_alloc ?_ _) | (with_reducible refine Kd.C_drewN ?_ _) | (with_reducible refine Kd.C_drew ?_))); (case side2 => exact HC0_0.out); rintro e w18 ⟨rfl, hb⟩; refine ⟨_, rfl, ?_⟩; have n0_ := zam (zkb (g := gb101) (o := .cells #[.slice A0_0 l0_0.length c0_0, .int .i64 a0_1, .int .i64 a0_2] 26 (0, 0)) zq0 hb); have n1_ := zam (zkb (g := gb102) (o := .cells #[.int .i64 a1_0, .int .i64 a1_1, .int .i64 a1_2, .int .i64 a1_3] 29 (0, 0)) zq6 hb); have n2_ := zam (zkb (g := gb103) (o := .cells #[.int .u16 a2_0, .int .u16 a2_1] 57 (0, 0)) zq7 hb); have n3_ := zam (zbt zq5 hb); clear BK101; clear BK102; clear BK103; clear HB; have BK101 := n0_; have BK102 := n1_; have BK103 := n2_; have HB := n3_; clear n0_ n1_ n2_ n3_; (try clear hb); (try clear hb2); (try clear hk); (try clear hi); have hnb19 := NB102_103.out; have hnc19 := NB103_102.out; have hcz20_0 : w18.cell? ⟨gb102, 0, none⟩ = some (.int .i64 a1_0) := (zkc BK102.out 0).trans rfl; have hcz20_1 : w18.cell? ⟨gb102, 1, none⟩ = some (.int .i64 a1_1) := (zkc BK102.out 1).trans rfl; have hcz20_2 : w18.cell? ⟨gb102, 2, none⟩ = some (.int .i64 a1_2) := (zkc BK102.out 2).trans rfl; have hcz20_3 : w18.cell? ⟨gb102, 3, none⟩ = some (.int .i64 a1_3) := (zkc BK102.out 3).trans rfl; have hfz20_0 := zkz BK102.out 0; have hfz20_1 := zkz BK102.out 1; have hfz20_2 := zkz BK102.out 2; have hfz20_3 := zkz BK102.out 3) | (go_at_call 25; (with_reducible refine (isobathref01_ValidBox.calls a1_0 a1_1 a1_2 a1_3 t105 _ A14.out).mono ?_); rintro e w21 ⟨rfl, hb⟩; have n0_ := zam (zkb (g := gb101) (o := .cells #[.slice A0_0 l0_0.length c0_0, .int .i64 a0_1, .int .i64 a0_2] 26 (0, 0)) zq0 hb); have n1_ := zam (zkb (g := gb102) (o := .cells #[.int .i64 a1_0, .int .i64 a1_1, .int .i64 a1_2, .int .i64 a1_3] 29 (0, 0)) zq6 hb); have n2_ := zam (zkb (g := gb103) (o := .cells #[.int .u16 a2_0, .int .u16 a2_1] 57 (0, 0)) zq7 hb); have n3_ := zam (zbt zq5 hb); clear BK101; clear BK102; clear BK103; clear HB; have BK101 := n0_; have BK102 := n1_; have BK103 := n2_; have HB := n3_; clear n0_ n1_ n2_ n3_; (try clear hb); (try clear hb2); (try clear hk); (try clear hi)))
   go_meet
   case rel => exact ⟨_, (!t105), zq9, H', ⟨by first | omega | exact Nat.le_refl _⟩, ⟨by (with_reducible repeat (first | refine zkn ?_ _ | refine zkd ?_ | refine zka ?_ _)); exact BK101.out⟩, ⟨by (with_reducible repeat (first | refine zkn ?_ _ | refine zkd ?_ | refine zka ?_ _)); exact BK102.out⟩, ⟨by (with_reducible repeat (first | refine zkn ?_ _ | refine zkd ?_ | refine zka ?_ _)); exact BK103.out⟩, ⟨by repeat (first | (with_reducible first | exact HB.out | apply zba | apply zbn | apply zb1 | refine zbs ?_ GE101.out | refine zbs ?_ GE102.out | refine zbs ?_ GE103.out) | exact HB.out)⟩⟩
  rw [if_neg c13] at H
  have c13b0 : (t104 == 0) = false := beq_eq_false_iff_ne.mpr c13
  have c13b1 : (t104 != 0) = true := bne_iff_ne.mpr c13
  (first | rw [c13b0] | (simp only [i64_w, i32_w]; rw [c13b0]) | skip)
  have H' := zam H
  clear H
  have hnb22 := NB101_102.out
  have hnc22 := NB102_101.out
  have hnb23 := NB101_103.out
  have hnc23 := NB103_101.out
  have hcz24_0 : w11.cell? ⟨gb101, 0, none⟩ = some (.slice A0_0 l0_0.length c0_0) := (zkc BK101.out 0).trans rfl
  have hcz24_1 : w11.cell? ⟨gb101, 1, none⟩ = some (.int .i64 a0_1) := (zkc BK101.out 1).trans rfl
  have hcz24_2 : w11.cell? ⟨gb101, 2, none⟩ = some (.int .i64 a0_2) := (zkc BK101.out 2).trans rfl
  have hfz24_0 := zkz BK101.out 0
  have hfz24_1 := zkz BK101.out 1
  have hfz24_2 := zkz BK101.out 2
  go_wp2_with (first | ((with_reducible refine zgc (f := 24) rfl ?_); refine goesL_ (some 25) rfl rfl Try.func24 (by kernel_rfl) rfl #[.agg #[.slice A0_0 l0_0.length c0_0, .int .i64 a0_1, .int .i64 a0_2]] rfl zq4 ?_; (with_reducible refine (isobathref07_CheckNet.calls k _ _ l0_0 a0_1 a0_2 t104 _ ?side1 ?side2 A12.out).mono ?_); (case side1 => repeat (first | exact (Kd.C_below HR0_0.out HB.out) | (with_reducible refine Kd.C_alloc ?_ _) | (with_reducible refine Kd.C_drewN ?_ _) | (with_reducible refine Kd.C_drew ?_))); (case side2 => exact HC0_0.out); rintro e w25 ⟨rfl, hb⟩; refine ⟨_, rfl, ?_⟩; have n0_ := zam (zkb (g := gb101) (o := .cells #[.slice A0_0 l0_0.length c0_0, .int .i64 a0_1, .int .i64 a0_2] 26 (0, 0)) zq0 hb); have n1_ := zam (zkb (g := gb102) (o := .cells #[.int .i64 a1_0, .int .i64 a1_1, .int .i64 a1_2, .int .i64 a1_3] 29 (0, 0)) zq6 hb); have n2_ := zam (zkb (g := gb103) (o := .cells #[.int .u16 a2_0, .int .u16 a2_1] 57 (0, 0)) zq7 hb); have n3_ := zam (zbt zq5 hb); clear BK101; clear BK102; clear BK103; clear HB; have BK101 := n0_; have BK102 := n1_; have BK103 := n2_; have HB := n3_; clear n0_ n1_ n2_ n3_; (try clear hb); (try clear hb2); (try clear hk); (try clear hi)))
  go_meet
  case rel => exact ⟨_, (true), zq9, H', ⟨by first | omega | exact Nat.le_refl _⟩, ⟨by (with_reducible repeat (first | refine zkn ?_ _ | refine zkd ?_ | refine zka ?_ _)); exact BK101.out⟩, ⟨by (with_reducible repeat (first | refine zkn ?_ _ | refine zkd ?_ | refine zka ?_ _)); exact BK102.out⟩, ⟨by (with_reducible repeat (first | refine zkn ?_ _ | refine zkd ?_ | refine zka ?_ _)); exact BK103.out⟩, ⟨by repeat (first | (with_reducible first | exact HB.out | apply zba | apply zbn | apply zb1 | refine zbs ?_ GE101.out | refine zbs ?_ GE102.out | refine zbs ?_ GE103.out) | exact HB.out)⟩⟩
 case rest =>
  clear HC8
  try clear c1
  try clear c2
  try clear p2
  try clear c5
  try clear c13
  try clear c13b0
  try clear c13b1
  try clear c15
  try clear c16
  try clear c19
  try clear c22
  try clear c23
  try clear c24
  try clear hcz17_0
  try clear hcz17_1
  try clear hcz17_2
  try clear hcz20_0
  try clear hcz20_1
  try clear hcz20_2
  try clear hcz20_3
  try clear hcz24_0
  try clear hcz24_1
  try clear hcz24_2
  try clear hfz17_0
  try clear hfz17_1
  try clear hfz17_2
  try clear hfz20_0
  try clear hfz20_1
  try clear hfz20_2
  try clear hfz20_3
  try clear hfz24_0
  try clear hfz24_1
  try clear hfz24_2
  obtain ⟨kq, x31_7, rfl, HA, HJ7, BK101, BK102, BK103, HB⟩ := hcut
  cases kq with
  | zero => exact absurd HA.out (by simp [isobathlaw07_SoundFinds.j0])
  | succ kj7 =>
   have H := HA.out
   clear HA
   simp only [isobathlaw07_SoundFinds.j0] at H
   by_cases c26 : x31_7 = true
   ·subst c26
    have H1 : ((isobathlaw07_Works.f kj7).bind fun t106 => (some t106)) = some r := by rw [if_pos rfl] at H; exact H
    clear H
    have H := H1
    clear H1
    replace H := Option.bind_eq_some_iff.mp H
    obtain ⟨t106, A270, H⟩ := H
    replace H : (some t106) = some r := H
    have A27 := zam A270
    clear A270
    obtain rfl := zsi H
    go_wp2_with (first | ((with_reducible refine zgc (f := 14) rfl ?_); refine goesL_ (some 32) rfl rfl Try.func14 (by kernel_rfl) rfl #[] rfl zq4 ?_; (with_reducible refine (isobathlaw07_Works.calls kj7  t106 _ A27.out).mono ?_); rintro e w28 ⟨rfl, hb⟩; refine ⟨_, rfl, ?_⟩; have n0_ := zam (zkb (g := gb101) (o := .cells #[.slice A0_0 l0_0.length c0_0, .int .i64 a0_1, .int .i64 a0_2] 26 (0, 0)) zq0 hb); have n1_ := zam (zkb (g := gb102) (o := .cells #[.int .i64 a1_0, .int .i64 a1_1, .int .i64 a1_2, .int .i64 a1_3] 29 (0, 0)) zq6 hb); have n2_ := zam (zkb (g := gb103) (o := .cells #[.int .u16 a2_0, .int .u16 a2_1] 57 (0, 0)) zq7 hb); have n3_ := zam (zbt zq5 hb); clear BK101; clear BK102; clear BK103; clear HB; have BK101 := n0_; have BK102 := n1_; have BK103 := n2_; have HB := n3_; clear n0_ n1_ n2_ n3_; (try clear hb); (try clear hb2); (try clear hk); (try clear hi)))
    go_ret
    exact ⟨by first | rfl | (simp [errW_none, errW_some] <;> rfl) | (simp [*, errW_none, errW_some] <;> rfl), by repeat (first | (with_reducible first | exact HB.out | apply zba | apply zbn | apply zb1 | refine zbs ?_ GE101.out | refine zbs ?_ GE102.out | refine zbs ?_ GE103.out) | exact HB.out)⟩
   replace c26 := Bool.eq_false_iff.mpr c26
   subst c26
   have H1 : ((isobathlaw01_Part.f a1_0 a1_1 a2_0).bind fun t107 => ((isobathlaw01_Part.f a1_2 a1_3 a2_1).bind fun t108 => ((isobathlaw01_Part.f a0_1 a0_2 a4).bind fun t109 => ((isobathlaw07_truth.f kj7 l0_0 a0_1 a0_2 t107 t108 (wrap64 (a3)) t109 l5).bind fun t110 => ((sound_Region.f kj7 l0_0 a0_1 a0_2 t110 a1_0 a1_1 a1_2 a1_3 (Int.tmod (wrap64 (a6)) 6)).bind fun bt113 => (if bt113.2 = 0 then (isobathlaw07_SoundFinds.l0 kj7 t107 t108 (wrap64 (a3)) t110 bt113.1 0 l0_0 a0_1 a0_2) else (none))))))) = some r := by rw [if_neg (show ¬ (false = true) by decide)] at H; exact H
   clear H
   have H := H1
   clear H1
   replace H := Option.bind_eq_some_iff.mp H
   obtain ⟨t107, A290, H⟩ := H
   replace H : ((isobathlaw01_Part.f a1_2 a1_3 a2_1).bind fun t108 => ((isobathlaw01_Part.f a0_1 a0_2 a4).bind fun t109 => ((isobathlaw07_truth.f kj7 l0_0 a0_1 a0_2 t107 t108 (wrap64 (a3)) t109 l5).bind fun t110 => ((sound_Region.f kj7 l0_0 a0_1 a0_2 t110 a1_0 a1_1 a1_2 a1_3 (Int.tmod (wrap64 (a6)) 6)).bind fun bt113 => (if bt113.2 = 0 then (isobathlaw07_SoundFinds.l0 kj7 t107 t108 (wrap64 (a3)) t110 bt113.1 0 l0_0 a0_1 a0_2) else (none)))))) = some r := H
   have A29 := zam A290
   clear A290
   replace H := Option.bind_eq_some_iff.mp H
   obtain ⟨t108, A300, H⟩ := H
   replace H : ((isobathlaw01_Part.f a0_1 a0_2 a4).bind fun t109 => ((isobathlaw07_truth.f kj7 l0_0 a0_1 a0_2 t107 t108 (wrap64 (a3)) t109 l5).bind fun t110 => ((sound_Region.f kj7 l0_0 a0_1 a0_2 t110 a1_0 a1_1 a1_2 a1_3 (Int.tmod (wrap64 (a6)) 6)).bind fun bt113 => (if bt113.2 = 0 then (isobathlaw07_SoundFinds.l0 kj7 t107 t108 (wrap64 (a3)) t110 bt113.1 0 l0_0 a0_1 a0_2) else (none))))) = some r := H
   have A30 := zam A300
   clear A300
   replace H := Option.bind_eq_some_iff.mp H
   obtain ⟨t109, A310, H⟩ := H
   replace H : ((isobathlaw07_truth.f kj7 l0_0 a0_1 a0_2 t107 t108 (wrap64 (a3)) t109 l5).bind fun t110 => ((sound_Region.f kj7 l0_0 a0_1 a0_2 t110 a1_0 a1_1 a1_2 a1_3 (Int.tmod (wrap64 (a6)) 6)).bind fun bt113 => (if bt113.2 = 0 then (isobathlaw07_SoundFinds.l0 kj7 t107 t108 (wrap64 (a3)) t110 bt113.1 0 l0_0 a0_1 a0_2) else (none)))) = some r := H
   have A31 := zam A310
   clear A310
   replace H := Option.bind_eq_some_iff.mp H
   obtain ⟨t110, A320, H⟩ := H
   replace H : ((sound_Region.f kj7 l0_0 a0_1 a0_2 t110 a1_0 a1_1 a1_2 a1_3 (Int.tmod (wrap64 (a6)) 6)).bind fun bt113 => (if bt113.2 = 0 then (isobathlaw07_SoundFinds.l0 kj7 t107 t108 (wrap64 (a3)) t110 bt113.1 0 l0_0 a0_1 a0_2) else (none))) = some r := H
   have A32 := zam A320
   clear A320
   replace H := Option.bind_eq_some_iff.mp H
   obtain ⟨⟨t113, t116⟩, A330, H⟩ := H
   replace H : (if t116 = 0 then (isobathlaw07_SoundFinds.l0 kj7 t107 t108 (wrap64 (a3)) t110 t113 0 l0_0 a0_1 a0_2) else (none)) = some r := H
   have A33 := zam A330
   clear A330
   by_cases c34 : t116 = 0
   ·rw [if_pos c34] at H
    have c34b0 : (t116 == 0) = true := beq_iff_eq.mpr c34
    have c34b1 : (t116 != 0) = false := bne_eq_false_iff_eq.mpr c34
    clear c34
    have H' := zam H
    clear H
    try go_wp2
    have n0_ := zam (zkd BK101.out)
    have n1_ := zam (zkd BK102.out)
    have n2_ := zam (zkd BK103.out)
    have n3_ := zam (zb1 HB.out)
    clear BK101
    clear BK102
    clear BK103
    clear HB
    have BK101 := n0_
    have BK102 := n1_
    have BK103 := n2_
    have HB := n3_
    clear n0_ n1_ n2_ n3_
    refine start_ (n := 12) (S := fun w' => w'.cell? ⟨gb102, 0, none⟩ = some (.int .i64 a1_0) ∧ w'.cell? ⟨gb102, 1, none⟩ = some (.int .i64 a1_1) ∧ w'.cell? ⟨gb102, 2, none⟩ = some (.int .i64 a1_2) ∧ w'.cell? ⟨gb102, 3, none⟩ = some (.int .i64 a1_3) ∧ w'.cell? ⟨gb103, 0, none⟩ = some (.int .u16 a2_0) ∧ w'.cell? ⟨gb103, 1, none⟩ = some (.int .u16 a2_1)) (ds := []) #[false, false, false, false, false, false, false, false, false, false, false, false] (by kernel_rfl) rfl rfl ⟨(zkc BK102.out 0).trans rfl, (zkc BK102.out 1).trans rfl, (zkc BK102.out 2).trans rfl, (zkc BK102.out 3).trans rfl, (zkc BK103.out 0).trans rfl, (zkc BK103.out 1).trans rfl⟩ (fun hHeld => ?_); refine with_tabW isobathlaw07_SoundFinds.tab3 isobathlaw07_SoundFinds.bits3 (fun HT_ HW_ => ?_)
    generalize wc.drew = w35 at BK101 BK102 BK103 HB hHeld ⊢
    refine pure_ (i := 0) (N := some 33) (v := ?_) (a' := ?_) #[true, false, false, false, false, false, false, false, false, false, false, false] rfl rfl (any_of HT_.out (by kernel_rfl)) (fun _ _ _ h => h) (Or.inl ⟨by rfl, ?_⟩) ?_ ?_
    rotate_left
    ·intro w'
     go_simp
     with_reducible rfl
    rotate_left
    ·simp only [Act.put, zsa, zsz, zss, i64_w, i32_w]
     rfl
    refine pure_ (i := 2) (N := some 35) (v := ?_) (a' := ?_) #[true, false, true, false, false, false, false, false, false, false, false, false] rfl rfl (any_of HT_.out (by kernel_rfl)) (fun _ _ _ h => h) (Or.inl ⟨by rfl, ?_⟩) ?_ ?_
    rotate_left
    ·intro w'
     go_simp
     with_reducible rfl
    rotate_left
    ·simp only [Act.put, zsa, zsz, zss, i64_w, i32_w]
     rfl
    refine pure_ (i := 5) (N := some 38) (v := ?_) (a' := ?_) #[true, false, true, false, false, true, false, false, false, false, false, false] rfl rfl (any_of HT_.out (by kernel_rfl)) (fun _ _ _ h => h) (Or.inl ⟨by rfl, ?_⟩) ?_ ?_
    rotate_left
    ·intro w'
     go_simp
     with_reducible rfl
    rotate_left
    ·simp only [Act.put, zsa, zsz, zss, i64_w, i32_w]
     rfl
    refine pure_ (i := 7) (N := some 40) (v := ?_) (a' := ?_) #[true, false, true, false, false, true, false, true, false, false, false, false] rfl rfl (any_of HT_.out (by kernel_rfl)) (fun _ _ _ h => h) (Or.inl ⟨by rfl, ?_⟩) ?_ ?_
    rotate_left
    ·intro w'
     go_simp
     with_reducible rfl
    rotate_left
    ·simp only [Act.put, zsa, zsz, zss, i64_w, i32_w]
     rfl
    refine take_ (i := 1) (N := some 34) (v := ?_) (a' := ?_) #[true, true, true, false, false, true, false, true, false, false, false, false] rfl rfl (take_ofW HT_.out HW_.out (by kernel_rfl)) (fun _ _ _ h => h) (Or.inl ⟨by rfl, ?_⟩) hHeld ?_ ?_
    rotate_left
    ·rintro w' ⟨s0, s1, s2, s3, s4, s5⟩
     go_simp
     with_reducible rfl
    rotate_left
    ·simp only [Act.put, zsa, zsz, zss, i64_w, i32_w]
     rfl
    refine take_ (i := 3) (N := some 36) (v := ?_) (a' := ?_) #[true, true, true, true, false, true, false, true, false, false, false, false] rfl rfl (take_ofW HT_.out HW_.out (by kernel_rfl)) (fun _ _ _ h => h) (Or.inl ⟨by rfl, ?_⟩) hHeld ?_ ?_
    rotate_left
    ·rintro w' ⟨s0, s1, s2, s3, s4, s5⟩
     go_simp
     with_reducible rfl
    rotate_left
    ·simp only [Act.put, zsa, zsz, zss, i64_w, i32_w]
     rfl
    refine take_ (i := 6) (N := some 39) (v := ?_) (a' := ?_) #[true, true, true, true, false, true, true, true, false, false, false, false] rfl rfl (take_ofW HT_.out HW_.out (by kernel_rfl)) (fun _ _ _ h => h) (Or.inl ⟨by rfl, ?_⟩) hHeld ?_ ?_
    rotate_left
    ·rintro w' ⟨s0, s1, s2, s3, s4, s5⟩
     go_simp
     with_reducible rfl
    rotate_left
    ·simp only [Act.put, zsa, zsz, zss, i64_w, i32_w]
     rfl
    refine take_ (i := 8) (N := some 41) (v := ?_) (a' := ?_) #[true, true, true, true, false, true, true, true, true, false, false, false] rfl rfl (take_ofW HT_.out HW_.out (by kernel_rfl)) (fun _ _ _ h => h) (Or.inl ⟨by rfl, ?_⟩) hHeld ?_ ?_
    rotate_left
    ·rintro w' ⟨s0, s1, s2, s3, s4, s5⟩
     go_simp
     with_reducible rfl
    rotate_left
    ·simp only [Act.put, zsa, zsz, zss, i64_w, i32_w]
     rfl
    refine one_ (i := 4) (N := some 37) #[true, true, true, true, true, true, true, true, true, false, false, false] rfl rfl (one_of HT_.out (by kernel_rfl)) (by decide) (fun K hK => ?_)
    refine goes_ Try.func19 (by kernel_rfl) rfl #[.agg #[.int .i64 a1_0, .int .i64 a1_1], .int .u16 a2_0] (by rfl) rfl rfl zq4 ?_
    with_reducible refine (isobathlaw01_Part.calls a1_0 a1_1 a2_0 t107 _ A29.out).mono ?_
    rintro e w36 ⟨rfl, hb⟩
    refine ⟨_, rfl, ?_⟩
    have n0_ := zam (zkb (g := gb101) (o := .cells #[.slice A0_0 l0_0.length c0_0, .int .i64 a0_1, .int .i64 a0_2] 26 (0, 0)) zq0 hb)
    have n1_ := zam (zkb (g := gb102) (o := .cells #[.int .i64 a1_0, .int .i64 a1_1, .int .i64 a1_2, .int .i64 a1_3] 29 (0, 0)) zq6 hb)
    have n2_ := zam (zkb (g := gb103) (o := .cells #[.int .u16 a2_0, .int .u16 a2_1] 57 (0, 0)) zq7 hb)
    have n3_ := zam (zbt zq5 hb)
    clear BK101
    clear BK102
    clear BK103
    clear HB
    have BK101 := n0_
    have BK102 := n1_
    have BK103 := n2_
    have HB := n3_
    clear n0_ n1_ n2_ n3_
    (try clear hb)
    (try clear hb2)
    (try clear hk)
    (try clear hi)
    refine hK.out _ _ ⟨(zkc BK102.out 0).trans rfl, (zkc BK102.out 1).trans rfl, (zkc BK102.out 2).trans rfl, (zkc BK102.out 3).trans rfl, (zkc BK103.out 0).trans rfl, (zkc BK103.out 1).trans rfl⟩ (fun hHeld => ?_)
    clear hK K
    refine norm_ (a' := ?_) ?_ ?_
    rotate_left
    ·show Act.put _ (some 37) _ = _
     simp only [Act.put, zsa, zsz, zss, i64_w, i32_w]
     rfl
    refine one_ (i := 9) (N := some 42) #[true, true, true, true, true, true, true, true, true, true, false, false] rfl rfl (one_of HT_.out (by kernel_rfl)) (by decide) (fun K hK => ?_)
    refine goes_ Try.func19 (by kernel_rfl) rfl #[.agg #[.int .i64 a1_2, .int .i64 a1_3], .int .u16 a2_1] (by rfl) rfl rfl zq4 ?_
    with_reducible refine (isobathlaw01_Part.calls a1_2 a1_3 a2_1 t108 _ A30.out).mono ?_
    rintro e w37 ⟨rfl, hb⟩
    refine ⟨_, rfl, ?_⟩
    have n0_ := zam (zkb (g := gb101) (o := .cells #[.slice A0_0 l0_0.length c0_0, .int .i64 a0_1, .int .i64 a0_2] 26 (0, 0)) zq0 hb)
    have n1_ := zam (zkb (g := gb102) (o := .cells #[.int .i64 a1_0, .int .i64 a1_1, .int .i64 a1_2, .int .i64 a1_3] 29 (0, 0)) zq6 hb)
    have n2_ := zam (zkb (g := gb103) (o := .cells #[.int .u16 a2_0, .int .u16 a2_1] 57 (0, 0)) zq7 hb)
    have n3_ := zam (zbt zq5 hb)
    clear BK101
    clear BK102
    clear BK103
    clear HB
    have BK101 := n0_
    have BK102 := n1_
    have BK103 := n2_
    have HB := n3_
    clear n0_ n1_ n2_ n3_
    (try clear hb)
    (try clear hb2)
    (try clear hk)
    (try clear hi)
    refine hK.out _ _ ⟨(zkc BK102.out 0).trans rfl, (zkc BK102.out 1).trans rfl, (zkc BK102.out 2).trans rfl, (zkc BK102.out 3).trans rfl, (zkc BK103.out 0).trans rfl, (zkc BK103.out 1).trans rfl⟩ (fun hHeld => ?_)
    clear hK K
    refine norm_ (a' := ?_) ?_ ?_
    rotate_left
    ·show Act.put _ (some 42) _ = _
     simp only [Act.put, zsa, zsz, zss, i64_w, i32_w]
     rfl
    refine pure_ (i := 10) (N := some 15) (v := ?_) (a' := ?_) #[true, true, true, true, true, true, true, true, true, true, true, false] rfl rfl (any_of HT_.out (by kernel_rfl)) (fun _ _ _ h => h) (Or.inl ⟨by rfl, ?_⟩) ?_ ?_
    rotate_left
    ·intro w'
     go_simp
     with_reducible rfl
    rotate_left
    ·simp only [Act.put, zsa, zsz, zss, i64_w, i32_w]
     rfl
    refine pure_ (i := 11) (N := some 16) (v := ?_) (a' := ?_) #[true, true, true, true, true, true, true, true, true, true, true, true] rfl rfl (any_of HT_.out (by kernel_rfl)) (fun _ _ _ h => h) (Or.inl ⟨by rfl, ?_⟩) ?_ ?_
    rotate_left
    ·intro w'
     go_simp
     with_reducible rfl
    rotate_left
    ·simp only [Act.put, zsa, zsz, zss, i64_w, i32_w]
     rfl
    refine done_ (done_of HT_.out (by kernel_rfl)) ?_
    try go_wp2
    have n0_ := zam (zkd BK101.out)
    have n1_ := zam (zkd BK102.out)
    have n2_ := zam (zkd BK103.out)
    have n3_ := zam (zb1 HB.out)
    clear BK101
    clear BK102
    clear BK103
    clear HB
    have BK101 := n0_
    have BK102 := n1_
    have BK103 := n2_
    have HB := n3_
    clear n0_ n1_ n2_ n3_
    refine start_ (n := 11) (S := fun w' => w'.cell? ⟨gb101, 0, none⟩ = some (.slice A0_0 l0_0.length c0_0) ∧ w'.cell? ⟨gb101, 1, none⟩ = some (.int .i64 a0_1) ∧ w'.cell? ⟨gb101, 2, none⟩ = some (.int .i64 a0_2)) (ds := []) #[false, false, false, false, false, false, false, false, false, false, false] (by kernel_rfl) rfl rfl ⟨(zkc BK101.out 0).trans rfl, (zkc BK101.out 1).trans rfl, (zkc BK101.out 2).trans rfl⟩ (fun hHeld => ?_); refine with_tabW isobathlaw07_SoundFinds.tab5 isobathlaw07_SoundFinds.bits5 (fun HT_ HW_ => ?_)
    generalize w37.drew = w38 at BK101 BK102 BK103 HB hHeld ⊢
    refine pure_ (i := 1) (N := some 46) (v := ?_) (a' := ?_) #[false, true, false, false, false, false, false, false, false, false, false] rfl rfl (any_of HT_.out (by kernel_rfl)) (fun _ _ _ h => h) (Or.inl ⟨by rfl, ?_⟩) ?_ ?_
    rotate_left
    ·intro w'
     go_simp
     with_reducible rfl
    rotate_left
    ·simp only [Act.put, zsa, zsz, zss, i64_w, i32_w]
     rfl
    refine pure_ (i := 2) (N := some 47) (v := ?_) (a' := ?_) #[false, true, true, false, false, false, false, false, false, false, false] rfl rfl (any_of HT_.out (by kernel_rfl)) (fun _ _ _ h => h) (Or.inl ⟨by rfl, ?_⟩) ?_ ?_
    rotate_left
    ·intro w'
     go_simp
     with_reducible rfl
    rotate_left
    ·simp only [Act.put, zsa, zsz, zss, i64_w, i32_w]
     rfl
    refine pure_ (i := 3) (N := some 48) (v := ?_) (a' := ?_) #[false, true, true, true, false, false, false, false, false, false, false] rfl rfl (any_of HT_.out (by kernel_rfl)) (fun _ _ _ h => h) (Or.inl ⟨by rfl, ?_⟩) ?_ ?_
    rotate_left
    ·intro w'
     go_simp
     with_reducible rfl
    rotate_left
    ·simp only [Act.put, zsa, zsz, zss, i64_w, i32_w]
     rfl
    refine pure_ (i := 4) (N := some 49) (v := ?_) (a' := ?_) #[false, true, true, true, true, false, false, false, false, false, false] rfl rfl (any_of HT_.out (by kernel_rfl)) (fun _ _ _ h => h) (Or.inl ⟨by rfl, ?_⟩) ?_ ?_
    rotate_left
    ·intro w'
     go_simp
     with_reducible rfl
    rotate_left
    ·simp only [Act.put, zsa, zsz, zss, i64_w, i32_w]
     rfl
    refine pure_ (i := 6) (N := some 51) (v := ?_) (a' := ?_) #[false, true, true, true, true, false, true, false, false, false, false] rfl rfl (any_of HT_.out (by kernel_rfl)) (fun _ _ _ h => h) (Or.inl ⟨by rfl, ?_⟩) ?_ ?_
    rotate_left
    ·intro w'
     go_simp
     with_reducible rfl
    rotate_left
    ·simp only [Act.put, zsa, zsz, zss, i64_w, i32_w]
     rfl
    refine pure_ (i := 8) (N := some 53) (v := ?_) (a' := ?_) #[false, true, true, true, true, false, true, false, true, false, false] rfl rfl (any_of HT_.out (by kernel_rfl)) (fun _ _ _ h => h) (Or.inl ⟨by rfl, ?_⟩) ?_ ?_
    rotate_left
    ·intro w'
     go_simp
     with_reducible rfl
    rotate_left
    ·simp only [Act.put, zsa, zsz, zss, i64_w, i32_w]
     rfl
    refine take_ (i := 0) (N := some 45) (v := ?_) (a' := ?_) #[true, true, true, true, true, false, true, false, true, false, false] rfl rfl (take_ofW HT_.out HW_.out (by kernel_rfl)) (fun _ _ _ h => h) (Or.inl ⟨by rfl, ?_⟩) hHeld ?_ ?_
    rotate_left
    ·rintro w' ⟨s0, s1, s2⟩
     go_simp
     with_reducible rfl
    rotate_left
    ·simp only [Act.put, zsa, zsz, zss, i64_w, i32_w]
     rfl
    refine take_ (i := 5) (N := some 50) (v := ?_) (a' := ?_) #[true, true, true, true, true, true, true, false, true, false, false] rfl rfl (take_ofW HT_.out HW_.out (by kernel_rfl)) (fun _ _ _ h => h) (Or.inl ⟨by rfl, ?_⟩) hHeld ?_ ?_
    rotate_left
    ·rintro w' ⟨s0, s1, s2⟩
     go_simp
     with_reducible rfl
    rotate_left
    ·simp only [Act.put, zsa, zsz, zss, i64_w, i32_w]
     rfl
    refine one_ (i := 7) (N := some 52) #[true, true, true, true, true, true, true, true, true, false, false] rfl rfl (one_of HT_.out (by kernel_rfl)) (by decide) (fun K hK => ?_)
    refine goes_ Try.func19 (by kernel_rfl) rfl #[.agg #[.int .i64 a0_1, .int .i64 a0_2], .int .u16 a4] (by rfl) rfl rfl zq4 ?_
    with_reducible refine (isobathlaw01_Part.calls a0_1 a0_2 a4 t109 _ A31.out).mono ?_
    rintro e w39 ⟨rfl, hb⟩
    refine ⟨_, rfl, ?_⟩
    have n0_ := zam (zkb (g := gb101) (o := .cells #[.slice A0_0 l0_0.length c0_0, .int .i64 a0_1, .int .i64 a0_2] 26 (0, 0)) zq0 hb)
    have n1_ := zam (zkb (g := gb102) (o := .cells #[.int .i64 a1_0, .int .i64 a1_1, .int .i64 a1_2, .int .i64 a1_3] 29 (0, 0)) zq6 hb)
    have n2_ := zam (zkb (g := gb103) (o := .cells #[.int .u16 a2_0, .int .u16 a2_1] 57 (0, 0)) zq7 hb)
    have n3_ := zam (zbt zq5 hb)
    clear BK101
    clear BK102
    clear BK103
    clear HB
    have BK101 := n0_
    have BK102 := n1_
    have BK103 := n2_
    have HB := n3_
    clear n0_ n1_ n2_ n3_
    (try clear hb)
    (try clear hb2)
    (try clear hk)
    (try clear hi)
    refine hK.out _ _ ⟨(zkc BK101.out 0).trans rfl, (zkc BK101.out 1).trans rfl, (zkc BK101.out 2).trans rfl⟩ (fun hHeld => ?_)
    clear hK K
    refine norm_ (a' := ?_) ?_ ?_
    rotate_left
    ·show Act.put _ (some 52) _ = _
     simp only [Act.put, zsa, zsz, zss, i64_w, i32_w]
     rfl
    refine one_ (i := 9) (N := some 54) #[true, true, true, true, true, true, true, true, true, true, false] rfl rfl (one_of HT_.out (by kernel_rfl)) (by decide) (fun K hK => ?_)
    refine goes_ Try.func26 (by kernel_rfl) rfl #[.agg #[.slice A0_0 l0_0.length c0_0, .int .i64 a0_1, .int .i64 a0_2], .int .i64 t107, .int .i64 t108, .int .i64 (wrap64 (a3)), .int .i64 t109, .slice A5 l5.length c5] (by rfl) rfl rfl zq4 ?_
    with_reducible refine (isobathlaw07_truth.calls kj7 _ _ l0_0 a0_1 a0_2 t107 t108 (wrap64 (a3)) t109 _ _ l5 t110 _ ?side1 ?side2 ?side3 ?side4 A32.out).mono ?_
    (case side1 => repeat (first | exact (Kd.C_below HR0_0.out HB.out) | (with_reducible refine Kd.C_alloc ?_ _) | (with_reducible refine Kd.C_drewN ?_ _) | (with_reducible refine Kd.C_drew ?_)))
    (case side2 => exact HC0_0.out)
    (case side3 => repeat (first | exact (Kd.C_below HR5.out HB.out) | (with_reducible refine Kd.C_alloc ?_ _) | (with_reducible refine Kd.C_drewN ?_ _) | (with_reducible refine Kd.C_drew ?_)))
    (case side4 => exact HC5.out)
    rintro e w40 ⟨v111, rfl, ho0, hb⟩
    refine ⟨_, rfl, ?_⟩
    have n0_ := zam (Kd.R_lower ho0 (zbz zq5))
    have n1_ := zam (zkb (g := gb101) (o := .cells #[.slice A0_0 l0_0.length c0_0, .int .i64 a0_1, .int .i64 a0_2] 26 (0, 0)) zq0 hb)
    have n2_ := zam (zkb (g := gb102) (o := .cells #[.int .i64 a1_0, .int .i64 a1_1, .int .i64 a1_2, .int .i64 a1_3] 29 (0, 0)) zq6 hb)
    have n3_ := zam (zkb (g := gb103) (o := .cells #[.int .u16 a2_0, .int .u16 a2_1] 57 (0, 0)) zq7 hb)
    have n4_ := zam (zbt zq5 hb)
    clear BK101
    clear BK102
    clear BK103
    clear HB
    have HO112 := n0_
    have BK101 := n1_
    have BK102 := n2_
    have BK103 := n3_
    have HB := n4_
    clear n0_ n1_ n2_ n3_ n4_
    (try clear hb)
    (try clear hb2)
    (try clear hk)
    (try clear hi)
    (try clear ho0)
    refine hK.out _ _ ⟨(zkc BK101.out 0).trans rfl, (zkc BK101.out 1).trans rfl, (zkc BK101.out 2).trans rfl⟩ (fun hHeld => ?_)
    clear hK K
    refine norm_ (a' := ?_) ?_ ?_
    rotate_left
    ·show Act.put _ (some 54) _ = _
     simp only [Act.put, zsa, zsz, zss, i64_w, i32_w]
     rfl
    refine pure_ (i := 10) (N := some 18) (v := ?_) (a' := ?_) #[true, true, true, true, true, true, true, true, true, true, true] rfl rfl (any_of HT_.out (by kernel_rfl)) (fun _ _ _ h => h) (Or.inl ⟨by rfl, ?_⟩) ?_ ?_
    rotate_left
    ·intro w'
     go_simp
     with_reducible rfl
    rotate_left
    ·simp only [Act.put, zsa, zsz, zss, i64_w, i32_w]
     rfl
    refine done_ (done_of HT_.out (by kernel_rfl)) ?_
    have hnb41 := NB101_102.out
    have hnc41 := NB102_101.out
    have hnb42 := NB101_103.out
    have hnc42 := NB103_101.out
    have hcz43_0 : w40.cell? ⟨gb101, 0, none⟩ = some (.slice A0_0 l0_0.length c0_0) := (zkc BK101.out 0).trans rfl
    have hcz43_1 : w40.cell? ⟨gb101, 1, none⟩ = some (.int .i64 a0_1) := (zkc BK101.out 1).trans rfl
    have hcz43_2 : w40.cell? ⟨gb101, 2, none⟩ = some (.int .i64 a0_2) := (zkc BK101.out 2).trans rfl
    have hfz43_0 := zkz BK101.out 0
    have hfz43_1 := zkz BK101.out 1
    have hfz43_2 := zkz BK101.out 2
    have hnb44 := NB102_103.out
    have hnc44 := NB103_102.out
    have hcz45_0 : w40.cell? ⟨gb102, 0, none⟩ = some (.int .i64 a1_0) := (zkc BK102.out 0).trans rfl
    have hcz45_1 : w40.cell? ⟨gb102, 1, none⟩ = some (.int .i64 a1_1) := (zkc BK102.out 1).trans rfl
    have hcz45_2 : w40.cell? ⟨gb102, 2, none⟩ = some (.int .i64 a1_2) := (zkc BK102.out 2).trans rfl
    have hcz45_3 : w40.cell? ⟨gb102, 3, none⟩ = some (.int .i64 a1_3) := (zkc BK102.out 3).trans rfl
    have hfz45_0 := zkz BK102.out 0
    have hfz45_1 := zkz BK102.out 1
    have hfz45_2 := zkz BK102.out 2
    have hfz45_3 := zkz BK102.out 3
    obtain ⟨Ao46, co46, eo46⟩ := Kd.R_slice HO112.out
    subst eo46
    try go_wp2_with (first | ((with_reducible refine zgc (f := 15) rfl ?_); refine goesL_ (some 62) rfl rfl Try.func15 (by kernel_rfl) rfl #[.agg #[.slice A0_0 l0_0.length c0_0, .int .i64 a0_1, .int .i64 a0_2], .slice Ao46 t110.length co46, .agg #[.int .i64 a1_0, .int .i64 a1_1, .int .i64 a1_2, .int .i64 a1_3], .int .i64 (Int.tmod (wrap64 (a6)) 6)] rfl zq4 ?_; (with_reducible refine (sound_Region.calls kj7 _ _ l0_0 a0_1 a0_2 _ _ t110 a1_0 a1_1 a1_2 a1_3 (Int.tmod (wrap64 (a6)) 6) t113 t116 _ ?side1 ?side2 ?side3 ?side4 A33.out).mono ?_); (case side1 => repeat (first | exact (Kd.C_below HR0_0.out HB.out) | (with_reducible refine Kd.C_alloc ?_ _) | (with_reducible refine Kd.C_drewN ?_ _) | (with_reducible refine Kd.C_drew ?_))); (case side2 => exact HC0_0.out); (case side3 => repeat (first | exact (Kd.R_reads' HO112.out).2.2 | (with_reducible refine Kd.C_alloc ?_ _) | (with_reducible refine Kd.C_drewN ?_ _) | (with_reducible refine Kd.C_drew ?_))); (case side4 => exact (Kd.R_reads' HO112.out).2.1); rintro e w47 ⟨v114, rfl, ho0, hb⟩; refine ⟨_, rfl, ?_⟩; have n0_ := zam (Kd.R_below (by (with_reducible repeat (first | apply zRa | apply zRn | apply zRd)); exact HO112.out) hb); have n1_ := zam (Kd.R_lower (Kd.R_newB ho0 (g := gb102) (o := .cells #[.int .i64 a1_0, .int .i64 a1_1, .int .i64 a1_2, .int .i64 a1_3] 29 (0, 0)) zq6) (zbz zq5)); have n2_ := zam (zkb (g := gb101) (o := .cells #[.slice A0_0 l0_0.length c0_0, .int .i64 a0_1, .int .i64 a0_2] 26 (0, 0)) zq0 hb); have n3_ := zam (zkb (g := gb102) (o := .cells #[.int .i64 a1_0, .int .i64 a1_1, .int .i64 a1_2, .int .i64 a1_3] 29 (0, 0)) zq6 hb); have n4_ := zam (zkb (g := gb103) (o := .cells #[.int .u16 a2_0, .int .u16 a2_1] 57 (0, 0)) zq7 hb); have n5_ := zam (zbt zq5 hb); clear HO112; clear BK101; clear BK102; clear BK103; clear HB; have HO112 := n0_; have HO115 := n1_; have BK101 := n2_; have BK102 := n3_; have BK103 := n4_; have HB := n5_; clear n0_ n1_ n2_ n3_ n4_ n5_; (try clear hb); (try clear hb2); (try clear hk); (try clear hi); (try clear ho0)))
    go_loopg [21] kj7 (fun kq v21 w' => ∃ (x21_2 : Int), v21 = .int .i64 x21_2 ∧ Aside0 (isobathlaw07_SoundFinds.l0 kq t107 t108 (wrap64 (a3)) t110 t113 x21_2 l0_0 a0_1 a0_2 = some r) ∧ Aside0 (kq ≤ kj7) ∧ Aside0 (Kd.R k24 24 w' w.heap.size (fun _ => True) (.slice Ao46 t110.length co46) t110) ∧ Aside0 (Kd.R k29 29 w' w.heap.size (fun k_ => k_ ≠ gb102) v114 t113) ∧ Aside0 (w'.heap[gb101]? = some (.cells #[(.slice A0_0 l0_0.length c0_0), .int .i64 a0_1, .int .i64 a0_2] 26 (0, 0))) ∧ Aside0 (w'.heap[gb102]? = some (.cells #[.int .i64 a1_0, .int .i64 a1_1, .int .i64 a1_2, .int .i64 a1_3] 29 (0, 0))) ∧ Aside0 (w'.heap[gb103]? = some (.cells #[.int .u16 a2_0, .int .u16 a2_1] 57 (0, 0))) ∧ Aside0 (Below w.heap.size w w'))
    case atStart => exact ⟨(0), zq9, H', ⟨Nat.le_refl _⟩, ⟨by (with_reducible repeat (first | apply zRa | apply zRn | apply zRd)); exact HO112.out⟩, ⟨by (with_reducible repeat (first | apply zRa | apply zRn | apply zRd)); exact Kd.R_mono HO115.out (fun _ hk => hk.2)⟩, ⟨by (with_reducible repeat (first | refine zkn ?_ _ | refine zkd ?_ | refine zka ?_ _)); exact BK101.out⟩, ⟨by (with_reducible repeat (first | refine zkn ?_ _ | refine zkd ?_ | refine zka ?_ _)); exact BK102.out⟩, ⟨by (with_reducible repeat (first | refine zkn ?_ _ | refine zkd ?_ | refine zka ?_ _)); exact BK103.out⟩, ⟨by repeat (first | (with_reducible first | exact HB.out | apply zba | apply zbn | apply zb1 | refine zbs ?_ GE101.out | refine zbs ?_ GE102.out | refine zbs ?_ GE103.out) | exact HB.out)⟩⟩
    case round =>
     clear H'
     try clear c1
     try clear c2
     try clear p2
     try clear c3
     try clear c4
     try clear c5
     try clear p6
     try clear c13
     try clear c13b0
     try clear c13b1
     try clear c14
     try clear c15
     try clear c16
     try clear c19
     try clear c22
     try clear c23
     try clear c24
     try clear c26
     try clear c34
     try clear c34b0
     try clear c34b1
     try clear c41
     try clear c42
     try clear c44
     try clear hcz17_0
     try clear hcz17_1
     try clear hcz17_2
     try clear hcz20_0
     try clear hcz20_1
     try clear hcz20_2
     try clear hcz20_3
     try clear hcz24_0
     try clear hcz24_1
     try clear hcz24_2
     try clear hcz43_0
     try clear hcz43_1
     try clear hcz43_2
     try clear hcz45_0
     try clear hcz45_1
     try clear hcz45_2
     try clear hcz45_3
     try clear hfz17_0
     try clear hfz17_1
     try clear hfz17_2
     try clear hfz20_0
     try clear hfz20_1
     try clear hfz20_2
     try clear hfz20_3
     try clear hfz24_0
     try clear hfz24_1
     try clear hfz24_2
     try clear hfz43_0
     try clear hfz43_1
     try clear hfz43_2
     try clear hfz45_0
     try clear hfz45_1
     try clear hfz45_2
     try clear hfz45_3
     try clear p2
     obtain ⟨x21_2, rfl, HA, HK2, HO_18, HO_19, BK101, BK102, BK103, HB⟩ := hrel
     cases gk with
     | zero => exact absurd HA.out (by simp [isobathlaw07_SoundFinds.l0])
     | succ k2 =>
      have H := HA.out
      clear HA
      simp only [isobathlaw07_SoundFinds.l0] at H
      by_cases c48 : x21_2 < (t113.length : Int)
      ·rw [if_pos c48] at H
       have c48b0 : decide (x21_2 < (t113.length : Int)) = true := zdt c48
       clear c48
       by_cases c49 : 0 ≤ x21_2
       ·rw [if_pos c49] at H
        have c49b0 : decide (0 ≤ x21_2) = true := zdt c49
        clear c49
        replace H := Option.bind_eq_some_iff.mp H
        obtain ⟨t118, A500, H⟩ := H
        replace H : (if t118 = true then ((sound_Origin.f k2 l0_0 a0_1 a0_2 t110 ((rd_T29 t113 x21_2).f0.f0) ((rd_T29 t113 x21_2).f0.f1) ((rd_T29 t113 x21_2).f1.f0) ((rd_T29 t113 x21_2).f1.f1)).bind fun bt120 => (if bt120.2.2 = 0 then (if bt120.1 ≤ (wrap64 (a3)) then (if (wrap64 (a3)) ≤ bt120.2.1 then ((isobathlaw07_Works.f k2).bind fun t124 => (some t124)) else (isobathlaw07_SoundFinds.l0 k2 t107 t108 (wrap64 (a3)) t110 t113 (wrap64 (x21_2 + 1)) l0_0 a0_1 a0_2)) else (isobathlaw07_SoundFinds.l0 k2 t107 t108 (wrap64 (a3)) t110 t113 (wrap64 (x21_2 + 1)) l0_0 a0_1 a0_2)) else (isobathlaw07_SoundFinds.l0 k2 t107 t108 (wrap64 (a3)) t110 t113 (wrap64 (x21_2 + 1)) l0_0 a0_1 a0_2))) else (isobathlaw07_SoundFinds.l0 k2 t107 t108 (wrap64 (a3)) t110 t113 (wrap64 (x21_2 + 1)) l0_0 a0_1 a0_2)) = some r := H
        have A50 := zam A500
        clear A500
        by_cases c51 : t118 = true
        ·subst c51
         have H1 : ((sound_Origin.f k2 l0_0 a0_1 a0_2 t110 ((rd_T29 t113 x21_2).f0.f0) ((rd_T29 t113 x21_2).f0.f1) ((rd_T29 t113 x21_2).f1.f0) ((rd_T29 t113 x21_2).f1.f1)).bind fun bt120 => (if bt120.2.2 = 0 then (if bt120.1 ≤ (wrap64 (a3)) then (if (wrap64 (a3)) ≤ bt120.2.1 then ((isobathlaw07_Works.f k2).bind fun t124 => (some t124)) else (isobathlaw07_SoundFinds.l0 k2 t107 t108 (wrap64 (a3)) t110 t113 (wrap64 (x21_2 + 1)) l0_0 a0_1 a0_2)) else (isobathlaw07_SoundFinds.l0 k2 t107 t108 (wrap64 (a3)) t110 t113 (wrap64 (x21_2 + 1)) l0_0 a0_1 a0_2)) else (isobathlaw07_SoundFinds.l0 k2 t107 t108 (wrap64 (a3)) t110 t113 (wrap64 (x21_2 + 1)) l0_0 a0_1 a0_2))) = some r := by rw [if_pos rfl] at H; exact H
         clear H
         have H := H1
         clear H1
         replace H := Option.bind_eq_some_iff.mp H
         obtain ⟨⟨t120, t121, t122⟩, A520, H⟩ := H
         replace H : (if t122 = 0 then (if t120 ≤ (wrap64 (a3)) then (if (wrap64 (a3)) ≤ t121 then ((isobathlaw07_Works.f k2).bind fun t124 => (some t124)) else (isobathlaw07_SoundFinds.l0 k2 t107 t108 (wrap64 (a3)) t110 t113 (wrap64 (x21_2 + 1)) l0_0 a0_1 a0_2)) else (isobathlaw07_SoundFinds.l0 k2 t107 t108 (wrap64 (a3)) t110 t113 (wrap64 (x21_2 + 1)) l0_0 a0_1 a0_2)) else (isobathlaw07_SoundFinds.l0 k2 t107 t108 (wrap64 (a3)) t110 t113 (wrap64 (x21_2 + 1)) l0_0 a0_1 a0_2)) = some r := H
         have A52 := zam A520
         clear A520
         by_cases c53 : t122 = 0
         ·rw [if_pos c53] at H
          have c53b0 : (t122 == 0) = true := beq_iff_eq.mpr c53
          have c53b1 : (t122 != 0) = false := bne_eq_false_iff_eq.mpr c53
          clear c53
          by_cases c54 : t120 ≤ (wrap64 (a3))
          ·rw [if_pos c54] at H
           have c54b0 : decide (t120 ≤ (wrap64 (a3))) = true := zdt c54
           clear c54
           by_cases c55 : (wrap64 (a3)) ≤ t121
           ·rw [if_pos c55] at H
            have c55b0 : decide ((wrap64 (a3)) ≤ t121) = true := zdt c55
            clear c55
            replace H := Option.bind_eq_some_iff.mp H
            obtain ⟨t124, A560, H⟩ := H
            replace H : (some t124) = some r := H
            have A56 := zam A560
            clear A560
            obtain rfl := zsi H
            obtain ⟨Ao57, co57, eo57⟩ := Kd.R_slice HO_19.out
            subst eo57
            have p117 : 0 ≤ (x21_2 : Int) := zod zq8
            have q117 : x21_2 < (t113.length : Int) := zod zq8
            obtain ⟨ad117, e117, hx117_0, hx117_1, hx117_2, hx117_3⟩ := at_T29 (Kd.R_reads' HO_19.out).2.2 x21_2 p117 q117
            cases e117
            replace p117 := eq_true p117
            replace q117 := eq_true q117
            try go_wp2_with (first | ((with_reducible refine zgc (f := 27) rfl ?_); refine goesL_ (some 79) rfl rfl Try.func27 (by kernel_rfl) rfl #[.agg #[.int .i64 ((rd_T29 t113 x21_2).f0.f0), .int .i64 ((rd_T29 t113 x21_2).f0.f1), .int .i64 ((rd_T29 t113 x21_2).f1.f0), .int .i64 ((rd_T29 t113 x21_2).f1.f1)], .int .i64 t107, .int .i64 t108] rfl zq4 ?_; (with_reducible refine (isobathlaw07_inside.calls ((rd_T29 t113 x21_2).f0.f0) ((rd_T29 t113 x21_2).f0.f1) ((rd_T29 t113 x21_2).f1.f0) ((rd_T29 t113 x21_2).f1.f1) t107 t108 true _ A50.out).mono ?_); rintro e w58 ⟨rfl, hb⟩; refine ⟨_, rfl, ?_⟩; have n0_ := zam (Kd.R_below zq13 hb); have n1_ := zam (Kd.R_below zq12 hb); have n2_ := zam (zkb (g := gb101) (o := .cells #[.slice A0_0 l0_0.length c0_0, .int .i64 a0_1, .int .i64 a0_2] 26 (0, 0)) zq0 hb); have n3_ := zam (zkb (g := gb102) (o := .cells #[.int .i64 a1_0, .int .i64 a1_1, .int .i64 a1_2, .int .i64 a1_3] 29 (0, 0)) zq6 hb); have n4_ := zam (zkb (g := gb103) (o := .cells #[.int .u16 a2_0, .int .u16 a2_1] 57 (0, 0)) zq7 hb); have n5_ := zam (zbt zq5 hb); clear HO_18; clear HO_19; clear BK101; clear BK102; clear BK103; clear HB; have HO_18 := n0_; have HO_19 := n1_; have BK101 := n2_; have BK102 := n3_; have BK103 := n4_; have HB := n5_; clear n0_ n1_ n2_ n3_ n4_ n5_; (try clear hb); (try clear hb2); (try clear hk); (try clear hi)))
            have n0_ := zam (zRd HO_18.out)
            have n1_ := zam (zRd HO_19.out)
            have n2_ := zam (zkd BK101.out)
            have n3_ := zam (zkd BK102.out)
            have n4_ := zam (zkd BK103.out)
            have n5_ := zam (zb1 HB.out)
            clear HO_18
            clear HO_19
            clear BK101
            clear BK102
            clear BK103
            clear HB
            have HO_18 := n0_
            have HO_19 := n1_
            have BK101 := n2_
            have BK102 := n3_
            have BK103 := n4_
            have HB := n5_
            clear n0_ n1_ n2_ n3_ n4_ n5_
            have p119 : 0 ≤ (x21_2 : Int) := zod zq8
            have q119 : x21_2 < (t113.length : Int) := zod zq8
            obtain ⟨ad119, e119, hx119_0, hx119_1, hx119_2, hx119_3⟩ := at_T29 (Kd.R_reads' HO_19.out).2.2 x21_2 p119 q119
            obtain rfl : ad117 = ad119 := (by injection e119)
            replace p119 := eq_true p119
            replace q119 := eq_true q119
            refine start_ (n := 13) (S := fun w' => w'.cell? ⟨gb101, 0, none⟩ = some (.slice A0_0 l0_0.length c0_0) ∧ w'.cell? ⟨gb101, 1, none⟩ = some (.int .i64 a0_1) ∧ w'.cell? ⟨gb101, 2, none⟩ = some (.int .i64 a0_2) ∧ w'.cell? (ad117.add ((x21_2).toNat * 4)) = some (.int .i64 ((rd_T29 t113 x21_2).f0.f0)) ∧ w'.cell? ⟨(ad117.add ((x21_2).toNat * 4)).block, (ad117.add ((x21_2).toNat * 4)).off + 1, none⟩ = some (.int .i64 ((rd_T29 t113 x21_2).f0.f1)) ∧ w'.cell? ⟨(ad117.add ((x21_2).toNat * 4)).block, (ad117.add ((x21_2).toNat * 4)).off + 2, none⟩ = some (.int .i64 ((rd_T29 t113 x21_2).f1.f0)) ∧ w'.cell? ⟨(ad117.add ((x21_2).toNat * 4)).block, (ad117.add ((x21_2).toNat * 4)).off + 3, none⟩ = some (.int .i64 ((rd_T29 t113 x21_2).f1.f1))) (ds := []) #[false, false, false, false, false, false, false, false, false, false, false, false, false] (by kernel_rfl) rfl rfl ⟨(zkc BK101.out 0).trans rfl, (zkc BK101.out 1).trans rfl, (zkc BK101.out 2).trans rfl, hx119_0, hx119_1, hx119_2, hx119_3⟩ (fun hHeld => ?_); refine with_tabW isobathlaw07_SoundFinds.tab13 isobathlaw07_SoundFinds.bits13 (fun HT_ HW_ => ?_)
            generalize w58.drew = w59 at HO_18 HO_19 BK101 BK102 BK103 HB hx119_0 hx119_1 hx119_2 hx119_3 hHeld ⊢
            refine pure_ (i := 1) (N := some 83) (v := ?_) (a' := ?_) #[false, true, false, false, false, false, false, false, false, false, false, false, false] rfl rfl (any_of HT_.out (by kernel_rfl)) (fun _ _ _ h => h) (Or.inl ⟨by rfl, ?_⟩) ?_ ?_
            rotate_left
            ·intro w'
             go_simp
             with_reducible rfl
            rotate_left
            ·simp only [Act.put, zsa, zsz, zss, i64_w, i32_w]
             rfl
            refine pure_ (i := 2) (N := some 84) (v := ?_) (a' := ?_) #[false, true, true, false, false, false, false, false, false, false, false, false, false] rfl rfl (any_of HT_.out (by kernel_rfl)) (fun _ _ _ h => h) (Or.inl ⟨by rfl, ?_⟩) ?_ ?_
            rotate_left
            ·intro w'
             go_simp
             with_reducible rfl
            rotate_left
            ·simp only [Act.put, zsa, zsz, zss, i64_w, i32_w]
             rfl
            refine pure_ (i := 3) (N := some 85) (v := ?_) (a' := ?_) #[false, true, true, true, false, false, false, false, false, false, false, false, false] rfl rfl (any_of HT_.out (by kernel_rfl)) (fun _ _ _ h => h) (Or.inl ⟨by rfl, ?_⟩) ?_ ?_
            rotate_left
            ·intro w'
             go_simp
             with_reducible rfl
            rotate_left
            ·simp only [Act.put, zsa, zsz, zss, i64_w, i32_w]
             rfl
            refine pure_ (i := 4) (N := some 86) (v := ?_) (a' := ?_) #[false, true, true, true, true, false, false, false, false, false, false, false, false] rfl rfl (any_of HT_.out (by kernel_rfl)) (fun _ _ _ h => h) (Or.inl ⟨by rfl, ?_⟩) ?_ ?_
            rotate_left
            ·intro w'
             go_simp
             with_reducible rfl
            rotate_left
            ·simp only [Act.put, zsa, zsz, zss, i64_w, i32_w]
             rfl
            refine take_ (i := 0) (N := some 82) (v := ?_) (a' := ?_) #[true, true, true, true, true, false, false, false, false, false, false, false, false] rfl rfl (take_ofW HT_.out HW_.out (by kernel_rfl)) (fun _ _ _ h => h) (Or.inl ⟨by rfl, ?_⟩) hHeld ?_ ?_
            rotate_left
            ·rintro w' ⟨s0, s1, s2, s3, s4, s5, s6⟩
             go_simp
             with_reducible rfl
            rotate_left
            ·simp only [Act.put, zsa, zsz, zss, i64_w, i32_w]
             rfl
            refine take_ (i := 5) (N := some 87) (v := ?_) (a' := ?_) #[true, true, true, true, true, true, false, false, false, false, false, false, false] rfl rfl (take_ofW HT_.out HW_.out (by kernel_rfl)) (fun _ _ _ h => h) (Or.inl ⟨by rfl, ?_⟩) hHeld ?_ ?_
            rotate_left
            ·rintro w' ⟨s0, s1, s2, s3, s4, s5, s6⟩
             go_simp
             with_reducible rfl
            rotate_left
            ·simp only [Act.put, zsa, zsz, zss, i64_w, i32_w]
             rfl
            refine join_ (σ := Nat) 2 #[true, true, true, true, true, true, true, true, true, true, true, false, false] (fun s_ => [(88, .tuple #[.agg #[.int .i64 t120, .int .i64 t121], .int .i64 t122]), (22, .pointer (some ⟨s_, 0, none⟩)), (81, .tuple #[.agg #[.int .i64 t120, .int .i64 t121], .int .i64 t122]), (89, .agg #[.int .i64 t120, .int .i64 t121]), (90, .int .i64 t122)]) (fun s_ w' => (w'.cell? ⟨gb101, 0, none⟩ = some (.slice A0_0 l0_0.length c0_0) ∧ w'.cell? ⟨gb101, 1, none⟩ = some (.int .i64 a0_1) ∧ w'.cell? ⟨gb101, 2, none⟩ = some (.int .i64 a0_2) ∧ w'.cell? (ad117.add ((x21_2).toNat * 4)) = some (.int .i64 ((rd_T29 t113 x21_2).f0.f0)) ∧ w'.cell? ⟨(ad117.add ((x21_2).toNat * 4)).block, (ad117.add ((x21_2).toNat * 4)).off + 1, none⟩ = some (.int .i64 ((rd_T29 t113 x21_2).f0.f1)) ∧ w'.cell? ⟨(ad117.add ((x21_2).toNat * 4)).block, (ad117.add ((x21_2).toNat * 4)).off + 2, none⟩ = some (.int .i64 ((rd_T29 t113 x21_2).f1.f0)) ∧ w'.cell? ⟨(ad117.add ((x21_2).toNat * 4)).block, (ad117.add ((x21_2).toNat * 4)).off + 3, none⟩ = some (.int .i64 ((rd_T29 t113 x21_2).f1.f1))) ∧ (Kd.R k24 24 w' w.heap.size (fun k_ => k_ ≠ s_) (.slice Ao46 t110.length co46) t110) ∧ (Kd.R k29 29 w' w.heap.size (fun k_ => k_ ≠ gb102) (.slice (some ad117) t113.length co57) t113) ∧ (w'.heap[gb101]? = some (.cells #[.slice A0_0 l0_0.length c0_0, .int .i64 a0_1, .int .i64 a0_2] 26 (0, 0))) ∧ (w'.heap[gb102]? = some (.cells #[.int .i64 a1_0, .int .i64 a1_1, .int .i64 a1_2, .int .i64 a1_3] 29 (0, 0))) ∧ (w'.heap[gb103]? = some (.cells #[.int .u16 a2_0, .int .u16 a2_1] 57 (0, 0))) ∧ (w'.heap[s_]? = some (.cells #[.int .i64 0, .int .i64 0] 24 (0, 0))) ∧ (w.heap.size ≤ s_) ∧ (w.heap.size ≤ s_) ∧ (gb101 ≠ s_) ∧ (s_ ≠ gb101) ∧ (gb102 ≠ s_) ∧ (s_ ≠ gb102) ∧ (gb103 ≠ s_) ∧ (s_ ≠ gb103) ∧ (Below w.heap.size w w')) ?_ ?_
            rotate_left
            ·intro hCont
             refine two_ (i := 6) (j := 10) (Ni := some 88) (Nj := some 22) #[true, true, true, true, true, true, true, false, false, false, false, false, false] #[true, true, true, true, true, true, false, false, false, false, true, false, false] rfl rfl rfl rfl (two_of HT_.out (by kernel_rfl)) (by decide) (by decide) (fun K hK => ?_) (fun K hK => ?_)
             ·skip
              refine goes_ Try.func28 (by kernel_rfl) rfl #[.agg #[.slice A0_0 l0_0.length c0_0, .int .i64 a0_1, .int .i64 a0_2], .slice Ao46 t110.length co46, .agg #[.int .i64 ((rd_T29 t113 x21_2).f0.f0), .int .i64 ((rd_T29 t113 x21_2).f0.f1), .int .i64 ((rd_T29 t113 x21_2).f1.f0), .int .i64 ((rd_T29 t113 x21_2).f1.f1)]] (by rfl) rfl rfl zq4 ?_
              with_reducible refine (sound_Origin.calls k2 _ _ l0_0 a0_1 a0_2 _ _ t110 ((rd_T29 t113 x21_2).f0.f0) ((rd_T29 t113 x21_2).f0.f1) ((rd_T29 t113 x21_2).f1.f0) ((rd_T29 t113 x21_2).f1.f1) t120 t121 t122 _ ?side1 ?side2 ?side3 ?side4 A52.out).mono ?_
              (case side1 => repeat (first | exact (Kd.C_below HR0_0.out HB.out) | (with_reducible refine Kd.C_alloc ?_ _) | (with_reducible refine Kd.C_drewN ?_ _) | (with_reducible refine Kd.C_drew ?_)))
              (case side2 => exact HC0_0.out)
              (case side3 => repeat (first | exact (Kd.R_reads' HO_18.out).2.2 | (with_reducible refine Kd.C_alloc ?_ _) | (with_reducible refine Kd.C_drewN ?_ _) | (with_reducible refine Kd.C_drew ?_)))
              (case side4 => exact (Kd.R_reads' HO_18.out).2.1)
              rintro e w60 ⟨rfl, hb⟩
              have HS3_ := (hb.cell (zwb _ _ (hHeld.2.2.2.1))).trans (hHeld.2.2.2.1)
              have HS4_ := (hb.cell (zwb _ _ (hHeld.2.2.2.2.1))).trans (hHeld.2.2.2.2.1)
              have HS5_ := (hb.cell (zwb _ _ (hHeld.2.2.2.2.2.1))).trans (hHeld.2.2.2.2.2.1)
              have HS6_ := (hb.cell (zwb _ _ (hHeld.2.2.2.2.2.2))).trans (hHeld.2.2.2.2.2.2)
              refine ⟨_, rfl, ?_⟩
              have n0_ := zam (Kd.R_below zq13 hb)
              have n1_ := zam (Kd.R_below zq12 hb)
              have n2_ := zam (zkb (g := gb101) (o := .cells #[.slice A0_0 l0_0.length c0_0, .int .i64 a0_1, .int .i64 a0_2] 26 (0, 0)) zq0 hb)
              have n3_ := zam (zkb (g := gb102) (o := .cells #[.int .i64 a1_0, .int .i64 a1_1, .int .i64 a1_2, .int .i64 a1_3] 29 (0, 0)) zq6 hb)
              have n4_ := zam (zkb (g := gb103) (o := .cells #[.int .u16 a2_0, .int .u16 a2_1] 57 (0, 0)) zq7 hb)
              have n5_ := zam (zbt zq5 hb)
              clear HO_18
              clear HO_19
              clear BK101
              clear BK102
              clear BK103
              clear HB
              have HO_18 := n0_
              have HO_19 := n1_
              have BK101 := n2_
              have BK102 := n3_
              have BK103 := n4_
              have HB := n5_
              clear n0_ n1_ n2_ n3_ n4_ n5_
              (try clear hb)
              (try clear hb2)
              (try clear hk)
              (try clear hi)
              refine hK.out _ _ ⟨(zkc BK101.out 0).trans rfl, (zkc BK101.out 1).trans rfl, (zkc BK101.out 2).trans rfl, HS3_, HS4_, HS5_, HS6_⟩ (fun hHeld => ?_)
              clear hK K
              refine norm_ (a' := ?_) ?_ ?_
              rotate_left
              ·show Act.put _ (some 88) _ = _
               simp only [Act.put, zsa, zsz, zss, i64_w, i32_w]
               rfl
              refine pure_ (i := 7) (N := some 81) (v := ?_) (a' := ?_) #[true, true, true, true, true, true, true, true, false, false, false, false, false] rfl rfl (any_of HT_.out (by kernel_rfl)) (fun _ _ _ h => h) (Or.inl ⟨by rfl, ?_⟩) ?_ ?_
              rotate_left
              ·intro w'
               go_simp
               with_reducible rfl
              rotate_left
              ·simp only [Act.put, zsa, zsz, zss, i64_w, i32_w]
               rfl
              refine pure_ (i := 8) (N := some 89) (v := ?_) (a' := ?_) #[true, true, true, true, true, true, true, true, true, false, false, false, false] rfl rfl (any_of HT_.out (by kernel_rfl)) (fun _ _ _ h => h) (Or.inl ⟨by rfl, ?_⟩) ?_ ?_
              rotate_left
              ·intro w'
               go_simp
               with_reducible rfl
              rotate_left
              ·simp only [Act.put, zsa, zsz, zss, i64_w, i32_w]
               rfl
              refine pure_ (i := 9) (N := some 90) (v := ?_) (a' := ?_) #[true, true, true, true, true, true, true, true, true, true, false, false, false] rfl rfl (any_of HT_.out (by kernel_rfl)) (fun _ _ _ h => h) (Or.inl ⟨by rfl, ?_⟩) ?_ ?_
              rotate_left
              ·intro w'
               go_simp
               with_reducible rfl
              rotate_left
              ·simp only [Act.put, zsa, zsz, zss, i64_w, i32_w]
               rfl
              refine one_ (i := 10) (N := some 22) #[true, true, true, true, true, true, true, true, true, true, true, false, false] rfl rfl (one_of HT_.out (by kernel_rfl)) (by decide) (fun K hK => ?_)
              refine box_step ?hg (N := 22) ?hd (cs := #[.int .i64 0, .int .i64 0]) (t := 24) ?hr ?_; (case hd => rfl); (case hg => rfl); (case hr => first | (go_simp; done) | (go_simp; rfl))
              intro gb123 hg w61 hbox hb
              have HS3_ := (hb.cell (zwb _ _ (hHeld.2.2.2.1))).trans (hHeld.2.2.2.1)
              have HS4_ := (hb.cell (zwb _ _ (hHeld.2.2.2.2.1))).trans (hHeld.2.2.2.2.1)
              have HS5_ := (hb.cell (zwb _ _ (hHeld.2.2.2.2.2.1))).trans (hHeld.2.2.2.2.2.1)
              have HS6_ := (hb.cell (zwb _ _ (hHeld.2.2.2.2.2.2))).trans (hHeld.2.2.2.2.2.2)
              have n0_ := zam (Kd.R_below (Kd.R_elderB zq13 gb123 (Nat.le_of_eq hg.symm)) hb)
              have n1_ := zam (Kd.R_below zq12 hb)
              have n2_ := zam (zkb (g := gb101) (o := .cells #[.slice A0_0 l0_0.length c0_0, .int .i64 a0_1, .int .i64 a0_2] 26 (0, 0)) zq0 hb)
              have n3_ := zam (zkb (g := gb102) (o := .cells #[.int .i64 a1_0, .int .i64 a1_1, .int .i64 a1_2, .int .i64 a1_3] 29 (0, 0)) zq6 hb)
              have n4_ := zam (zkb (g := gb103) (o := .cells #[.int .u16 a2_0, .int .u16 a2_1] 57 (0, 0)) zq7 hb)
              have n5_ := zam (zbt zq5 hb)
              have n6_ := zam (hbox)
              have n7_ := zam ((by rw [hg]; exact (zbz zq5) : w.heap.size ≤ gb123))
              have n8_ := zam ((by rw [hg]; exact (zbz zq5) : w.heap.size ≤ gb123))
              have n9_ := zam ((by rw [hg]; exact Nat.ne_of_lt (blk_lt (g := gb101) (o := .cells #[.slice A0_0 l0_0.length c0_0, .int .i64 a0_1, .int .i64 a0_2] 26 (0, 0)) zq0) : gb101 ≠ gb123))
              have n10_ := zam ((by rw [hg]; exact Nat.ne_of_gt (blk_lt (g := gb101) (o := .cells #[.slice A0_0 l0_0.length c0_0, .int .i64 a0_1, .int .i64 a0_2] 26 (0, 0)) zq0) : gb123 ≠ gb101))
              have n11_ := zam ((by rw [hg]; exact Nat.ne_of_lt (blk_lt (g := gb102) (o := .cells #[.int .i64 a1_0, .int .i64 a1_1, .int .i64 a1_2, .int .i64 a1_3] 29 (0, 0)) zq6) : gb102 ≠ gb123))
              have n12_ := zam ((by rw [hg]; exact Nat.ne_of_gt (blk_lt (g := gb102) (o := .cells #[.int .i64 a1_0, .int .i64 a1_1, .int .i64 a1_2, .int .i64 a1_3] 29 (0, 0)) zq6) : gb123 ≠ gb102))
              have n13_ := zam ((by rw [hg]; exact Nat.ne_of_lt (blk_lt (g := gb103) (o := .cells #[.int .u16 a2_0, .int .u16 a2_1] 57 (0, 0)) zq7) : gb103 ≠ gb123))
              have n14_ := zam ((by rw [hg]; exact Nat.ne_of_gt (blk_lt (g := gb103) (o := .cells #[.int .u16 a2_0, .int .u16 a2_1] 57 (0, 0)) zq7) : gb123 ≠ gb103))
              clear HO_18
              clear HO_19
              clear BK101
              clear BK102
              clear BK103
              clear HB
              have HO_18 := n0_
              have HO_19 := n1_
              have BK101 := n2_
              have BK102 := n3_
              have BK103 := n4_
              have HB := n5_
              have BK123 := n6_
              have GW123 := n7_
              have GE123 := n8_
              have NB101_123 := n9_
              have NB123_101 := n10_
              have NB102_123 := n11_
              have NB123_102 := n12_
              have NB103_123 := n13_
              have NB123_103 := n14_
              clear n0_ n1_ n2_ n3_ n4_ n5_ n6_ n7_ n8_ n9_ n10_ n11_ n12_ n13_ n14_
              clear hb hbox hg
              refine hK.out _ _ ⟨(zkc BK101.out 0).trans rfl, (zkc BK101.out 1).trans rfl, (zkc BK101.out 2).trans rfl, HS3_, HS4_, HS5_, HS6_⟩ (fun hHeld => ?_)
              clear hK K
              refine norm_ (a' := ?_) ?_ ?_
              rotate_left
              ·show Act.put _ (some 22) _ = _
               simp only [Act.put, zsa, zsz, zss, i64_w, i32_w]
               rfl
              exact norm_ zq27 (hCont (gb123) _ ⟨hHeld, zq20, zq12, zq0, zq6, zq7, zq15, GW123.out, GE123.out, NB101_123.out, NB123_101.out, NB102_123.out, NB123_102.out, NB103_123.out, NB123_103.out, zq11⟩)
             skip
             refine box_step ?hg (N := 22) ?hd (cs := #[.int .i64 0, .int .i64 0]) (t := 24) ?hr ?_; (case hd => rfl); (case hg => rfl); (case hr => first | (go_simp; done) | (go_simp; rfl))
             intro gb123 hg w60 hbox hb
             have HS3_ := (hb.cell (zwb _ _ (hHeld.2.2.2.1))).trans (hHeld.2.2.2.1)
             have HS4_ := (hb.cell (zwb _ _ (hHeld.2.2.2.2.1))).trans (hHeld.2.2.2.2.1)
             have HS5_ := (hb.cell (zwb _ _ (hHeld.2.2.2.2.2.1))).trans (hHeld.2.2.2.2.2.1)
             have HS6_ := (hb.cell (zwb _ _ (hHeld.2.2.2.2.2.2))).trans (hHeld.2.2.2.2.2.2)
             have n0_ := zam (Kd.R_below (Kd.R_elderB zq13 gb123 (Nat.le_of_eq hg.symm)) hb)
             have n1_ := zam (Kd.R_below zq12 hb)
             have n2_ := zam (zkb (g := gb101) (o := .cells #[.slice A0_0 l0_0.length c0_0, .int .i64 a0_1, .int .i64 a0_2] 26 (0, 0)) zq0 hb)
             have n3_ := zam (zkb (g := gb102) (o := .cells #[.int .i64 a1_0, .int .i64 a1_1, .int .i64 a1_2, .int .i64 a1_3] 29 (0, 0)) zq6 hb)
             have n4_ := zam (zkb (g := gb103) (o := .cells #[.int .u16 a2_0, .int .u16 a2_1] 57 (0, 0)) zq7 hb)
             have n5_ := zam (zbt zq5 hb)
             have n6_ := zam (hbox)
             have n7_ := zam ((by rw [hg]; exact (zbz zq5) : w.heap.size ≤ gb123))
             have n8_ := zam ((by rw [hg]; exact (zbz zq5) : w.heap.size ≤ gb123))
             have n9_ := zam ((by rw [hg]; exact Nat.ne_of_lt (blk_lt (g := gb101) (o := .cells #[.slice A0_0 l0_0.length c0_0, .int .i64 a0_1, .int .i64 a0_2] 26 (0, 0)) zq0) : gb101 ≠ gb123))
             have n10_ := zam ((by rw [hg]; exact Nat.ne_of_gt (blk_lt (g := gb101) (o := .cells #[.slice A0_0 l0_0.length c0_0, .int .i64 a0_1, .int .i64 a0_2] 26 (0, 0)) zq0) : gb123 ≠ gb101))
             have n11_ := zam ((by rw [hg]; exact Nat.ne_of_lt (blk_lt (g := gb102) (o := .cells #[.int .i64 a1_0, .int .i64 a1_1, .int .i64 a1_2, .int .i64 a1_3] 29 (0, 0)) zq6) : gb102 ≠ gb123))
             have n12_ := zam ((by rw [hg]; exact Nat.ne_of_gt (blk_lt (g := gb102) (o := .cells #[.int .i64 a1_0, .int .i64 a1_1, .int .i64 a1_2, .int .i64 a1_3] 29 (0, 0)) zq6) : gb123 ≠ gb102))
             have n13_ := zam ((by rw [hg]; exact Nat.ne_of_lt (blk_lt (g := gb103) (o := .cells #[.int .u16 a2_0, .int .u16 a2_1] 57 (0, 0)) zq7) : gb103 ≠ gb123))
             have n14_ := zam ((by rw [hg]; exact Nat.ne_of_gt (blk_lt (g := gb103) (o := .cells #[.int .u16 a2_0, .int .u16 a2_1] 57 (0, 0)) zq7) : gb123 ≠ gb103))
             clear HO_18
             clear HO_19
             clear BK101
             clear BK102
             clear BK103
             clear HB
             have HO_18 := n0_
             have HO_19 := n1_
             have BK101 := n2_
             have BK102 := n3_
             have BK103 := n4_
             have HB := n5_
             have BK123 := n6_
             have GW123 := n7_
             have GE123 := n8_
             have NB101_123 := n9_
             have NB123_101 := n10_
             have NB102_123 := n11_
             have NB123_102 := n12_
             have NB103_123 := n13_
             have NB123_103 := n14_
             clear n0_ n1_ n2_ n3_ n4_ n5_ n6_ n7_ n8_ n9_ n10_ n11_ n12_ n13_ n14_
             clear hb hbox hg
             refine hK.out _ _ ⟨(zkc BK101.out 0).trans rfl, (zkc BK101.out 1).trans rfl, (zkc BK101.out 2).trans rfl, HS3_, HS4_, HS5_, HS6_⟩ (fun hHeld => ?_)
             clear hK K
             refine norm_ (a' := ?_) ?_ ?_
             rotate_left
             ·show Act.put _ (some 22) _ = _
              simp only [Act.put, zsa, zsz, zss, i64_w, i32_w]
              rfl
             refine one_ (i := 6) (N := some 88) #[true, true, true, true, true, true, true, false, false, false, true, false, false] rfl rfl (one_of HT_.out (by kernel_rfl)) (by decide) (fun K hK => ?_)
             refine goes_ Try.func28 (by kernel_rfl) rfl #[.agg #[.slice A0_0 l0_0.length c0_0, .int .i64 a0_1, .int .i64 a0_2], .slice Ao46 t110.length co46, .agg #[.int .i64 ((rd_T29 t113 x21_2).f0.f0), .int .i64 ((rd_T29 t113 x21_2).f0.f1), .int .i64 ((rd_T29 t113 x21_2).f1.f0), .int .i64 ((rd_T29 t113 x21_2).f1.f1)]] (by rfl) rfl rfl zq4 ?_
             with_reducible refine (sound_Origin.calls k2 _ _ l0_0 a0_1 a0_2 _ _ t110 ((rd_T29 t113 x21_2).f0.f0) ((rd_T29 t113 x21_2).f0.f1) ((rd_T29 t113 x21_2).f1.f0) ((rd_T29 t113 x21_2).f1.f1) t120 t121 t122 _ ?side1 ?side2 ?side3 ?side4 A52.out).mono ?_
             (case side1 => repeat (first | exact (Kd.C_below HR0_0.out HB.out) | (with_reducible refine Kd.C_alloc ?_ _) | (with_reducible refine Kd.C_drewN ?_ _) | (with_reducible refine Kd.C_drew ?_)))
             (case side2 => exact HC0_0.out)
             (case side3 => repeat (first | exact (Kd.R_reads' HO_18.out).2.2 | (with_reducible refine Kd.C_alloc ?_ _) | (with_reducible refine Kd.C_drewN ?_ _) | (with_reducible refine Kd.C_drew ?_)))
             (case side4 => exact (Kd.R_reads' HO_18.out).2.1)
             rintro e w61 ⟨rfl, hb⟩
             have HS3_ := (hb.cell (zwb _ _ (hHeld.2.2.2.1))).trans (hHeld.2.2.2.1)
             have HS4_ := (hb.cell (zwb _ _ (hHeld.2.2.2.2.1))).trans (hHeld.2.2.2.2.1)
             have HS5_ := (hb.cell (zwb _ _ (hHeld.2.2.2.2.2.1))).trans (hHeld.2.2.2.2.2.1)
             have HS6_ := (hb.cell (zwb _ _ (hHeld.2.2.2.2.2.2))).trans (hHeld.2.2.2.2.2.2)
             refine ⟨_, rfl, ?_⟩
             have n0_ := zam (Kd.R_below zq13 hb)
             have n1_ := zam (Kd.R_below zq12 hb)
             have n2_ := zam (zkb (g := gb101) (o := .cells #[.slice A0_0 l0_0.length c0_0, .int .i64 a0_1, .int .i64 a0_2] 26 (0, 0)) zq0 hb)
             have n3_ := zam (zkb (g := gb102) (o := .cells #[.int .i64 a1_0, .int .i64 a1_1, .int .i64 a1_2, .int .i64 a1_3] 29 (0, 0)) zq6 hb)
             have n4_ := zam (zkb (g := gb103) (o := .cells #[.int .u16 a2_0, .int .u16 a2_1] 57 (0, 0)) zq7 hb)
             have n5_ := zam (zkb (g := gb123) (o := .cells #[.int .i64 0, .int .i64 0] 24 (0, 0)) zq15 hb)
             have n6_ := zam (zbt zq11 hb)
             clear HO_18
             clear HO_19
             clear BK101
             clear BK102
             clear BK103
             clear BK123
             clear HB
             have HO_18 := n0_
             have HO_19 := n1_
             have BK101 := n2_
             have BK102 := n3_
             have BK103 := n4_
             have BK123 := n5_
             have HB := n6_
             clear n0_ n1_ n2_ n3_ n4_ n5_ n6_
             (try clear hb)
             (try clear hb2)
             (try clear hk)
             (try clear hi)
             refine hK.out _ _ ⟨(zkc BK101.out 0).trans rfl, (zkc BK101.out 1).trans rfl, (zkc BK101.out 2).trans rfl, HS3_, HS4_, HS5_, HS6_⟩ (fun hHeld => ?_)
             clear hK K
             refine norm_ (a' := ?_) ?_ ?_
             rotate_left
             ·show Act.put _ (some 88) _ = _
              simp only [Act.put, zsa, zsz, zss, i64_w, i32_w]
              rfl
             refine pure_ (i := 7) (N := some 81) (v := ?_) (a' := ?_) #[true, true, true, true, true, true, true, true, false, false, true, false, false] rfl rfl (any_of HT_.out (by kernel_rfl)) (fun _ _ _ h => h) (Or.inl ⟨by rfl, ?_⟩) ?_ ?_
             rotate_left
             ·intro w'
              go_simp
              with_reducible rfl
             rotate_left
             ·simp only [Act.put, zsa, zsz, zss, i64_w, i32_w]
              rfl
             refine pure_ (i := 8) (N := some 89) (v := ?_) (a' := ?_) #[true, true, true, true, true, true, true, true, true, false, true, false, false] rfl rfl (any_of HT_.out (by kernel_rfl)) (fun _ _ _ h => h) (Or.inl ⟨by rfl, ?_⟩) ?_ ?_
             rotate_left
             ·intro w'
              go_simp
              with_reducible rfl
             rotate_left
             ·simp only [Act.put, zsa, zsz, zss, i64_w, i32_w]
              rfl
             refine pure_ (i := 9) (N := some 90) (v := ?_) (a' := ?_) #[true, true, true, true, true, true, true, true, true, true, true, false, false] rfl rfl (any_of HT_.out (by kernel_rfl)) (fun _ _ _ h => h) (Or.inl ⟨by rfl, ?_⟩) ?_ ?_
             rotate_left
             ·intro w'
              go_simp
              with_reducible rfl
             rotate_left
             ·simp only [Act.put, zsa, zsz, zss, i64_w, i32_w]
              rfl
             exact norm_ zq27 (hCont (gb123) _ ⟨hHeld, zq20, zq12, zq0, zq6, zq7, zq15, GW123.out, GE123.out, NB101_123.out, NB123_101.out, NB102_123.out, NB123_102.out, NB103_123.out, NB123_103.out, zq11⟩)
            rintro gb123 w62 ⟨hS_, h0_, h1_, h2_, h3_, h4_, h5_, h6_, h7_, h8_, h9_, h10_, h11_, h12_, h13_, h14_⟩
            have n0_ : Aside0 (Kd.R k24 24 w62 w.heap.size (fun k_ => k_ ≠ gb123) (.slice Ao46 t110.length co46) t110) := ⟨h0_⟩
            have n1_ : Aside0 (Kd.R k29 29 w62 w.heap.size (fun k_ => k_ ≠ gb102) (.slice (some ad117) t113.length co57) t113) := ⟨h1_⟩
            have n2_ : Aside0 (w62.heap[gb101]? = some (.cells #[.slice A0_0 l0_0.length c0_0, .int .i64 a0_1, .int .i64 a0_2] 26 (0, 0))) := ⟨h2_⟩
            have n3_ : Aside0 (w62.heap[gb102]? = some (.cells #[.int .i64 a1_0, .int .i64 a1_1, .int .i64 a1_2, .int .i64 a1_3] 29 (0, 0))) := ⟨h3_⟩
            have n4_ : Aside0 (w62.heap[gb103]? = some (.cells #[.int .u16 a2_0, .int .u16 a2_1] 57 (0, 0))) := ⟨h4_⟩
            have n5_ : Aside0 (w62.heap[gb123]? = some (.cells #[.int .i64 0, .int .i64 0] 24 (0, 0))) := ⟨h5_⟩
            have n6_ : Aside0 (w.heap.size ≤ gb123) := ⟨h6_⟩
            have n7_ : Aside0 (w.heap.size ≤ gb123) := ⟨h7_⟩
            have n8_ : Aside0 (gb101 ≠ gb123) := ⟨h8_⟩
            have n9_ : Aside0 (gb123 ≠ gb101) := ⟨h9_⟩
            have n10_ : Aside0 (gb102 ≠ gb123) := ⟨h10_⟩
            have n11_ : Aside0 (gb123 ≠ gb102) := ⟨h11_⟩
            have n12_ : Aside0 (gb103 ≠ gb123) := ⟨h12_⟩
            have n13_ : Aside0 (gb123 ≠ gb103) := ⟨h13_⟩
            have n14_ : Aside0 (Below w.heap.size w w62) := ⟨h14_⟩
            clear HO_18
            clear HO_19
            clear BK101
            clear BK102
            clear BK103
            clear HB
            clear h0_ h1_ h2_ h3_ h4_ h5_ h6_ h7_ h8_ h9_ h10_ h11_ h12_ h13_ h14_
            have HO_18 := n0_
            have HO_19 := n1_
            have BK101 := n2_
            have BK102 := n3_
            have BK103 := n4_
            have BK123 := n5_
            have GW123 := n6_
            have GE123 := n7_
            have NB101_123 := n8_
            have NB123_101 := n9_
            have NB102_123 := n10_
            have NB123_102 := n11_
            have NB103_123 := n12_
            have NB123_103 := n13_
            have HB := n14_
            clear n0_ n1_ n2_ n3_ n4_ n5_ n6_ n7_ n8_ n9_ n10_ n11_ n12_ n13_ n14_
            have hHeld : w62.cell? ⟨gb101, 0, none⟩ = some (.slice A0_0 l0_0.length c0_0) ∧ w62.cell? ⟨gb101, 1, none⟩ = some (.int .i64 a0_1) ∧ w62.cell? ⟨gb101, 2, none⟩ = some (.int .i64 a0_2) ∧ w62.cell? (ad117.add ((x21_2).toNat * 4)) = some (.int .i64 ((rd_T29 t113 x21_2).f0.f0)) ∧ w62.cell? ⟨(ad117.add ((x21_2).toNat * 4)).block, (ad117.add ((x21_2).toNat * 4)).off + 1, none⟩ = some (.int .i64 ((rd_T29 t113 x21_2).f0.f1)) ∧ w62.cell? ⟨(ad117.add ((x21_2).toNat * 4)).block, (ad117.add ((x21_2).toNat * 4)).off + 2, none⟩ = some (.int .i64 ((rd_T29 t113 x21_2).f1.f0)) ∧ w62.cell? ⟨(ad117.add ((x21_2).toNat * 4)).block, (ad117.add ((x21_2).toNat * 4)).off + 3, none⟩ = some (.int .i64 ((rd_T29 t113 x21_2).f1.f1)) := hS_
            refine norm_ (a' := ?_) ?_ ?_
            rotate_left
            ·simp only [putAll, Act.put, zsa, zsz, zss]
             rfl
            refine one_ (i := 11) (N := none) #[true, true, true, true, true, true, true, true, true, true, true, true, false] rfl rfl (one_of HT_.out (by kernel_rfl)) (by decide) (fun K hK => ?_)
            have hs63 : w62.cell? ⟨gb123, 0, none⟩ = some (.int .i64 0) := (zkc BK123.out 0).trans rfl
            have hfs63 := zkz BK123.out 0
            have hns63_0 := NB101_123.out
            have hns63_1 := NB102_123.out
            have hns63_2 := NB103_123.out
            have hms63_0 := NB123_101.out
            have hms63_1 := NB123_102.out
            have hms63_2 := NB123_103.out
            have hs64 : w62.cell? ⟨gb123, 1, none⟩ = some (.int .i64 0) := (zkc BK123.out 1).trans rfl
            have hfs64 := zkz BK123.out 1
            have hns64_0 := NB101_123.out
            have hns64_1 := NB102_123.out
            have hns64_2 := NB103_123.out
            have hms64_0 := NB123_101.out
            have hms64_1 := NB123_102.out
            have hms64_2 := NB123_103.out
            refine skip_ (w1 := ?_) (by rfl) rfl ?_ ?_
            rotate_left
            ·go_simp
             rfl
            refine hK.out _ _ ⟨((cell_far (p := ⟨gb123, _, none⟩) NB101_123.out _).trans (((cell_far (p := ⟨gb123, _, none⟩) NB101_123.out _).trans (hHeld.1)))), ((cell_far (p := ⟨gb123, _, none⟩) NB101_123.out _).trans (((cell_far (p := ⟨gb123, _, none⟩) NB101_123.out _).trans (hHeld.2.1)))), ((cell_far (p := ⟨gb123, _, none⟩) NB101_123.out _).trans (((cell_far (p := ⟨gb123, _, none⟩) NB101_123.out _).trans (hHeld.2.2.1)))), ((cell_far (p := ⟨gb123, _, none⟩) zq3 _).trans (((cell_far (p := ⟨gb123, _, none⟩) zq3 _).trans (hHeld.2.2.2.1)))), ((cell_far (p := ⟨gb123, _, none⟩) zq3 _).trans (((cell_far (p := ⟨gb123, _, none⟩) zq3 _).trans (hHeld.2.2.2.2.1)))), ((cell_far (p := ⟨gb123, _, none⟩) zq3 _).trans (((cell_far (p := ⟨gb123, _, none⟩) zq3 _).trans (hHeld.2.2.2.2.2.1)))), ((cell_far (p := ⟨gb123, _, none⟩) zq3 _).trans (((cell_far (p := ⟨gb123, _, none⟩) zq3 _).trans (hHeld.2.2.2.2.2.2))))⟩ (fun hHeld => ?_)
            clear hK K
            refine pure_ (i := 12) (N := some 23) (v := ?_) (a' := ?_) #[true, true, true, true, true, true, true, true, true, true, true, true, true] rfl rfl (any_of HT_.out (by kernel_rfl)) (fun _ _ _ h => h) (Or.inl ⟨by rfl, ?_⟩) ?_ ?_
            rotate_left
            ·intro w'
             go_simp
             with_reducible rfl
            rotate_left
            ·simp only [Act.put, zsa, zsz, zss, i64_w, i32_w]
             rfl
            refine done_ (done_of HT_.out (by kernel_rfl)) ?_
            have hnb65 := NB123_101.out
            have hnc65 := NB101_123.out
            have hnb66 := NB123_102.out
            have hnc66 := NB102_123.out
            have hnb67 := NB123_103.out
            have hnc67 := NB103_123.out
            have hcz68_0 : w62.cell? ⟨gb123, 0, none⟩ = some (.int .i64 0) := (zkc BK123.out 0).trans rfl
            have hcz68_1 : w62.cell? ⟨gb123, 1, none⟩ = some (.int .i64 0) := (zkc BK123.out 1).trans rfl
            have hfz68_0 := zkz BK123.out 0
            have hfz68_1 := zkz BK123.out 1
            try go_wp2_with (first | ((with_reducible refine zgc (f := 14) rfl ?_); refine goesL_ (some 105) rfl rfl Try.func14 (by kernel_rfl) rfl #[] rfl zq4 ?_; (with_reducible refine (isobathlaw07_Works.calls k2  t124 _ A56.out).mono ?_); rintro e w69 ⟨rfl, hb⟩; refine ⟨_, rfl, ?_⟩; have n0_ := zam (Kd.R_below (by (with_reducible repeat (first | apply zRa | apply zRn | apply zRd)); exact (Kd.R_mono (Kd.R_far (p := ⟨gb123, 1, none⟩) (Kd.R_far (p := ⟨gb123, 0, none⟩) (Kd.R_mono HO_18.out (fun k_ hk => (⟨hk, hk⟩ : _ ∧ k_ ≠ gb123))) (fun _ hk => hk.2) (.int .i64 t120)) (fun _ hk => hk.2) (.int .i64 t121)) (fun _ h_ => h_.1))) hb); have n1_ := zam (Kd.R_below (by (with_reducible repeat (first | apply zRa | apply zRn | apply zRd)); exact (Kd.R_mono (Kd.R_far (p := ⟨gb123, 1, none⟩) (Kd.R_far (p := ⟨gb123, 0, none⟩) (Kd.R_types HO_19.out BK123.out (by decide)) (fun _ hk => hk.2) (.int .i64 t120)) (fun _ hk => hk.2) (.int .i64 t121)) (fun _ h_ => h_.1))) hb); have n2_ := zam (zkb (g := gb101) (o := .cells #[.slice A0_0 l0_0.length c0_0, .int .i64 a0_1, .int .i64 a0_2] 26 (0, 0)) (by (with_reducible repeat (first | refine zkn ?_ _ | refine zkd ?_ | refine zka ?_ _)); refine zkf ?_ NB101_123.out _; (with_reducible repeat (first | refine zkn ?_ _ | refine zkd ?_ | refine zka ?_ _)); refine zkf ?_ NB101_123.out _; (with_reducible repeat (first | refine zkn ?_ _ | refine zkd ?_ | refine zka ?_ _)); exact BK101.out) hb); have n3_ := zam (zkb (g := gb102) (o := .cells #[.int .i64 a1_0, .int .i64 a1_1, .int .i64 a1_2, .int .i64 a1_3] 29 (0, 0)) (by (with_reducible repeat (first | refine zkn ?_ _ | refine zkd ?_ | refine zka ?_ _)); refine zkf ?_ NB102_123.out _; (with_reducible repeat (first | refine zkn ?_ _ | refine zkd ?_ | refine zka ?_ _)); refine zkf ?_ NB102_123.out _; (with_reducible repeat (first | refine zkn ?_ _ | refine zkd ?_ | refine zka ?_ _)); exact BK102.out) hb); have n4_ := zam (zkb (g := gb103) (o := .cells #[.int .u16 a2_0, .int .u16 a2_1] 57 (0, 0)) (by (with_reducible repeat (first | refine zkn ?_ _ | refine zkd ?_ | refine zka ?_ _)); refine zkf ?_ NB103_123.out _; (with_reducible repeat (first | refine zkn ?_ _ | refine zkd ?_ | refine zka ?_ _)); refine zkf ?_ NB103_123.out _; (with_reducible repeat (first | refine zkn ?_ _ | refine zkd ?_ | refine zka ?_ _)); exact BK103.out) hb); have n5_ := zam (zkb (g := gb123) (o := .cells #[.int .i64 t120, .int .i64 t121] 24 (0, 0)) (by (with_reducible repeat (first | refine zkn ?_ _ | refine zkd ?_ | refine zka ?_ _)); refine blk_put (cs := #[.int .i64 t120, .int .i64 0]) ?_ 1 _ rfl; (with_reducible repeat (first | refine zkn ?_ _ | refine zkd ?_ | refine zka ?_ _)); refine blk_put (cs := #[.int .i64 0, .int .i64 0]) ?_ 0 _ rfl; (with_reducible repeat (first | refine zkn ?_ _ | refine zkd ?_ | refine zka ?_ _)); exact BK123.out) hb); have n6_ := zam (zbt zq11 hb); clear HO_18; clear HO_19; clear BK101; clear BK102; clear BK103; clear BK123; clear HB; have HO_18 := n0_; have HO_19 := n1_; have BK101 := n2_; have BK102 := n3_; have BK103 := n4_; have BK123 := n5_; have HB := n6_; clear n0_ n1_ n2_ n3_ n4_ n5_ n6_; (try clear hb); (try clear hb2); (try clear hk); (try clear hi)))
            go_ret
            exact ⟨by first | rfl | (simp [errW_none, errW_some] <;> rfl) | (simp [*, errW_none, errW_some] <;> rfl), by repeat (first | (with_reducible first | exact HB.out | apply zba | apply zbn | apply zb1 | refine zbs ?_ GE101.out | refine zbs ?_ GE102.out | refine zbs ?_ GE103.out | refine zbs ?_ GE123.out) | exact HB.out)⟩
           rw [if_neg c55] at H
           have c55b0 : decide ((wrap64 (a3)) ≤ t121) = false := zdf c55
           clear c55
           have H' := zam H
           clear H
           obtain ⟨Ao70, co70, eo70⟩ := Kd.R_slice HO_19.out
           subst eo70
           have p117 : 0 ≤ (x21_2 : Int) := zod zq8
           have q117 : x21_2 < (t113.length : Int) := zod zq8
           obtain ⟨ad117, e117, hx117_0, hx117_1, hx117_2, hx117_3⟩ := at_T29 (Kd.R_reads' HO_19.out).2.2 x21_2 p117 q117
           cases e117
           replace p117 := eq_true p117
           replace q117 := eq_true q117
           try go_wp2_with (first | ((with_reducible refine zgc (f := 27) rfl ?_); refine goesL_ (some 79) rfl rfl Try.func27 (by kernel_rfl) rfl #[.agg #[.int .i64 ((rd_T29 t113 x21_2).f0.f0), .int .i64 ((rd_T29 t113 x21_2).f0.f1), .int .i64 ((rd_T29 t113 x21_2).f1.f0), .int .i64 ((rd_T29 t113 x21_2).f1.f1)], .int .i64 t107, .int .i64 t108] rfl zq4 ?_; (with_reducible refine (isobathlaw07_inside.calls ((rd_T29 t113 x21_2).f0.f0) ((rd_T29 t113 x21_2).f0.f1) ((rd_T29 t113 x21_2).f1.f0) ((rd_T29 t113 x21_2).f1.f1) t107 t108 true _ A50.out).mono ?_); rintro e w71 ⟨rfl, hb⟩; refine ⟨_, rfl, ?_⟩; have n0_ := zam (Kd.R_below zq13 hb); have n1_ := zam (Kd.R_below zq12 hb); have n2_ := zam (zkb (g := gb101) (o := .cells #[.slice A0_0 l0_0.length c0_0, .int .i64 a0_1, .int .i64 a0_2] 26 (0, 0)) zq0 hb); have n3_ := zam (zkb (g := gb102) (o := .cells #[.int .i64 a1_0, .int .i64 a1_1, .int .i64 a1_2, .int .i64 a1_3] 29 (0, 0)) zq6 hb); have n4_ := zam (zkb (g := gb103) (o := .cells #[.int .u16 a2_0, .int .u16 a2_1] 57 (0, 0)) zq7 hb); have n5_ := zam (zbt zq5 hb); clear HO_18; clear HO_19; clear BK101; clear BK102; clear BK103; clear HB; have HO_18 := n0_; have HO_19 := n1_; have BK101 := n2_; have BK102 := n3_; have BK103 := n4_; have HB := n5_; clear n0_ n1_ n2_ n3_ n4_ n5_; (try clear hb); (try clear hb2); (try clear hk); (try clear hi)))
           have n0_ := zam (zRd HO_18.out)
           have n1_ := zam (zRd HO_19.out)
           have n2_ := zam (zkd BK101.out)
           have n3_ := zam (zkd BK102.out)
           have n4_ := zam (zkd BK103.out)
           have n5_ := zam (zb1 HB.out)
           clear HO_18
           clear HO_19
           clear BK101
           clear BK102
           clear BK103
           clear HB
           have HO_18 := n0_
           have HO_19 := n1_
           have BK101 := n2_
           have BK102 := n3_
           have BK103 := n4_
           have HB := n5_
           clear n0_ n1_ n2_ n3_ n4_ n5_
           have p119 : 0 ≤ (x21_2 : Int) := zod zq8
           have q119 : x21_2 < (t113.length : Int) := zod zq8
           obtain ⟨ad119, e119, hx119_0, hx119_1, hx119_2, hx119_3⟩ := at_T29 (Kd.R_reads' HO_19.out).2.2 x21_2 p119 q119
           obtain rfl : ad117 = ad119 := (by injection e119)
           replace p119 := eq_true p119
           replace q119 := eq_true q119
           refine start_ (n := 13) (S := fun w' => w'.cell? ⟨gb101, 0, none⟩ = some (.slice A0_0 l0_0.length c0_0) ∧ w'.cell? ⟨gb101, 1, none⟩ = some (.int .i64 a0_1) ∧ w'.cell? ⟨gb101, 2, none⟩ = some (.int .i64 a0_2) ∧ w'.cell? (ad117.add ((x21_2).toNat * 4)) = some (.int .i64 ((rd_T29 t113 x21_2).f0.f0)) ∧ w'.cell? ⟨(ad117.add ((x21_2).toNat * 4)).block, (ad117.add ((x21_2).toNat * 4)).off + 1, none⟩ = some (.int .i64 ((rd_T29 t113 x21_2).f0.f1)) ∧ w'.cell? ⟨(ad117.add ((x21_2).toNat * 4)).block, (ad117.add ((x21_2).toNat * 4)).off + 2, none⟩ = some (.int .i64 ((rd_T29 t113 x21_2).f1.f0)) ∧ w'.cell? ⟨(ad117.add ((x21_2).toNat * 4)).block, (ad117.add ((x21_2).toNat * 4)).off + 3, none⟩ = some (.int .i64 ((rd_T29 t113 x21_2).f1.f1))) (ds := []) #[false, false, false, false, false, false, false, false, false, false, false, false, false] (by kernel_rfl) rfl rfl ⟨(zkc BK101.out 0).trans rfl, (zkc BK101.out 1).trans rfl, (zkc BK101.out 2).trans rfl, hx119_0, hx119_1, hx119_2, hx119_3⟩ (fun hHeld => ?_); refine with_tabW isobathlaw07_SoundFinds.tab13 isobathlaw07_SoundFinds.bits13 (fun HT_ HW_ => ?_)
           generalize w71.drew = w72 at HO_18 HO_19 BK101 BK102 BK103 HB hx119_0 hx119_1 hx119_2 hx119_3 hHeld ⊢
           refine pure_ (i := 1) (N := some 83) (v := ?_) (a' := ?_) #[false, true, false, false, false, false, false, false, false, false, false, false, false] rfl rfl (any_of HT_.out (by kernel_rfl)) (fun _ _ _ h => h) (Or.inl ⟨by rfl, ?_⟩) ?_ ?_
           rotate_left
           ·intro w'
            go_simp
            with_reducible rfl
           rotate_left
           ·simp only [Act.put, zsa, zsz, zss, i64_w, i32_w]
            rfl
           refine pure_ (i := 2) (N := some 84) (v := ?_) (a' := ?_) #[false, true, true, false, false, false, false, false, false, false, false, false, false] rfl rfl (any_of HT_.out (by kernel_rfl)) (fun _ _ _ h => h) (Or.inl ⟨by rfl, ?_⟩) ?_ ?_
           rotate_left
           ·intro w'
            go_simp
            with_reducible rfl
           rotate_left
           ·simp only [Act.put, zsa, zsz, zss, i64_w, i32_w]
            rfl
           refine pure_ (i := 3) (N := some 85) (v := ?_) (a' := ?_) #[false, true, true, true, false, false, false, false, false, false, false, false, false] rfl rfl (any_of HT_.out (by kernel_rfl)) (fun _ _ _ h => h) (Or.inl ⟨by rfl, ?_⟩) ?_ ?_
           rotate_left
           ·intro w'
            go_simp
            with_reducible rfl
           rotate_left
           ·simp only [Act.put, zsa, zsz, zss, i64_w, i32_w]
            rfl
           refine pure_ (i := 4) (N := some 86) (v := ?_) (a' := ?_) #[false, true, true, true, true, false, false, false, false, false, false, false, false] rfl rfl (any_of HT_.out (by kernel_rfl)) (fun _ _ _ h => h) (Or.inl ⟨by rfl, ?_⟩) ?_ ?_
           rotate_left
           ·intro w'
            go_simp
            with_reducible rfl
           rotate_left
           ·simp only [Act.put, zsa, zsz, zss, i64_w, i32_w]
            rfl
           refine take_ (i := 0) (N := some 82) (v := ?_) (a' := ?_) #[true, true, true, true, true, false, false, false, false, false, false, false, false] rfl rfl (take_ofW HT_.out HW_.out (by kernel_rfl)) (fun _ _ _ h => h) (Or.inl ⟨by rfl, ?_⟩) hHeld ?_ ?_
           rotate_left
           ·rintro w' ⟨s0, s1, s2, s3, s4, s5, s6⟩
            go_simp
            with_reducible rfl
           rotate_left
           ·simp only [Act.put, zsa, zsz, zss, i64_w, i32_w]
            rfl
           refine take_ (i := 5) (N := some 87) (v := ?_) (a' := ?_) #[true, true, true, true, true, true, false, false, false, false, false, false, false] rfl rfl (take_ofW HT_.out HW_.out (by kernel_rfl)) (fun _ _ _ h => h) (Or.inl ⟨by rfl, ?_⟩) hHeld ?_ ?_
           rotate_left
           ·rintro w' ⟨s0, s1, s2, s3, s4, s5, s6⟩
            go_simp
            with_reducible rfl
           rotate_left
           ·simp only [Act.put, zsa, zsz, zss, i64_w, i32_w]
            rfl
           refine join_ (σ := Nat) 2 #[true, true, true, true, true, true, true, true, true, true, true, false, false] (fun s_ => [(88, .tuple #[.agg #[.int .i64 t120, .int .i64 t121], .int .i64 t122]), (22, .pointer (some ⟨s_, 0, none⟩)), (81, .tuple #[.agg #[.int .i64 t120, .int .i64 t121], .int .i64 t122]), (89, .agg #[.int .i64 t120, .int .i64 t121]), (90, .int .i64 t122)]) (fun s_ w' => (w'.cell? ⟨gb101, 0, none⟩ = some (.slice A0_0 l0_0.length c0_0) ∧ w'.cell? ⟨gb101, 1, none⟩ = some (.int .i64 a0_1) ∧ w'.cell? ⟨gb101, 2, none⟩ = some (.int .i64 a0_2) ∧ w'.cell? (ad117.add ((x21_2).toNat * 4)) = some (.int .i64 ((rd_T29 t113 x21_2).f0.f0)) ∧ w'.cell? ⟨(ad117.add ((x21_2).toNat * 4)).block, (ad117.add ((x21_2).toNat * 4)).off + 1, none⟩ = some (.int .i64 ((rd_T29 t113 x21_2).f0.f1)) ∧ w'.cell? ⟨(ad117.add ((x21_2).toNat * 4)).block, (ad117.add ((x21_2).toNat * 4)).off + 2, none⟩ = some (.int .i64 ((rd_T29 t113 x21_2).f1.f0)) ∧ w'.cell? ⟨(ad117.add ((x21_2).toNat * 4)).block, (ad117.add ((x21_2).toNat * 4)).off + 3, none⟩ = some (.int .i64 ((rd_T29 t113 x21_2).f1.f1))) ∧ (Kd.R k24 24 w' w.heap.size (fun k_ => k_ ≠ s_) (.slice Ao46 t110.length co46) t110) ∧ (Kd.R k29 29 w' w.heap.size (fun k_ => k_ ≠ gb102) (.slice (some ad117) t113.length co70) t113) ∧ (w'.heap[gb101]? = some (.cells #[.slice A0_0 l0_0.length c0_0, .int .i64 a0_1, .int .i64 a0_2] 26 (0, 0))) ∧ (w'.heap[gb102]? = some (.cells #[.int .i64 a1_0, .int .i64 a1_1, .int .i64 a1_2, .int .i64 a1_3] 29 (0, 0))) ∧ (w'.heap[gb103]? = some (.cells #[.int .u16 a2_0, .int .u16 a2_1] 57 (0, 0))) ∧ (w'.heap[s_]? = some (.cells #[.int .i64 0, .int .i64 0] 24 (0, 0))) ∧ (w.heap.size ≤ s_) ∧ (w.heap.size ≤ s_) ∧ (gb101 ≠ s_) ∧ (s_ ≠ gb101) ∧ (gb102 ≠ s_) ∧ (s_ ≠ gb102) ∧ (gb103 ≠ s_) ∧ (s_ ≠ gb103) ∧ (Below w.heap.size w w')) ?_ ?_
           rotate_left
           ·intro hCont
            refine two_ (i := 6) (j := 10) (Ni := some 88) (Nj := some 22) #[true, true, true, true, true, true, true, false, false, false, false, false, false] #[true, true, true, true, true, true, false, false, false, false, true, false, false] rfl rfl rfl rfl (two_of HT_.out (by kernel_rfl)) (by decide) (by decide) (fun K hK => ?_) (fun K hK => ?_)
            ·skip
             refine goes_ Try.func28 (by kernel_rfl) rfl #[.agg #[.slice A0_0 l0_0.length c0_0, .int .i64 a0_1, .int .i64 a0_2], .slice Ao46 t110.length co46, .agg #[.int .i64 ((rd_T29 t113 x21_2).f0.f0), .int .i64 ((rd_T29 t113 x21_2).f0.f1), .int .i64 ((rd_T29 t113 x21_2).f1.f0), .int .i64 ((rd_T29 t113 x21_2).f1.f1)]] (by rfl) rfl rfl zq4 ?_
             with_reducible refine (sound_Origin.calls k2 _ _ l0_0 a0_1 a0_2 _ _ t110 ((rd_T29 t113 x21_2).f0.f0) ((rd_T29 t113 x21_2).f0.f1) ((rd_T29 t113 x21_2).f1.f0) ((rd_T29 t113 x21_2).f1.f1) t120 t121 t122 _ ?side1 ?side2 ?side3 ?side4 A52.out).mono ?_
             (case side1 => repeat (first | exact (Kd.C_below HR0_0.out HB.out) | (with_reducible refine Kd.C_alloc ?_ _) | (with_reducible refine Kd.C_drewN ?_ _) | (with_reducible refine Kd.C_drew ?_)))
             (case side2 => exact HC0_0.out)
             (case side3 => repeat (first | exact (Kd.R_reads' HO_18.out).2.2 | (with_reducible refine Kd.C_alloc ?_ _) | (with_reducible refine Kd.C_drewN ?_ _) | (with_reducible refine Kd.C_drew ?_)))
             (case side4 => exact (Kd.R_reads' HO_18.out).2.1)
             rintro e w73 ⟨rfl, hb⟩
             have HS3_ := (hb.cell (zwb _ _ (hHeld.2.2.2.1))).trans (hHeld.2.2.2.1)
             have HS4_ := (hb.cell (zwb _ _ (hHeld.2.2.2.2.1))).trans (hHeld.2.2.2.2.1)
             have HS5_ := (hb.cell (zwb _ _ (hHeld.2.2.2.2.2.1))).trans (hHeld.2.2.2.2.2.1)
             have HS6_ := (hb.cell (zwb _ _ (hHeld.2.2.2.2.2.2))).trans (hHeld.2.2.2.2.2.2)
             refine ⟨_, rfl, ?_⟩
             have n0_ := zam (Kd.R_below zq13 hb)
             have n1_ := zam (Kd.R_below zq12 hb)
             have n2_ := zam (zkb (g := gb101) (o := .cells #[.slice A0_0 l0_0.length c0_0, .int .i64 a0_1, .int .i64 a0_2] 26 (0, 0)) zq0 hb)
             have n3_ := zam (zkb (g := gb102) (o := .cells #[.int .i64 a1_0, .int .i64 a1_1, .int .i64 a1_2, .int .i64 a1_3] 29 (0, 0)) zq6 hb)
             have n4_ := zam (zkb (g := gb103) (o := .cells #[.int .u16 a2_0, .int .u16 a2_1] 57 (0, 0)) zq7 hb)
             have n5_ := zam (zbt zq5 hb)
             clear HO_18
             clear HO_19
             clear BK101
             clear BK102
             clear BK103
             clear HB
             have HO_18 := n0_
             have HO_19 := n1_
             have BK101 := n2_
             have BK102 := n3_
             have BK103 := n4_
             have HB := n5_
             clear n0_ n1_ n2_ n3_ n4_ n5_
             (try clear hb)
             (try clear hb2)
             (try clear hk)
             (try clear hi)
             refine hK.out _ _ ⟨(zkc BK101.out 0).trans rfl, (zkc BK101.out 1).trans rfl, (zkc BK101.out 2).trans rfl, HS3_, HS4_, HS5_, HS6_⟩ (fun hHeld => ?_)
             clear hK K
             refine norm_ (a' := ?_) ?_ ?_
             rotate_left
             ·show Act.put _ (some 88) _ = _
              simp only [Act.put, zsa, zsz, zss, i64_w, i32_w]
              rfl
             refine pure_ (i := 7) (N := some 81) (v := ?_) (a' := ?_) #[true, true, true, true, true, true, true, true, false, false, false, false, false] rfl rfl (any_of HT_.out (by kernel_rfl)) (fun _ _ _ h => h) (Or.inl ⟨by rfl, ?_⟩) ?_ ?_
             rotate_left
             ·intro w'
              go_simp
              with_reducible rfl
             rotate_left
             ·simp only [Act.put, zsa, zsz, zss, i64_w, i32_w]
              rfl
             refine pure_ (i := 8) (N := some 89) (v := ?_) (a' := ?_) #[true, true, true, true, true, true, true, true, true, false, false, false, false] rfl rfl (any_of HT_.out (by kernel_rfl)) (fun _ _ _ h => h) (Or.inl ⟨by rfl, ?_⟩) ?_ ?_
             rotate_left
             ·intro w'
              go_simp
              with_reducible rfl
             rotate_left
             ·simp only [Act.put, zsa, zsz, zss, i64_w, i32_w]
              rfl
             refine pure_ (i := 9) (N := some 90) (v := ?_) (a' := ?_) #[true, true, true, true, true, true, true, true, true, true, false, false, false] rfl rfl (any_of HT_.out (by kernel_rfl)) (fun _ _ _ h => h) (Or.inl ⟨by rfl, ?_⟩) ?_ ?_
             rotate_left
             ·intro w'
              go_simp
              with_reducible rfl
             rotate_left
             ·simp only [Act.put, zsa, zsz, zss, i64_w, i32_w]
              rfl
             refine one_ (i := 10) (N := some 22) #[true, true, true, true, true, true, true, true, true, true, true, false, false] rfl rfl (one_of HT_.out (by kernel_rfl)) (by decide) (fun K hK => ?_)
             refine box_step ?hg (N := 22) ?hd (cs := #[.int .i64 0, .int .i64 0]) (t := 24) ?hr ?_; (case hd => rfl); (case hg => rfl); (case hr => first | (go_simp; done) | (go_simp; rfl))
             intro gb123 hg w74 hbox hb
             have HS3_ := (hb.cell (zwb _ _ (hHeld.2.2.2.1))).trans (hHeld.2.2.2.1)
             have HS4_ := (hb.cell (zwb _ _ (hHeld.2.2.2.2.1))).trans (hHeld.2.2.2.2.1)
             have HS5_ := (hb.cell (zwb _ _ (hHeld.2.2.2.2.2.1))).trans (hHeld.2.2.2.2.2.1)
             have HS6_ := (hb.cell (zwb _ _ (hHeld.2.2.2.2.2.2))).trans (hHeld.2.2.2.2.2.2)
             have n0_ := zam (Kd.R_below (Kd.R_elderB zq13 gb123 (Nat.le_of_eq hg.symm)) hb)
             have n1_ := zam (Kd.R_below zq12 hb)
             have n2_ := zam (zkb (g := gb101) (o := .cells #[.slice A0_0 l0_0.length c0_0, .int .i64 a0_1, .int .i64 a0_2] 26 (0, 0)) zq0 hb)
             have n3_ := zam (zkb (g := gb102) (o := .cells #[.int .i64 a1_0, .int .i64 a1_1, .int .i64 a1_2, .int .i64 a1_3] 29 (0, 0)) zq6 hb)
             have n4_ := zam (zkb (g := gb103) (o := .cells #[.int .u16 a2_0, .int .u16 a2_1] 57 (0, 0)) zq7 hb)
             have n5_ := zam (zbt zq5 hb)
             have n6_ := zam (hbox)
             have n7_ := zam ((by rw [hg]; exact (zbz zq5) : w.heap.size ≤ gb123))
             have n8_ := zam ((by rw [hg]; exact (zbz zq5) : w.heap.size ≤ gb123))
             have n9_ := zam ((by rw [hg]; exact Nat.ne_of_lt (blk_lt (g := gb101) (o := .cells #[.slice A0_0 l0_0.length c0_0, .int .i64 a0_1, .int .i64 a0_2] 26 (0, 0)) zq0) : gb101 ≠ gb123))
             have n10_ := zam ((by rw [hg]; exact Nat.ne_of_gt (blk_lt (g := gb101) (o := .cells #[.slice A0_0 l0_0.length c0_0, .int .i64 a0_1, .int .i64 a0_2] 26 (0, 0)) zq0) : gb123 ≠ gb101))
             have n11_ := zam ((by rw [hg]; exact Nat.ne_of_lt (blk_lt (g := gb102) (o := .cells #[.int .i64 a1_0, .int .i64 a1_1, .int .i64 a1_2, .int .i64 a1_3] 29 (0, 0)) zq6) : gb102 ≠ gb123))
             have n12_ := zam ((by rw [hg]; exact Nat.ne_of_gt (blk_lt (g := gb102) (o := .cells #[.int .i64 a1_0, .int .i64 a1_1, .int .i64 a1_2, .int .i64 a1_3] 29 (0, 0)) zq6) : gb123 ≠ gb102))
             have n13_ := zam ((by rw [hg]; exact Nat.ne_of_lt (blk_lt (g := gb103) (o := .cells #[.int .u16 a2_0, .int .u16 a2_1] 57 (0, 0)) zq7) : gb103 ≠ gb123))
             have n14_ := zam ((by rw [hg]; exact Nat.ne_of_gt (blk_lt (g := gb103) (o := .cells #[.int .u16 a2_0, .int .u16 a2_1] 57 (0, 0)) zq7) : gb123 ≠ gb103))
             clear HO_18
             clear HO_19
             clear BK101
             clear BK102
             clear BK103
             clear HB
             have HO_18 := n0_
             have HO_19 := n1_
             have BK101 := n2_
             have BK102 := n3_
             have BK103 := n4_
             have HB := n5_
             have BK123 := n6_
             have GW123 := n7_
             have GE123 := n8_
             have NB101_123 := n9_
             have NB123_101 := n10_
             have NB102_123 := n11_
             have NB123_102 := n12_
             have NB103_123 := n13_
             have NB123_103 := n14_
             clear n0_ n1_ n2_ n3_ n4_ n5_ n6_ n7_ n8_ n9_ n10_ n11_ n12_ n13_ n14_
             clear hb hbox hg
             refine hK.out _ _ ⟨(zkc BK101.out 0).trans rfl, (zkc BK101.out 1).trans rfl, (zkc BK101.out 2).trans rfl, HS3_, HS4_, HS5_, HS6_⟩ (fun hHeld => ?_)
             clear hK K
             refine norm_ (a' := ?_) ?_ ?_
             rotate_left
             ·show Act.put _ (some 22) _ = _
              simp only [Act.put, zsa, zsz, zss, i64_w, i32_w]
              rfl
             exact norm_ zq27 (hCont (gb123) _ ⟨hHeld, zq20, zq12, zq0, zq6, zq7, zq15, GW123.out, GE123.out, NB101_123.out, NB123_101.out, NB102_123.out, NB123_102.out, NB103_123.out, NB123_103.out, zq11⟩)
            skip
            refine box_step ?hg (N := 22) ?hd (cs := #[.int .i64 0, .int .i64 0]) (t := 24) ?hr ?_; (case hd => rfl); (case hg => rfl); (case hr => first | (go_simp; done) | (go_simp; rfl))
            intro gb123 hg w73 hbox hb
            have HS3_ := (hb.cell (zwb _ _ (hHeld.2.2.2.1))).trans (hHeld.2.2.2.1)
            have HS4_ := (hb.cell (zwb _ _ (hHeld.2.2.2.2.1))).trans (hHeld.2.2.2.2.1)
            have HS5_ := (hb.cell (zwb _ _ (hHeld.2.2.2.2.2.1))).trans (hHeld.2.2.2.2.2.1)
            have HS6_ := (hb.cell (zwb _ _ (hHeld.2.2.2.2.2.2))).trans (hHeld.2.2.2.2.2.2)
            have n0_ := zam (Kd.R_below (Kd.R_elderB zq13 gb123 (Nat.le_of_eq hg.symm)) hb)
            have n1_ := zam (Kd.R_below zq12 hb)
            have n2_ := zam (zkb (g := gb101) (o := .cells #[.slice A0_0 l0_0.length c0_0, .int .i64 a0_1, .int .i64 a0_2] 26 (0, 0)) zq0 hb)
            have n3_ := zam (zkb (g := gb102) (o := .cells #[.int .i64 a1_0, .int .i64 a1_1, .int .i64 a1_2, .int .i64 a1_3] 29 (0, 0)) zq6 hb)
            have n4_ := zam (zkb (g := gb103) (o := .cells #[.int .u16 a2_0, .int .u16 a2_1] 57 (0, 0)) zq7 hb)
            have n5_ := zam (zbt zq5 hb)
            have n6_ := zam (hbox)
            have n7_ := zam ((by rw [hg]; exact (zbz zq5) : w.heap.size ≤ gb123))
            have n8_ := zam ((by rw [hg]; exact (zbz zq5) : w.heap.size ≤ gb123))
            have n9_ := zam ((by rw [hg]; exact Nat.ne_of_lt (blk_lt (g := gb101) (o := .cells #[.slice A0_0 l0_0.length c0_0, .int .i64 a0_1, .int .i64 a0_2] 26 (0, 0)) zq0) : gb101 ≠ gb123))
            have n10_ := zam ((by rw [hg]; exact Nat.ne_of_gt (blk_lt (g := gb101) (o := .cells #[.slice A0_0 l0_0.length c0_0, .int .i64 a0_1, .int .i64 a0_2] 26 (0, 0)) zq0) : gb123 ≠ gb101))
            have n11_ := zam ((by rw [hg]; exact Nat.ne_of_lt (blk_lt (g := gb102) (o := .cells #[.int .i64 a1_0, .int .i64 a1_1, .int .i64 a1_2, .int .i64 a1_3] 29 (0, 0)) zq6) : gb102 ≠ gb123))
            have n12_ := zam ((by rw [hg]; exact Nat.ne_of_gt (blk_lt (g := gb102) (o := .cells #[.int .i64 a1_0, .int .i64 a1_1, .int .i64 a1_2, .int .i64 a1_3] 29 (0, 0)) zq6) : gb123 ≠ gb102))
            have n13_ := zam ((by rw [hg]; exact Nat.ne_of_lt (blk_lt (g := gb103) (o := .cells #[.int .u16 a2_0, .int .u16 a2_1] 57 (0, 0)) zq7) : gb103 ≠ gb123))
            have n14_ := zam ((by rw [hg]; exact Nat.ne_of_gt (blk_lt (g := gb103) (o := .cells #[.int .u16 a2_0, .int .u16 a2_1] 57 (0, 0)) zq7) : gb123 ≠ gb103))
            clear HO_18
            clear HO_19
            clear BK101
            clear BK102
            clear BK103
            clear HB
            have HO_18 := n0_
            have HO_19 := n1_
            have BK101 := n2_
            have BK102 := n3_
            have BK103 := n4_
            have HB := n5_
            have BK123 := n6_
            have GW123 := n7_
            have GE123 := n8_
            have NB101_123 := n9_
            have NB123_101 := n10_
            have NB102_123 := n11_
            have NB123_102 := n12_
            have NB103_123 := n13_
            have NB123_103 := n14_
            clear n0_ n1_ n2_ n3_ n4_ n5_ n6_ n7_ n8_ n9_ n10_ n11_ n12_ n13_ n14_
            clear hb hbox hg
            refine hK.out _ _ ⟨(zkc BK101.out 0).trans rfl, (zkc BK101.out 1).trans rfl, (zkc BK101.out 2).trans rfl, HS3_, HS4_, HS5_, HS6_⟩ (fun hHeld => ?_)
            clear hK K
            refine norm_ (a' := ?_) ?_ ?_
            rotate_left
            ·show Act.put _ (some 22) _ = _
             simp only [Act.put, zsa, zsz, zss, i64_w, i32_w]
             rfl
            refine one_ (i := 6) (N := some 88) #[true, true, true, true, true, true, true, false, false, false, true, false, false] rfl rfl (one_of HT_.out (by kernel_rfl)) (by decide) (fun K hK => ?_)
            refine goes_ Try.func28 (by kernel_rfl) rfl #[.agg #[.slice A0_0 l0_0.length c0_0, .int .i64 a0_1, .int .i64 a0_2], .slice Ao46 t110.length co46, .agg #[.int .i64 ((rd_T29 t113 x21_2).f0.f0), .int .i64 ((rd_T29 t113 x21_2).f0.f1), .int .i64 ((rd_T29 t113 x21_2).f1.f0), .int .i64 ((rd_T29 t113 x21_2).f1.f1)]] (by rfl) rfl rfl zq4 ?_
            with_reducible refine (sound_Origin.calls k2 _ _ l0_0 a0_1 a0_2 _ _ t110 ((rd_T29 t113 x21_2).f0.f0) ((rd_T29 t113 x21_2).f0.f1) ((rd_T29 t113 x21_2).f1.f0) ((rd_T29 t113 x21_2).f1.f1) t120 t121 t122 _ ?side1 ?side2 ?side3 ?side4 A52.out).mono ?_
            (case side1 => repeat (first | exact (Kd.C_below HR0_0.out HB.out) | (with_reducible refine Kd.C_alloc ?_ _) | (with_reducible refine Kd.C_drewN ?_ _) | (with_reducible refine Kd.C_drew ?_)))
            (case side2 => exact HC0_0.out)
            (case side3 => repeat (first | exact (Kd.R_reads' HO_18.out).2.2 | (with_reducible refine Kd.C_alloc ?_ _) | (with_reducible refine Kd.C_drewN ?_ _) | (with_reducible refine Kd.C_drew ?_)))
            (case side4 => exact (Kd.R_reads' HO_18.out).2.1)
            rintro e w74 ⟨rfl, hb⟩
            have HS3_ := (hb.cell (zwb _ _ (hHeld.2.2.2.1))).trans (hHeld.2.2.2.1)
            have HS4_ := (hb.cell (zwb _ _ (hHeld.2.2.2.2.1))).trans (hHeld.2.2.2.2.1)
            have HS5_ := (hb.cell (zwb _ _ (hHeld.2.2.2.2.2.1))).trans (hHeld.2.2.2.2.2.1)
            have HS6_ := (hb.cell (zwb _ _ (hHeld.2.2.2.2.2.2))).trans (hHeld.2.2.2.2.2.2)
            refine ⟨_, rfl, ?_⟩
            have n0_ := zam (Kd.R_below zq13 hb)
            have n1_ := zam (Kd.R_below zq12 hb)
            have n2_ := zam (zkb (g := gb101) (o := .cells #[.slice A0_0 l0_0.length c0_0, .int .i64 a0_1, .int .i64 a0_2] 26 (0, 0)) zq0 hb)
            have n3_ := zam (zkb (g := gb102) (o := .cells #[.int .i64 a1_0, .int .i64 a1_1, .int .i64 a1_2, .int .i64 a1_3] 29 (0, 0)) zq6 hb)
            have n4_ := zam (zkb (g := gb103) (o := .cells #[.int .u16 a2_0, .int .u16 a2_1] 57 (0, 0)) zq7 hb)
            have n5_ := zam (zkb (g := gb123) (o := .cells #[.int .i64 0, .int .i64 0] 24 (0, 0)) zq15 hb)
            have n6_ := zam (zbt zq11 hb)
            clear HO_18
            clear HO_19
            clear BK101
            clear BK102
            clear BK103
            clear BK123
            clear HB
            have HO_18 := n0_
            have HO_19 := n1_
            have BK101 := n2_
            have BK102 := n3_
            have BK103 := n4_
            have BK123 := n5_
            have HB := n6_
            clear n0_ n1_ n2_ n3_ n4_ n5_ n6_
            (try clear hb)
            (try clear hb2)
            (try clear hk)
            (try clear hi)
            refine hK.out _ _ ⟨(zkc BK101.out 0).trans rfl, (zkc BK101.out 1).trans rfl, (zkc BK101.out 2).trans rfl, HS3_, HS4_, HS5_, HS6_⟩ (fun hHeld => ?_)
            clear hK K
            refine norm_ (a' := ?_) ?_ ?_
            rotate_left
            ·show Act.put _ (some 88) _ = _
             simp only [Act.put, zsa, zsz, zss, i64_w, i32_w]
             rfl
            refine pure_ (i := 7) (N := some 81) (v := ?_) (a' := ?_) #[true, true, true, true, true, true, true, true, false, false, true, false, false] rfl rfl (any_of HT_.out (by kernel_rfl)) (fun _ _ _ h => h) (Or.inl ⟨by rfl, ?_⟩) ?_ ?_
            rotate_left
            ·intro w'
             go_simp
             with_reducible rfl
            rotate_left
            ·simp only [Act.put, zsa, zsz, zss, i64_w, i32_w]
             rfl
            refine pure_ (i := 8) (N := some 89) (v := ?_) (a' := ?_) #[true, true, true, true, true, true, true, true, true, false, true, false, false] rfl rfl (any_of HT_.out (by kernel_rfl)) (fun _ _ _ h => h) (Or.inl ⟨by rfl, ?_⟩) ?_ ?_
            rotate_left
            ·intro w'
             go_simp
             with_reducible rfl
            rotate_left
            ·simp only [Act.put, zsa, zsz, zss, i64_w, i32_w]
             rfl
            refine pure_ (i := 9) (N := some 90) (v := ?_) (a' := ?_) #[true, true, true, true, true, true, true, true, true, true, true, false, false] rfl rfl (any_of HT_.out (by kernel_rfl)) (fun _ _ _ h => h) (Or.inl ⟨by rfl, ?_⟩) ?_ ?_
            rotate_left
            ·intro w'
             go_simp
             with_reducible rfl
            rotate_left
            ·simp only [Act.put, zsa, zsz, zss, i64_w, i32_w]
             rfl
            exact norm_ zq27 (hCont (gb123) _ ⟨hHeld, zq20, zq12, zq0, zq6, zq7, zq15, GW123.out, GE123.out, NB101_123.out, NB123_101.out, NB102_123.out, NB123_102.out, NB103_123.out, NB123_103.out, zq11⟩)
           rintro gb123 w75 ⟨hS_, h0_, h1_, h2_, h3_, h4_, h5_, h6_, h7_, h8_, h9_, h10_, h11_, h12_, h13_, h14_⟩
           have n0_ : Aside0 (Kd.R k24 24 w75 w.heap.size (fun k_ => k_ ≠ gb123) (.slice Ao46 t110.length co46) t110) := ⟨h0_⟩
           have n1_ : Aside0 (Kd.R k29 29 w75 w.heap.size (fun k_ => k_ ≠ gb102) (.slice (some ad117) t113.length co70) t113) := ⟨h1_⟩
           have n2_ : Aside0 (w75.heap[gb101]? = some (.cells #[.slice A0_0 l0_0.length c0_0, .int .i64 a0_1, .int .i64 a0_2] 26 (0, 0))) := ⟨h2_⟩
           have n3_ : Aside0 (w75.heap[gb102]? = some (.cells #[.int .i64 a1_0, .int .i64 a1_1, .int .i64 a1_2, .int .i64 a1_3] 29 (0, 0))) := ⟨h3_⟩
           have n4_ : Aside0 (w75.heap[gb103]? = some (.cells #[.int .u16 a2_0, .int .u16 a2_1] 57 (0, 0))) := ⟨h4_⟩
           have n5_ : Aside0 (w75.heap[gb123]? = some (.cells #[.int .i64 0, .int .i64 0] 24 (0, 0))) := ⟨h5_⟩
           have n6_ : Aside0 (w.heap.size ≤ gb123) := ⟨h6_⟩
           have n7_ : Aside0 (w.heap.size ≤ gb123) := ⟨h7_⟩
           have n8_ : Aside0 (gb101 ≠ gb123) := ⟨h8_⟩
           have n9_ : Aside0 (gb123 ≠ gb101) := ⟨h9_⟩
           have n10_ : Aside0 (gb102 ≠ gb123) := ⟨h10_⟩
           have n11_ : Aside0 (gb123 ≠ gb102) := ⟨h11_⟩
           have n12_ : Aside0 (gb103 ≠ gb123) := ⟨h12_⟩
           have n13_ : Aside0 (gb123 ≠ gb103) := ⟨h13_⟩
           have n14_ : Aside0 (Below w.heap.size w w75) := ⟨h14_⟩
           clear HO_18
           clear HO_19
           clear BK101
           clear BK102
           clear BK103
           clear HB
           clear h0_ h1_ h2_ h3_ h4_ h5_ h6_ h7_ h8_ h9_ h10_ h11_ h12_ h13_ h14_
           have HO_18 := n0_
           have HO_19 := n1_
           have BK101 := n2_
           have BK102 := n3_
           have BK103 := n4_
           have BK123 := n5_
           have GW123 := n6_
           have GE123 := n7_
           have NB101_123 := n8_
           have NB123_101 := n9_
           have NB102_123 := n10_
           have NB123_102 := n11_
           have NB103_123 := n12_
           have NB123_103 := n13_
           have HB := n14_
           clear n0_ n1_ n2_ n3_ n4_ n5_ n6_ n7_ n8_ n9_ n10_ n11_ n12_ n13_ n14_
           have hHeld : w75.cell? ⟨gb101, 0, none⟩ = some (.slice A0_0 l0_0.length c0_0) ∧ w75.cell? ⟨gb101, 1, none⟩ = some (.int .i64 a0_1) ∧ w75.cell? ⟨gb101, 2, none⟩ = some (.int .i64 a0_2) ∧ w75.cell? (ad117.add ((x21_2).toNat * 4)) = some (.int .i64 ((rd_T29 t113 x21_2).f0.f0)) ∧ w75.cell? ⟨(ad117.add ((x21_2).toNat * 4)).block, (ad117.add ((x21_2).toNat * 4)).off + 1, none⟩ = some (.int .i64 ((rd_T29 t113 x21_2).f0.f1)) ∧ w75.cell? ⟨(ad117.add ((x21_2).toNat * 4)).block, (ad117.add ((x21_2).toNat * 4)).off + 2, none⟩ = some (.int .i64 ((rd_T29 t113 x21_2).f1.f0)) ∧ w75.cell? ⟨(ad117.add ((x21_2).toNat * 4)).block, (ad117.add ((x21_2).toNat * 4)).off + 3, none⟩ = some (.int .i64 ((rd_T29 t113 x21_2).f1.f1)) := hS_
           refine norm_ (a' := ?_) ?_ ?_
           rotate_left
           ·simp only [putAll, Act.put, zsa, zsz, zss]
            rfl
           refine one_ (i := 11) (N := none) #[true, true, true, true, true, true, true, true, true, true, true, true, false] rfl rfl (one_of HT_.out (by kernel_rfl)) (by decide) (fun K hK => ?_)
           have hs76 : w75.cell? ⟨gb123, 0, none⟩ = some (.int .i64 0) := (zkc BK123.out 0).trans rfl
           have hfs76 := zkz BK123.out 0
           have hns76_0 := NB101_123.out
           have hns76_1 := NB102_123.out
           have hns76_2 := NB103_123.out
           have hms76_0 := NB123_101.out
           have hms76_1 := NB123_102.out
           have hms76_2 := NB123_103.out
           have hs77 : w75.cell? ⟨gb123, 1, none⟩ = some (.int .i64 0) := (zkc BK123.out 1).trans rfl
           have hfs77 := zkz BK123.out 1
           have hns77_0 := NB101_123.out
           have hns77_1 := NB102_123.out
           have hns77_2 := NB103_123.out
           have hms77_0 := NB123_101.out
           have hms77_1 := NB123_102.out
           have hms77_2 := NB123_103.out
           refine skip_ (w1 := ?_) (by rfl) rfl ?_ ?_
           rotate_left
           ·go_simp
            rfl
           refine hK.out _ _ ⟨((cell_far (p := ⟨gb123, _, none⟩) NB101_123.out _).trans (((cell_far (p := ⟨gb123, _, none⟩) NB101_123.out _).trans (hHeld.1)))), ((cell_far (p := ⟨gb123, _, none⟩) NB101_123.out _).trans (((cell_far (p := ⟨gb123, _, none⟩) NB101_123.out _).trans (hHeld.2.1)))), ((cell_far (p := ⟨gb123, _, none⟩) NB101_123.out _).trans (((cell_far (p := ⟨gb123, _, none⟩) NB101_123.out _).trans (hHeld.2.2.1)))), ((cell_far (p := ⟨gb123, _, none⟩) zq3 _).trans (((cell_far (p := ⟨gb123, _, none⟩) zq3 _).trans (hHeld.2.2.2.1)))), ((cell_far (p := ⟨gb123, _, none⟩) zq3 _).trans (((cell_far (p := ⟨gb123, _, none⟩) zq3 _).trans (hHeld.2.2.2.2.1)))), ((cell_far (p := ⟨gb123, _, none⟩) zq3 _).trans (((cell_far (p := ⟨gb123, _, none⟩) zq3 _).trans (hHeld.2.2.2.2.2.1)))), ((cell_far (p := ⟨gb123, _, none⟩) zq3 _).trans (((cell_far (p := ⟨gb123, _, none⟩) zq3 _).trans (hHeld.2.2.2.2.2.2))))⟩ (fun hHeld => ?_)
           clear hK K
           refine pure_ (i := 12) (N := some 23) (v := ?_) (a' := ?_) #[true, true, true, true, true, true, true, true, true, true, true, true, true] rfl rfl (any_of HT_.out (by kernel_rfl)) (fun _ _ _ h => h) (Or.inl ⟨by rfl, ?_⟩) ?_ ?_
           rotate_left
           ·intro w'
            go_simp
            with_reducible rfl
           rotate_left
           ·simp only [Act.put, zsa, zsz, zss, i64_w, i32_w]
            rfl
           refine done_ (done_of HT_.out (by kernel_rfl)) ?_
           have hnb78 := NB123_101.out
           have hnc78 := NB101_123.out
           have hnb79 := NB123_102.out
           have hnc79 := NB102_123.out
           have hnb80 := NB123_103.out
           have hnc80 := NB103_123.out
           have hcz81_0 : w75.cell? ⟨gb123, 0, none⟩ = some (.int .i64 0) := (zkc BK123.out 0).trans rfl
           have hcz81_1 : w75.cell? ⟨gb123, 1, none⟩ = some (.int .i64 0) := (zkc BK123.out 1).trans rfl
           have hfz81_0 := zkz BK123.out 0
           have hfz81_1 := zkz BK123.out 1
           try go_wp2
           go_roundg k2
           case measure => have := HJ7.out; have := HK2.out; omega
           case rel => exact ⟨(wrap64 (x21_2 + 1)), zq9, H', ⟨by have := HJ7.out; have := HK2.out; omega⟩, ⟨by (with_reducible repeat (first | apply zRa | apply zRn | apply zRd)); exact Kd.R_mono (Kd.R_far (p := ⟨gb123, 1, none⟩) (Kd.R_far (p := ⟨gb123, 0, none⟩) (Kd.R_mono HO_18.out (fun k_ hk => (⟨hk, hk⟩ : _ ∧ k_ ≠ gb123))) (fun _ hk => hk.2) (.int .i64 t120)) (fun _ hk => hk.2) (.int .i64 t121)) (fun _ hk => trivial)⟩, ⟨by (with_reducible repeat (first | apply zRa | apply zRn | apply zRd)); exact Kd.R_mono (Kd.R_far (p := ⟨gb123, 1, none⟩) (Kd.R_far (p := ⟨gb123, 0, none⟩) (Kd.R_types HO_19.out BK123.out (by decide)) (fun _ hk => hk.2) (.int .i64 t120)) (fun _ hk => hk.2) (.int .i64 t121)) (fun _ hk => hk.1)⟩, ⟨by (with_reducible repeat (first | refine zkn ?_ _ | refine zkd ?_ | refine zka ?_ _)); refine zkf ?_ NB101_123.out _; (with_reducible repeat (first | refine zkn ?_ _ | refine zkd ?_ | refine zka ?_ _)); refine zkf ?_ NB101_123.out _; (with_reducible repeat (first | refine zkn ?_ _ | refine zkd ?_ | refine zka ?_ _)); exact BK101.out⟩, ⟨by (with_reducible repeat (first | refine zkn ?_ _ | refine zkd ?_ | refine zka ?_ _)); refine zkf ?_ NB102_123.out _; (with_reducible repeat (first | refine zkn ?_ _ | refine zkd ?_ | refine zka ?_ _)); refine zkf ?_ NB102_123.out _; (with_reducible repeat (first | refine zkn ?_ _ | refine zkd ?_ | refine zka ?_ _)); exact BK102.out⟩, ⟨by (with_reducible repeat (first | refine zkn ?_ _ | refine zkd ?_ | refine zka ?_ _)); refine zkf ?_ NB103_123.out _; (with_reducible repeat (first | refine zkn ?_ _ | refine zkd ?_ | refine zka ?_ _)); refine zkf ?_ NB103_123.out _; (with_reducible repeat (first | refine zkn ?_ _ | refine zkd ?_ | refine zka ?_ _)); exact BK103.out⟩, ⟨by repeat (first | (with_reducible first | exact HB.out | apply zba | apply zbn | apply zb1 | refine zbs ?_ GE101.out | refine zbs ?_ GE102.out | refine zbs ?_ GE103.out | refine zbs ?_ GE123.out) | exact HB.out)⟩⟩
          rw [if_neg c54] at H
          have c54b0 : decide (t120 ≤ (wrap64 (a3))) = false := zdf c54
          clear c54
          have H' := zam H
          clear H
          obtain ⟨Ao82, co82, eo82⟩ := Kd.R_slice HO_19.out
          subst eo82
          have p117 : 0 ≤ (x21_2 : Int) := zod zq8
          have q117 : x21_2 < (t113.length : Int) := zod zq8
          obtain ⟨ad117, e117, hx117_0, hx117_1, hx117_2, hx117_3⟩ := at_T29 (Kd.R_reads' HO_19.out).2.2 x21_2 p117 q117
          cases e117
          replace p117 := eq_true p117
          replace q117 := eq_true q117
          try go_wp2_with (first | ((with_reducible refine zgc (f := 27) rfl ?_); refine goesL_ (some 79) rfl rfl Try.func27 (by kernel_rfl) rfl #[.agg #[.int .i64 ((rd_T29 t113 x21_2).f0.f0), .int .i64 ((rd_T29 t113 x21_2).f0.f1), .int .i64 ((rd_T29 t113 x21_2).f1.f0), .int .i64 ((rd_T29 t113 x21_2).f1.f1)], .int .i64 t107, .int .i64 t108] rfl zq4 ?_; (with_reducible refine (isobathlaw07_inside.calls ((rd_T29 t113 x21_2).f0.f0) ((rd_T29 t113 x21_2).f0.f1) ((rd_T29 t113 x21_2).f1.f0) ((rd_T29 t113 x21_2).f1.f1) t107 t108 true _ A50.out).mono ?_); rintro e w83 ⟨rfl, hb⟩; refine ⟨_, rfl, ?_⟩; have n0_ := zam (Kd.R_below zq13 hb); have n1_ := zam (Kd.R_below zq12 hb); have n2_ := zam (zkb (g := gb101) (o := .cells #[.slice A0_0 l0_0.length c0_0, .int .i64 a0_1, .int .i64 a0_2] 26 (0, 0)) zq0 hb); have n3_ := zam (zkb (g := gb102) (o := .cells #[.int .i64 a1_0, .int .i64 a1_1, .int .i64 a1_2, .int .i64 a1_3] 29 (0, 0)) zq6 hb); have n4_ := zam (zkb (g := gb103) (o := .cells #[.int .u16 a2_0, .int .u16 a2_1] 57 (0, 0)) zq7 hb); have n5_ := zam (zbt zq5 hb); clear HO_18; clear HO_19; clear BK101; clear BK102; clear BK103; clear HB; have HO_18 := n0_; have HO_19 := n1_; have BK101 := n2_; have BK102 := n3_; have BK103 := n4_; have HB := n5_; clear n0_ n1_ n2_ n3_ n4_ n5_; (try clear hb); (try clear hb2); (try clear hk); (try clear hi)))
          have n0_ := zam (zRd HO_18.out)
          have n1_ := zam (zRd HO_19.out)
          have n2_ := zam (zkd BK101.out)
          have n3_ := zam (zkd BK102.out)
          have n4_ := zam (zkd BK103.out)
          have n5_ := zam (zb1 HB.out)
          clear HO_18
          clear HO_19
          clear BK101
          clear BK102
          clear BK103
          clear HB
          have HO_18 := n0_
          have HO_19 := n1_
          have BK101 := n2_
          have BK102 := n3_
          have BK103 := n4_
          have HB := n5_
          clear n0_ n1_ n2_ n3_ n4_ n5_
          have p119 : 0 ≤ (x21_2 : Int) := zod zq8
          have q119 : x21_2 < (t113.length : Int) := zod zq8
          obtain ⟨ad119, e119, hx119_0, hx119_1, hx119_2, hx119_3⟩ := at_T29 (Kd.R_reads' HO_19.out).2.2 x21_2 p119 q119
          obtain rfl : ad117 = ad119 := (by injection e119)
          replace p119 := eq_true p119
          replace q119 := eq_true q119
          refine start_ (n := 13) (S := fun w' => w'.cell? ⟨gb101, 0, none⟩ = some (.slice A0_0 l0_0.length c0_0) ∧ w'.cell? ⟨gb101, 1, none⟩ = some (.int .i64 a0_1) ∧ w'.cell? ⟨gb101, 2, none⟩ = some (.int .i64 a0_2) ∧ w'.cell? (ad117.add ((x21_2).toNat * 4)) = some (.int .i64 ((rd_T29 t113 x21_2).f0.f0)) ∧ w'.cell? ⟨(ad117.add ((x21_2).toNat * 4)).block, (ad117.add ((x21_2).toNat * 4)).off + 1, none⟩ = some (.int .i64 ((rd_T29 t113 x21_2).f0.f1)) ∧ w'.cell? ⟨(ad117.add ((x21_2).toNat * 4)).block, (ad117.add ((x21_2).toNat * 4)).off + 2, none⟩ = some (.int .i64 ((rd_T29 t113 x21_2).f1.f0)) ∧ w'.cell? ⟨(ad117.add ((x21_2).toNat * 4)).block, (ad117.add ((x21_2).toNat * 4)).off + 3, none⟩ = some (.int .i64 ((rd_T29 t113 x21_2).f1.f1))) (ds := []) #[false, false, false, false, false, false, false, false, false, false, false, false, false] (by kernel_rfl) rfl rfl ⟨(zkc BK101.out 0).trans rfl, (zkc BK101.out 1).trans rfl, (zkc BK101.out 2).trans rfl, hx119_0, hx119_1, hx119_2, hx119_3⟩ (fun hHeld => ?_); refine with_tabW isobathlaw07_SoundFinds.tab13 isobathlaw07_SoundFinds.bits13 (fun HT_ HW_ => ?_)
          generalize w83.drew = w84 at HO_18 HO_19 BK101 BK102 BK103 HB hx119_0 hx119_1 hx119_2 hx119_3 hHeld ⊢
          refine pure_ (i := 1) (N := some 83) (v := ?_) (a' := ?_) #[false, true, false, false, false, false, false, false, false, false, false, false, false] rfl rfl (any_of HT_.out (by kernel_rfl)) (fun _ _ _ h => h) (Or.inl ⟨by rfl, ?_⟩) ?_ ?_
          rotate_left
          ·intro w'
           go_simp
           with_reducible rfl
          rotate_left
          ·simp only [Act.put, zsa, zsz, zss, i64_w, i32_w]
           rfl
          refine pure_ (i := 2) (N := some 84) (v := ?_) (a' := ?_) #[false, true, true, false, false, false, false, false, false, false, false, false, false] rfl rfl (any_of HT_.out (by kernel_rfl)) (fun _ _ _ h => h) (Or.inl ⟨by rfl, ?_⟩) ?_ ?_
          rotate_left
          ·intro w'
           go_simp
           with_reducible rfl
          rotate_left
          ·simp only [Act.put, zsa, zsz, zss, i64_w, i32_w]
           rfl
          refine pure_ (i := 3) (N := some 85) (v := ?_) (a' := ?_) #[false, true, true, true, false, false, false, false, false, false, false, false, false] rfl rfl (any_of HT_.out (by kernel_rfl)) (fun _ _ _ h => h) (Or.inl ⟨by rfl, ?_⟩) ?_ ?_
          rotate_left
          ·intro w'
           go_simp
           with_reducible rfl
          rotate_left
          ·simp only [Act.put, zsa, zsz, zss, i64_w, i32_w]
           rfl
          refine pure_ (i := 4) (N := some 86) (v := ?_) (a' := ?_) #[false, true, true, true, true, false, false, false, false, false, false, false, false] rfl rfl (any_of HT_.out (by kernel_rfl)) (fun _ _ _ h => h) (Or.inl ⟨by rfl, ?_⟩) ?_ ?_
          rotate_left
          ·intro w'
           go_simp
           with_reducible rfl
          rotate_left
          ·simp only [Act.put, zsa, zsz, zss, i64_w, i32_w]
           rfl
          refine take_ (i := 0) (N := some 82) (v := ?_) (a' := ?_) #[true, true, true, true, true, false, false, false, false, false, false, false, false] rfl rfl (take_ofW HT_.out HW_.out (by kernel_rfl)) (fun _ _ _ h => h) (Or.inl ⟨by rfl, ?_⟩) hHeld ?_ ?_
          rotate_left
          ·rintro w' ⟨s0, s1, s2, s3, s4, s5, s6⟩
           go_simp
           with_reducible rfl
          rotate_left
          ·simp only [Act.put, zsa, zsz, zss, i64_w, i32_w]
           rfl
          refine take_ (i := 5) (N := some 87) (v := ?_) (a' := ?_) #[true, true, true, true, true, true, false, false, false, false, false, false, false] rfl rfl (take_ofW HT_.out HW_.out (by kernel_rfl)) (fun _ _ _ h => h) (Or.inl ⟨by rfl, ?_⟩) hHeld ?_ ?_
          rotate_left
          ·rintro w' ⟨s0, s1, s2, s3, s4, s5, s6⟩
           go_simp
           with_reducible rfl
          rotate_left
          ·simp only [Act.put, zsa, zsz, zss, i64_w, i32_w]
           rfl
          refine join_ (σ := Nat) 2 #[true, true, true, true, true, true, true, true, true, true, true, false, false] (fun s_ => [(88, .tuple #[.agg #[.int .i64 t120, .int .i64 t121], .int .i64 t122]), (22, .pointer (some ⟨s_, 0, none⟩)), (81, .tuple #[.agg #[.int .i64 t120, .int .i64 t121], .int .i64 t122]), (89, .agg #[.int .i64 t120, .int .i64 t121]), (90, .int .i64 t122)]) (fun s_ w' => (w'.cell? ⟨gb101, 0, none⟩ = some (.slice A0_0 l0_0.length c0_0) ∧ w'.cell? ⟨gb101, 1, none⟩ = some (.int .i64 a0_1) ∧ w'.cell? ⟨gb101, 2, none⟩ = some (.int .i64 a0_2) ∧ w'.cell? (ad117.add ((x21_2).toNat * 4)) = some (.int .i64 ((rd_T29 t113 x21_2).f0.f0)) ∧ w'.cell? ⟨(ad117.add ((x21_2).toNat * 4)).block, (ad117.add ((x21_2).toNat * 4)).off + 1, none⟩ = some (.int .i64 ((rd_T29 t113 x21_2).f0.f1)) ∧ w'.cell? ⟨(ad117.add ((x21_2).toNat * 4)).block, (ad117.add ((x21_2).toNat * 4)).off + 2, none⟩ = some (.int .i64 ((rd_T29 t113 x21_2).f1.f0)) ∧ w'.cell? ⟨(ad117.add ((x21_2).toNat * 4)).block, (ad117.add ((x21_2).toNat * 4)).off + 3, none⟩ = some (.int .i64 ((rd_T29 t113 x21_2).f1.f1))) ∧ (Kd.R k24 24 w' w.heap.size (fun k_ => k_ ≠ s_) (.slice Ao46 t110.length co46) t110) ∧ (Kd.R k29 29 w' w.heap.size (fun k_ => k_ ≠ gb102) (.slice (some ad117) t113.length co82) t113) ∧ (w'.heap[gb101]? = some (.cells #[.slice A0_0 l0_0.length c0_0, .int .i64 a0_1, .int .i64 a0_2] 26 (0, 0))) ∧ (w'.heap[gb102]? = some (.cells #[.int .i64 a1_0, .int .i64 a1_1, .int .i64 a1_2, .int .i64 a1_3] 29 (0, 0))) ∧ (w'.heap[gb103]? = some (.cells #[.int .u16 a2_0, .int .u16 a2_1] 57 (0, 0))) ∧ (w'.heap[s_]? = some (.cells #[.int .i64 0, .int .i64 0] 24 (0, 0))) ∧ (w.heap.size ≤ s_) ∧ (w.heap.size ≤ s_) ∧ (gb101 ≠ s_) ∧ (s_ ≠ gb101) ∧ (gb102 ≠ s_) ∧ (s_ ≠ gb102) ∧ (gb103 ≠ s_) ∧ (s_ ≠ gb103) ∧ (Below w.heap.size w w')) ?_ ?_
          rotate_left
          ·intro hCont
           refine two_ (i := 6) (j := 10) (Ni := some 88) (Nj := some 22) #[true, true, true, true, true, true, true, false, false, false, false, false, false] #[true, true, true, true, true, true, false, false, false, false, true, false, false] rfl rfl rfl rfl (two_of HT_.out (by kernel_rfl)) (by decide) (by decide) (fun K hK => ?_) (fun K hK => ?_)
           ·skip
            refine goes_ Try.func28 (by kernel_rfl) rfl #[.agg #[.slice A0_0 l0_0.length c0_0, .int .i64 a0_1, .int .i64 a0_2], .slice Ao46 t110.length co46, .agg #[.int .i64 ((rd_T29 t113 x21_2).f0.f0), .int .i64 ((rd_T29 t113 x21_2).f0.f1), .int .i64 ((rd_T29 t113 x21_2).f1.f0), .int .i64 ((rd_T29 t113 x21_2).f1.f1)]] (by rfl) rfl rfl zq4 ?_
            with_reducible refine (sound_Origin.calls k2 _ _ l0_0 a0_1 a0_2 _ _ t110 ((rd_T29 t113 x21_2).f0.f0) ((rd_T29 t113 x21_2).f0.f1) ((rd_T29 t113 x21_2).f1.f0) ((rd_T29 t113 x21_2).f1.f1) t120 t121 t122 _ ?side1 ?side2 ?side3 ?side4 A52.out).mono ?_
            (case side1 => repeat (first | exact (Kd.C_below HR0_0.out HB.out) | (with_reducible refine Kd.C_alloc ?_ _) | (with_reducible refine Kd.C_drewN ?_ _) | (with_reducible refine Kd.C_drew ?_)))
            (case side2 => exact HC0_0.out)
            (case side3 => repeat (first | exact (Kd.R_reads' HO_18.out).2.2 | (with_reducible refine Kd.C_alloc ?_ _) | (with_reducible refine Kd.C_drewN ?_ _) | (with_reducible refine Kd.C_drew ?_)))
            (case side4 => exact (Kd.R_reads' HO_18.out).2.1)
            rintro e w85 ⟨rfl, hb⟩
            have HS3_ := (hb.cell (zwb _ _ (hHeld.2.2.2.1))).trans (hHeld.2.2.2.1)
            have HS4_ := (hb.cell (zwb _ _ (hHeld.2.2.2.2.1))).trans (hHeld.2.2.2.2.1)
            have HS5_ := (hb.cell (zwb _ _ (hHeld.2.2.2.2.2.1))).trans (hHeld.2.2.2.2.2.1)
            have HS6_ := (hb.cell (zwb _ _ (hHeld.2.2.2.2.2.2))).trans (hHeld.2.2.2.2.2.2)
            refine ⟨_, rfl, ?_⟩
            have n0_ := zam (Kd.R_below zq13 hb)
            have n1_ := zam (Kd.R_below zq12 hb)
            have n2_ := zam (zkb (g := gb101) (o := .cells #[.slice A0_0 l0_0.length c0_0, .int .i64 a0_1, .int .i64 a0_2] 26 (0, 0)) zq0 hb)
            have n3_ := zam (zkb (g := gb102) (o := .cells #[.int .i64 a1_0, .int .i64 a1_1, .int .i64 a1_2, .int .i64 a1_3] 29 (0, 0)) zq6 hb)
            have n4_ := zam (zkb (g := gb103) (o := .cells #[.int .u16 a2_0, .int .u16 a2_1] 57 (0, 0)) zq7 hb)
            have n5_ := zam (zbt zq5 hb)
            clear HO_18
            clear HO_19
            clear BK101
            clear BK102
            clear BK103
            clear HB
            have HO_18 := n0_
            have HO_19 := n1_
            have BK101 := n2_
            have BK102 := n3_
            have BK103 := n4_
            have HB := n5_
            clear n0_ n1_ n2_ n3_ n4_ n5_
            (try clear hb)
            (try clear hb2)
            (try clear hk)
            (try clear hi)
            refine hK.out _ _ ⟨(zkc BK101.out 0).trans rfl, (zkc BK101.out 1).trans rfl, (zkc BK101.out 2).trans rfl, HS3_, HS4_, HS5_, HS6_⟩ (fun hHeld => ?_)
            clear hK K
            refine norm_ (a' := ?_) ?_ ?_
            rotate_left
            ·show Act.put _ (some 88) _ = _
             simp only [Act.put, zsa, zsz, zss, i64_w, i32_w]
             rfl
            refine pure_ (i := 7) (N := some 81) (v := ?_) (a' := ?_) #[true, true, true, true, true, true, true, true, false, false, false, false, false] rfl rfl (any_of HT_.out (by kernel_rfl)) (fun _ _ _ h => h) (Or.inl ⟨by rfl, ?_⟩) ?_ ?_
            rotate_left
            ·intro w'
             go_simp
             with_reducible rfl
            rotate_left
            ·simp only [Act.put, zsa, zsz, zss, i64_w, i32_w]
             rfl
            refine pure_ (i := 8) (N := some 89) (v := ?_) (a' := ?_) #[true, true, true, true, true, true, true, true, true, false, false, false, false] rfl rfl (any_of HT_.out (by kernel_rfl)) (fun _ _ _ h => h) (Or.inl ⟨by rfl, ?_⟩) ?_ ?_
            rotate_left
            ·intro w'
             go_simp
             with_reducible rfl
            rotate_left
            ·simp only [Act.put, zsa, zsz, zss, i64_w, i32_w]
             rfl
            refine pure_ (i := 9) (N := some 90) (v := ?_) (a' := ?_) #[true, true, true, true, true, true, true, true, true, true, false, false, false] rfl rfl (any_of HT_.out (by kernel_rfl)) (fun _ _ _ h => h) (Or.inl ⟨by rfl, ?_⟩) ?_ ?_
            rotate_left
            ·intro w'
             go_simp
             with_reducible rfl
            rotate_left
            ·simp only [Act.put, zsa, zsz, zss, i64_w, i32_w]
             rfl
            refine one_ (i := 10) (N := some 22) #[true, true, true, true, true, true, true, true, true, true, true, false, false] rfl rfl (one_of HT_.out (by kernel_rfl)) (by decide) (fun K hK => ?_)
            refine box_step ?hg (N := 22) ?hd (cs := #[.int .i64 0, .int .i64 0]) (t := 24) ?hr ?_; (case hd => rfl); (case hg => rfl); (case hr => first | (go_simp; done) | (go_simp; rfl))
            intro gb123 hg w86 hbox hb
            have HS3_ := (hb.cell (zwb _ _ (hHeld.2.2.2.1))).trans (hHeld.2.2.2.1)
            have HS4_ := (hb.cell (zwb _ _ (hHeld.2.2.2.2.1))).trans (hHeld.2.2.2.2.1)
            have HS5_ := (hb.cell (zwb _ _ (hHeld.2.2.2.2.2.1))).trans (hHeld.2.2.2.2.2.1)
            have HS6_ := (hb.cell (zwb _ _ (hHeld.2.2.2.2.2.2))).trans (hHeld.2.2.2.2.2.2)
            have n0_ := zam (Kd.R_below (Kd.R_elderB zq13 gb123 (Nat.le_of_eq hg.symm)) hb)
            have n1_ := zam (Kd.R_below zq12 hb)
            have n2_ := zam (zkb (g := gb101) (o := .cells #[.slice A0_0 l0_0.length c0_0, .int .i64 a0_1, .int .i64 a0_2] 26 (0, 0)) zq0 hb)
            have n3_ := zam (zkb (g := gb102) (o := .cells #[.int .i64 a1_0, .int .i64 a1_1, .int .i64 a1_2, .int .i64 a1_3] 29 (0, 0)) zq6 hb)
            have n4_ := zam (zkb (g := gb103) (o := .cells #[.int .u16 a2_0, .int .u16 a2_1] 57 (0, 0)) zq7 hb)
            have n5_ := zam (zbt zq5 hb)
            have n6_ := zam (hbox)
            have n7_ := zam ((by rw [hg]; exact (zbz zq5) : w.heap.size ≤ gb123))
            have n8_ := zam ((by rw [hg]; exact (zbz zq5) : w.heap.size ≤ gb123))
            have n9_ := zam ((by rw [hg]; exact Nat.ne_of_lt (blk_lt (g := gb101) (o := .cells #[.slice A0_0 l0_0.length c0_0, .int .i64 a0_1, .int .i64 a0_2] 26 (0, 0)) zq0) : gb101 ≠ gb123))
            have n10_ := zam ((by rw [hg]; exact Nat.ne_of_gt (blk_lt (g := gb101) (o := .cells #[.slice A0_0 l0_0.length c0_0, .int .i64 a0_1, .int .i64 a0_2] 26 (0, 0)) zq0) : gb123 ≠ gb101))
            have n11_ := zam ((by rw [hg]; exact Nat.ne_of_lt (blk_lt (g := gb102) (o := .cells #[.int .i64 a1_0, .int .i64 a1_1, .int .i64 a1_2, .int .i64 a1_3] 29 (0, 0)) zq6) : gb102 ≠ gb123))
            have n12_ := zam ((by rw [hg]; exact Nat.ne_of_gt (blk_lt (g := gb102) (o := .cells #[.int .i64 a1_0, .int .i64 a1_1, .int .i64 a1_2, .int .i64 a1_3] 29 (0, 0)) zq6) : gb123 ≠ gb102))
            have n13_ := zam ((by rw [hg]; exact Nat.ne_of_lt (blk_lt (g := gb103) (o := .cells #[.int .u16 a2_0, .int .u16 a2_1] 57 (0, 0)) zq7) : gb103 ≠ gb123))
            have n14_ := zam ((by rw [hg]; exact Nat.ne_of_gt (blk_lt (g := gb103) (o := .cells #[.int .u16 a2_0, .int .u16 a2_1] 57 (0, 0)) zq7) : gb123 ≠ gb103))
            clear HO_18
            clear HO_19
            clear BK101
            clear BK102
            clear BK103
            clear HB
            have HO_18 := n0_
            have HO_19 := n1_
            have BK101 := n2_
            have BK102 := n3_
            have BK103 := n4_
            have HB := n5_
            have BK123 := n6_
            have GW123 := n7_
            have GE123 := n8_
            have NB101_123 := n9_
            have NB123_101 := n10_
            have NB102_123 := n11_
            have NB123_102 := n12_
            have NB103_123 := n13_
            have NB123_103 := n14_
            clear n0_ n1_ n2_ n3_ n4_ n5_ n6_ n7_ n8_ n9_ n10_ n11_ n12_ n13_ n14_
            clear hb hbox hg
            refine hK.out _ _ ⟨(zkc BK101.out 0).trans rfl, (zkc BK101.out 1).trans rfl, (zkc BK101.out 2).trans rfl, HS3_, HS4_, HS5_, HS6_⟩ (fun hHeld => ?_)
            clear hK K
            refine norm_ (a' := ?_) ?_ ?_
            rotate_left
            ·show Act.put _ (some 22) _ = _
             simp only [Act.put, zsa, zsz, zss, i64_w, i32_w]
             rfl
            exact norm_ zq27 (hCont (gb123) _ ⟨hHeld, zq20, zq12, zq0, zq6, zq7, zq15, GW123.out, GE123.out, NB101_123.out, NB123_101.out, NB102_123.out, NB123_102.out, NB103_123.out, NB123_103.out, zq11⟩)
           skip
           refine box_step ?hg (N := 22) ?hd (cs := #[.int .i64 0, .int .i64 0]) (t := 24) ?hr ?_; (case hd => rfl); (case hg => rfl); (case hr => first | (go_simp; done) | (go_simp; rfl))
           intro gb123 hg w85 hbox hb
           have HS3_ := (hb.cell (zwb _ _ (hHeld.2.2.2.1))).trans (hHeld.2.2.2.1)
           have HS4_ := (hb.cell (zwb _ _ (hHeld.2.2.2.2.1))).trans (hHeld.2.2.2.2.1)
           have HS5_ := (hb.cell (zwb _ _ (hHeld.2.2.2.2.2.1))).trans (hHeld.2.2.2.2.2.1)
           have HS6_ := (hb.cell (zwb _ _ (hHeld.2.2.2.2.2.2))).trans (hHeld.2.2.2.2.2.2)
           have n0_ := zam (Kd.R_below (Kd.R_elderB zq13 gb123 (Nat.le_of_eq hg.symm)) hb)
           have n1_ := zam (Kd.R_below zq12 hb)
           have n2_ := zam (zkb (g := gb101) (o := .cells #[.slice A0_0 l0_0.length c0_0, .int .i64 a0_1, .int .i64 a0_2] 26 (0, 0)) zq0 hb)
           have n3_ := zam (zkb (g := gb102) (o := .cells #[.int .i64 a1_0, .int .i64 a1_1, .int .i64 a1_2, .int .i64 a1_3] 29 (0, 0)) zq6 hb)
           have n4_ := zam (zkb (g := gb103) (o := .cells #[.int .u16 a2_0, .int .u16 a2_1] 57 (0, 0)) zq7 hb)
           have n5_ := zam (zbt zq5 hb)
           have n6_ := zam (hbox)
           have n7_ := zam ((by rw [hg]; exact (zbz zq5) : w.heap.size ≤ gb123))
           have n8_ := zam ((by rw [hg]; exact (zbz zq5) : w.heap.size ≤ gb123))
           have n9_ := zam ((by rw [hg]; exact Nat.ne_of_lt (blk_lt (g := gb101) (o := .cells #[.slice A0_0 l0_0.length c0_0, .int .i64 a0_1, .int .i64 a0_2] 26 (0, 0)) zq0) : gb101 ≠ gb123))
           have n10_ := zam ((by rw [hg]; exact Nat.ne_of_gt (blk_lt (g := gb101) (o := .cells #[.slice A0_0 l0_0.length c0_0, .int .i64 a0_1, .int .i64 a0_2] 26 (0, 0)) zq0) : gb123 ≠ gb101))
           have n11_ := zam ((by rw [hg]; exact Nat.ne_of_lt (blk_lt (g := gb102) (o := .cells #[.int .i64 a1_0, .int .i64 a1_1, .int .i64 a1_2, .int .i64 a1_3] 29 (0, 0)) zq6) : gb102 ≠ gb123))
           have n12_ := zam ((by rw [hg]; exact Nat.ne_of_gt (blk_lt (g := gb102) (o := .cells #[.int .i64 a1_0, .int .i64 a1_1, .int .i64 a1_2, .int .i64 a1_3] 29 (0, 0)) zq6) : gb123 ≠ gb102))
           have n13_ := zam ((by rw [hg]; exact Nat.ne_of_lt (blk_lt (g := gb103) (o := .cells #[.int .u16 a2_0, .int .u16 a2_1] 57 (0, 0)) zq7) : gb103 ≠ gb123))
           have n14_ := zam ((by rw [hg]; exact Nat.ne_of_gt (blk_lt (g := gb103) (o := .cells #[.int .u16 a2_0, .int .u16 a2_1] 57 (0, 0)) zq7) : gb123 ≠ gb103))
           clear HO_18
           clear HO_19
           clear BK101
           clear BK102
           clear BK103
           clear HB
           have HO_18 := n0_
           have HO_19 := n1_
           have BK101 := n2_
           have BK102 := n3_
           have BK103 := n4_
           have HB := n5_
           have BK123 := n6_
           have GW123 := n7_
           have GE123 := n8_
           have NB101_123 := n9_
           have NB123_101 := n10_
           have NB102_123 := n11_
           have NB123_102 := n12_
           have NB103_123 := n13_
           have NB123_103 := n14_
           clear n0_ n1_ n2_ n3_ n4_ n5_ n6_ n7_ n8_ n9_ n10_ n11_ n12_ n13_ n14_
           clear hb hbox hg
           refine hK.out _ _ ⟨(zkc BK101.out 0).trans rfl, (zkc BK101.out 1).trans rfl, (zkc BK101.out 2).trans rfl, HS3_, HS4_, HS5_, HS6_⟩ (fun hHeld => ?_)
           clear hK K
           refine norm_ (a' := ?_) ?_ ?_
           rotate_left
           ·show Act.put _ (some 22) _ = _
            simp only [Act.put, zsa, zsz, zss, i64_w, i32_w]
            rfl
           refine one_ (i := 6) (N := some 88) #[true, true, true, true, true, true, true, false, false, false, true, false, false] rfl rfl (one_of HT_.out (by kernel_rfl)) (by decide) (fun K hK => ?_)
           refine goes_ Try.func28 (by kernel_rfl) rfl #[.agg #[.slice A0_0 l0_0.length c0_0, .int .i64 a0_1, .int .i64 a0_2], .slice Ao46 t110.length co46, .agg #[.int .i64 ((rd_T29 t113 x21_2).f0.f0), .int .i64 ((rd_T29 t113 x21_2).f0.f1), .int .i64 ((rd_T29 t113 x21_2).f1.f0), .int .i64 ((rd_T29 t113 x21_2).f1.f1)]] (by rfl) rfl rfl zq4 ?_
           with_reducible refine (sound_Origin.calls k2 _ _ l0_0 a0_1 a0_2 _ _ t110 ((rd_T29 t113 x21_2).f0.f0) ((rd_T29 t113 x21_2).f0.f1) ((rd_T29 t113 x21_2).f1.f0) ((rd_T29 t113 x21_2).f1.f1) t120 t121 t122 _ ?side1 ?side2 ?side3 ?side4 A52.out).mono ?_
           (case side1 => repeat (first | exact (Kd.C_below HR0_0.out HB.out) | (with_reducible refine Kd.C_alloc ?_ _) | (with_reducible refine Kd.C_drewN ?_ _) | (with_reducible refine Kd.C_drew ?_)))
           (case side2 => exact HC0_0.out)
           (case side3 => repeat (first | exact (Kd.R_reads' HO_18.out).2.2 | (with_reducible refine Kd.C_alloc ?_ _) | (with_reducible refine Kd.C_drewN ?_ _) | (with_reducible refine Kd.C_drew ?_)))
           (case side4 => exact (Kd.R_reads' HO_18.out).2.1)
           rintro e w86 ⟨rfl, hb⟩
           have HS3_ := (hb.cell (zwb _ _ (hHeld.2.2.2.1))).trans (hHeld.2.2.2.1)
           have HS4_ := (hb.cell (zwb _ _ (hHeld.2.2.2.2.1))).trans (hHeld.2.2.2.2.1)
           have HS5_ := (hb.cell (zwb _ _ (hHeld.2.2.2.2.2.1))).trans (hHeld.2.2.2.2.2.1)
           have HS6_ := (hb.cell (zwb _ _ (hHeld.2.2.2.2.2.2))).trans (hHeld.2.2.2.2.2.2)
           refine ⟨_, rfl, ?_⟩
           have n0_ := zam (Kd.R_below zq13 hb)
           have n1_ := zam (Kd.R_below zq12 hb)
           have n2_ := zam (zkb (g := gb101) (o := .cells #[.slice A0_0 l0_0.length c0_0, .int .i64 a0_1, .int .i64 a0_2] 26 (0, 0)) zq0 hb)
           have n3_ := zam (zkb (g := gb102) (o := .cells #[.int .i64 a1_0, .int .i64 a1_1, .int .i64 a1_2, .int .i64 a1_3] 29 (0, 0)) zq6 hb)
           have n4_ := zam (zkb (g := gb103) (o := .cells #[.int .u16 a2_0, .int .u16 a2_1] 57 (0, 0)) zq7 hb)
           have n5_ := zam (zkb (g := gb123) (o := .cells #[.int .i64 0, .int .i64 0] 24 (0, 0)) zq15 hb)
           have n6_ := zam (zbt zq11 hb)
           clear HO_18
           clear HO_19
           clear BK101
           clear BK102
           clear BK103
           clear BK123
           clear HB
           have HO_18 := n0_
           have HO_19 := n1_
           have BK101 := n2_
           have BK102 := n3_
           have BK103 := n4_
           have BK123 := n5_
           have HB := n6_
           clear n0_ n1_ n2_ n3_ n4_ n5_ n6_
           (try clear hb)
           (try clear hb2)
           (try clear hk)
           (try clear hi)
           refine hK.out _ _ ⟨(zkc BK101.out 0).trans rfl, (zkc BK101.out 1).trans rfl, (zkc BK101.out 2).trans rfl, HS3_, HS4_, HS5_, HS6_⟩ (fun hHeld => ?_)
           clear hK K
           refine norm_ (a' := ?_) ?_ ?_
           rotate_left
           ·show Act.put _ (some 88) _ = _
            simp only [Act.put, zsa, zsz, zss, i64_w, i32_w]
            rfl
           refine pure_ (i := 7) (N := some 81) (v := ?_) (a' := ?_) #[true, true, true, true, true, true, true, true, false, false, true, false, false] rfl rfl (any_of HT_.out (by kernel_rfl)) (fun _ _ _ h => h) (Or.inl ⟨by rfl, ?_⟩) ?_ ?_
           rotate_left
           ·intro w'
            go_simp
            with_reducible rfl
           rotate_left
           ·simp only [Act.put, zsa, zsz, zss, i64_w, i32_w]
            rfl
           refine pure_ (i := 8) (N := some 89) (v := ?_) (a' := ?_) #[true, true, true, true, true, true, true, true, true, false, true, false, false] rfl rfl (any_of HT_.out (by kernel_rfl)) (fun _ _ _ h => h) (Or.inl ⟨by rfl, ?_⟩) ?_ ?_
           rotate_left
           ·intro w'
            go_simp
            with_reducible rfl
           rotate_left
           ·simp only [Act.put, zsa, zsz, zss, i64_w, i32_w]
            rfl
           refine pure_ (i := 9) (N := some 90) (v := ?_) (a' := ?_) #[true, true, true, true, true, true, true, true, true, true, true, false, false] rfl rfl (any_of HT_.out (by kernel_rfl)) (fun _ _ _ h => h) (Or.inl ⟨by rfl, ?_⟩) ?_ ?_
           rotate_left
           ·intro w'
            go_simp
            with_reducible rfl
           rotate_left
           ·simp only [Act.put, zsa, zsz, zss, i64_w, i32_w]
            rfl
           exact norm_ zq27 (hCont (gb123) _ ⟨hHeld, zq20, zq12, zq0, zq6, zq7, zq15, GW123.out, GE123.out, NB101_123.out, NB123_101.out, NB102_123.out, NB123_102.out, NB103_123.out, NB123_103.out, zq11⟩)
          rintro gb123 w87 ⟨hS_, h0_, h1_, h2_, h3_, h4_, h5_, h6_, h7_, h8_, h9_, h10_, h11_, h12_, h13_, h14_⟩
          have n0_ : Aside0 (Kd.R k24 24 w87 w.heap.size (fun k_ => k_ ≠ gb123) (.slice Ao46 t110.length co46) t110) := ⟨h0_⟩
          have n1_ : Aside0 (Kd.R k29 29 w87 w.heap.size (fun k_ => k_ ≠ gb102) (.slice (some ad117) t113.length co82) t113) := ⟨h1_⟩
          have n2_ : Aside0 (w87.heap[gb101]? = some (.cells #[.slice A0_0 l0_0.length c0_0, .int .i64 a0_1, .int .i64 a0_2] 26 (0, 0))) := ⟨h2_⟩
          have n3_ : Aside0 (w87.heap[gb102]? = some (.cells #[.int .i64 a1_0, .int .i64 a1_1, .int .i64 a1_2, .int .i64 a1_3] 29 (0, 0))) := ⟨h3_⟩
          have n4_ : Aside0 (w87.heap[gb103]? = some (.cells #[.int .u16 a2_0, .int .u16 a2_1] 57 (0, 0))) := ⟨h4_⟩
          have n5_ : Aside0 (w87.heap[gb123]? = some (.cells #[.int .i64 0, .int .i64 0] 24 (0, 0))) := ⟨h5_⟩
          have n6_ : Aside0 (w.heap.size ≤ gb123) := ⟨h6_⟩
          have n7_ : Aside0 (w.heap.size ≤ gb123) := ⟨h7_⟩
          have n8_ : Aside0 (gb101 ≠ gb123) := ⟨h8_⟩
          have n9_ : Aside0 (gb123 ≠ gb101) := ⟨h9_⟩
          have n10_ : Aside0 (gb102 ≠ gb123) := ⟨h10_⟩
          have n11_ : Aside0 (gb123 ≠ gb102) := ⟨h11_⟩
          have n12_ : Aside0 (gb103 ≠ gb123) := ⟨h12_⟩
          have n13_ : Aside0 (gb123 ≠ gb103) := ⟨h13_⟩
          have n14_ : Aside0 (Below w.heap.size w w87) := ⟨h14_⟩
          clear HO_18
          clear HO_19
          clear BK101
          clear BK102
          clear BK103
          clear HB
          clear h0_ h1_ h2_ h3_ h4_ h5_ h6_ h7_ h8_ h9_ h10_ h11_ h12_ h13_ h14_
          have HO_18 := n0_
          have HO_19 := n1_
          have BK101 := n2_
          have BK102 := n3_
          have BK103 := n4_
          have BK123 := n5_
          have GW123 := n6_
          have GE123 := n7_
          have NB101_123 := n8_
          have NB123_101 := n9_
          have NB102_123 := n10_
          have NB123_102 := n11_
          have NB103_123 := n12_
          have NB123_103 := n13_
          have HB := n14_
          clear n0_ n1_ n2_ n3_ n4_ n5_ n6_ n7_ n8_ n9_ n10_ n11_ n12_ n13_ n14_
          have hHeld : w87.cell? ⟨gb101, 0, none⟩ = some (.slice A0_0 l0_0.length c0_0) ∧ w87.cell? ⟨gb101, 1, none⟩ = some (.int .i64 a0_1) ∧ w87.cell? ⟨gb101, 2, none⟩ = some (.int .i64 a0_2) ∧ w87.cell? (ad117.add ((x21_2).toNat * 4)) = some (.int .i64 ((rd_T29 t113 x21_2).f0.f0)) ∧ w87.cell? ⟨(ad117.add ((x21_2).toNat * 4)).block, (ad117.add ((x21_2).toNat * 4)).off + 1, none⟩ = some (.int .i64 ((rd_T29 t113 x21_2).f0.f1)) ∧ w87.cell? ⟨(ad117.add ((x21_2).toNat * 4)).block, (ad117.add ((x21_2).toNat * 4)).off + 2, none⟩ = some (.int .i64 ((rd_T29 t113 x21_2).f1.f0)) ∧ w87.cell? ⟨(ad117.add ((x21_2).toNat * 4)).block, (ad117.add ((x21_2).toNat * 4)).off + 3, none⟩ = some (.int .i64 ((rd_T29 t113 x21_2).f1.f1)) := hS_
          refine norm_ (a' := ?_) ?_ ?_
          rotate_left
          ·simp only [putAll, Act.put, zsa, zsz, zss]
           rfl
          refine one_ (i := 11) (N := none) #[true, true, true, true, true, true, true, true, true, true, true, true, false] rfl rfl (one_of HT_.out (by kernel_rfl)) (by decide) (fun K hK => ?_)
          have hs88 : w87.cell? ⟨gb123, 0, none⟩ = some (.int .i64 0) := (zkc BK123.out 0).trans rfl
          have hfs88 := zkz BK123.out 0
          have hns88_0 := NB101_123.out
          have hns88_1 := NB102_123.out
          have hns88_2 := NB103_123.out
          have hms88_0 := NB123_101.out
          have hms88_1 := NB123_102.out
          have hms88_2 := NB123_103.out
          have hs89 : w87.cell? ⟨gb123, 1, none⟩ = some (.int .i64 0) := (zkc BK123.out 1).trans rfl
          have hfs89 := zkz BK123.out 1
          have hns89_0 := NB101_123.out
          have hns89_1 := NB102_123.out
          have hns89_2 := NB103_123.out
          have hms89_0 := NB123_101.out
          have hms89_1 := NB123_102.out
          have hms89_2 := NB123_103.out
          refine skip_ (w1 := ?_) (by rfl) rfl ?_ ?_
          rotate_left
          ·go_simp
           rfl
          refine hK.out _ _ ⟨((cell_far (p := ⟨gb123, _, none⟩) NB101_123.out _).trans (((cell_far (p := ⟨gb123, _, none⟩) NB101_123.out _).trans (hHeld.1)))), ((cell_far (p := ⟨gb123, _, none⟩) NB101_123.out _).trans (((cell_far (p := ⟨gb123, _, none⟩) NB101_123.out _).trans (hHeld.2.1)))), ((cell_far (p := ⟨gb123, _, none⟩) NB101_123.out _).trans (((cell_far (p := ⟨gb123, _, none⟩) NB101_123.out _).trans (hHeld.2.2.1)))), ((cell_far (p := ⟨gb123, _, none⟩) zq3 _).trans (((cell_far (p := ⟨gb123, _, none⟩) zq3 _).trans (hHeld.2.2.2.1)))), ((cell_far (p := ⟨gb123, _, none⟩) zq3 _).trans (((cell_far (p := ⟨gb123, _, none⟩) zq3 _).trans (hHeld.2.2.2.2.1)))), ((cell_far (p := ⟨gb123, _, none⟩) zq3 _).trans (((cell_far (p := ⟨gb123, _, none⟩) zq3 _).trans (hHeld.2.2.2.2.2.1)))), ((cell_far (p := ⟨gb123, _, none⟩) zq3 _).trans (((cell_far (p := ⟨gb123, _, none⟩) zq3 _).trans (hHeld.2.2.2.2.2.2))))⟩ (fun hHeld => ?_)
          clear hK K
          refine pure_ (i := 12) (N := some 23) (v := ?_) (a' := ?_) #[true, true, true, true, true, true, true, true, true, true, true, true, true] rfl rfl (any_of HT_.out (by kernel_rfl)) (fun _ _ _ h => h) (Or.inl ⟨by rfl, ?_⟩) ?_ ?_
          rotate_left
          ·intro w'
           go_simp
           with_reducible rfl
          rotate_left
          ·simp only [Act.put, zsa, zsz, zss, i64_w, i32_w]
           rfl
          refine done_ (done_of HT_.out (by kernel_rfl)) ?_
          have hnb90 := NB123_101.out
          have hnc90 := NB101_123.out
          have hnb91 := NB123_102.out
          have hnc91 := NB102_123.out
          have hnb92 := NB123_103.out
          have hnc92 := NB103_123.out
          have hcz93_0 : w87.cell? ⟨gb123, 0, none⟩ = some (.int .i64 0) := (zkc BK123.out 0).trans rfl
          have hcz93_1 : w87.cell? ⟨gb123, 1, none⟩ = some (.int .i64 0) := (zkc BK123.out 1).trans rfl
          have hfz93_0 := zkz BK123.out 0
          have hfz93_1 := zkz BK123.out 1
          try go_wp2
          go_roundg k2
          case measure => have := HJ7.out; have := HK2.out; omega
          case rel => exact ⟨(wrap64 (x21_2 + 1)), zq9, H', ⟨by have := HJ7.out; have := HK2.out; omega⟩, ⟨by (with_reducible repeat (first | apply zRa | apply zRn | apply zRd)); exact Kd.R_mono (Kd.R_far (p := ⟨gb123, 1, none⟩) (Kd.R_far (p := ⟨gb123, 0, none⟩) (Kd.R_mono HO_18.out (fun k_ hk => (⟨hk, hk⟩ : _ ∧ k_ ≠ gb123))) (fun _ hk => hk.2) (.int .i64 t120)) (fun _ hk => hk.2) (.int .i64 t121)) (fun _ hk => trivial)⟩, ⟨by (with_reducible repeat (first | apply zRa | apply zRn | apply zRd)); exact Kd.R_mono (Kd.R_far (p := ⟨gb123, 1, none⟩) (Kd.R_far (p := ⟨gb123, 0, none⟩) (Kd.R_types HO_19.out BK123.out (by decide)) (fun _ hk => hk.2) (.int .i64 t120)) (fun _ hk => hk.2) (.int .i64 t121)) (fun _ hk => hk.1)⟩, ⟨by (with_reducible repeat (first | refine zkn ?_ _ | refine zkd ?_ | refine zka ?_ _)); refine zkf ?_ NB101_123.out _; (with_reducible repeat (first | refine zkn ?_ _ | refine zkd ?_ | refine zka ?_ _)); refine zkf ?_ NB101_123.out _; (with_reducible repeat (first | refine zkn ?_ _ | refine zkd ?_ | refine zka ?_ _)); exact BK101.out⟩, ⟨by (with_reducible repeat (first | refine zkn ?_ _ | refine zkd ?_ | refine zka ?_ _)); refine zkf ?_ NB102_123.out _; (with_reducible repeat (first | refine zkn ?_ _ | refine zkd ?_ | refine zka ?_ _)); refine zkf ?_ NB102_123.out _; (with_reducible repeat (first | refine zkn ?_ _ | refine zkd ?_ | refine zka ?_ _)); exact BK102.out⟩, ⟨by (with_reducible repeat (first | refine zkn ?_ _ | refine zkd ?_ | refine zka ?_ _)); refine zkf ?_ NB103_123.out _; (with_reducible repeat (first | refine zkn ?_ _ | refine zkd ?_ | refine zka ?_ _)); refine zkf ?_ NB103_123.out _; (with_reducible repeat (first | refine zkn ?_ _ | refine zkd ?_ | refine zka ?_ _)); exact BK103.out⟩, ⟨by repeat (first | (with_reducible first | exact HB.out | apply zba | apply zbn | apply zb1 | refine zbs ?_ GE101.out | refine zbs ?_ GE102.out | refine zbs ?_ GE103.out | refine zbs ?_ GE123.out) | exact HB.out)⟩⟩
         rw [if_neg c53] at H
         have c53b0 : (t122 == 0) = false := beq_eq_false_iff_ne.mpr c53
         have c53b1 : (t122 != 0) = true := bne_iff_ne.mpr c53
         have H' := zam H
         clear H
         obtain ⟨Ao94, co94, eo94⟩ := Kd.R_slice HO_19.out
         subst eo94
         have p117 : 0 ≤ (x21_2 : Int) := zod zq8
         have q117 : x21_2 < (t113.length : Int) := zod zq8
         obtain ⟨ad117, e117, hx117_0, hx117_1, hx117_2, hx117_3⟩ := at_T29 (Kd.R_reads' HO_19.out).2.2 x21_2 p117 q117
         cases e117
         replace p117 := eq_true p117
         replace q117 := eq_true q117
         try go_wp2_with (first | ((with_reducible refine zgc (f := 27) rfl ?_); refine goesL_ (some 79) rfl rfl Try.func27 (by kernel_rfl) rfl #[.agg #[.int .i64 ((rd_T29 t113 x21_2).f0.f0), .int .i64 ((rd_T29 t113 x21_2).f0.f1), .int .i64 ((rd_T29 t113 x21_2).f1.f0), .int .i64 ((rd_T29 t113 x21_2).f1.f1)], .int .i64 t107, .int .i64 t108] rfl zq4 ?_; (with_reducible refine (isobathlaw07_inside.calls ((rd_T29 t113 x21_2).f0.f0) ((rd_T29 t113 x21_2).f0.f1) ((rd_T29 t113 x21_2).f1.f0) ((rd_T29 t113 x21_2).f1.f1) t107 t108 true _ A50.out).mono ?_); rintro e w95 ⟨rfl, hb⟩; refine ⟨_, rfl, ?_⟩; have n0_ := zam (Kd.R_below zq13 hb); have n1_ := zam (Kd.R_below zq12 hb); have n2_ := zam (zkb (g := gb101) (o := .cells #[.slice A0_0 l0_0.length c0_0, .int .i64 a0_1, .int .i64 a0_2] 26 (0, 0)) zq0 hb); have n3_ := zam (zkb (g := gb102) (o := .cells #[.int .i64 a1_0, .int .i64 a1_1, .int .i64 a1_2, .int .i64 a1_3] 29 (0, 0)) zq6 hb); have n4_ := zam (zkb (g := gb103) (o := .cells #[.int .u16 a2_0, .int .u16 a2_1] 57 (0, 0)) zq7 hb); have n5_ := zam (zbt zq5 hb); clear HO_18; clear HO_19; clear BK101; clear BK102; clear BK103; clear HB; have HO_18 := n0_; have HO_19 := n1_; have BK101 := n2_; have BK102 := n3_; have BK103 := n4_; have HB := n5_; clear n0_ n1_ n2_ n3_ n4_ n5_; (try clear hb); (try clear hb2); (try clear hk); (try clear hi)))
         have n0_ := zam (zRd HO_18.out)
         have n1_ := zam (zRd HO_19.out)
         have n2_ := zam (zkd BK101.out)
         have n3_ := zam (zkd BK102.out)
         have n4_ := zam (zkd BK103.out)
         have n5_ := zam (zb1 HB.out)
         clear HO_18
         clear HO_19
         clear BK101
         clear BK102
         clear BK103
         clear HB
         have HO_18 := n0_
         have HO_19 := n1_
         have BK101 := n2_
         have BK102 := n3_
         have BK103 := n4_
         have HB := n5_
         clear n0_ n1_ n2_ n3_ n4_ n5_
         have p119 : 0 ≤ (x21_2 : Int) := zod zq8
         have q119 : x21_2 < (t113.length : Int) := zod zq8
         obtain ⟨ad119, e119, hx119_0, hx119_1, hx119_2, hx119_3⟩ := at_T29 (Kd.R_reads' HO_19.out).2.2 x21_2 p119 q119
         obtain rfl : ad117 = ad119 := (by injection e119)
         replace p119 := eq_true p119
         replace q119 := eq_true q119
         refine start_ (n := 13) (S := fun w' => w'.cell? ⟨gb101, 0, none⟩ = some (.slice A0_0 l0_0.length c0_0) ∧ w'.cell? ⟨gb101, 1, none⟩ = some (.int .i64 a0_1) ∧ w'.cell? ⟨gb101, 2, none⟩ = some (.int .i64 a0_2) ∧ w'.cell? (ad117.add ((x21_2).toNat * 4)) = some (.int .i64 ((rd_T29 t113 x21_2).f0.f0)) ∧ w'.cell? ⟨(ad117.add ((x21_2).toNat * 4)).block, (ad117.add ((x21_2).toNat * 4)).off + 1, none⟩ = some (.int .i64 ((rd_T29 t113 x21_2).f0.f1)) ∧ w'.cell? ⟨(ad117.add ((x21_2).toNat * 4)).block, (ad117.add ((x21_2).toNat * 4)).off + 2, none⟩ = some (.int .i64 ((rd_T29 t113 x21_2).f1.f0)) ∧ w'.cell? ⟨(ad117.add ((x21_2).toNat * 4)).block, (ad117.add ((x21_2).toNat * 4)).off + 3, none⟩ = some (.int .i64 ((rd_T29 t113 x21_2).f1.f1))) (ds := []) #[false, false, false, false, false, false, false, false, false, false, false, false, false] (by kernel_rfl) rfl rfl ⟨(zkc BK101.out 0).trans rfl, (zkc BK101.out 1).trans rfl, (zkc BK101.out 2).trans rfl, hx119_0, hx119_1, hx119_2, hx119_3⟩ (fun hHeld => ?_); refine with_tabW isobathlaw07_SoundFinds.tab13 isobathlaw07_SoundFinds.bits13 (fun HT_ HW_ => ?_)
         generalize w95.drew = w96 at HO_18 HO_19 BK101 BK102 BK103 HB hx119_0 hx119_1 hx119_2 hx119_3 hHeld ⊢
         refine pure_ (i := 1) (N := some 83) (v := ?_) (a' := ?_) #[false, true, false, false, false, false, false, false, false, false, false, false, false] rfl rfl (any_of HT_.out (by kernel_rfl)) (fun _ _ _ h => h) (Or.inl ⟨by rfl, ?_⟩) ?_ ?_
         rotate_left
         ·intro w'
          go_simp
          with_reducible rfl
         rotate_left
         ·simp only [Act.put, zsa, zsz, zss, i64_w, i32_w]
          rfl
         refine pure_ (i := 2) (N := some 84) (v := ?_) (a' := ?_) #[false, true, true, false, false, false, false, false, false, false, false, false, false] rfl rfl (any_of HT_.out (by kernel_rfl)) (fun _ _ _ h => h) (Or.inl ⟨by rfl, ?_⟩) ?_ ?_
         rotate_left
         ·intro w'
          go_simp
          with_reducible rfl
         rotate_left
         ·simp only [Act.put, zsa, zsz, zss, i64_w, i32_w]
          rfl
         refine pure_ (i := 3) (N := some 85) (v := ?_) (a' := ?_) #[false, true, true, true, false, false, false, false, false, false, false, false, false] rfl rfl (any_of HT_.out (by kernel_rfl)) (fun _ _ _ h => h) (Or.inl ⟨by rfl, ?_⟩) ?_ ?_
         rotate_left
         ·intro w'
          go_simp
          with_reducible rfl
         rotate_left
         ·simp only [Act.put, zsa, zsz, zss, i64_w, i32_w]
          rfl
         refine pure_ (i := 4) (N := some 86) (v := ?_) (a' := ?_) #[false, true, true, true, true, false, false, false, false, false, false, false, false] rfl rfl (any_of HT_.out (by kernel_rfl)) (fun _ _ _ h => h) (Or.inl ⟨by rfl, ?_⟩) ?_ ?_
         rotate_left
         ·intro w'
          go_simp
          with_reducible rfl
         rotate_left
         ·simp only [Act.put, zsa, zsz, zss, i64_w, i32_w]
          rfl
         refine take_ (i := 0) (N := some 82) (v := ?_) (a' := ?_) #[true, true, true, true, true, false, false, false, false, false, false, false, false] rfl rfl (take_ofW HT_.out HW_.out (by kernel_rfl)) (fun _ _ _ h => h) (Or.inl ⟨by rfl, ?_⟩) hHeld ?_ ?_
         rotate_left
         ·rintro w' ⟨s0, s1, s2, s3, s4, s5, s6⟩
          go_simp
          with_reducible rfl
         rotate_left
         ·simp only [Act.put, zsa, zsz, zss, i64_w, i32_w]
          rfl
         refine take_ (i := 5) (N := some 87) (v := ?_) (a' := ?_) #[true, true, true, true, true, true, false, false, false, false, false, false, false] rfl rfl (take_ofW HT_.out HW_.out (by kernel_rfl)) (fun _ _ _ h => h) (Or.inl ⟨by rfl, ?_⟩) hHeld ?_ ?_
         rotate_left
         ·rintro w' ⟨s0, s1, s2, s3, s4, s5, s6⟩
          go_simp
          with_reducible rfl
         rotate_left
         ·simp only [Act.put, zsa, zsz, zss, i64_w, i32_w]
          rfl
         refine join_ (σ := Nat) 2 #[true, true, true, true, true, true, true, true, true, true, true, false, false] (fun s_ => [(88, .tuple #[.agg #[.int .i64 t120, .int .i64 t121], .int .i64 t122]), (22, .pointer (some ⟨s_, 0, none⟩)), (81, .tuple #[.agg #[.int .i64 t120, .int .i64 t121], .int .i64 t122]), (89, .agg #[.int .i64 t120, .int .i64 t121]), (90, .int .i64 t122)]) (fun s_ w' => (w'.cell? ⟨gb101, 0, none⟩ = some (.slice A0_0 l0_0.length c0_0) ∧ w'.cell? ⟨gb101, 1, none⟩ = some (.int .i64 a0_1) ∧ w'.cell? ⟨gb101, 2, none⟩ = some (.int .i64 a0_2) ∧ w'.cell? (ad117.add ((x21_2).toNat * 4)) = some (.int .i64 ((rd_T29 t113 x21_2).f0.f0)) ∧ w'.cell? ⟨(ad117.add ((x21_2).toNat * 4)).block, (ad117.add ((x21_2).toNat * 4)).off + 1, none⟩ = some (.int .i64 ((rd_T29 t113 x21_2).f0.f1)) ∧ w'.cell? ⟨(ad117.add ((x21_2).toNat * 4)).block, (ad117.add ((x21_2).toNat * 4)).off + 2, none⟩ = some (.int .i64 ((rd_T29 t113 x21_2).f1.f0)) ∧ w'.cell? ⟨(ad117.add ((x21_2).toNat * 4)).block, (ad117.add ((x21_2).toNat * 4)).off + 3, none⟩ = some (.int .i64 ((rd_T29 t113 x21_2).f1.f1))) ∧ (Kd.R k24 24 w' w.heap.size (fun k_ => k_ ≠ s_) (.slice Ao46 t110.length co46) t110) ∧ (Kd.R k29 29 w' w.heap.size (fun k_ => k_ ≠ gb102) (.slice (some ad117) t113.length co94) t113) ∧ (w'.heap[gb101]? = some (.cells #[.slice A0_0 l0_0.length c0_0, .int .i64 a0_1, .int .i64 a0_2] 26 (0, 0))) ∧ (w'.heap[gb102]? = some (.cells #[.int .i64 a1_0, .int .i64 a1_1, .int .i64 a1_2, .int .i64 a1_3] 29 (0, 0))) ∧ (w'.heap[gb103]? = some (.cells #[.int .u16 a2_0, .int .u16 a2_1] 57 (0, 0))) ∧ (w'.heap[s_]? = some (.cells #[.int .i64 0, .int .i64 0] 24 (0, 0))) ∧ (w.heap.size ≤ s_) ∧ (w.heap.size ≤ s_) ∧ (gb101 ≠ s_) ∧ (s_ ≠ gb101) ∧ (gb102 ≠ s_) ∧ (s_ ≠ gb102) ∧ (gb103 ≠ s_) ∧ (s_ ≠ gb103) ∧ (Below w.heap.size w w')) ?_ ?_
         rotate_left
         ·intro hCont
          refine two_ (i := 6) (j := 10) (Ni := some 88) (Nj := some 22) #[true, true, true, true, true, true, true, false, false, false, false, false, false] #[true, true, true, true, true, true, false, false, false, false, true, false, false] rfl rfl rfl rfl (two_of HT_.out (by kernel_rfl)) (by decide) (by decide) (fun K hK => ?_) (fun K hK => ?_)
          ·skip
           refine goes_ Try.func28 (by kernel_rfl) rfl #[.agg #[.slice A0_0 l0_0.length c0_0, .int .i64 a0_1, .int .i64 a0_2], .slice Ao46 t110.length co46, .agg #[.int .i64 ((rd_T29 t113 x21_2).f0.f0), .int .i64 ((rd_T29 t113 x21_2).f0.f1), .int .i64 ((rd_T29 t113 x21_2).f1.f0), .int .i64 ((rd_T29 t113 x21_2).f1.f1)]] (by rfl) rfl rfl zq4 ?_
           with_reducible refine (sound_Origin.calls k2 _ _ l0_0 a0_1 a0_2 _ _ t110 ((rd_T29 t113 x21_2).f0.f0) ((rd_T29 t113 x21_2).f0.f1) ((rd_T29 t113 x21_2).f1.f0) ((rd_T29 t113 x21_2).f1.f1) t120 t121 t122 _ ?side1 ?side2 ?side3 ?side4 A52.out).mono ?_
           (case side1 => repeat (first | exact (Kd.C_below HR0_0.out HB.out) | (with_reducible refine Kd.C_alloc ?_ _) | (with_reducible refine Kd.C_drewN ?_ _) | (with_reducible refine Kd.C_drew ?_)))
           (case side2 => exact HC0_0.out)
           (case side3 => repeat (first | exact (Kd.R_reads' HO_18.out).2.2 | (with_reducible refine Kd.C_alloc ?_ _) | (with_reducible refine Kd.C_drewN ?_ _) | (with_reducible refine Kd.C_drew ?_)))
           (case side4 => exact (Kd.R_reads' HO_18.out).2.1)
           rintro e w97 ⟨rfl, hb⟩
           have HS3_ := (hb.cell (zwb _ _ (hHeld.2.2.2.1))).trans (hHeld.2.2.2.1)
           have HS4_ := (hb.cell (zwb _ _ (hHeld.2.2.2.2.1))).trans (hHeld.2.2.2.2.1)
           have HS5_ := (hb.cell (zwb _ _ (hHeld.2.2.2.2.2.1))).trans (hHeld.2.2.2.2.2.1)
           have HS6_ := (hb.cell (zwb _ _ (hHeld.2.2.2.2.2.2))).trans (hHeld.2.2.2.2.2.2)
           refine ⟨_, rfl, ?_⟩
           have n0_ := zam (Kd.R_below zq13 hb)
           have n1_ := zam (Kd.R_below zq12 hb)
           have n2_ := zam (zkb (g := gb101) (o := .cells #[.slice A0_0 l0_0.length c0_0, .int .i64 a0_1, .int .i64 a0_2] 26 (0, 0)) zq0 hb)
           have n3_ := zam (zkb (g := gb102) (o := .cells #[.int .i64 a1_0, .int .i64 a1_1, .int .i64 a1_2, .int .i64 a1_3] 29 (0, 0)) zq6 hb)
           have n4_ := zam (zkb (g := gb103) (o := .cells #[.int .u16 a2_0, .int .u16 a2_1] 57 (0, 0)) zq7 hb)
           have n5_ := zam (zbt zq5 hb)
           clear HO_18
           clear HO_19
           clear BK101
           clear BK102
           clear BK103
           clear HB
           have HO_18 := n0_
           have HO_19 := n1_
           have BK101 := n2_
           have BK102 := n3_
           have BK103 := n4_
           have HB := n5_
           clear n0_ n1_ n2_ n3_ n4_ n5_
           (try clear hb)
           (try clear hb2)
           (try clear hk)
           (try clear hi)
           refine hK.out _ _ ⟨(zkc BK101.out 0).trans rfl, (zkc BK101.out 1).trans rfl, (zkc BK101.out 2).trans rfl, HS3_, HS4_, HS5_, HS6_⟩ (fun hHeld => ?_)
           clear hK K
           refine norm_ (a' := ?_) ?_ ?_
           rotate_left
           ·show Act.put _ (some 88) _ = _
            simp only [Act.put, zsa, zsz, zss, i64_w, i32_w]
            rfl
           refine pure_ (i := 7) (N := some 81) (v := ?_) (a' := ?_) #[true, true, true, true, true, true, true, true, false, false, false, false, false] rfl rfl (any_of HT_.out (by kernel_rfl)) (fun _ _ _ h => h) (Or.inl ⟨by rfl, ?_⟩) ?_ ?_
           rotate_left
           ·intro w'
            go_simp
            with_reducible rfl
           rotate_left
           ·simp only [Act.put, zsa, zsz, zss, i64_w, i32_w]
            rfl
           refine pure_ (i := 8) (N := some 89) (v := ?_) (a' := ?_) #[true, true, true, true, true, true, true, true, true, false, false, false, false] rfl rfl (any_of HT_.out (by kernel_rfl)) (fun _ _ _ h => h) (Or.inl ⟨by rfl, ?_⟩) ?_ ?_
           rotate_left
           ·intro w'
            go_simp
            with_reducible rfl
           rotate_left
           ·simp only [Act.put, zsa, zsz, zss, i64_w, i32_w]
            rfl
           refine pure_ (i := 9) (N := some 90) (v := ?_) (a' := ?_) #[true, true, true, true, true, true, true, true, true, true, false, false, false] rfl rfl (any_of HT_.out (by kernel_rfl)) (fun _ _ _ h => h) (Or.inl ⟨by rfl, ?_⟩) ?_ ?_
           rotate_left
           ·intro w'
            go_simp
            with_reducible rfl
           rotate_left
           ·simp only [Act.put, zsa, zsz, zss, i64_w, i32_w]
            rfl
           refine one_ (i := 10) (N := some 22) #[true, true, true, true, true, true, true, true, true, true, true, false, false] rfl rfl (one_of HT_.out (by kernel_rfl)) (by decide) (fun K hK => ?_)
           refine box_step ?hg (N := 22) ?hd (cs := #[.int .i64 0, .int .i64 0]) (t := 24) ?hr ?_; (case hd => rfl); (case hg => rfl); (case hr => first | (go_simp; done) | (go_simp; rfl))
           intro gb123 hg w98 hbox hb
           have HS3_ := (hb.cell (zwb _ _ (hHeld.2.2.2.1))).trans (hHeld.2.2.2.1)
           have HS4_ := (hb.cell (zwb _ _ (hHeld.2.2.2.2.1))).trans (hHeld.2.2.2.2.1)
           have HS5_ := (hb.cell (zwb _ _ (hHeld.2.2.2.2.2.1))).trans (hHeld.2.2.2.2.2.1)
           have HS6_ := (hb.cell (zwb _ _ (hHeld.2.2.2.2.2.2))).trans (hHeld.2.2.2.2.2.2)
           have n0_ := zam (Kd.R_below (Kd.R_elderB zq13 gb123 (Nat.le_of_eq hg.symm)) hb)
           have n1_ := zam (Kd.R_below zq12 hb)
           have n2_ := zam (zkb (g := gb101) (o := .cells #[.slice A0_0 l0_0.length c0_0, .int .i64 a0_1, .int .i64 a0_2] 26 (0, 0)) zq0 hb)
           have n3_ := zam (zkb (g := gb102) (o := .cells #[.int .i64 a1_0, .int .i64 a1_1, .int .i64 a1_2, .int .i64 a1_3] 29 (0, 0)) zq6 hb)
           have n4_ := zam (zkb (g := gb103) (o := .cells #[.int .u16 a2_0, .int .u16 a2_1] 57 (0, 0)) zq7 hb)
           have n5_ := zam (zbt zq5 hb)
           have n6_ := zam (hbox)
           have n7_ := zam ((by rw [hg]; exact (zbz zq5) : w.heap.size ≤ gb123))
           have n8_ := zam ((by rw [hg]; exact (zbz zq5) : w.heap.size ≤ gb123))
           have n9_ := zam ((by rw [hg]; exact Nat.ne_of_lt (blk_lt (g := gb101) (o := .cells #[.slice A0_0 l0_0.length c0_0, .int .i64 a0_1, .int .i64 a0_2] 26 (0, 0)) zq0) : gb101 ≠ gb123))
           have n10_ := zam ((by rw [hg]; exact Nat.ne_of_gt (blk_lt (g := gb101) (o := .cells #[.slice A0_0 l0_0.length c0_0, .int .i64 a0_1, .int .i64 a0_2] 26 (0, 0)) zq0) : gb123 ≠ gb101))
           have n11_ := zam ((by rw [hg]; exact Nat.ne_of_lt (blk_lt (g := gb102) (o := .cells #[.int .i64 a1_0, .int .i64 a1_1, .int .i64 a1_2, .int .i64 a1_3] 29 (0, 0)) zq6) : gb102 ≠ gb123))
           have n12_ := zam ((by rw [hg]; exact Nat.ne_of_gt (blk_lt (g := gb102) (o := .cells #[.int .i64 a1_0, .int .i64 a1_1, .int .i64 a1_2, .int .i64 a1_3] 29 (0, 0)) zq6) : gb123 ≠ gb102))
           have n13_ := zam ((by rw [hg]; exact Nat.ne_of_lt (blk_lt (g := gb103) (o := .cells #[.int .u16 a2_0, .int .u16 a2_1] 57 (0, 0)) zq7) : gb103 ≠ gb123))
           have n14_ := zam ((by rw [hg]; exact Nat.ne_of_gt (blk_lt (g := gb103) (o := .cells #[.int .u16 a2_0, .int .u16 a2_1] 57 (0, 0)) zq7) : gb123 ≠ gb103))
           clear HO_18
           clear HO_19
           clear BK101
           clear BK102
           clear BK103
           clear HB
           have HO_18 := n0_
           have HO_19 := n1_
           have BK101 := n2_
           have BK102 := n3_
           have BK103 := n4_
           have HB := n5_
           have BK123 := n6_
           have GW123 := n7_
           have GE123 := n8_
           have NB101_123 := n9_
           have NB123_101 := n10_
           have NB102_123 := n11_
           have NB123_102 := n12_
           have NB103_123 := n13_
           have NB123_103 := n14_
           clear n0_ n1_ n2_ n3_ n4_ n5_ n6_ n7_ n8_ n9_ n10_ n11_ n12_ n13_ n14_
           clear hb hbox hg
           refine hK.out _ _ ⟨(zkc BK101.out 0).trans rfl, (zkc BK101.out 1).trans rfl, (zkc BK101.out 2).trans rfl, HS3_, HS4_, HS5_, HS6_⟩ (fun hHeld => ?_)
           clear hK K
           refine norm_ (a' := ?_) ?_ ?_
           rotate_left
           ·show Act.put _ (some 22) _ = _
            simp only [Act.put, zsa, zsz, zss, i64_w, i32_w]
            rfl
           exact norm_ zq27 (hCont (gb123) _ ⟨hHeld, zq20, zq12, zq0, zq6, zq7, zq15, GW123.out, GE123.out, NB101_123.out, NB123_101.out, NB102_123.out, NB123_102.out, NB103_123.out, NB123_103.out, zq11⟩)
          skip
          refine box_step ?hg (N := 22) ?hd (cs := #[.int .i64 0, .int .i64 0]) (t := 24) ?hr ?_; (case hd => rfl); (case hg => rfl); (case hr => first | (go_simp; done) | (go_simp; rfl))
          intro gb123 hg w97 hbox hb
          have HS3_ := (hb.cell (zwb _ _ (hHeld.2.2.2.1))).trans (hHeld.2.2.2.1)
          have HS4_ := (hb.cell (zwb _ _ (hHeld.2.2.2.2.1))).trans (hHeld.2.2.2.2.1)
          have HS5_ := (hb.cell (zwb _ _ (hHeld.2.2.2.2.2.1))).trans (hHeld.2.2.2.2.2.1)
          have HS6_ := (hb.cell (zwb _ _ (hHeld.2.2.2.2.2.2))).trans (hHeld.2.2.2.2.2.2)
          have n0_ := zam (Kd.R_below (Kd.R_elderB zq13 gb123 (Nat.le_of_eq hg.symm)) hb)
          have n1_ := zam (Kd.R_below zq12 hb)
          have n2_ := zam (zkb (g := gb101) (o := .cells #[.slice A0_0 l0_0.length c0_0, .int .i64 a0_1, .int .i64 a0_2] 26 (0, 0)) zq0 hb)
          have n3_ := zam (zkb (g := gb102) (o := .cells #[.int .i64 a1_0, .int .i64 a1_1, .int .i64 a1_2, .int .i64 a1_3] 29 (0, 0)) zq6 hb)
          have n4_ := zam (zkb (g := gb103) (o := .cells #[.int .u16 a2_0, .int .u16 a2_1] 57 (0, 0)) zq7 hb)
          have n5_ := zam (zbt zq5 hb)
          have n6_ := zam (hbox)
          have n7_ := zam ((by rw [hg]; exact (zbz zq5) : w.heap.size ≤ gb123))
          have n8_ := zam ((by rw [hg]; exact (zbz zq5) : w.heap.size ≤ gb123))
          have n9_ := zam ((by rw [hg]; exact Nat.ne_of_lt (blk_lt (g := gb101) (o := .cells #[.slice A0_0 l0_0.length c0_0, .int .i64 a0_1, .int .i64 a0_2] 26 (0, 0)) zq0) : gb101 ≠ gb123))
          have n10_ := zam ((by rw [hg]; exact Nat.ne_of_gt (blk_lt (g := gb101) (o := .cells #[.slice A0_0 l0_0.length c0_0, .int .i64 a0_1, .int .i64 a0_2] 26 (0, 0)) zq0) : gb123 ≠ gb101))
          have n11_ := zam ((by rw [hg]; exact Nat.ne_of_lt (blk_lt (g := gb102) (o := .cells #[.int .i64 a1_0, .int .i64 a1_1, .int .i64 a1_2, .int .i64 a1_3] 29 (0, 0)) zq6) : gb102 ≠ gb123))
          have n12_ := zam ((by rw [hg]; exact Nat.ne_of_gt (blk_lt (g := gb102) (o := .cells #[.int .i64 a1_0, .int .i64 a1_1, .int .i64 a1_2, .int .i64 a1_3] 29 (0, 0)) zq6) : gb123 ≠ gb102))
          have n13_ := zam ((by rw [hg]; exact Nat.ne_of_lt (blk_lt (g := gb103) (o := .cells #[.int .u16 a2_0, .int .u16 a2_1] 57 (0, 0)) zq7) : gb103 ≠ gb123))
          have n14_ := zam ((by rw [hg]; exact Nat.ne_of_gt (blk_lt (g := gb103) (o := .cells #[.int .u16 a2_0, .int .u16 a2_1] 57 (0, 0)) zq7) : gb123 ≠ gb103))
          clear HO_18
          clear HO_19
          clear BK101
          clear BK102
          clear BK103
          clear HB
          have HO_18 := n0_
          have HO_19 := n1_
          have BK101 := n2_
          have BK102 := n3_
          have BK103 := n4_
          have HB := n5_
          have BK123 := n6_
          have GW123 := n7_
          have GE123 := n8_
          have NB101_123 := n9_
          have NB123_101 := n10_
          have NB102_123 := n11_
          have NB123_102 := n12_
          have NB103_123 := n13_
          have NB123_103 := n14_
          clear n0_ n1_ n2_ n3_ n4_ n5_ n6_ n7_ n8_ n9_ n10_ n11_ n12_ n13_ n14_
          clear hb hbox hg
          refine hK.out _ _ ⟨(zkc BK101.out 0).trans rfl, (zkc BK101.out 1).trans rfl, (zkc BK101.out 2).trans rfl, HS3_, HS4_, HS5_, HS6_⟩ (fun hHeld => ?_)
          clear hK K
          refine norm_ (a' := ?_) ?_ ?_
          rotate_left
          ·show Act.put _ (some 22) _ = _
           simp only [Act.put, zsa, zsz, zss, i64_w, i32_w]
           rfl
          refine one_ (i := 6) (N := some 88) #[true, true, true, true, true, true, true, false, false, false, true, false, false] rfl rfl (one_of HT_.out (by kernel_rfl)) (by decide) (fun K hK => ?_)
          refine goes_ Try.func28 (by kernel_rfl) rfl #[.agg #[.slice A0_0 l0_0.length c0_0, .int .i64 a0_1, .int .i64 a0_2], .slice Ao46 t110.length co46, .agg #[.int .i64 ((rd_T29 t113 x21_2).f0.f0), .int .i64 ((rd_T29 t113 x21_2).f0.f1), .int .i64 ((rd_T29 t113 x21_2).f1.f0), .int .i64 ((rd_T29 t113 x21_2).f1.f1)]] (by rfl) rfl rfl zq4 ?_
          with_reducible refine (sound_Origin.calls k2 _ _ l0_0 a0_1 a0_2 _ _ t110 ((rd_T29 t113 x21_2).f0.f0) ((rd_T29 t113 x21_2).f0.f1) ((rd_T29 t113 x21_2).f1.f0) ((rd_T29 t113 x21_2).f1.f1) t120 t121 t122 _ ?side1 ?side2 ?side3 ?side4 A52.out).mono ?_
          (case side1 => repeat (first | exact (Kd.C_below HR0_0.out HB.out) | (with_reducible refine Kd.C_alloc ?_ _) | (with_reducible refine Kd.C_drewN ?_ _) | (with_reducible refine Kd.C_drew ?_)))
          (case side2 => exact HC0_0.out)
          (case side3 => repeat (first | exact (Kd.R_reads' HO_18.out).2.2 | (with_reducible refine Kd.C_alloc ?_ _) | (with_reducible refine Kd.C_drewN ?_ _) | (with_reducible refine Kd.C_drew ?_)))
          (case side4 => exact (Kd.R_reads' HO_18.out).2.1)
          rintro e w98 ⟨rfl, hb⟩
          have HS3_ := (hb.cell (zwb _ _ (hHeld.2.2.2.1))).trans (hHeld.2.2.2.1)
          have HS4_ := (hb.cell (zwb _ _ (hHeld.2.2.2.2.1))).trans (hHeld.2.2.2.2.1)
          have HS5_ := (hb.cell (zwb _ _ (hHeld.2.2.2.2.2.1))).trans (hHeld.2.2.2.2.2.1)
          have HS6_ := (hb.cell (zwb _ _ (hHeld.2.2.2.2.2.2))).trans (hHeld.2.2.2.2.2.2)
          refine ⟨_, rfl, ?_⟩
          have n0_ := zam (Kd.R_below zq13 hb)
          have n1_ := zam (Kd.R_below zq12 hb)
          have n2_ := zam (zkb (g := gb101) (o := .cells #[.slice A0_0 l0_0.length c0_0, .int .i64 a0_1, .int .i64 a0_2] 26 (0, 0)) zq0 hb)
          have n3_ := zam (zkb (g := gb102) (o := .cells #[.int .i64 a1_0, .int .i64 a1_1, .int .i64 a1_2, .int .i64 a1_3] 29 (0, 0)) zq6 hb)
          have n4_ := zam (zkb (g := gb103) (o := .cells #[.int .u16 a2_0, .int .u16 a2_1] 57 (0, 0)) zq7 hb)
          have n5_ := zam (zkb (g := gb123) (o := .cells #[.int .i64 0, .int .i64 0] 24 (0, 0)) zq15 hb)
          have n6_ := zam (zbt zq11 hb)
          clear HO_18
          clear HO_19
          clear BK101
          clear BK102
          clear BK103
          clear BK123
          clear HB
          have HO_18 := n0_
          have HO_19 := n1_
          have BK101 := n2_
          have BK102 := n3_
          have BK103 := n4_
          have BK123 := n5_
          have HB := n6_
          clear n0_ n1_ n2_ n3_ n4_ n5_ n6_
          (try clear hb)
          (try clear hb2)
          (try clear hk)
          (try clear hi)
          refine hK.out _ _ ⟨(zkc BK101.out 0).trans rfl, (zkc BK101.out 1).trans rfl, (zkc BK101.out 2).trans rfl, HS3_, HS4_, HS5_, HS6_⟩ (fun hHeld => ?_)
          clear hK K
          refine norm_ (a' := ?_) ?_ ?_
          rotate_left
          ·show Act.put _ (some 88) _ = _
           simp only [Act.put, zsa, zsz, zss, i64_w, i32_w]
           rfl
          refine pure_ (i := 7) (N := some 81) (v := ?_) (a' := ?_) #[true, true, true, true, true, true, true, true, false, false, true, false, false] rfl rfl (any_of HT_.out (by kernel_rfl)) (fun _ _ _ h => h) (Or.inl ⟨by rfl, ?_⟩) ?_ ?_
          rotate_left
          ·intro w'
           go_simp
           with_reducible rfl
          rotate_left
          ·simp only [Act.put, zsa, zsz, zss, i64_w, i32_w]
           rfl
          refine pure_ (i := 8) (N := some 89) (v := ?_) (a' := ?_) #[true, true, true, true, true, true, true, true, true, false, true, false, false] rfl rfl (any_of HT_.out (by kernel_rfl)) (fun _ _ _ h => h) (Or.inl ⟨by rfl, ?_⟩) ?_ ?_
          rotate_left
          ·intro w'
           go_simp
           with_reducible rfl
          rotate_left
          ·simp only [Act.put, zsa, zsz, zss, i64_w, i32_w]
           rfl
          refine pure_ (i := 9) (N := some 90) (v := ?_) (a' := ?_) #[true, true, true, true, true, true, true, true, true, true, true, false, false] rfl rfl (any_of HT_.out (by kernel_rfl)) (fun _ _ _ h => h) (Or.inl ⟨by rfl, ?_⟩) ?_ ?_
          rotate_left
          ·intro w'
           go_simp
           with_reducible rfl
          rotate_left
          ·simp only [Act.put, zsa, zsz, zss, i64_w, i32_w]
           rfl
          exact norm_ zq27 (hCont (gb123) _ ⟨hHeld, zq20, zq12, zq0, zq6, zq7, zq15, GW123.out, GE123.out, NB101_123.out, NB123_101.out, NB102_123.out, NB123_102.out, NB103_123.out, NB123_103.out, zq11⟩)
         rintro gb123 w99 ⟨hS_, h0_, h1_, h2_, h3_, h4_, h5_, h6_, h7_, h8_, h9_, h10_, h11_, h12_, h13_, h14_⟩
         have n0_ : Aside0 (Kd.R k24 24 w99 w.heap.size (fun k_ => k_ ≠ gb123) (.slice Ao46 t110.length co46) t110) := ⟨h0_⟩
         have n1_ : Aside0 (Kd.R k29 29 w99 w.heap.size (fun k_ => k_ ≠ gb102) (.slice (some ad117) t113.length co94) t113) := ⟨h1_⟩
         have n2_ : Aside0 (w99.heap[gb101]? = some (.cells #[.slice A0_0 l0_0.length c0_0, .int .i64 a0_1, .int .i64 a0_2] 26 (0, 0))) := ⟨h2_⟩
         have n3_ : Aside0 (w99.heap[gb102]? = some (.cells #[.int .i64 a1_0, .int .i64 a1_1, .int .i64 a1_2, .int .i64 a1_3] 29 (0, 0))) := ⟨h3_⟩
         have n4_ : Aside0 (w99.heap[gb103]? = some (.cells #[.int .u16 a2_0, .int .u16 a2_1] 57 (0, 0))) := ⟨h4_⟩
         have n5_ : Aside0 (w99.heap[gb123]? = some (.cells #[.int .i64 0, .int .i64 0] 24 (0, 0))) := ⟨h5_⟩
         have n6_ : Aside0 (w.heap.size ≤ gb123) := ⟨h6_⟩
         have n7_ : Aside0 (w.heap.size ≤ gb123) := ⟨h7_⟩
         have n8_ : Aside0 (gb101 ≠ gb123) := ⟨h8_⟩
         have n9_ : Aside0 (gb123 ≠ gb101) := ⟨h9_⟩
         have n10_ : Aside0 (gb102 ≠ gb123) := ⟨h10_⟩
         have n11_ : Aside0 (gb123 ≠ gb102) := ⟨h11_⟩
         have n12_ : Aside0 (gb103 ≠ gb123) := ⟨h12_⟩
         have n13_ : Aside0 (gb123 ≠ gb103) := ⟨h13_⟩
         have n14_ : Aside0 (Below w.heap.size w w99) := ⟨h14_⟩
         clear HO_18
         clear HO_19
         clear BK101
         clear BK102
         clear BK103
         clear HB
         clear h0_ h1_ h2_ h3_ h4_ h5_ h6_ h7_ h8_ h9_ h10_ h11_ h12_ h13_ h14_
         have HO_18 := n0_
         have HO_19 := n1_
         have BK101 := n2_
         have BK102 := n3_
         have BK103 := n4_
         have BK123 := n5_
         have GW123 := n6_
         have GE123 := n7_
         have NB101_123 := n8_
         have NB123_101 := n9_
         have NB102_123 := n10_
         have NB123_102 := n11_
         have NB103_123 := n12_
         have NB123_103 := n13_
         have HB := n14_
         clear n0_ n1_ n2_ n3_ n4_ n5_ n6_ n7_ n8_ n9_ n10_ n11_ n12_ n13_ n14_
         have hHeld : w99.cell? ⟨gb101, 0, none⟩ = some (.slice A0_0 l0_0.length c0_0) ∧ w99.cell? ⟨gb101, 1, none⟩ = some (.int .i64 a0_1) ∧ w99.cell? ⟨gb101, 2, none⟩ = some (.int .i64 a0_2) ∧ w99.cell? (ad117.add ((x21_2).toNat * 4)) = some (.int .i64 ((rd_T29 t113 x21_2).f0.f0)) ∧ w99.cell? ⟨(ad117.add ((x21_2).toNat * 4)).block, (ad117.add ((x21_2).toNat * 4)).off + 1, none⟩ = some (.int .i64 ((rd_T29 t113 x21_2).f0.f1)) ∧ w99.cell? ⟨(ad117.add ((x21_2).toNat * 4)).block, (ad117.add ((x21_2).toNat * 4)).off + 2, none⟩ = some (.int .i64 ((rd_T29 t113 x21_2).f1.f0)) ∧ w99.cell? ⟨(ad117.add ((x21_2).toNat * 4)).block, (ad117.add ((x21_2).toNat * 4)).off + 3, none⟩ = some (.int .i64 ((rd_T29 t113 x21_2).f1.f1)) := hS_
         refine norm_ (a' := ?_) ?_ ?_
         rotate_left
         ·simp only [putAll, Act.put, zsa, zsz, zss]
          rfl
         refine one_ (i := 11) (N := none) #[true, true, true, true, true, true, true, true, true, true, true, true, false] rfl rfl (one_of HT_.out (by kernel_rfl)) (by decide) (fun K hK => ?_)
         have hs100 : w99.cell? ⟨gb123, 0, none⟩ = some (.int .i64 0) := (zkc BK123.out 0).trans rfl
         have hfs100 := zkz BK123.out 0
         have hns100_0 := NB101_123.out
         have hns100_1 := NB102_123.out
         have hns100_2 := NB103_123.out
         have hms100_0 := NB123_101.out
         have hms100_1 := NB123_102.out
         have hms100_2 := NB123_103.out
         have hs101 : w99.cell? ⟨gb123, 1, none⟩ = some (.int .i64 0) := (zkc BK123.out 1).trans rfl
         have hfs101 := zkz BK123.out 1
         have hns101_0 := NB101_123.out
         have hns101_1 := NB102_123.out
         have hns101_2 := NB103_123.out
         have hms101_0 := NB123_101.out
         have hms101_1 := NB123_102.out
         have hms101_2 := NB123_103.out
         refine skip_ (w1 := ?_) (by rfl) rfl ?_ ?_
         rotate_left
         ·go_simp
          rfl
         refine hK.out _ _ ⟨((cell_far (p := ⟨gb123, _, none⟩) NB101_123.out _).trans (((cell_far (p := ⟨gb123, _, none⟩) NB101_123.out _).trans (hHeld.1)))), ((cell_far (p := ⟨gb123, _, none⟩) NB101_123.out _).trans (((cell_far (p := ⟨gb123, _, none⟩) NB101_123.out _).trans (hHeld.2.1)))), ((cell_far (p := ⟨gb123, _, none⟩) NB101_123.out _).trans (((cell_far (p := ⟨gb123, _, none⟩) NB101_123.out _).trans (hHeld.2.2.1)))), ((cell_far (p := ⟨gb123, _, none⟩) zq3 _).trans (((cell_far (p := ⟨gb123, _, none⟩) zq3 _).trans (hHeld.2.2.2.1)))), ((cell_far (p := ⟨gb123, _, none⟩) zq3 _).trans (((cell_far (p := ⟨gb123, _, none⟩) zq3 _).trans (hHeld.2.2.2.2.1)))), ((cell_far (p := ⟨gb123, _, none⟩) zq3 _).trans (((cell_far (p := ⟨gb123, _, none⟩) zq3 _).trans (hHeld.2.2.2.2.2.1)))), ((cell_far (p := ⟨gb123, _, none⟩) zq3 _).trans (((cell_far (p := ⟨gb123, _, none⟩) zq3 _).trans (hHeld.2.2.2.2.2.2))))⟩ (fun hHeld => ?_)
         clear hK K
         refine pure_ (i := 12) (N := some 23) (v := ?_) (a' := ?_) #[true, true, true, true, true, true, true, true, true, true, true, true, true] rfl rfl (any_of HT_.out (by kernel_rfl)) (fun _ _ _ h => h) (Or.inl ⟨by rfl, ?_⟩) ?_ ?_
         rotate_left
         ·intro w'
          go_simp
          with_reducible rfl
         rotate_left
         ·simp only [Act.put, zsa, zsz, zss, i64_w, i32_w]
          rfl
         refine done_ (done_of HT_.out (by kernel_rfl)) ?_
         try go_wp2
         go_roundg k2
         case measure => have := HJ7.out; have := HK2.out; omega
         case rel => exact ⟨(wrap64 (x21_2 + 1)), zq9, H', ⟨by have := HJ7.out; have := HK2.out; omega⟩, ⟨by (with_reducible repeat (first | apply zRa | apply zRn | apply zRd)); exact Kd.R_mono (Kd.R_far (p := ⟨gb123, 1, none⟩) (Kd.R_far (p := ⟨gb123, 0, none⟩) (Kd.R_mono HO_18.out (fun k_ hk => (⟨hk, hk⟩ : _ ∧ k_ ≠ gb123))) (fun _ hk => hk.2) (.int .i64 t120)) (fun _ hk => hk.2) (.int .i64 t121)) (fun _ hk => trivial)⟩, ⟨by (with_reducible repeat (first | apply zRa | apply zRn | apply zRd)); exact Kd.R_mono (Kd.R_far (p := ⟨gb123, 1, none⟩) (Kd.R_far (p := ⟨gb123, 0, none⟩) (Kd.R_types HO_19.out BK123.out (by decide)) (fun _ hk => hk.2) (.int .i64 t120)) (fun _ hk => hk.2) (.int .i64 t121)) (fun _ hk => hk.1)⟩, ⟨by (with_reducible repeat (first | refine zkn ?_ _ | refine zkd ?_ | refine zka ?_ _)); refine zkf ?_ NB101_123.out _; (with_reducible repeat (first | refine zkn ?_ _ | refine zkd ?_ | refine zka ?_ _)); refine zkf ?_ NB101_123.out _; (with_reducible repeat (first | refine zkn ?_ _ | refine zkd ?_ | refine zka ?_ _)); exact BK101.out⟩, ⟨by (with_reducible repeat (first | refine zkn ?_ _ | refine zkd ?_ | refine zka ?_ _)); refine zkf ?_ NB102_123.out _; (with_reducible repeat (first | refine zkn ?_ _ | refine zkd ?_ | refine zka ?_ _)); refine zkf ?_ NB102_123.out _; (with_reducible repeat (first | refine zkn ?_ _ | refine zkd ?_ | refine zka ?_ _)); exact BK102.out⟩, ⟨by (with_reducible repeat (first | refine zkn ?_ _ | refine zkd ?_ | refine zka ?_ _)); refine zkf ?_ NB103_123.out _; (with_reducible repeat (first | refine zkn ?_ _ | refine zkd ?_ | refine zka ?_ _)); refine zkf ?_ NB103_123.out _; (with_reducible repeat (first | refine zkn ?_ _ | refine zkd ?_ | refine zka ?_ _)); exact BK103.out⟩, ⟨by repeat (first | (with_reducible first | exact HB.out | apply zba | apply zbn | apply zb1 | refine zbs ?_ GE101.out | refine zbs ?_ GE102.out | refine zbs ?_ GE103.out | refine zbs ?_ GE123.out) | exact HB.out)⟩⟩
        replace c51 := Bool.eq_false_iff.mpr c51
        subst c51
        have H1 : (isobathlaw07_SoundFinds.l0 k2 t107 t108 (wrap64 (a3)) t110 t113 (wrap64 (x21_2 + 1)) l0_0 a0_1 a0_2) = some r := by rw [if_neg (show ¬ (false = true) by decide)] at H; exact H
        clear H
        have H := H1
        clear H1
        have H' := zam H
        clear H
        obtain ⟨Ao102, co102, eo102⟩ := Kd.R_slice HO_19.out
        subst eo102
        have p117 : 0 ≤ (x21_2 : Int) := zod zq8
        have q117 : x21_2 < (t113.length : Int) := zod zq8
        obtain ⟨ad117, e117, hx117_0, hx117_1, hx117_2, hx117_3⟩ := at_T29 (Kd.R_reads' HO_19.out).2.2 x21_2 p117 q117
        cases e117
        replace p117 := eq_true p117
        replace q117 := eq_true q117
        go_wp2_with (first | ((with_reducible refine zgc (f := 27) rfl ?_); refine goesL_ (some 79) rfl rfl Try.func27 (by kernel_rfl) rfl #[.agg #[.int .i64 ((rd_T29 t113 x21_2).f0.f0), .int .i64 ((rd_T29 t113 x21_2).f0.f1), .int .i64 ((rd_T29 t113 x21_2).f1.f0), .int .i64 ((rd_T29 t113 x21_2).f1.f1)], .int .i64 t107, .int .i64 t108] rfl zq4 ?_; (with_reducible refine (isobathlaw07_inside.calls ((rd_T29 t113 x21_2).f0.f0) ((rd_T29 t113 x21_2).f0.f1) ((rd_T29 t113 x21_2).f1.f0) ((rd_T29 t113 x21_2).f1.f1) t107 t108 false _ A50.out).mono ?_); rintro e w103 ⟨rfl, hb⟩; refine ⟨_, rfl, ?_⟩; have n0_ := zam (Kd.R_below zq13 hb); have n1_ := zam (Kd.R_below zq12 hb); have n2_ := zam (zkb (g := gb101) (o := .cells #[.slice A0_0 l0_0.length c0_0, .int .i64 a0_1, .int .i64 a0_2] 26 (0, 0)) zq0 hb); have n3_ := zam (zkb (g := gb102) (o := .cells #[.int .i64 a1_0, .int .i64 a1_1, .int .i64 a1_2, .int .i64 a1_3] 29 (0, 0)) zq6 hb); have n4_ := zam (zkb (g := gb103) (o := .cells #[.int .u16 a2_0, .int .u16 a2_1] 57 (0, 0)) zq7 hb); have n5_ := zam (zbt zq5 hb); clear HO_18; clear HO_19; clear BK101; clear BK102; clear BK103; clear HB; have HO_18 := n0_; have HO_19 := n1_; have BK101 := n2_; have BK102 := n3_; have BK103 := n4_; have HB := n5_; clear n0_ n1_ n2_ n3_ n4_ n5_; (try clear hb); (try clear hb2); (try clear hk); (try clear hi)))
        go_roundg k2
        case measure => have := HJ7.out; have := HK2.out; omega
        case rel => exact ⟨(wrap64 (x21_2 + 1)), zq9, H', ⟨by have := HJ7.out; have := HK2.out; omega⟩, ⟨by (with_reducible repeat (first | apply zRa | apply zRn | apply zRd)); exact HO_18.out⟩, ⟨by (with_reducible repeat (first | apply zRa | apply zRn | apply zRd)); exact HO_19.out⟩, ⟨by (with_reducible repeat (first | refine zkn ?_ _ | refine zkd ?_ | refine zka ?_ _)); exact BK101.out⟩, ⟨by (with_reducible repeat (first | refine zkn ?_ _ | refine zkd ?_ | refine zka ?_ _)); exact BK102.out⟩, ⟨by (with_reducible repeat (first | refine zkn ?_ _ | refine zkd ?_ | refine zka ?_ _)); exact BK103.out⟩, ⟨by repeat (first | (with_reducible first | exact HB.out | apply zba | apply zbn | apply zb1 | refine zbs ?_ GE101.out | refine zbs ?_ GE102.out | refine zbs ?_ GE103.out) | exact HB.out)⟩⟩
       rw [if_neg c49] at H
       exact absurd H (by simp)
      rw [if_neg c48] at H
      exact absurd H (by simp)
   rw [if_neg c34] at H
   exact absurd H (by simp)
structure Opens {α : Type} (P : Program) (t : TypeId) (d : Kd α) (B : α → Prop) : Prop where
 run : ∀ {H : Type} {enc : TypeId × Value → H} {W : World} {fuel : Nat} {cs : List Value} {x : DataW H × List MemPlace}, DataW.trod enc P W 0 (fun _ => true) true fuel t cs = some x → ∃ a : α, d.K W a cs ∧ B a
theorem Opens.int {P : Program} {t : TypeId} {k : IntKind} (ht : P.underlying t = some (.int k)) : Opens P t (Kd.int k) (fun n => (Lit.int k n).wf = true) :=
 ⟨fun h => by
  obtain ⟨n, rfl, _, hw⟩ := DataW.trod_int ht h
  exact ⟨n, rfl, hw⟩⟩
theorem Opens.bool {P : Program} {t : TypeId} (ht : P.underlying t = some .bool) : Opens P t Kd.bool (fun _ => True) :=
 ⟨fun h => by
  obtain ⟨n, rfl, _⟩ := DataW.trod_bool ht h
  exact ⟨n, rfl, trivial⟩⟩
theorem Opens.slice {α : Type} {P : Program} {t e : TypeId} {d : Kd α} {B : α → Prop} (ht : P.underlying t = some (.slice e)) (hc : P.cellsOf e = d.sz) (he : Opens P e d B) :
  Opens P t (Kd.slice e d) (fun xs => xs.length ≤ 9223372036854775807 ∧ ∀ x ∈ xs, B x) := by
 refine ⟨fun {H enc W fuel cs x} h => ?_⟩
 rcases Deep.open_slice ht h with ⟨rfl, _⟩ | ⟨a, len, cap, m, n, D, Pl, rfl, _, hl, hm, hmm, _, hx⟩
 ·exact ⟨[], ⟨none, 0, rfl, Nat.le_refl _, Kd.C_nil _ _⟩, by simp, by simp⟩
 have hm' : cap ≤ 9223372036854775807 := by unfold maxLen at hm; exact hm
 have hme : m = cap := by simpa using hmm
 have hel : ∀ i, i < len → ∃ y : α, (∃ cs', W.cells? 0 (a.add (i * P.cellsOf e)) (P.cellsOf e) = some cs' ∧ d.K W y cs') ∧ B y := by
  intro i hi
  obtain ⟨cs', h1, h2⟩ := hx i (by omega)
  obtain ⟨y, hy, hB⟩ := he.run h2
  exact ⟨y, ⟨cs', h1, hy⟩, hB⟩
 rcases Nat.eq_zero_or_pos len with h0 | h0
 ·subst h0
  exact ⟨[], ⟨some a, cap, rfl, Nat.zero_le _, rfl, Nat.zero_le _, fun hp => absurd hp (Nat.lt_irrefl 0)⟩, by simp, by simp⟩
 have : Inhabited α := ⟨Classical.choose (hel 0 h0)⟩
 obtain ⟨f, hf⟩ := Deep.choose_lt (p := fun i y => (∃ cs', W.cells? 0 (a.add (i * P.cellsOf e)) (P.cellsOf e) = some cs' ∧ d.K W y cs') ∧ B y) hel
 have hlen : ((List.range len).map f).length = len := by simp
 refine ⟨(List.range len).map f, ⟨some a, cap, by rw [hlen], by rw [hlen]; exact hl, hlen ▸ rfl, by rw [hlen]; omega, fun _ => ⟨a, rfl, ?_⟩⟩, by rw [hlen]; omega, ?_⟩
 ·intro j p hj
  have hjl : j < len := by
   have := (List.getElem?_eq_some_iff.1 hj).1
   rwa [hlen] at this
  have hp : p = f j := by
   rw [List.getElem?_map, List.getElem?_range hjl] at hj
   exact (zsi hj).symm
  subst hp
  obtain ⟨⟨cs', h1, h2⟩, _⟩ := hf j hjl
  obtain ⟨_, h3, h4⟩ := World.cells?_some h1
  rw [hc] at h3 h4
  refine ⟨cs', h3, h2, fun i u hu => ?_⟩
  have hi : i < d.sz := by
   have := (List.getElem?_eq_some_iff.1 hu).1
   omega
  rw [← Deep.add_add]
  exact (h4 i hi).trans hu
 intro y hy
 obtain ⟨i, hi, rfl⟩ := List.mem_map.1 hy
 exact (hf i (List.mem_range.1 hi)).2
structure OpensF {α : Type} (P : Program) (fs : List Field) (off tot : Nat) (d : Kd α) (B : α → Prop) : Prop where
 run : ∀ {H : Type} {enc : TypeId × Value → H} {W : World} {n : Nat} {cs : List Value}, cs.length = tot → (∀ (i : Nat) (f : Field), fs[i]? = some f → ∃ y, DataW.trod enc P W 0 (fun _ => true) true n f.type ((cs.drop f.offset).take (P.cellsOf f.type)) = some y) → ∃ a : α, d.K W a (cs.drop off) ∧ B a
theorem OpensF.last {α : Type} {P : Program} {f : Field} {off tot : Nat} {d : Kd α} {B : α → Prop} (ho : f.offset = off) (ht : off + P.cellsOf f.type = tot) (h : Opens P f.type d B) : OpensF P [f] off tot d B := by
 refine ⟨fun {H enc W n cs} hl hy => ?_⟩
 obtain ⟨y, hy⟩ := hy 0 f rfl
 obtain ⟨a, ha, hB⟩ := h.run hy
 rw [ho, List.take_of_length_le (by rw [zld]; omega)] at ha
 exact ⟨a, ha, hB⟩
theorem OpensF.cons {α β : Type} {P : Program} {f : Field} {fs : List Field} {off tot : Nat} {d1 : Kd α} {d2 : Kd β} {B1 : α → Prop} {B2 : β → Prop} (ho : f.offset = off) (hs : P.cellsOf f.type = d1.sz) (h : Opens P f.type d1 B1) (hr : OpensF P fs (off + d1.sz) tot d2 B2) :
  OpensF P (f :: fs) off tot (Kd.pair d1 d2) (fun x => B1 x.1 ∧ B2 x.2) := by
 refine ⟨fun {H enc W n cs} hl hy => ?_⟩
 obtain ⟨y, hy0⟩ := hy 0 f rfl
 obtain ⟨a, ha, hB⟩ := h.run hy0
 obtain ⟨b, hb, hB2⟩ := hr.run hl (fun i g hg => hy (i + 1) g hg)
 rw [ho, hs] at ha
 refine ⟨(a, b), ⟨(cs.drop off).take d1.sz, cs.drop (off + d1.sz), ?_, ha, hb⟩, hB, hB2⟩
 rw [← List.drop_drop, List.take_append_drop]
theorem Opens.struct {α β : Type} {P : Program} {t : TypeId} {fs : Array Field} {d : Kd α} {B : α → Prop} (ht : P.underlying t = some (.struct fs)) (f : β → α) (g : α → β) (hg : ∀ a, f (g a) = a) (hF : OpensF P fs.toList 0 (P.cellsOf t) d B) : Opens P t (Kd.iso d f) (fun x => B (f x)) := by
 refine ⟨fun {H enc W fuel cs x} h => ?_⟩
 obtain ⟨xs, n, _, _, hl, hlen, hf⟩ := DataW.trod_struct ht h
 obtain ⟨a, ha, hB⟩ := hF.run (n := n) hl (fun i fl hfl => by
  have hfl' : fs[i]? = some fl := by simpa using hfl
  have hi : i < fs.size := (Array.getElem?_eq_some_iff.1 hfl').1
  exact ⟨xs[i]'(by omega), (hf i fl hfl').trans (List.getElem?_eq_getElem (by omega))⟩)
 refine ⟨g a, ?_, ?_⟩
 ·show d.K W (f (g a)) cs
  rw [hg]
  simpa using ha
 show B (f (g a))
 rw [hg]
 exact hB
theorem cells_agg {v : Value} {l : List Value} (h : v.cells.toList = l) (hl : 2 ≤ l.length) : v = .agg l.toArray := by
 subst h
 cases v <;> simp [Value.cells] at hl ⊢
theorem Opens.array {α β : Type} {P : Program} {t n e : Nat} {fs : List Field} {d : Kd α} {B : α → Prop} (ht : P.underlying t = some (.array n e)) (hfs : ∀ (i : Nat) (f : Field), fs[i]? = some f → i < n ∧ f.type = e ∧ f.offset = i * P.cellsOf e) (f : β → α) (g : α → β) (hg : ∀ a, f (g a) = a) (hF : OpensF P fs 0 (P.cellsOf t) d B) : Opens P t (Kd.iso d f) (fun x => B (f x)) := by
 refine ⟨fun {H enc W fuel cs x} h => ?_⟩
 obtain ⟨xs, m, _, _, hl, hlen, hf⟩ := DataW.trod_array ht h
 obtain ⟨a, ha, hB⟩ := hF.run (n := m) hl (fun i fl hfl => by
  obtain ⟨h1, h2, h3⟩ := hfs i fl hfl
  rw [h2, h3]
  exact ⟨xs[i]'(by omega), (hf i h1).trans (List.getElem?_eq_getElem (by omega))⟩)
 refine ⟨g a, ?_, ?_⟩
 ·show d.K W (f (g a)) cs
  rw [hg]
  simpa using ha
 show B (f (g a))
 rw [hg]
 exact hB
end Go.Proofs.Ytaheamdoldiojaa.P
namespace Go.Proofs.Ytaheamdoldiojaa.P
open Go.RowKit Go.Proofs.YtaheamdoldiojaaW.PrintWords Go.Proofs.YtaheamdoldiojaaW.PrintLast Go.Proofs.YtaheamdoldiojaaW.PrintMore
namespace soundFinds
open Go.ChangeShapes Go.WideShapes Go.ChangeAt
set_option linter.unusedVariables false
set_option linter.unusedSimpArgs false
def B24 (x : S24) : Prop := (fun n : Int => (Lit.int .i64 n).wf = true) x.f0 ∧ (fun n : Int => (Lit.int .i64 n).wf = true) x.f1
theorem opens24 : Opens Try.prog 24 k24 B24 := Opens.struct (fs := _) Try.underlying24 (fun x : S24 => (x.f0, x.f1)) (fun t => ⟨t.1, t.2⟩) (fun _ => rfl) (OpensF.cons rfl (by kernel_rfl) (Opens.int Try.underlying2) (OpensF.last rfl (by kernel_rfl) (Opens.int Try.underlying2)))
def B29 (x : S29) : Prop := B24 x.f0 ∧ B24 x.f1
theorem opens29 : Opens Try.prog 29 k29 B29 := Opens.struct (fs := _) Try.underlying29 (fun x : S29 => (x.f0, x.f1)) (fun t => ⟨t.1, t.2⟩) (fun _ => rfl) (OpensF.cons rfl (by kernel_rfl) opens24 (OpensF.last rfl (by kernel_rfl) opens24))
def B26 (x : S26) : Prop := (fun xs : List S29 => xs.length ≤ 9223372036854775807 ∧ ∀ x ∈ xs, B29 x) x.f0 ∧ B24 x.f1
theorem opens26 : Opens Try.prog 26 k26 B26 := Opens.struct (fs := _) Try.underlying26 (fun x : S26 => (x.f0, x.f1)) (fun t => ⟨t.1, t.2⟩) (fun _ => rfl) (OpensF.cons rfl (by kernel_rfl) (Opens.slice Try.underlying22 (by kernel_rfl) opens29) (OpensF.last rfl (by kernel_rfl) opens24))
def B57 (x : S57) : Prop := (fun n : Int => (Lit.int .u16 n).wf = true) x.f0 ∧ (fun n : Int => (Lit.int .u16 n).wf = true) x.f1
theorem opens57 : Opens Try.prog 57 k57 B57 := Opens.array (fs := [{ name := "e0", type := 48, offset := 0, embedded := false, tag := "", pkgPath := "", byteOffset := 0 }, { name := "e1", type := 48, offset := 1, embedded := false, tag := "", pkgPath := "", byteOffset := 1 }]) Try.underlying57 (fun i f h => by rcases i with _ | _ | i <;> simp at h <;> subst h <;> exact ⟨by decide, rfl, by kernel_rfl⟩) (fun x : S57 => (x.f0, x.f1)) (fun t => ⟨t.1, t.2⟩) (fun _ => rfl) (OpensF.cons rfl (by kernel_rfl) (Opens.int Try.underlying48) (OpensF.last rfl (by kernel_rfl) (Opens.int Try.underlying48)))
def Pure : Prop := ∀ (x0 : S26) (x1 : S29) (x2 : S57) (x3 : Int) (x4 : Int) (x5 : (List Int)) (x6 : Int), B26 x0 → B29 x1 → B57 x2 → (fun n : Int => (Lit.int .u32 n).wf = true) x3 → (fun n : Int => (Lit.int .u16 n).wf = true) x4 → (fun xs : List Int => xs.length ≤ 9223372036854775807 ∧ ∀ x ∈ xs, (fun n : Int => (Lit.int .u16 n).wf = true) x) x5 → (fun n : Int => (Lit.int .u8 n).wf = true) x6 → ∃ k, isobathlaw07_SoundFinds.f k x0.f0 x0.f1.f0 x0.f1.f1 x1.f0.f0 x1.f0.f1 x1.f1.f0 x1.f1.f1 x2.f0 x2.f1 x3 x4 x5 x6 = some true
theorem own : ownKnob Try.prog.godebug = none := by kernel_rfl
theorem laidOut : laidOutB Try.prog = true := by kernel_rfl
set_option maxRecDepth 100000 in
theorem lifted (hP : Pure) (os : Os) (started : os.Started) (H : Type) (enc : TypeId × Value → H) :
  ReturnsInHanded {} Try.checked os 5 .any (Rows.soundFindsSpec.pre6 enc Try.prog Try.f5 Rows.soundFindsRow.domain false) (Rows.soundFindsSpec.post enc Try.prog Try.f5 false true false false) := by
 refine returnsInHanded_of_change_sized (C := Try.checked) own started (by kernel_rfl) Try.func5
  (ChangeSpec.witness6 (enc := enc) (C := Try.checked) false ⟨#[], #[.agg #[.slice none 0 0, .int .i64 0, .int .i64 0], .agg #[.int .i64 0, .int .i64 0, .int .i64 0, .int .i64 0], .agg #[.int .u16 0, .int .u16 0], .int .u32 0, .int .u16 0, .slice none 0 0, .int .u8 0], []⟩ 8 (by kernel_rfl) (by kernel_rfl) (by kernel_rfl) (by kernel_rfl)) ?_
 intro W base args ds gs before hval0 hW hcnd hsz0 _
 have hval : ∀ (j : Nat) t v, Try.f5.params[j]? = some t → args[j]? = some v → Value.okWide Try.prog W .any base t v := hval0
 have hW' := hW
 obtain ⟨p, q, hA0, hV, rfl, hfz, hnd⟩ := hW
 have hA : DataW.TrodAll enc Try.prog W 0 (fun _ => true) true Try.f5.params.toList args.toList ds p := hA0
 rw [Try.params5] at hA hval
 obtain ⟨v0, vs0, d0, ds0, p0, q0, hargs, rfl, rfl, h0, r0⟩ := trodAll_cons hA
 obtain ⟨v1, vs1, d1, ds1, p1, q1, rfl, rfl, rfl, h1, r1⟩ := trodAll_cons r0
 obtain ⟨v2, vs2, d2, ds2, p2, q2, rfl, rfl, rfl, h2, r2⟩ := trodAll_cons r1
 obtain ⟨v3, vs3, d3, ds3, p3, q3, rfl, rfl, rfl, h3, r3⟩ := trodAll_cons r2
 obtain ⟨v4, vs4, d4, ds4, p4, q4, rfl, rfl, rfl, h4, r4⟩ := trodAll_cons r3
 obtain ⟨v5, vs5, d5, ds5, p5, q5, rfl, rfl, rfl, h5, r5⟩ := trodAll_cons r4
 obtain ⟨v6, vs6, d6, ds6, p6, q6, rfl, rfl, rfl, h6, r6⟩ := trodAll_cons r5
 obtain ⟨rfl, rfl, rfl⟩ := trodAll_nil r6
 obtain rfl : args = #[v0, v1, v2, v3, v4, v5, v6] := by cases args; simp_all
 obtain ⟨rfl, rfl⟩ := trodVars_none hV
 have k0 := h0
 have lt0 : ∀ x ∈ p0, x.block < W.heap.size := by obtain ⟨m, hm⟩ := k0; exact DataW.trod_lt m _ _ _ hm
 obtain ⟨m0, hm0⟩ := h0
 obtain ⟨x0, hk0, w0⟩ := Opens.run opens26 hm0
 obtain ⟨A0_0, c0_0, hcs0, hc0_0, hr0_0⟩ := k26_open hk0
 obtain rfl := cells_agg hcs0 (by simp)
 have k1 := h1
 have lt1 : ∀ x ∈ p1, x.block < W.heap.size := by obtain ⟨m, hm⟩ := k1; exact DataW.trod_lt m _ _ _ hm
 obtain ⟨m1, hm1⟩ := h1
 obtain ⟨x1, hk1, w1⟩ := Opens.run opens29 hm1
 have hcs1 := k29_open hk1
 obtain rfl := cells_agg hcs1 (by simp)
 have k2 := h2
 have lt2 : ∀ x ∈ p2, x.block < W.heap.size := by obtain ⟨m, hm⟩ := k2; exact DataW.trod_lt m _ _ _ hm
 obtain ⟨m2, hm2⟩ := h2
 obtain ⟨x2, hk2, w2⟩ := Opens.run opens57 hm2
 have hcs2 := k57_open hk2
 obtain rfl := cells_agg hcs2 (by simp)
 obtain ⟨x3, rfl, rfl, rfl, w3⟩ := open_int Try.underlying58 (hval 3 58 v3 rfl rfl) h3
 obtain ⟨x4, rfl, rfl, rfl, w4⟩ := open_int Try.underlying48 (hval 4 48 v4 rfl rfl) h4
 have k5 := h5
 have lt5 : ∀ x ∈ p5, x.block < W.heap.size := by obtain ⟨m, hm⟩ := k5; exact DataW.trod_lt m _ _ _ hm
 obtain ⟨m5, hm5⟩ := h5
 obtain ⟨x5, hk5, w5⟩ := Opens.run (Opens.slice Try.underlying40 (by kernel_rfl) (Opens.int Try.underlying48)) hm5
 obtain ⟨a5, len5, cap5, rfl⟩ := okWide_slice Try.underlying40 (hval 5 40 v5 rfl rfl)
 obtain ⟨A5, c5, hcs5, hc5, hr5⟩ := hk5
 simp [Value.cells] at hcs5
 obtain ⟨rfl, rfl, rfl⟩ := hcs5
 obtain ⟨x6, rfl, rfl, rfl, w6⟩ := open_int Try.underlying5 (hval 6 5 v6 rfl rfl) h6
 clear hA0 hval0 hsz0
 obtain ⟨k, hf⟩ := hP x0 x1 x2 x3 x4 x5 x6 w0 w1 w2 w3 w4 w5 w6
 refine (isobathlaw07_SoundFinds.calls (k := k) (A0_0 := A0_0) (c0_0 := c0_0) (l0_0 := x0.f0) (a0_1 := x0.f1.f0) (a0_2 := x0.f1.f1) (a1_0 := x1.f0.f0) (a1_1 := x1.f0.f1) (a1_2 := x1.f1.f0) (a1_3 := x1.f1.f1) (a2_0 := x2.f0) (a2_1 := x2.f1) (a3 := x3) (a4 := x4) (A5 := a5) (c5 := cap5) (l5 := x5) (a6 := x6) (r := true) (w := W) (hr0_0 := hr0_0) (hc0_0 := hc0_0) (hr5 := hr5) (hc5 := hc5) (h := hf)).mono fun e W' ⟨he, hd⟩ => ?_
 have bel : Below W.heap.size W W' := by first | exact hd | (obtain ⟨m, rfl⟩ := hd; exact zbn (Below.refl _ _) m)
 subst he
 exact ⟨_, rfl, _, _, _, [], _, [], hW', trodAll_mk1 (shut_bool Try.underlying4 _), (trodAll_cons_mk (Below.trod laidOut (by kernel_rfl) (zod (by kernel_rfl)) k0 bel lt0) (trodAll_cons_mk (Below.trod laidOut (by kernel_rfl) (zod (by kernel_rfl)) k1 bel lt1) (trodAll_cons_mk (Below.trod laidOut (by kernel_rfl) (zod (by kernel_rfl)) k2 bel lt2) (trodAll_cons_mk (shut_int Try.underlying58 w3) (trodAll_cons_mk (shut_int Try.underlying48 w4) (trodAll_cons_mk (Below.trod laidOut (by kernel_rfl) (zod (by kernel_rfl)) k5 bel lt5) (trodAll_cons_mk (shut_int Try.underlying5 w6) trodAll_mk0))))))), rfl, bel.frame _, fun h => by cases h⟩
theorem over (hP : Pure) : Rows.soundFindsRow.holds Try.pinned (OpenSpec.ofChange Rows.soundFindsSpec) :=
 OpenClaim.holds_of_wide 5 Try.f5 rfl rfl rfl rfl rfl rfl rfl ⟨rfl, rfl, rfl, rfl, rfl⟩ rfl rfl rfl rfl rfl (by kernel_rfl) Try.func5 (by kernel_rfl)
  (zod (by kernel_rfl)) (by unfold Func.isWrapper; first | (rw [if_pos (by decide +kernel)]; kernel_rfl) | (rw [if_neg (by decide +kernel)]; exact ⟨rfl, rfl⟩))
  (fun os started H enc _ => lifted hP os started H enc)
theorem proved (hP : Pure) : Rows.SoundFindsSaid := over hP
end soundFinds
end Go.Proofs.Ytaheamdoldiojaa.P
namespace Go.Proofs.Ytaheamdoldiojaa.P
open Go.RowKit Go.Proofs.YtaheamdoldiojaaW.PrintWords Go.Proofs.YtaheamdoldiojaaW.PrintLast Go.Proofs.YtaheamdoldiojaaW.PrintMore
attribute [local go_sem] max2_int min2_int max_two min_two max_three min_three max_four min_four   -- for this text's walks alone
set_option linter.unusedVariables false
set_option linter.unusedSimpArgs false
theorem Bo.root_mono {m n : Int} (h0 : 0 ≤ m) (h : m ≤ n) : Rt.root m ≤ Rt.root n := by
 have hr := Bo.root_is (n := n) (by omega)
 exact Bo.root_le hr.1 (by omega) h0
theorem Bo.rootUp_mono {m n : Int} (h0 : 0 ≤ m) (h : m ≤ n) : Rt.rootUp m ≤ Rt.rootUp n := by
 have hr := Bo.rootUp_is (n := n) (by omega)
 exact (Bo.rootUp_le hr.1 (by omega) h0).2
end Go.Proofs.Ytaheamdoldiojaa.P
namespace Go.Proofs.Ytaheamdoldiojaa.P
open Go.RowKit Go.Proofs.YtaheamdoldiojaaW.PrintWords Go.Proofs.YtaheamdoldiojaaW.PrintLast Go.Proofs.YtaheamdoldiojaaW.PrintMore
set_option linter.unusedVariables false
set_option linter.unusedSimpArgs false
theorem Bo.in_sq {a0 a1 b0 b1 x y : Int} (x0 : a0 ≤ x) (x1 : x ≤ a1) (y0 : b0 ≤ y) (y1 : y ≤ b1) : Bo.near a0 a1 b0 b1 * Bo.near a0 a1 b0 b1 ≤ (y - x) * (y - x) ∧ (y - x) * (y - x) ≤ Bo.far a0 a1 b0 b1 * Bo.far a0 a1 b0 b1 := by
 have key : ∀ z : Int, 0 ≤ z → Bo.near a0 a1 b0 b1 ≤ z → z ≤ Bo.far a0 a1 b0 b1 → Bo.near a0 a1 b0 b1 * Bo.near a0 a1 b0 b1 ≤ z * z ∧ z * z ≤ Bo.far a0 a1 b0 b1 * Bo.far a0 a1 b0 b1 := fun z h0 h1 h2 =>
  ⟨Rt.sq_le (by unfold Bo.near; omega) h1, Rt.sq_le h0 h2⟩
 by_cases q : y ≤ x
 ·have := key (x - y) (by omega) (by unfold Bo.near; omega) (by unfold Bo.far; omega)
  rwa [show (x - y) * (x - y) = (y - x) * (y - x) by rw [← Int.neg_sub y x, Int.neg_mul_neg]] at this
 exact key (y - x) (by omega) (by unfold Bo.near; omega) (by unfold Bo.far; omega)
def Sp.has (b : S29) (x y : Int) : Prop := b.f0.f0 ≤ x ∧ x ≤ b.f0.f1 ∧ b.f1.f0 ≤ y ∧ y ≤ b.f1.f1
instance (b : S29) (x y : Int) : Decidable (Sp.has b x y) := by unfold Sp.has; infer_instance
theorem Bo.root_up {n : Int} (h : 0 ≤ n) : Rt.root n ≤ Rt.rootUp n := by
 have r1 := Bo.root_is h
 have r2 := Bo.rootUp_is h
 apply Decidable.byContradiction
 intro hn
 have := Bo.sq_lt r2.1 (show Rt.rootUp n < Rt.root n by omega)
 omega
theorem Sp.trav_has {lo hi v x y u z : Int} {b s : S29} (hb : Sp.vb b = true) (hs : Sp.vb s = true) (h1 : 1 ≤ lo) (v1 : lo ≤ v) (v2 : v ≤ hi) (p : Sp.has b x y) (q : Sp.has s u z) : 0 ≤ (u - x) * (u - x) + (z - y) * (z - y) ∧ (u - x) * (u - x) + (z - y) * (z - y) ≤ 576460752303423488 ∧ (Sp.trav lo hi b s).1 ≤ Bo.fl (1000 * Rt.root ((u - x) * (u - x) + (z - y) * (z - y))) v ∧ Bo.fl (1000 * Rt.root ((u - x) * (u - x) + (z - y) * (z - y))) v ≤ Bo.cl (1000 * Rt.rootUp ((u - x) * (u - x) + (z - y) * (z - y))) v ∧ Bo.cl (1000 * Rt.rootUp ((u - x) * (u - x) + (z - y) * (z - y))) v ≤ (Sp.trav lo hi b s).2 := by
 have s1 := Bo.in_sq p.1 p.2.1 q.1 q.2.1
 have s2 := Bo.in_sq p.2.2.1 p.2.2.2 q.2.2.1 q.2.2.2
 have w := Bo.square_w (zod hb) (zod hs)
 have D := Sp.dist hb hs
 unfold Sp.trav
 dsimp only
 have e1 : Bo.sqLo b.f0.f0 b.f0.f1 b.f1.f0 b.f1.f1 s.f0.f0 s.f0.f1 s.f1.f0 s.f1.f1 ≤ (u - x) * (u - x) + (z - y) * (z - y) := by
  unfold Bo.sqLo
  exact Int.add_le_add s1.1 s2.1
 have e2 : (u - x) * (u - x) + (z - y) * (z - y) ≤ Bo.sqHi b.f0.f0 b.f0.f1 b.f1.f0 b.f1.f1 s.f0.f0 s.f0.f1 s.f1.f0 s.f1.f1 := by
  unfold Bo.sqHi
  exact Int.add_le_add s1.2 s2.2
 generalize (u - x) * (u - x) + (z - y) * (z - y) = n at *
 have w1 := w.2.2.1
 have w2 := w.2.2.2.2
 have n0 : 0 ≤ n := Int.le_trans w1 e1
 have r1 := Bo.root_mono w1 e1
 have r2 := Bo.rootUp_mono n0 e2
 have r0 := Bo.root_is n0
 have r3 := Bo.root_up n0
 have d0 := D.lo0
 have d2 := D.hi0
 refine ⟨n0, Int.le_trans e2 w2, ?_, ?_, ?_⟩
 ·rw [Bo.fl_pos (show 0 < v by omega) (1000 * Rt.root n), Int.le_ediv_iff_mul_le (by omega)]
  have a := Bo.fl_le (show 0 < hi by omega) (1000 * Rt.root (Bo.sqLo b.f0.f0 b.f0.f1 b.f1.f0 b.f1.f1 s.f0.f0 s.f0.f1 s.f1.f0 s.f1.f1))
  have c : 0 ≤ Bo.fl (1000 * Rt.root (Bo.sqLo b.f0.f0 b.f0.f1 b.f1.f0 b.f1.f1 s.f0.f0 s.f0.f1 s.f1.f0 s.f1.f1)) hi := by
   rw [Bo.fl_pos (by omega)]
   exact Int.ediv_nonneg (by omega) (by omega)
  have := Int.mul_le_mul_of_nonneg_left v2 c
  omega
 ·have a1 := Bo.fl_le (show 0 < v by omega) (1000 * Rt.root n)
  have a2 := Bo.le_cl (show 0 < v by omega) (1000 * Rt.rootUp n)
  exact Int.le_of_mul_le_mul_right (a := v) (by omega) (by omega)
 have a1 := Bo.cl_lt (show 0 < v by omega) (1000 * Rt.rootUp n)
 have a2 := Bo.le_cl (show 0 < lo by omega) (1000 * Rt.rootUp (Bo.sqHi b.f0.f0 b.f0.f1 b.f1.f0 b.f1.f1 s.f0.f0 s.f0.f1 s.f1.f0 s.f1.f1))
 generalize Bo.cl (1000 * Rt.rootUp (Bo.sqHi b.f0.f0 b.f0.f1 b.f1.f0 b.f1.f1 s.f0.f0 s.f0.f1 s.f1.f0 s.f1.f1)) lo = c at *
 have c0 : 0 ≤ c := by
  apply Decidable.byContradiction
  intro hn
  have := Int.mul_le_mul_of_nonneg_right (show c ≤ -1 by omega) (show 0 ≤ lo by omega)
  omega
 have a3 := Int.mul_le_mul_of_nonneg_left v1 c0
 have a4 : (Bo.cl (1000 * Rt.rootUp n) v - 1) * v < c * v := by omega
 have := Int.lt_of_mul_lt_mul_right a4 (by omega)
 omega
def Sp.hit (lo hi x y t : Int) (s : S29) (a : S24) : Prop := Sp.inst a = true ∧ ∀ b, Sp.vb b = true → Sp.has b x y → (Sp.by1 lo hi b s a).1 ≤ t ∧ t ≤ (Sp.by1 lo hi b s a).2
theorem Sp.half_has {a b x : Int} (h1 : a ≤ x) (h2 : x ≤ b) : ∃ s ∈ Sp.half a b, s.f0 ≤ x ∧ x ≤ s.f1 := by
 unfold Sp.half
 split
 ·exact ⟨⟨a, b⟩, by simp, h1, h2⟩
 by_cases c : x ≤ (a + b) / 2
 ·exact ⟨⟨a, (a + b) / 2⟩, by simp, h1, c⟩
 exact ⟨⟨(a + b) / 2, b⟩, by simp, by dsimp only; omega, h2⟩
theorem Sp.parts_has {b : S29} {x y : Int} (h : Sp.has b x y) : ∃ p ∈ Sp.parts b, Sp.has p x y := by
 obtain ⟨s, hs, s1, s2⟩ := Sp.half_has h.1 h.2.1
 obtain ⟨r, hr, r1, r2⟩ := Sp.half_has h.2.2.1 h.2.2.2
 exact ⟨⟨s, r⟩, List.mem_flatMap.2 ⟨r, hr, List.mem_map.2 ⟨s, hs, rfl⟩⟩, s1, s2, r1, r2⟩
theorem Sp.reg_vb (st : List S29) (lo hi : Int) (at_ : List S24) : ∀ (d : Nat) (b : S29), Sp.vb b = true → ∀ p ∈ Sp.reg st lo hi at_ d b, Sp.vb p = true
 | 0, b, hb, p, hp => by
  rw [Sp.reg] at hp
  split at hp
  ·rw [List.mem_singleton] at hp
   subst hp
   exact hb
  cases hp
 | d + 1, b, hb, p, hp => by
  rw [Sp.reg] at hp
  split at hp
  ·obtain ⟨x, hx, hp⟩ := List.mem_flatMap.1 hp
   exact Sp.reg_vb st lo hi at_ d x (Sp.part_vb hb hx) p hp
  cases hp
theorem Sp.org_hit {st : List S29} {lo hi : Int} {at_ : List S24} (h : Sp.Acc st lo hi at_) {x y t : Int} (hh : ∀ i, (h1 : i < st.length) → (h2 : i < at_.length) → Sp.hit lo hi x y t st[i] at_[i]) {b : S29} (hb : Sp.vb b = true) (p : Sp.has b x y) : (Sp.org st lo hi at_ b).1 ≤ t ∧ t ≤ (Sp.org st lo hi at_ b).2 := by
 have n2 := h.n2
 have hl := h.len
 have key : ∀ i, i < st.length → (Sp.by_ st lo hi at_ b i).1 ≤ t ∧ t ≤ (Sp.by_ st lo hi at_ b i).2 := fun i hi' => by
  have hia : i < at_.length := by omega
  have e1 : st.getD i ⟨⟨0, 0⟩, ⟨0, 0⟩⟩ = st[i] := by simp [List.getD, hi']
  have e2 : at_.getD i ⟨0, 0⟩ = at_[i] := by simp [List.getD, hia]
  unfold Sp.by_
  rw [e1, e2]
  exact (hh i hi' hia).2 b hb p
 exact ⟨Sp.oLo_le _ _ _ (by omega) fun i hi' => (key i hi').1, Sp.le_oHi _ _ _ (by omega) fun i hi' => (key i hi').2⟩
theorem Sp.reg_has {st : List S29} {lo hi : Int} {at_ : List S24} {x y : Int} (h : ∀ b, Sp.vb b = true → Sp.has b x y → Sp.in_ st lo hi at_ b = true) : ∀ (d : Nat) (b : S29), Sp.vb b = true → Sp.has b x y → ∃ p ∈ Sp.reg st lo hi at_ d b, Sp.has p x y
 | 0, b, hb, p => by
  rw [Sp.reg, if_pos (h b hb p)]
  exact ⟨b, by simp, p⟩
 | d + 1, b, hb, p => by
  rw [Sp.reg, if_pos (h b hb p)]
  obtain ⟨q, hq, r⟩ := Sp.parts_has p
  obtain ⟨s, hs, r⟩ := Sp.reg_has h d q (Sp.part_vb hb hq) r
  exact ⟨s, List.mem_flatMap.2 ⟨q, hq, hs⟩, r⟩
theorem Sp.find_part {a0 a1 p : Int} (h : Bo.v a0 a1) (h0 : 0 ≤ p) (h1 : p ≤ 65535) : ∃ x, isobathlaw01_Part.f a0 a1 p = some x ∧ a0 ≤ x ∧ x ≤ a1 := by
 obtain ⟨g1, g2, g3⟩ := h
 unfold isobathlaw01_Part.f
 have m0 : 0 ≤ (a1 - a0) * p := Int.mul_nonneg (by omega) h0
 have m1 : (a1 - a0) * p ≤ (a1 - a0) * 65535 := Int.mul_le_mul_of_nonneg_left h1 (by omega)
 have w0 : wrap64 (a1 - a0) = a1 - a0 := wrap_id (by omega) (by omega)
 have w1 : wrap64 p = p := wrap_id (by omega) (by omega)
 have w2 : wrap64 ((a1 - a0) * p) = (a1 - a0) * p := wrap_id (by omega) (by omega)
 rw [w0, w1, w2, tdiv_pos m0]
 have d0 : 0 ≤ (a1 - a0) * p / 65535 := by omega
 have d1 : (a1 - a0) * p / 65535 ≤ a1 - a0 := by omega
 rw [wrap_id (n := (a1 - a0) * p / 65535) (by omega) (by omega), wrap_id (by omega) (by omega)]
 exact ⟨_, rfl, by omega, by omega⟩
theorem Sp.find_pick (ps : List Int) (hp : ∀ p ∈ ps, 0 ≤ p ∧ p ≤ 65535) {a : Int} (ha : 0 ≤ a) : ∃ p, isobathlaw07_pick.f ps a = some p ∧ 0 ≤ p ∧ p ≤ 65535 := by
 unfold isobathlaw07_pick.f
 by_cases h : a < (ps.length : Int)
 ·rw [if_pos h, if_pos ha]
  obtain ⟨j, rfl⟩ : ∃ j : Nat, a = (j : Int) := ⟨a.toNat, by omega⟩
  have hj : j < ps.length := by omega
  rw [rd_nat hj]
  exact ⟨_, rfl, hp _ (List.getElem_mem hj)⟩
 rw [if_neg h]
 exact ⟨0, rfl, by omega, by omega⟩
theorem Sp.truth_l0 {st : List S29} {lo hi : Int} (hn : Sp.nok st lo hi) {x y t v : Int} (area : S29) (ha : Sp.vb area = true) (hxy : Sp.has area x y) (t0 : 0 ≤ t) (t1 : t ≤ 4294967295) (v1 : lo ≤ v) (v2 : v ≤ hi) (ps : List Int) (hp : ∀ p ∈ ps, 0 ≤ p ∧ p ≤ 65535) : ∀ (n k i : Nat) (acc : List S24), i + n = st.length → n + 60 < k → acc.length = i → (∀ j, (h1 : j < st.length) → (h2 : j < acc.length) → Sp.hit lo hi x y t st[j] acc[j]) → ∃ out : List S24, isobathlaw07_truth.l0 k x y t v ps acc (i : Int) st lo hi = some out ∧ out.length = st.length ∧ ∀ j, (h1 : j < st.length) → (h2 : j < out.length) → Sp.hit lo hi x y t st[j] out[j]
 | 0, k, i, acc, hi', hk, hl, h => by
  obtain ⟨k, rfl⟩ : ∃ m, k = m + 1 := ⟨k - 1, by omega⟩
  rw [isobathlaw07_truth.l0, if_neg (by omega)]
  exact ⟨acc, rfl, by omega, h⟩
 | n + 1, k, i, acc, hi', hk, hl, h => by
  obtain ⟨k, rfl⟩ : ∃ m, k = m + 1 := ⟨k - 1, by omega⟩
  obtain ⟨g1, g2, g3, g4, g5, g6⟩ := id hn
  have hlt : i < st.length := by omega
  have hs := Sp.all_get g6 i hlt
  have vs := (zod hs : Bo.vb _ _ _ _)
  obtain ⟨p0, e0, -, -⟩ := Sp.find_pick ps hp (a := 4 * (i : Int)) (by omega)
  obtain ⟨p0, e0, p00, p01⟩ := Sp.find_pick ps hp (a := 4 * (i : Int)) (by omega)
  obtain ⟨p1, e1, p10, p11⟩ := Sp.find_pick ps hp (a := 4 * (i : Int) + 1) (by omega)
  obtain ⟨p2, e2, p20, p21⟩ := Sp.find_pick ps hp (a := 4 * (i : Int) + 2) (by omega)
  obtain ⟨p3, e3, p30, p31⟩ := Sp.find_pick ps hp (a := 4 * (i : Int) + 3) (by omega)
  obtain ⟨u, eu, u0, u1⟩ := Sp.find_part vs.1 p00 p01
  obtain ⟨z, ez, z0, z1⟩ := Sp.find_part vs.2.1 p10 p11
  have q : Sp.has st[i] u z := ⟨u0, u1, z0, z1⟩
  have B := Sp.vb_bd ha
  have S := Sp.vb_bd hs
  obtain ⟨x0, x1, y0, y1⟩ := id hxy
  have T := Sp.trav_has ha hs g4 v1 v2 hxy q
  have TB := Sp.trav_bd ha hs g4 (Int.le_trans v1 v2)
  have dx := Bo.in_sq x0 x1 u0 u1
  have dy := Bo.in_sq y0 y1 z0 z1
  have qx : 0 ≤ (u - x) * (u - x) := Int.le_trans (Int.mul_nonneg (Bo.near_range B.1 S.1 B.2.2.1 B.2.2.2.1 S.2.2.1 S.2.2.2.1).1 (Bo.near_range B.1 S.1 B.2.2.1 B.2.2.2.1 S.2.2.1 S.2.2.2.1).1) dx.1
  have qy : 0 ≤ (z - y) * (z - y) := Int.le_trans (Int.mul_nonneg (Bo.near_range B.2.1 S.2.1 B.2.2.2.2.1 B.2.2.2.2.2 S.2.2.2.2.1 S.2.2.2.2.2).1 (Bo.near_range B.2.1 S.2.1 B.2.2.2.2.1 B.2.2.2.2.2 S.2.2.2.2.1 S.2.2.2.2.2).1) dy.1
  have T1 := T.1
  have T2 := T.2.1
  have r1 := Bo.root_le (n := (u - x) * (u - x) + (z - y) * (z - y)) (M := 1073741824) (by omega) (by omega) T1
  have r0 := Bo.root_is T1
  have r2 := Bo.rootUp_le (n := (u - x) * (u - x) + (z - y) * (z - y)) (M := 1073741824) (by omega) (by omega) T1
  rw [isobathlaw07_truth.l0, if_pos (by omega), if_pos (by omega), Sp.rdB st i hlt, wrap_id (n := 4 * (i : Int)) (by omega) (by omega), wrap_id (n := 4 * (i : Int) + 1) (by omega) (by omega), wrap_id (n := 4 * (i : Int) + 2) (by omega) (by omega), wrap_id (n := 4 * (i : Int) + 3) (by omega) (by omega), e0, Option.bind_some, eu, Option.bind_some, e1, Option.bind_some, ez, Option.bind_some, wrap_id (n := u - x) (by omega) (by omega), wrap_id (n := z - y) (by omega) (by omega), wrap_id (n := (u - x) * (u - x)) (by omega) (by omega), wrap_id (n := (z - y) * (z - y)) (by omega) (by omega), wrap_id (n := (u - x) * (u - x) + (z - y) * (z - y)) (by omega) (by omega)]
  rw [Bo.sqrt_f T1 (by omega) (by omega), Option.bind_some, wrap_id (n := 1000 * Rt.root _) (by omega) (by omega), Bo.down_f (by omega) (by omega) (by omega) (by omega) (by omega) (by omega), Option.bind_some, Bo.sqrtUp_f T1 (by omega) (by omega), Option.bind_some, wrap_id (n := 1000 * Rt.rootUp _) (by omega) (by omega), Bo.up_f (by omega) (by omega) (by omega) (by omega) (by omega) (by omega), Option.bind_some, e2, Option.bind_some, e3, Option.bind_some, if_pos (by omega), wrap_succ hlt (by omega), Int.tmod_eq_emod_of_nonneg p20, Int.tmod_eq_emod_of_nonneg p30]
  rw [wrap_id (n := p2 % 100) (by omega) (by omega), wrap_id (n := p3 % 100) (by omega) (by omega), wrap_id (n := t + Bo.fl _ v) (by omega) (by omega), wrap_id (n := t + Bo.cl _ v) (by omega) (by omega), wrap_id (by omega) (by omega), wrap_id (by omega) (by omega)]
  refine Sp.truth_l0 hn area ha hxy t0 t1 v1 v2 ps hp n k (i + 1) _ (by omega) (by omega) (by simp; omega) fun j h1 h2 => ?_
  by_cases c : j < acc.length
  ·rw [List.getElem_append_left c]
   exact h j h1 c
  have ej : j = i := by simp at h2; omega
  subst ej
  rw [List.getElem_append_right (by omega)]
  simp only [hl, Nat.sub_self, List.getElem_cons_zero]
  refine ⟨zdt ⟨by dsimp only; omega, by dsimp only; omega, by dsimp only; omega⟩, fun b hb hh => ?_⟩
  have T' := Sp.trav_has hb hs g4 v1 v2 hh q
  unfold Sp.by1
  dsimp only
  omega
theorem Sp.find_l0 {st : List S29} {lo hi : Int} {at_ : List S24} (h : Sp.Acc st lo hi at_) {x y t : Int} (l : List S29) (hl : l.length ≤ 1024) (hv : ∀ p ∈ l, Sp.vb p = true) (ho : ∀ b, Sp.vb b = true → Sp.has b x y → (Sp.org st lo hi at_ b).1 ≤ t ∧ t ≤ (Sp.org st lo hi at_ b).2) (he : ∃ p ∈ l, Sp.has p x y) : ∀ (n k i : Nat), i + n = l.length → n + 500 < k → (∀ j, j < i → (h : j < l.length) → ¬ Sp.has l[j] x y) → isobathlaw07_SoundFinds.l0 k x y t at_ l (i : Int) st lo hi = some true
 | 0, k, i, hi', hk, hn => by
  obtain ⟨p, hp, q⟩ := he
  obtain ⟨j, hj, rfl⟩ := List.getElem_of_mem hp
  exact absurd q (hn j (by omega) hj)
 | n + 1, k, i, hi', hk, hn => by
  obtain ⟨k, rfl⟩ : ∃ m, k = m + 1 := ⟨k - 1, by omega⟩
  have hlt : i < l.length := by omega
  have hi2 : isobathlaw07_inside.f l[i].f0.f0 l[i].f0.f1 l[i].f1.f0 l[i].f1.f1 x y = some (decide (Sp.has l[i] x y)) := by
   unfold isobathlaw07_inside.f Sp.has
   by_cases h1 : l[i].f0.f0 ≤ x
   ·rw [if_pos h1]
    by_cases h2 : x ≤ l[i].f0.f1
    ·rw [if_pos h2]
     by_cases h3 : l[i].f1.f0 ≤ y
     ·rw [if_pos h3]
      simp [h1, h2, h3]
     rw [if_neg h3]
     simp [h3]
    rw [if_neg h2]
    simp [h2]
   rw [if_neg h1]
   simp [h1]
  rw [isobathlaw07_SoundFinds.l0, if_pos (by omega), if_pos (by omega), Sp.rdB l i hlt, hi2, Option.bind_some]
  by_cases c : Sp.has l[i] x y
  ·have hb := hv _ (List.getElem_mem hlt)
   have g := ho _ hb c
   have eo : Sp.origin st lo hi at_ l[i] = ((Sp.org st lo hi at_ l[i]).1, (Sp.org st lo hi at_ l[i]).2, 0) := by
    unfold Sp.origin
    rw [if_pos (Sp.heard_of h hb), if_pos (Int.le_trans g.1 g.2)]
   rw [if_pos (zdt c), Sp.origin_b _ _ _ _ _ (by omega), eo, Option.bind_some]
   dsimp only
   rw [if_pos rfl, if_pos g.1, if_pos g.2, Sp.works (by omega)]
   rfl
  rw [if_neg (by simpa using c), wrap_succ hlt (by omega)]
  refine Sp.find_l0 h l hl hv ho he n k (i + 1) (by omega) (by omega) fun j h1 h2 => ?_
  by_cases e : j = i
  ·subst e
   exact c
  exact hn j (by omega) h2
theorem Sp.finds (st : List S29) (lo hi : Int) (b : S29) (b0 b1 : Int) (t v : Int) (ps : List Int) (x : Int) (h0 : 0 ≤ b0 ∧ b0 ≤ 65535) (h1 : 0 ≤ b1 ∧ b1 ≤ 65535) (ht : 0 ≤ t ∧ t ≤ 4294967295) (hv : 0 ≤ v ∧ v ≤ 65535) (hp : ∀ p ∈ ps, 0 ≤ p ∧ p ≤ 65535) (hx : 0 ≤ x ∧ x ≤ 255) : ∃ k, isobathlaw07_SoundFinds.f k st lo hi b.f0.f0 b.f0.f1 b.f1.f0 b.f1.f1 b0 b1 t v ps x = some true := by
 obtain ⟨k, hk⟩ : ∃ k : Nat, 4000 ≤ k := ⟨4000, Nat.le.refl⟩
 refine ⟨k + 1, ?_⟩
 have hW : isobathlaw07_SoundFinds.j0 (k + 1) t v ps x true st lo hi b.f0.f0 b.f0.f1 b.f1.f0 b.f1.f1 b0 b1 = some true := by
  rw [isobathlaw07_SoundFinds.j0, if_pos rfl, Sp.works (by omega)]
  rfl
 unfold isobathlaw07_SoundFinds.f
 rw [Sp.net_r _ _ _ (by omega), Option.bind_some]
 by_cases hn0 : Sp.net st lo hi = 0
 case neg => rw [if_neg hn0, hW]
 rw [if_pos hn0, Bo.vb_r, Option.bind_some]
 by_cases hb : Sp.vb b = true
 case neg =>
  rw [show decide (Bo.vb b.f0.f0 b.f0.f1 b.f1.f0 b.f1.f1) = Sp.vb b from rfl, show Sp.vb b = false by simpa using hb]
  exact hW
 rw [show decide (Bo.vb b.f0.f0 b.f0.f1 b.f1.f0 b.f1.f1) = Sp.vb b from rfl, hb, isobathlaw07_SoundFinds.j0, if_neg (by decide)]
 have hn := Sp.net_ok hn0
 obtain ⟨g1, g2, g3, g4, g5, g6⟩ := id hn
 have vbb := (zod hb : Bo.vb _ _ _ _)
 obtain ⟨px, ex, x0, x1⟩ := Sp.find_part vbb.1 h0.1 h0.2
 obtain ⟨py, ey, y0, y1⟩ := Sp.find_part vbb.2.1 h1.1 h1.2
 obtain ⟨sp, es, s0, s1⟩ := Sp.find_part g3 hv.1 hv.2
 have hxy : Sp.has b px py := ⟨x0, x1, y0, y1⟩
 obtain ⟨d, hd, hd5⟩ : ∃ d : Nat, Int.tmod (wrap64 x) 6 = (d : Int) ∧ d ≤ 5 := by
  rw [wrap_id (n := x) (by omega) (by omega), Int.tmod_eq_emod_of_nonneg hx.1]
  exact ⟨(x % 6).toNat, by omega, by omega⟩
 obtain ⟨out, eo, ol, oh⟩ := Sp.truth_l0 hn b hb hxy ht.1 ht.2 s0 s1 ps hp st.length k 0 [] (by omega) (by omega) rfl (fun j h1 h2 => absurd h2 (by simp))
 have et : isobathlaw07_truth.f k st lo hi px py t sp ps = some out := eo
 have A : Sp.Acc st lo hi out := ⟨g1, g2, g4, g3.1, g5, g6, ol, List.all_eq_true.2 fun a ha => by
  obtain ⟨j, hj, rfl⟩ := List.getElem_of_mem ha
  exact (oh j (by omega) hj).1⟩
 have ho : ∀ b, Sp.vb b = true → Sp.has b px py → (Sp.org st lo hi out b).1 ≤ t ∧ t ≤ (Sp.org st lo hi out b).2 := fun b hb h => Sp.org_hit A oh hb h
 have hin : ∀ b, Sp.vb b = true → Sp.has b px py → Sp.in_ st lo hi out b = true := fun b hb h => zdt (Int.le_trans (ho b hb h).1 (ho b hb h).2)
 have er : Sp.region st lo hi out b (d : Int) = (Sp.reg st lo hi out d b, 0) := by
  unfold Sp.region
  rw [if_pos (Sp.heard_of A hb), if_pos (by omega), Int.toNat_natCast]
 have hl : (Sp.reg st lo hi out d b).length ≤ 1024 := Nat.le_trans (Sp.reg_len st lo hi out d b) (Nat.le_trans (Nat.pow_le_pow_right (by omega) hd5) (by decide))
 rw [ex, Option.bind_some, ey, Option.bind_some, es, Option.bind_some, wrap_id (n := t) (by omega) (by omega), et, Option.bind_some, hd, Sp.region_b _ _ _ _ _ _ (by omega), er, Option.bind_some, if_pos rfl]
 exact Sp.find_l0 A _ hl (Sp.reg_vb st lo hi out d b hb) ho (Sp.reg_has hin d b hb hxy) (Sp.reg st lo hi out d b).length k 0 (by omega) (by omega) (fun j h => absurd h (by omega))
theorem soundFinds_holds : Rows.SoundFindsSaid := soundFinds.proved fun n b p t v ps x _ _ h1 ht hv hp hx => Sp.finds n.f0 n.f1.f0 n.f1.f1 b p.f0 p.f1 t v ps x (Sp.u16 h1.1) (Sp.u16 h1.2) (Sp.u32 ht) (Sp.u16 hv) (fun q hq => Sp.u16 (hp.2 q hq)) (Sp.u8 hx)
#print axioms soundFinds_holds
end Go.Proofs.Ytaheamdoldiojaa.P
