/- each box of a region lies in one of the region with a lesser depth; with narrower arrivals, and with another station, no box is in the region that was not in it. Part 6 of 7. -/
-- Put together by wip/tools/shake.py, a program of this work: out of the words that the kit's print tool (print.sh) writes for a claim and what wip/tools/xprint.py prints, those that this claim reaches, and this work's own texts.
import Derived.Test.YtaheamdoldiojaaKSoundNearer4
namespace Go.Proofs.Ytaheamdoldiojaa.P
open Go.RowKit Go.Proofs.YtaheamdoldiojaaW.PrintWords Go.Proofs.YtaheamdoldiojaaW.PrintLast Go.Proofs.YtaheamdoldiojaaW.PrintMore
attribute [local go_sem] max2_int min2_int max_two min_two max_three min_three max_four min_four   -- for this text's walks alone
set_option linter.unusedVariables false
set_option linter.unusedSimpArgs false
mutual
def isobathlaw07_SoundNearer.j0 : Nat → List (S24) → Int → Int → Bool → List (S29) → Int → Int → Int → Int → Int → Int → Int → Int → Int → Int → Int → Int → Option (Bool)
 | 0, _, _, _, _, _, _, _, _, _, _, _, _, _, _, _, _, _ => none
 | k + 1, x1, x3, x4, x36, x102000, x102001, x102002, x103000, x103001, x103002, x103003, x104000, x104001, x104002, x104003, x105000, x105001 => if x36 = true then ((isobathlaw07_Works.f k).bind fun t106 => (some t106)) else ((sound_Region.f k x102000 x102001 x102002 x1 x103000 x103001 x103002 x103003 (wrap64 ((Int.tmod (wrap64 (x3)) 4) + 1))).bind fun bt107 => ((sound_Region.f k x102000 x102001 x102002 x1 x103000 x103001 x103002 x103003 (wrap64 ((wrap64 ((Int.tmod (wrap64 (x3)) 4) + 1)) - 1))).bind fun bt111 => (if bt107.2 = bt111.2 then (if bt107.2 = 0 then (isobathlaw07_SoundNearer.l0 k x1 x4 (wrap64 ((Int.tmod (wrap64 (x3)) 4) + 1)) bt107.1 bt111.1 0 x102000 x102001 x102002 x103000 x103001 x103002 x103003 x104000 x104001 x104002 x104003 x105000 x105001) else ((isobathlaw07_Works.f k).bind fun t115 => (some t115))) else (none))))
def isobathlaw07_SoundNearer.l0 : Nat → List (S24) → Int → Int → List (S29) → List (S29) → Int → List (S29) → Int → Int → Int → Int → Int → Int → Int → Int → Int → Int → Int → Int → Option (Bool)
 | 0, _, _, _, _, _, _, _, _, _, _, _, _, _, _, _, _, _, _, _ => none
 | k + 1, x1, x4, x15, x16, x18, x20, x102000, x102001, x102002, x103000, x103001, x103002, x103003, x104000, x104001, x104002, x104003, x105000, x105001 => if x20 < (x16.length : Int) then (if 0 ≤ x20 then ((isobathlaw07_within.f k ((rd_T29 x16 x20).f0.f0) ((rd_T29 x16 x20).f0.f1) ((rd_T29 x16 x20).f1.f0) ((rd_T29 x16 x20).f1.f1) x18).bind fun t117 => (if t117 = true then (isobathlaw07_SoundNearer.l0 k x1 x4 x15 x16 x18 (wrap64 (x20 + 1)) x102000 x102001 x102002 x103000 x103001 x103002 x103003 x104000 x104001 x104002 x104003 x105000 x105001) else (none))) else (none)) else (isobathlaw07_SoundNearer.l1 k x1 x4 x15 x16 ([] : List (S24)) 0 x102000 x102001 x102002 x103000 x103001 x103002 x103003 x104000 x104001 x104002 x104003 x105000 x105001)
def isobathlaw07_SoundNearer.l1 : Nat → List (S24) → Int → Int → List (S29) → List (S24) → Int → List (S29) → Int → Int → Int → Int → Int → Int → Int → Int → Int → Int → Int → Int → Option (Bool)
 | 0, _, _, _, _, _, _, _, _, _, _, _, _, _, _, _, _, _, _, _ => none
 | k + 1, x1, x4, x15, x16, x21, x22, x102000, x102001, x102002, x103000, x103001, x103002, x103003, x104000, x104001, x104002, x104003, x105000, x105001 => if x22 < (x1.length : Int) then (if 0 ≤ x22 then ((some (([(⟨wrap64 (((rd_T24 x1 x22).f0) + (mn (wrap64 (x4)) (wrap64 (Int.tdiv (wrap64 (((rd_T24 x1 x22).f1) - ((rd_T24 x1 x22).f0))) 2)))), wrap64 (((rd_T24 x1 x22).f1) - (mn (wrap64 (x4)) (wrap64 (Int.tdiv (wrap64 (((rd_T24 x1 x22).f1) - ((rd_T24 x1 x22).f0))) 2))))⟩ : S24)] : List (S24)) : List (S24))).bind fun y122 => (if x21.length + y122.length < 8796093022208 then (isobathlaw07_SoundNearer.l1 k x1 x4 x15 x16 (x21 ++ y122) (wrap64 (x22 + 1)) x102000 x102001 x102002 x103000 x103001 x103002 x103003 x104000 x104001 x104002 x104003 x105000 x105001) else (none))) else (none)) else ((sound_Region.f k x102000 x102001 x102002 x21 x103000 x103001 x103002 x103003 x15).bind fun bt128 => (if bt128.2 = 0 then (isobathlaw07_SoundNearer.l2 k x1 x15 x16 bt128.1 0 x102000 x102001 x102002 x103000 x103001 x103002 x103003 x104000 x104001 x104002 x104003 x105000 x105001) else (none)))
def isobathlaw07_SoundNearer.l2 : Nat → List (S24) → Int → List (S29) → List (S29) → Int → List (S29) → Int → Int → Int → Int → Int → Int → Int → Int → Int → Int → Int → Int → Option (Bool)
 | 0, _, _, _, _, _, _, _, _, _, _, _, _, _, _, _, _, _, _ => none
 | k + 1, x1, x15, x16, x24, x25, x102000, x102001, x102002, x103000, x103001, x103002, x103003, x104000, x104001, x104002, x104003, x105000, x105001 => if x25 < (x24.length : Int) then (if 0 ≤ x25 then ((isobathlaw07_within.f k ((rd_T29 x24 x25).f0.f0) ((rd_T29 x24 x25).f0.f1) ((rd_T29 x24 x25).f1.f0) ((rd_T29 x24 x25).f1.f1) x16).bind fun t133 => (if t133 = true then (isobathlaw07_SoundNearer.l2 k x1 x15 x16 x24 (wrap64 (x25 + 1)) x102000 x102001 x102002 x103000 x103001 x103002 x103003 x104000 x104001 x104002 x104003 x105000 x105001) else (none))) else (none)) else ((some (([] : List (S29)) : List (S29))).bind fun y135 => (if y135.length + x102000.length < 4398046511104 then ((some (y135 ++ x102000 : List (S29))).bind fun y138 => ((some (([(⟨(⟨x104000, x104001⟩ : S24), (⟨x104002, x104003⟩ : S24)⟩ : S29)] : List (S29)) : List (S29))).bind fun y141 => (if y138.length + y141.length < 4398046511104 then ((some (([] : List (S24)) : List (S24))).bind fun y147 => (if y147.length + x1.length < 8796093022208 then ((some (y147 ++ x1 : List (S24))).bind fun y150 => ((some (([(⟨x105000, x105001⟩ : S24)] : List (S24)) : List (S24))).bind fun y153 => (if y150.length + y153.length < 8796093022208 then ((sound_Region.f k (y138 ++ y141) x102001 x102002 (y150 ++ y153) x103000 x103001 x103002 x103003 x15).bind fun bt159 => (isobathlaw07_SoundNearer.l3 k x16 bt159.2 bt159.1 0)) else (none)))) else (none))) else (none)))) else (none)))
def isobathlaw07_SoundNearer.l3 : Nat → List (S29) → Int → List (S29) → Int → Option (Bool)
 | 0, _, _, _, _ => none
 | k + 1, x16, x17, x24, x27 => if x27 < (x24.length : Int) then (isobathlaw07_SoundNearer.j5 k x16 x17 x24 x27 (x17 == 0)) else (isobathlaw07_SoundNearer.j5 k x16 x17 x24 x27 false)
def isobathlaw07_SoundNearer.j5 : Nat → List (S29) → Int → List (S29) → Int → Bool → Option (Bool)
 | 0, _, _, _, _, _ => none
 | k + 1, x16, x17, x24, x27, x169 => if x169 = true then (if 0 ≤ x27 then (if x27 < (x24.length : Int) then ((isobathlaw07_within.f k ((rd_T29 x24 x27).f0.f0) ((rd_T29 x24 x27).f0.f1) ((rd_T29 x24 x27).f1.f0) ((rd_T29 x24 x27).f1.f1) x16).bind fun t164 => (if t164 = true then (isobathlaw07_SoundNearer.l3 k x16 x17 x24 (wrap64 (x27 + 1))) else (none))) else (none)) else (none)) else ((isobathlaw07_Works.f k).bind fun t165 => (some t165))
end
def isobathlaw07_SoundNearer.f (k : Nat) (l0_0 : List (S29)) (a0_1 : Int) (a0_2 : Int) (l1 : List (S24)) (a2_0 : Int) (a2_1 : Int) (a2_2 : Int) (a2_3 : Int) (a3 : Int) (a4 : Int) (a5_0 : Int) (a5_1 : Int) (a5_2 : Int) (a5_3 : Int) (a6_0 : Int) (a6_1 : Int) : Option (Bool) := (isobathlaw07_great.f l0_0 a0_1 a0_2 l1).bind fun t105 => (if t105 = true then (isobathlaw07_SoundNearer.j0 k l1 a3 a4 true l0_0 a0_1 a0_2 a2_0 a2_1 a2_2 a2_3 a5_0 a5_1 a5_2 a5_3 a6_0 a6_1) else (isobathlaw07_SoundNearer.j0 k l1 a3 a4 (decide ((l0_0.length : Int) > 7)) l0_0 a0_1 a0_2 a2_0 a2_1 a2_2 a2_3 a5_0 a5_1 a5_2 a5_3 a6_0 a6_1))
def isobathlaw07_SoundNearer.T19 : Bool × List (List Nat × List Nat) := (true, [([], []), ([0], [0]), ([], []), ([], []), ([2, 3], [2, 3]), ([4], [4]), ([5], [5]), ([], []), ([], []), ([7, 8], [7, 8]), ([9], [9]), ([10], [10]), ([6, 11], [6, 11]), ([12], [12]), ([1, 13], [1, 13]), ([14, 0, 1, 2, 3, 4, 5, 6, 7, 8, 9, 10, 11, 12, 13, 14], [14])])
def isobathlaw07_SoundNearer.B19 : List Nat := [0, 1, 0, 0, 12, 28, 60, 0, 0, 384, 896, 1920, 4092, 8188, 16383, 32767]
theorem isobathlaw07_SoundNearer.tab19 : rtab .any (opsOf Try.f3 19) = isobathlaw07_SoundNearer.T19 := by kernel_rfl
theorem isobathlaw07_SoundNearer.bits19 : waitsOk isobathlaw07_SoundNearer.T19.2 isobathlaw07_SoundNearer.B19 = true := by kernel_rfl
def isobathlaw07_SoundNearer.T20 : Bool × List (List Nat × List Nat) := (true, [([], []), ([], []), ([], []), ([1, 2], [1, 2]), ([3], [3]), ([4], [4]), ([], []), ([5, 6], [5, 6]), ([], []), ([], []), ([8, 9], [8, 9]), ([10], [10]), ([11], [11]), ([], []), ([12, 13], [12, 13]), ([7, 14], [7, 14]), ([15], [15]), ([0, 16], [0, 16]), ([17, 17, 0, 1, 2, 3, 4, 5, 6, 7, 8, 9, 10, 11, 12, 13, 14, 15, 16, 17], [0, 17])])
def isobathlaw07_SoundNearer.B20 : List Nat := [0, 0, 0, 6, 14, 30, 0, 126, 0, 0, 768, 1792, 3840, 0, 16128, 32766, 65534, 131071, 262143]
theorem isobathlaw07_SoundNearer.tab20 : rtab .any (opsOf Try.f3 20) = isobathlaw07_SoundNearer.T20 := by kernel_rfl
theorem isobathlaw07_SoundNearer.bits20 : waitsOk isobathlaw07_SoundNearer.T20.2 isobathlaw07_SoundNearer.B20 = true := by kernel_rfl
def isobathlaw07_SoundNearer.T30 : Bool × List (List Nat × List Nat) := (true, [([], []), ([], []), ([1], [1]), ([0, 2], [0, 2]), ([], []), ([4], [4]), ([3, 5, 3], [3, 5]), ([0, 1, 2, 3, 4, 5, 6], []), ([7, 6, 6, 0, 1, 2, 3, 4, 5, 6], [6, 7])])
def isobathlaw07_SoundNearer.B30 : List Nat := [0, 0, 2, 7, 0, 16, 63, 127, 255]
theorem isobathlaw07_SoundNearer.tab30 : rtab .any (opsOf Try.f3 30) = isobathlaw07_SoundNearer.T30 := by kernel_rfl
theorem isobathlaw07_SoundNearer.bits30 : waitsOk isobathlaw07_SoundNearer.T30.2 isobathlaw07_SoundNearer.B30 = true := by kernel_rfl
def isobathlaw07_SoundNearer.T31 : Bool × List (List Nat × List Nat) := (true, [([], []), ([], []), ([], []), ([1, 2], [1, 2]), ([], []), ([4], [4]), ([3, 5, 3], [3, 5]), ([], []), ([], []), ([0, 6, 7, 8, 6], [0, 6, 7, 8]), ([9], [9]), ([10], [10]), ([10], [10]), ([11, 9, 0, 1, 2, 3, 4, 5, 6, 7, 8, 9, 10, 11], [11]), ([12, 13, 0, 1, 2, 3, 4, 5, 6, 7, 8, 9, 10, 11, 12, 13], [12])])
def isobathlaw07_SoundNearer.B31 : List Nat := [0, 0, 0, 6, 0, 16, 62, 0, 0, 511, 1023, 2047, 2047, 4095, 16383]
theorem isobathlaw07_SoundNearer.tab31 : rtab .any (opsOf Try.f3 31) = isobathlaw07_SoundNearer.T31 := by kernel_rfl
theorem isobathlaw07_SoundNearer.bits31 : waitsOk isobathlaw07_SoundNearer.T31.2 isobathlaw07_SoundNearer.B31 = true := by kernel_rfl
set_option maxHeartbeats 8000000 in
set_option maxRecDepth 100000 in
theorem isobathlaw07_SoundNearer.calls (k : Nat) (A0_0 : Option Addr) (c0_0 : Nat) (l0_0 : List (S29)) (a0_1 : Int) (a0_2 : Int) (A1 : Option Addr) (c1 : Nat) (l1 : List (S24)) (a2_0 : Int) (a2_1 : Int) (a2_2 : Int) (a2_3 : Int) (a3 : Int) (a4 : Int) (a5_0 : Int) (a5_1 : Int) (a5_2 : Int) (a5_3 : Int) (a6_0 : Int) (a6_1 : Int) (r : Bool) (w : World) (hr0_0 : Kd.C k29 w A0_0 l0_0.length l0_0) (hc0_0 : l0_0.length ≤ c0_0) (hr1 : Kd.C k24 w A1 l1.length l1) (hc1 : l1.length ≤ c1) (h : isobathlaw07_SoundNearer.f k l0_0 a0_1 a0_2 l1 a2_0 a2_1 a2_2 a2_3 a3 a4 a5_0 a5_1 a5_2 a5_3 a6_0 a6_1 = some r) :
  Calls Try.prog 3 #[.agg #[.slice A0_0 l0_0.length c0_0, .int .i64 a0_1, .int .i64 a0_2], .slice A1 l1.length c1, .agg #[.int .i64 a2_0, .int .i64 a2_1, .int .i64 a2_2, .int .i64 a2_3], .int .u8 a3, .int .u8 a4, .agg #[.int .i64 a5_0, .int .i64 a5_1, .int .i64 a5_2, .int .i64 a5_3], .agg #[.int .i64 a6_0, .int .i64 a6_1]] w fun e w' => e = .returned (.bool r) ∧ Below w.heap.size w w' := by
 have hu26 := Try.underlying26
 have hu29 := Try.underlying29
 have hu24 := Try.underlying24
 have HR0_0 := zam hr0_0
 have HC0_0 := zam hc0_0
 clear hr0_0 hc0_0
 have HR1 := zam hr1
 have HC1 := zam hc1
 clear hr1 hc1
 have HB := zam (Below.refl w.heap.size w)
 have H : ((isobathlaw07_great.f l0_0 a0_1 a0_2 l1).bind fun t105 => (if t105 = true then (isobathlaw07_SoundNearer.j0 k l1 a3 a4 true l0_0 a0_1 a0_2 a2_0 a2_1 a2_2 a2_3 a5_0 a5_1 a5_2 a5_3 a6_0 a6_1) else (isobathlaw07_SoundNearer.j0 k l1 a3 a4 (decide ((l0_0.length : Int) > 7)) l0_0 a0_1 a0_2 a2_0 a2_1 a2_2 a2_3 a5_0 a5_1 a5_2 a5_3 a6_0 a6_1))) = some r := h
 clear h
 have HC8 := zam H
 clear H
 go_enter Try.func3, Try.ntmps3
 go_upto_region 1 with (first | ((with_reducible refine zgd (N := 7) rfl ?_); (try (refine gate_guard (by rfl) ?_; dsimp only)); refine box_event ?hg (N := 7) ?hd (cs := #[.slice A0_0 l0_0.length c0_0, .int .i64 a0_1, .int .i64 a0_2]) (t := 26) ?hr ?_; (case hd => rfl); (case hg => rfl); (case hr => first | (go_simp; done) | (go_simp; rfl)); intro gb101 hg w9 hbox hb; have n0_ := zam (zbt zq1 hb); have n1_ := zam (hbox); have n2_ := zam ((by rw [hg]; exact (zbz zq1) : w.heap.size ≤ gb101)); have n3_ := zam ((by rw [hg]; exact (zbz zq1) : w.heap.size ≤ gb101)); clear HB; have HB := n0_; have BK101 := n1_; have GW101 := n2_; have GE101 := n3_; clear n0_ n1_ n2_ n3_; clear hb hbox hg) | ((with_reducible refine zgd (N := 9) rfl ?_); (try (refine gate_guard (by rfl) ?_; dsimp only)); refine box_event ?hg (N := 9) ?hd (cs := #[.int .i64 a2_0, .int .i64 a2_1, .int .i64 a2_2, .int .i64 a2_3]) (t := 29) ?hr ?_; (case hd => rfl); (case hg => rfl); (case hr => first | (go_simp; done) | (go_simp; rfl)); intro gb102 hg w10 hbox hb; have n0_ := zam (zkb (g := gb101) (o := .cells #[.slice A0_0 l0_0.length c0_0, .int .i64 a0_1, .int .i64 a0_2] 26 (0, 0)) zq0 hb); have n1_ := zam (zbt zq2 hb); have n2_ := zam (hbox); have n3_ := zam ((by rw [hg]; exact (zbz zq2) : w.heap.size ≤ gb102)); have n4_ := zam ((by rw [hg]; exact (zbz zq2) : w.heap.size ≤ gb102)); have n5_ := zam ((by rw [hg]; exact Nat.ne_of_lt (blk_lt (g := gb101) (o := .cells #[.slice A0_0 l0_0.length c0_0, .int .i64 a0_1, .int .i64 a0_2] 26 (0, 0)) zq0) : gb101 ≠ gb102)); have n6_ := zam ((by rw [hg]; exact Nat.ne_of_gt (blk_lt (g := gb101) (o := .cells #[.slice A0_0 l0_0.length c0_0, .int .i64 a0_1, .int .i64 a0_2] 26 (0, 0)) zq0) : gb102 ≠ gb101)); clear BK101; clear HB; have BK101 := n0_; have HB := n1_; have BK102 := n2_; have GW102 := n3_; have GE102 := n4_; have NB101_102 := n5_; have NB102_101 := n6_; clear n0_ n1_ n2_ n3_ n4_ n5_ n6_; clear hb hbox hg) | ((with_reducible refine zgd (N := 12) rfl ?_); (try (refine gate_guard (by rfl) ?_; dsimp only)); refine box_event ?hg (N := 12) ?hd (cs := #[.int .i64 a5_0, .int .i64 a5_1, .int .i64 a5_2, .int .i64 a5_3]) (t := 29) ?hr ?_; (case hd => rfl); (case hg => rfl); (case hr => first | (go_simp; done) | (go_simp; rfl)); intro gb103 hg w11 hbox hb; have n0_ := zam (zkb (g := gb101) (o := .cells #[.slice A0_0 l0_0.length c0_0, .int .i64 a0_1, .int .i64 a0_2] 26 (0, 0)) zq0 hb); have n1_ := zam (zkb (g := gb102) (o := .cells #[.int .i64 a2_0, .int .i64 a2_1, .int .i64 a2_2, .int .i64 a2_3] 29 (0, 0)) zq4 hb); have n2_ := zam (zbt zq11 hb); have n3_ := zam (hbox); have n4_ := zam ((by rw [hg]; exact (zbz zq11) : w.heap.size ≤ gb103)); have n5_ := zam ((by rw [hg]; exact (zbz zq11) : w.heap.size ≤ gb103)); have n6_ := zam ((by rw [hg]; exact Nat.ne_of_lt (blk_lt (g := gb101) (o := .cells #[.slice A0_0 l0_0.length c0_0, .int .i64 a0_1, .int .i64 a0_2] 26 (0, 0)) zq0) : gb101 ≠ gb103)); have n7_ := zam ((by rw [hg]; exact Nat.ne_of_gt (blk_lt (g := gb101) (o := .cells #[.slice A0_0 l0_0.length c0_0, .int .i64 a0_1, .int .i64 a0_2] 26 (0, 0)) zq0) : gb103 ≠ gb101)); have n8_ := zam ((by rw [hg]; exact Nat.ne_of_lt (blk_lt (g := gb102) (o := .cells #[.int .i64 a2_0, .int .i64 a2_1, .int .i64 a2_2, .int .i64 a2_3] 29 (0, 0)) zq4) : gb102 ≠ gb103)); have n9_ := zam ((by rw [hg]; exact Nat.ne_of_gt (blk_lt (g := gb102) (o := .cells #[.int .i64 a2_0, .int .i64 a2_1, .int .i64 a2_2, .int .i64 a2_3] 29 (0, 0)) zq4) : gb103 ≠ gb102)); clear BK101; clear BK102; clear HB; have BK101 := n0_; have BK102 := n1_; have HB := n2_; have BK103 := n3_; have GW103 := n4_; have GE103 := n5_; have NB101_103 := n6_; have NB103_101 := n7_; have NB102_103 := n8_; have NB103_102 := n9_; clear n0_ n1_ n2_ n3_ n4_ n5_ n6_ n7_ n8_ n9_; clear hb hbox hg) | ((with_reducible refine zgd (N := 13) rfl ?_); (try (refine gate_guard (by rfl) ?_; dsimp only)); refine box_event ?hg (N := 13) ?hd (cs := #[.int .i64 a6_0, .int .i64 a6_1]) (t := 24) ?hr ?_; (case hd => rfl); (case hg => rfl); (case hr => first | (go_simp; done) | (go_simp; rfl)); intro gb104 hg w12 hbox hb; have n0_ := zam (zkb (g := gb101) (o := .cells #[.slice A0_0 l0_0.length c0_0, .int .i64 a0_1, .int .i64 a0_2] 26 (0, 0)) zq0 hb); have n1_ := zam (zkb (g := gb102) (o := .cells #[.int .i64 a2_0, .int .i64 a2_1, .int .i64 a2_2, .int .i64 a2_3] 29 (0, 0)) zq4 hb); have n2_ := zam (zkb (g := gb103) (o := .cells #[.int .i64 a5_0, .int .i64 a5_1, .int .i64 a5_2, .int .i64 a5_3] 29 (0, 0)) zq6 hb); have n3_ := zam (zbt zq15 hb); have n4_ := zam (hbox); have n5_ := zam ((by rw [hg]; exact (zbz zq15) : w.heap.size ≤ gb104)); have n6_ := zam ((by rw [hg]; exact (zbz zq15) : w.heap.size ≤ gb104)); have n7_ := zam ((by rw [hg]; exact Nat.ne_of_lt (blk_lt (g := gb101) (o := .cells #[.slice A0_0 l0_0.length c0_0, .int .i64 a0_1, .int .i64 a0_2] 26 (0, 0)) zq0) : gb101 ≠ gb104)); have n8_ := zam ((by rw [hg]; exact Nat.ne_of_gt (blk_lt (g := gb101) (o := .cells #[.slice A0_0 l0_0.length c0_0, .int .i64 a0_1, .int .i64 a0_2] 26 (0, 0)) zq0) : gb104 ≠ gb101)); have n9_ := zam ((by rw [hg]; exact Nat.ne_of_lt (blk_lt (g := gb102) (o := .cells #[.int .i64 a2_0, .int .i64 a2_1, .int .i64 a2_2, .int .i64 a2_3] 29 (0, 0)) zq4) : gb102 ≠ gb104)); have n10_ := zam ((by rw [hg]; exact Nat.ne_of_gt (blk_lt (g := gb102) (o := .cells #[.int .i64 a2_0, .int .i64 a2_1, .int .i64 a2_2, .int .i64 a2_3] 29 (0, 0)) zq4) : gb104 ≠ gb102)); have n11_ := zam ((by rw [hg]; exact Nat.ne_of_lt (blk_lt (g := gb103) (o := .cells #[.int .i64 a5_0, .int .i64 a5_1, .int .i64 a5_2, .int .i64 a5_3] 29 (0, 0)) zq6) : gb103 ≠ gb104)); have n12_ := zam ((by rw [hg]; exact Nat.ne_of_gt (blk_lt (g := gb103) (o := .cells #[.int .i64 a5_0, .int .i64 a5_1, .int .i64 a5_2, .int .i64 a5_3] 29 (0, 0)) zq6) : gb104 ≠ gb103)); clear BK101; clear BK102; clear BK103; clear HB; have BK101 := n0_; have BK102 := n1_; have BK103 := n2_; have HB := n3_; have BK104 := n4_; have GW104 := n5_; have GE104 := n6_; have NB101_104 := n7_; have NB104_101 := n8_; have NB102_104 := n9_; have NB104_102 := n10_; have NB103_104 := n11_; have NB104_103 := n12_; clear n0_ n1_ n2_ n3_ n4_ n5_ n6_ n7_ n8_ n9_ n10_ n11_ n12_; clear hb hbox hg))
 (try simp only [Act.put, zsa, zsz, zss])
 go_cut [36] (fun v36 wc => ∃ (kq : Nat) (x36_7 : Bool), v36 = .bool x36_7 ∧ Aside0 (isobathlaw07_SoundNearer.j0 kq l1 a3 a4 x36_7 l0_0 a0_1 a0_2 a2_0 a2_1 a2_2 a2_3 a5_0 a5_1 a5_2 a5_3 a6_0 a6_1 = some r) ∧ Aside0 (kq ≤ k) ∧ Aside0 (wc.heap[gb101]? = some (.cells #[(.slice A0_0 l0_0.length c0_0), .int .i64 a0_1, .int .i64 a0_2] 26 (0, 0))) ∧ Aside0 (wc.heap[gb102]? = some (.cells #[.int .i64 a2_0, .int .i64 a2_1, .int .i64 a2_2, .int .i64 a2_3] 29 (0, 0))) ∧ Aside0 (wc.heap[gb103]? = some (.cells #[.int .i64 a5_0, .int .i64 a5_1, .int .i64 a5_2, .int .i64 a5_3] 29 (0, 0))) ∧ Aside0 (wc.heap[gb104]? = some (.cells #[.int .i64 a6_0, .int .i64 a6_1] 24 (0, 0))) ∧ Aside0 (Below w.heap.size w wc))
 case first =>
  have H := HC8.out
  clear HC8
  replace H := Option.bind_eq_some_iff.mp H
  obtain ⟨t105, A130, H⟩ := H
  replace H : (if t105 = true then (isobathlaw07_SoundNearer.j0 k l1 a3 a4 true l0_0 a0_1 a0_2 a2_0 a2_1 a2_2 a2_3 a5_0 a5_1 a5_2 a5_3 a6_0 a6_1) else (isobathlaw07_SoundNearer.j0 k l1 a3 a4 (decide ((l0_0.length : Int) > 7)) l0_0 a0_1 a0_2 a2_0 a2_1 a2_2 a2_3 a5_0 a5_1 a5_2 a5_3 a6_0 a6_1)) = some r := H
  have A13 := zam A130
  clear A130
  by_cases c14 : t105 = true
  ·subst c14
   have H1 : (isobathlaw07_SoundNearer.j0 k l1 a3 a4 true l0_0 a0_1 a0_2 a2_0 a2_1 a2_2 a2_3 a5_0 a5_1 a5_2 a5_3 a6_0 a6_1) = some r := by rw [if_pos rfl] at H; exact H
   clear H
   have H := H1
   clear H1
   have H' := zam H
   clear H
   have hnb15 := NB101_102.out
   have hnc15 := NB102_101.out
   have hnb16 := NB101_103.out
   have hnc16 := NB103_101.out
   have hnb17 := NB101_104.out
   have hnc17 := NB104_101.out
   have hcz18_0 : w12.cell? ⟨gb101, 0, none⟩ = some (.slice A0_0 l0_0.length c0_0) := (zkc BK101.out 0).trans rfl
   have hcz18_1 : w12.cell? ⟨gb101, 1, none⟩ = some (.int .i64 a0_1) := (zkc BK101.out 1).trans rfl
   have hcz18_2 : w12.cell? ⟨gb101, 2, none⟩ = some (.int .i64 a0_2) := (zkc BK101.out 2).trans rfl
   have hfz18_0 := zkz BK101.out 0
   have hfz18_1 := zkz BK101.out 1
   have hfz18_2 := zkz BK101.out 2
   go_wp2_with (first | ((with_reducible refine zgc (f := 13) rfl ?_); refine goesL_ (some 30) rfl rfl Try.func13 (by kernel_rfl) rfl #[.agg #[.slice A0_0 l0_0.length c0_0, .int .i64 a0_1, .int .i64 a0_2], .slice A1 l1.length c1] rfl zq5 ?_; (with_reducible refine (isobathlaw07_great.calls _ _ l0_0 a0_1 a0_2 _ _ l1 true _ ?side1 ?side2 ?side3 ?side4 A13.out).mono ?_); (case side1 => repeat (first | exact (Kd.C_below HR0_0.out HB.out) | (with_reducible refine Kd.C_alloc ?_ _) | (with_reducible refine Kd.C_drewN ?_ _) | (with_reducible refine Kd.C_drew ?_))); (case side2 => exact HC0_0.out); (case side3 => repeat (first | exact (Kd.C_below HR1.out HB.out) | (with_reducible refine Kd.C_alloc ?_ _) | (with_reducible refine Kd.C_drewN ?_ _) | (with_reducible refine Kd.C_drew ?_))); (case side4 => exact HC1.out); rintro e w19 ⟨rfl, hb⟩; refine ⟨_, rfl, ?_⟩; have n0_ := zam (zkb (g := gb101) (o := .cells #[.slice A0_0 l0_0.length c0_0, .int .i64 a0_1, .int .i64 a0_2] 26 (0, 0)) zq0 hb); have n1_ := zam (zkb (g := gb102) (o := .cells #[.int .i64 a2_0, .int .i64 a2_1, .int .i64 a2_2, .int .i64 a2_3] 29 (0, 0)) zq4 hb); have n2_ := zam (zkb (g := gb103) (o := .cells #[.int .i64 a5_0, .int .i64 a5_1, .int .i64 a5_2, .int .i64 a5_3] 29 (0, 0)) zq6 hb); have n3_ := zam (zkb (g := gb104) (o := .cells #[.int .i64 a6_0, .int .i64 a6_1] 24 (0, 0)) zq7 hb); have n4_ := zam (zbt zq8 hb); clear BK101; clear BK102; clear BK103; clear BK104; clear HB; have BK101 := n0_; have BK102 := n1_; have BK103 := n2_; have BK104 := n3_; have HB := n4_; clear n0_ n1_ n2_ n3_ n4_; (try clear hb); (try clear hb2); (try clear hk); (try clear hi)))
   go_meet
   case rel => exact ⟨_, (true), zq10, H', ⟨by first | omega | exact Nat.le_refl _⟩, ⟨by (with_reducible repeat (first | refine zkn ?_ _ | refine zkd ?_ | refine zka ?_ _)); exact BK101.out⟩, ⟨by (with_reducible repeat (first | refine zkn ?_ _ | refine zkd ?_ | refine zka ?_ _)); exact BK102.out⟩, ⟨by (with_reducible repeat (first | refine zkn ?_ _ | refine zkd ?_ | refine zka ?_ _)); exact BK103.out⟩, ⟨by (with_reducible repeat (first | refine zkn ?_ _ | refine zkd ?_ | refine zka ?_ _)); exact BK104.out⟩, ⟨by repeat (first | (with_reducible first | exact HB.out | apply zba | apply zbn | apply zb1 | refine zbs ?_ GE101.out | refine zbs ?_ GE102.out | refine zbs ?_ GE103.out | refine zbs ?_ GE104.out) | exact HB.out)⟩⟩
  replace c14 := Bool.eq_false_iff.mpr c14
  subst c14
  have H1 : (isobathlaw07_SoundNearer.j0 k l1 a3 a4 (decide ((l0_0.length : Int) > 7)) l0_0 a0_1 a0_2 a2_0 a2_1 a2_2 a2_3 a5_0 a5_1 a5_2 a5_3 a6_0 a6_1) = some r := by rw [if_neg (show ¬ (false = true) by decide)] at H; exact H
  clear H
  have H := H1
  clear H1
  have H' := zam H
  clear H
  have hnb20 := NB101_102.out
  have hnc20 := NB102_101.out
  have hnb21 := NB101_103.out
  have hnc21 := NB103_101.out
  have hnb22 := NB101_104.out
  have hnc22 := NB104_101.out
  have hcz23_0 : w12.cell? ⟨gb101, 0, none⟩ = some (.slice A0_0 l0_0.length c0_0) := (zkc BK101.out 0).trans rfl
  have hcz23_1 : w12.cell? ⟨gb101, 1, none⟩ = some (.int .i64 a0_1) := (zkc BK101.out 1).trans rfl
  have hcz23_2 : w12.cell? ⟨gb101, 2, none⟩ = some (.int .i64 a0_2) := (zkc BK101.out 2).trans rfl
  have hfz23_0 := zkz BK101.out 0
  have hfz23_1 := zkz BK101.out 1
  have hfz23_2 := zkz BK101.out 2
  go_wp2_with (first | ((with_reducible refine zgc (f := 13) rfl ?_); refine goesL_ (some 30) rfl rfl Try.func13 (by kernel_rfl) rfl #[.agg #[.slice A0_0 l0_0.length c0_0, .int .i64 a0_1, .int .i64 a0_2], .slice A1 l1.length c1] rfl zq5 ?_; (with_reducible refine (isobathlaw07_great.calls _ _ l0_0 a0_1 a0_2 _ _ l1 false _ ?side1 ?side2 ?side3 ?side4 A13.out).mono ?_); (case side1 => repeat (first | exact (Kd.C_below HR0_0.out HB.out) | (with_reducible refine Kd.C_alloc ?_ _) | (with_reducible refine Kd.C_drewN ?_ _) | (with_reducible refine Kd.C_drew ?_))); (case side2 => exact HC0_0.out); (case side3 => repeat (first | exact (Kd.C_below HR1.out HB.out) | (with_reducible refine Kd.C_alloc ?_ _) | (with_reducible refine Kd.C_drewN ?_ _) | (with_reducible refine Kd.C_drew ?_))); (case side4 => exact HC1.out); rintro e w24 ⟨rfl, hb⟩; refine ⟨_, rfl, ?_⟩; have n0_ := zam (zkb (g := gb101) (o := .cells #[.slice A0_0 l0_0.length c0_0, .int .i64 a0_1, .int .i64 a0_2] 26 (0, 0)) zq0 hb); have n1_ := zam (zkb (g := gb102) (o := .cells #[.int .i64 a2_0, .int .i64 a2_1, .int .i64 a2_2, .int .i64 a2_3] 29 (0, 0)) zq4 hb); have n2_ := zam (zkb (g := gb103) (o := .cells #[.int .i64 a5_0, .int .i64 a5_1, .int .i64 a5_2, .int .i64 a5_3] 29 (0, 0)) zq6 hb); have n3_ := zam (zkb (g := gb104) (o := .cells #[.int .i64 a6_0, .int .i64 a6_1] 24 (0, 0)) zq7 hb); have n4_ := zam (zbt zq8 hb); clear BK101; clear BK102; clear BK103; clear BK104; clear HB; have BK101 := n0_; have BK102 := n1_; have BK103 := n2_; have BK104 := n3_; have HB := n4_; clear n0_ n1_ n2_ n3_ n4_; (try clear hb); (try clear hb2); (try clear hk); (try clear hi); have hcz25_0 : w24.cell? ⟨gb101, 0, none⟩ = some (.slice A0_0 l0_0.length c0_0) := (zkc BK101.out 0).trans rfl; have hcz25_1 : w24.cell? ⟨gb101, 1, none⟩ = some (.int .i64 a0_1) := (zkc BK101.out 1).trans rfl; have hcz25_2 : w24.cell? ⟨gb101, 2, none⟩ = some (.int .i64 a0_2) := (zkc BK101.out 2).trans rfl; have hfz25_0 := zkz BK101.out 0; have hfz25_1 := zkz BK101.out 1; have hfz25_2 := zkz BK101.out 2))
  go_meet
  case rel => exact ⟨_, (decide ((l0_0.length : Int) > 7)), zq10, H', ⟨by first | omega | exact Nat.le_refl _⟩, ⟨by (with_reducible repeat (first | refine zkn ?_ _ | refine zkd ?_ | refine zka ?_ _)); exact BK101.out⟩, ⟨by (with_reducible repeat (first | refine zkn ?_ _ | refine zkd ?_ | refine zka ?_ _)); exact BK102.out⟩, ⟨by (with_reducible repeat (first | refine zkn ?_ _ | refine zkd ?_ | refine zka ?_ _)); exact BK103.out⟩, ⟨by (with_reducible repeat (first | refine zkn ?_ _ | refine zkd ?_ | refine zka ?_ _)); exact BK104.out⟩, ⟨by repeat (first | (with_reducible first | exact HB.out | apply zba | apply zbn | apply zb1 | refine zbs ?_ GE101.out | refine zbs ?_ GE102.out | refine zbs ?_ GE103.out | refine zbs ?_ GE104.out) | exact HB.out)⟩⟩
 case rest =>
  clear HC8
  try clear c1
  try clear c2
  try clear p2
  try clear c3
  try clear c13
  try clear c14
  try clear c15
  try clear c16
  try clear c17
  try clear c20
  try clear c21
  try clear c22
  try clear hcz18_0
  try clear hcz18_1
  try clear hcz18_2
  try clear hcz23_0
  try clear hcz23_1
  try clear hcz23_2
  try clear hcz25_0
  try clear hcz25_1
  try clear hcz25_2
  try clear hfz18_0
  try clear hfz18_1
  try clear hfz18_2
  try clear hfz23_0
  try clear hfz23_1
  try clear hfz23_2
  try clear hfz25_0
  try clear hfz25_1
  try clear hfz25_2
  obtain ⟨kq, x36_7, rfl, HA, HJ7, BK101, BK102, BK103, BK104, HB⟩ := hcut
  cases kq with
  | zero => exact absurd HA.out (by simp [isobathlaw07_SoundNearer.j0])
  | succ kj7 =>
   have H := HA.out
   clear HA
   simp only [isobathlaw07_SoundNearer.j0] at H
   by_cases c26 : x36_7 = true
   ·subst c26
    have H1 : ((isobathlaw07_Works.f kj7).bind fun t106 => (some t106)) = some r := by rw [if_pos rfl] at H; exact H
    clear H
    have H := H1
    clear H1
    replace H := Option.bind_eq_some_iff.mp H
    obtain ⟨t106, A270, H⟩ := H
    replace H : (some t106) = some r := H
    have A27 := zam A270
    clear A270
    obtain rfl := zsi H
    go_wp2_with (first | ((with_reducible refine zgc (f := 14) rfl ?_); refine goesL_ (some 37) rfl rfl Try.func14 (by kernel_rfl) rfl #[] rfl zq5 ?_; (with_reducible refine (isobathlaw07_Works.calls kj7  t106 _ A27.out).mono ?_); rintro e w28 ⟨rfl, hb⟩; refine ⟨_, rfl, ?_⟩; have n0_ := zam (zkb (g := gb101) (o := .cells #[.slice A0_0 l0_0.length c0_0, .int .i64 a0_1, .int .i64 a0_2] 26 (0, 0)) zq0 hb); have n1_ := zam (zkb (g := gb102) (o := .cells #[.int .i64 a2_0, .int .i64 a2_1, .int .i64 a2_2, .int .i64 a2_3] 29 (0, 0)) zq4 hb); have n2_ := zam (zkb (g := gb103) (o := .cells #[.int .i64 a5_0, .int .i64 a5_1, .int .i64 a5_2, .int .i64 a5_3] 29 (0, 0)) zq6 hb); have n3_ := zam (zkb (g := gb104) (o := .cells #[.int .i64 a6_0, .int .i64 a6_1] 24 (0, 0)) zq7 hb); have n4_ := zam (zbt zq8 hb); clear BK101; clear BK102; clear BK103; clear BK104; clear HB; have BK101 := n0_; have BK102 := n1_; have BK103 := n2_; have BK104 := n3_; have HB := n4_; clear n0_ n1_ n2_ n3_ n4_; (try clear hb); (try clear hb2); (try clear hk); (try clear hi)))
    go_ret
    exact ⟨by first | rfl | (simp [errW_none, errW_some] <;> rfl) | (simp [*, errW_none, errW_some] <;> rfl), by repeat (first | (with_reducible first | exact HB.out | apply zba | apply zbn | apply zb1 | refine zbs ?_ GE101.out | refine zbs ?_ GE102.out | refine zbs ?_ GE103.out | refine zbs ?_ GE104.out) | exact HB.out)⟩
   replace c26 := Bool.eq_false_iff.mpr c26
   subst c26
   have H1 : ((sound_Region.f kj7 l0_0 a0_1 a0_2 l1 a2_0 a2_1 a2_2 a2_3 (wrap64 ((Int.tmod (wrap64 (a3)) 4) + 1))).bind fun bt107 => ((sound_Region.f kj7 l0_0 a0_1 a0_2 l1 a2_0 a2_1 a2_2 a2_3 (wrap64 ((wrap64 ((Int.tmod (wrap64 (a3)) 4) + 1)) - 1))).bind fun bt111 => (if bt107.2 = bt111.2 then (if bt107.2 = 0 then (isobathlaw07_SoundNearer.l0 kj7 l1 a4 (wrap64 ((Int.tmod (wrap64 (a3)) 4) + 1)) bt107.1 bt111.1 0 l0_0 a0_1 a0_2 a2_0 a2_1 a2_2 a2_3 a5_0 a5_1 a5_2 a5_3 a6_0 a6_1) else ((isobathlaw07_Works.f kj7).bind fun t115 => (some t115))) else (none)))) = some r := by rw [if_neg (show ¬ (false = true) by decide)] at H; exact H
   clear H
   have H := H1
   clear H1
   replace H := Option.bind_eq_some_iff.mp H
   obtain ⟨⟨t107, t110⟩, A290, H⟩ := H
   replace H : ((sound_Region.f kj7 l0_0 a0_1 a0_2 l1 a2_0 a2_1 a2_2 a2_3 (wrap64 ((wrap64 ((Int.tmod (wrap64 (a3)) 4) + 1)) - 1))).bind fun bt111 => (if t110 = bt111.2 then (if t110 = 0 then (isobathlaw07_SoundNearer.l0 kj7 l1 a4 (wrap64 ((Int.tmod (wrap64 (a3)) 4) + 1)) t107 bt111.1 0 l0_0 a0_1 a0_2 a2_0 a2_1 a2_2 a2_3 a5_0 a5_1 a5_2 a5_3 a6_0 a6_1) else ((isobathlaw07_Works.f kj7).bind fun t115 => (some t115))) else (none))) = some r := H
   have A29 := zam A290
   clear A290
   replace H := Option.bind_eq_some_iff.mp H
   obtain ⟨⟨t111, t114⟩, A300, H⟩ := H
   replace H : (if t110 = t114 then (if t110 = 0 then (isobathlaw07_SoundNearer.l0 kj7 l1 a4 (wrap64 ((Int.tmod (wrap64 (a3)) 4) + 1)) t107 t111 0 l0_0 a0_1 a0_2 a2_0 a2_1 a2_2 a2_3 a5_0 a5_1 a5_2 a5_3 a6_0 a6_1) else ((isobathlaw07_Works.f kj7).bind fun t115 => (some t115))) else (none)) = some r := H
   have A30 := zam A300
   clear A300
   by_cases c31 : t110 = t114
   ·rw [if_pos c31] at H
    have c31b0 : (t110 == t114) = true := beq_iff_eq.mpr c31
    have c31b1 : (t110 != t114) = false := bne_eq_false_iff_eq.mpr c31
    clear c31
    by_cases c32 : t110 = 0
    ·rw [if_pos c32] at H
     have c32b0 : (t110 == 0) = true := beq_iff_eq.mpr c32
     have c32b1 : (t110 != 0) = false := bne_eq_false_iff_eq.mpr c32
     clear c32
     have H' := zam H
     clear H
     have hnb33 := NB101_102.out
     have hnc33 := NB102_101.out
     have hnb34 := NB101_103.out
     have hnc34 := NB103_101.out
     have hnb35 := NB101_104.out
     have hnc35 := NB104_101.out
     have hcz36_0 : wc.cell? ⟨gb101, 0, none⟩ = some (.slice A0_0 l0_0.length c0_0) := (zkc BK101.out 0).trans rfl
     have hcz36_1 : wc.cell? ⟨gb101, 1, none⟩ = some (.int .i64 a0_1) := (zkc BK101.out 1).trans rfl
     have hcz36_2 : wc.cell? ⟨gb101, 2, none⟩ = some (.int .i64 a0_2) := (zkc BK101.out 2).trans rfl
     have hfz36_0 := zkz BK101.out 0
     have hfz36_1 := zkz BK101.out 1
     have hfz36_2 := zkz BK101.out 2
     have hnb37 := NB102_103.out
     have hnc37 := NB103_102.out
     have hnb38 := NB102_104.out
     have hnc38 := NB104_102.out
     have hcz39_0 : wc.cell? ⟨gb102, 0, none⟩ = some (.int .i64 a2_0) := (zkc BK102.out 0).trans rfl
     have hcz39_1 : wc.cell? ⟨gb102, 1, none⟩ = some (.int .i64 a2_1) := (zkc BK102.out 1).trans rfl
     have hcz39_2 : wc.cell? ⟨gb102, 2, none⟩ = some (.int .i64 a2_2) := (zkc BK102.out 2).trans rfl
     have hcz39_3 : wc.cell? ⟨gb102, 3, none⟩ = some (.int .i64 a2_3) := (zkc BK102.out 3).trans rfl
     have hfz39_0 := zkz BK102.out 0
     have hfz39_1 := zkz BK102.out 1
     have hfz39_2 := zkz BK102.out 2
     have hfz39_3 := zkz BK102.out 3
     go_wp2_with (first | ((with_reducible refine zgc (f := 15) rfl ?_); refine goesL_ (some 47) rfl rfl Try.func15 (by kernel_rfl) rfl #[.agg #[.slice A0_0 l0_0.length c0_0, .int .i64 a0_1, .int .i64 a0_2], .slice A1 l1.length c1, .agg #[.int .i64 a2_0, .int .i64 a2_1, .int .i64 a2_2, .int .i64 a2_3], .int .i64 (wrap64 ((Int.tmod (wrap64 (a3)) 4) + 1))] rfl zq5 ?_; (with_reducible refine (sound_Region.calls kj7 _ _ l0_0 a0_1 a0_2 _ _ l1 a2_0 a2_1 a2_2 a2_3 (wrap64 ((Int.tmod (wrap64 (a3)) 4) + 1)) t107 t110 _ ?side1 ?side2 ?side3 ?side4 A29.out).mono ?_); (case side1 => repeat (first | exact (Kd.C_below HR0_0.out HB.out) | (with_reducible refine Kd.C_alloc ?_ _) | (with_reducible refine Kd.C_drewN ?_ _) | (with_reducible refine Kd.C_drew ?_))); (case side2 => exact HC0_0.out); (case side3 => repeat (first | exact (Kd.C_below HR1.out HB.out) | (with_reducible refine Kd.C_alloc ?_ _) | (with_reducible refine Kd.C_drewN ?_ _) | (with_reducible refine Kd.C_drew ?_))); (case side4 => exact HC1.out); rintro e w40 ⟨v108, rfl, ho0, hb⟩; refine ⟨_, rfl, ?_⟩; have n0_ := zam (Kd.R_lower (Kd.R_newB (Kd.R_newB ho0 (g := gb102) (o := .cells #[.int .i64 a2_0, .int .i64 a2_1, .int .i64 a2_2, .int .i64 a2_3] 29 (0, 0)) zq4) (g := gb103) (o := .cells #[.int .i64 a5_0, .int .i64 a5_1, .int .i64 a5_2, .int .i64 a5_3] 29 (0, 0)) zq6) (zbz zq8)); have n1_ := zam (zkb (g := gb101) (o := .cells #[.slice A0_0 l0_0.length c0_0, .int .i64 a0_1, .int .i64 a0_2] 26 (0, 0)) zq0 hb); have n2_ := zam (zkb (g := gb102) (o := .cells #[.int .i64 a2_0, .int .i64 a2_1, .int .i64 a2_2, .int .i64 a2_3] 29 (0, 0)) zq4 hb); have n3_ := zam (zkb (g := gb103) (o := .cells #[.int .i64 a5_0, .int .i64 a5_1, .int .i64 a5_2, .int .i64 a5_3] 29 (0, 0)) zq6 hb); have n4_ := zam (zkb (g := gb104) (o := .cells #[.int .i64 a6_0, .int .i64 a6_1] 24 (0, 0)) zq7 hb); have n5_ := zam (zbt zq8 hb); clear BK101; clear BK102; clear BK103; clear BK104; clear HB; have HO109 := n0_; have BK101 := n1_; have BK102 := n2_; have BK103 := n3_; have BK104 := n4_; have HB := n5_; clear n0_ n1_ n2_ n3_ n4_ n5_; (try clear hb); (try clear hb2); (try clear hk); (try clear hi); (try clear ho0); have hcz41_0 : w40.cell? ⟨gb101, 0, none⟩ = some (.slice A0_0 l0_0.length c0_0) := (zkc BK101.out 0).trans rfl; have hcz41_1 : w40.cell? ⟨gb101, 1, none⟩ = some (.int .i64 a0_1) := (zkc BK101.out 1).trans rfl; have hcz41_2 : w40.cell? ⟨gb101, 2, none⟩ = some (.int .i64 a0_2) := (zkc BK101.out 2).trans rfl; have hfz41_0 := zkz BK101.out 0; have hfz41_1 := zkz BK101.out 1; have hfz41_2 := zkz BK101.out 2; have hcz42_0 : w40.cell? ⟨gb102, 0, none⟩ = some (.int .i64 a2_0) := (zkc BK102.out 0).trans rfl; have hcz42_1 : w40.cell? ⟨gb102, 1, none⟩ = some (.int .i64 a2_1) := (zkc BK102.out 1).trans rfl; have hcz42_2 : w40.cell? ⟨gb102, 2, none⟩ = some (.int .i64 a2_2) := (zkc BK102.out 2).trans rfl; have hcz42_3 : w40.cell? ⟨gb102, 3, none⟩ = some (.int .i64 a2_3) := (zkc BK102.out 3).trans rfl; have hfz42_0 := zkz BK102.out 0; have hfz42_1 := zkz BK102.out 1; have hfz42_2 := zkz BK102.out 2; have hfz42_3 := zkz BK102.out 3) | ((with_reducible refine zgc (f := 15) rfl ?_); refine goesL_ (some 56) rfl rfl Try.func15 (by kernel_rfl) rfl #[.agg #[.slice A0_0 l0_0.length c0_0, .int .i64 a0_1, .int .i64 a0_2], .slice A1 l1.length c1, .agg #[.int .i64 a2_0, .int .i64 a2_1, .int .i64 a2_2, .int .i64 a2_3], .int .i64 (wrap64 ((wrap64 ((Int.tmod (wrap64 (a3)) 4) + 1)) - 1))] rfl zq5 ?_; (with_reducible refine (sound_Region.calls kj7 _ _ l0_0 a0_1 a0_2 _ _ l1 a2_0 a2_1 a2_2 a2_3 (wrap64 ((wrap64 ((Int.tmod (wrap64 (a3)) 4) + 1)) - 1)) t111 t114 _ ?side1 ?side2 ?side3 ?side4 A30.out).mono ?_); (case side1 => repeat (first | exact (Kd.C_below HR0_0.out HB.out) | (with_reducible refine Kd.C_alloc ?_ _) | (with_reducible refine Kd.C_drewN ?_ _) | (with_reducible refine Kd.C_drew ?_))); (case side2 => exact HC0_0.out); (case side3 => repeat (first | exact (Kd.C_below HR1.out HB.out) | (with_reducible refine Kd.C_alloc ?_ _) | (with_reducible refine Kd.C_drewN ?_ _) | (with_reducible refine Kd.C_drew ?_))); (case side4 => exact HC1.out); rintro e w43 ⟨v112, rfl, ho0, hb⟩; refine ⟨_, rfl, ?_⟩; have n0_ := zam (Kd.R_elder' (by (with_reducible repeat (first | apply zRa | apply zRn | apply zRd)); exact HO109.out) (Kd.R_base ho0) hb); have n1_ := zam (Kd.R_lower (Kd.R_newB (Kd.R_newB (Kd.R_new' ho0 (Kd.R_lt (by (with_reducible repeat (first | apply zRa | apply zRn | apply zRd)); exact HO109.out))) (g := gb102) (o := .cells #[.int .i64 a2_0, .int .i64 a2_1, .int .i64 a2_2, .int .i64 a2_3] 29 (0, 0)) zq4) (g := gb103) (o := .cells #[.int .i64 a5_0, .int .i64 a5_1, .int .i64 a5_2, .int .i64 a5_3] 29 (0, 0)) zq6) (zbz zq8)); have n2_ := zam (zkb (g := gb101) (o := .cells #[.slice A0_0 l0_0.length c0_0, .int .i64 a0_1, .int .i64 a0_2] 26 (0, 0)) zq0 hb); have n3_ := zam (zkb (g := gb102) (o := .cells #[.int .i64 a2_0, .int .i64 a2_1, .int .i64 a2_2, .int .i64 a2_3] 29 (0, 0)) zq4 hb); have n4_ := zam (zkb (g := gb103) (o := .cells #[.int .i64 a5_0, .int .i64 a5_1, .int .i64 a5_2, .int .i64 a5_3] 29 (0, 0)) zq6 hb); have n5_ := zam (zkb (g := gb104) (o := .cells #[.int .i64 a6_0, .int .i64 a6_1] 24 (0, 0)) zq7 hb); have n6_ := zam (zbt zq8 hb); clear HO109; clear BK101; clear BK102; clear BK103; clear BK104; clear HB; have HO109 := n0_; have HO113 := n1_; have BK101 := n2_; have BK102 := n3_; have BK103 := n4_; have BK104 := n5_; have HB := n6_; clear n0_ n1_ n2_ n3_ n4_ n5_ n6_; (try clear hb); (try clear hb2); (try clear hk); (try clear hi); (try clear ho0)))
     go_loopg [20] kj7 (fun kq v20 w' => ∃ (x20_2 : Int), v20 = .int .i64 x20_2 ∧ Aside0 (isobathlaw07_SoundNearer.l0 kq l1 a4 (wrap64 ((Int.tmod (wrap64 (a3)) 4) + 1)) t107 t111 x20_2 l0_0 a0_1 a0_2 a2_0 a2_1 a2_2 a2_3 a5_0 a5_1 a5_2 a5_3 a6_0 a6_1 = some r) ∧ Aside0 (kq ≤ kj7) ∧ Aside0 (Kd.R k29 29 w' w.heap.size (fun k_ => some k_ ≠ (v112 : Value).ownBlock ∧ k_ ≠ gb102 ∧ k_ ≠ gb103) v108 t107) ∧ Aside0 (Kd.R k29 29 w' w.heap.size (fun k_ => some k_ ≠ (v108 : Value).ownBlock ∧ k_ ≠ gb102 ∧ k_ ≠ gb103) v112 t111) ∧ Aside0 (w'.heap[gb101]? = some (.cells #[(.slice A0_0 l0_0.length c0_0), .int .i64 a0_1, .int .i64 a0_2] 26 (0, 0))) ∧ Aside0 (w'.heap[gb102]? = some (.cells #[.int .i64 a2_0, .int .i64 a2_1, .int .i64 a2_2, .int .i64 a2_3] 29 (0, 0))) ∧ Aside0 (w'.heap[gb103]? = some (.cells #[.int .i64 a5_0, .int .i64 a5_1, .int .i64 a5_2, .int .i64 a5_3] 29 (0, 0))) ∧ Aside0 (w'.heap[gb104]? = some (.cells #[.int .i64 a6_0, .int .i64 a6_1] 24 (0, 0))) ∧ Aside0 (Below w.heap.size w w'))
     case atStart => exact ⟨(0), zq10, H', ⟨Nat.le_refl _⟩, ⟨by (with_reducible repeat (first | apply zRa | apply zRn | apply zRd)); exact Kd.R_mono HO109.out (fun _ hk => ⟨hk.2, ⟨hk.1.1.2, hk.1.2⟩⟩)⟩, ⟨by (with_reducible repeat (first | apply zRa | apply zRn | apply zRd)); exact Kd.R_mono HO113.out (fun _ hk => ⟨hk.1.1.2, ⟨hk.1.2, hk.2⟩⟩)⟩, ⟨by (with_reducible repeat (first | refine zkn ?_ _ | refine zkd ?_ | refine zka ?_ _)); exact BK101.out⟩, ⟨by (with_reducible repeat (first | refine zkn ?_ _ | refine zkd ?_ | refine zka ?_ _)); exact BK102.out⟩, ⟨by (with_reducible repeat (first | refine zkn ?_ _ | refine zkd ?_ | refine zka ?_ _)); exact BK103.out⟩, ⟨by (with_reducible repeat (first | refine zkn ?_ _ | refine zkd ?_ | refine zka ?_ _)); exact BK104.out⟩, ⟨by repeat (first | (with_reducible first | exact HB.out | apply zba | apply zbn | apply zb1 | refine zbs ?_ GE101.out | refine zbs ?_ GE102.out | refine zbs ?_ GE103.out | refine zbs ?_ GE104.out) | exact HB.out)⟩⟩
     case round =>
      clear H'
      try clear c1
      try clear c2
      try clear p2
      try clear c3
      try clear p6
      try clear c13
      try clear c14
      try clear c15
      try clear c16
      try clear c17
      try clear c20
      try clear c21
      try clear c22
      try clear c26
      try clear c31
      try clear c31b0
      try clear c31b1
      try clear c32
      try clear c32b0
      try clear c32b1
      try clear c33
      try clear c34
      try clear c35
      try clear c37
      try clear c38
      try clear hcz18_0
      try clear hcz18_1
      try clear hcz18_2
      try clear hcz23_0
      try clear hcz23_1
      try clear hcz23_2
      try clear hcz25_0
      try clear hcz25_1
      try clear hcz25_2
      try clear hcz36_0
      try clear hcz36_1
      try clear hcz36_2
      try clear hcz39_0
      try clear hcz39_1
      try clear hcz39_2
      try clear hcz39_3
      try clear hcz41_0
      try clear hcz41_1
      try clear hcz41_2
      try clear hcz42_0
      try clear hcz42_1
      try clear hcz42_2
      try clear hcz42_3
      try clear hfz18_0
      try clear hfz18_1
      try clear hfz18_2
      try clear hfz23_0
      try clear hfz23_1
      try clear hfz23_2
      try clear hfz25_0
      try clear hfz25_1
      try clear hfz25_2
      try clear hfz36_0
      try clear hfz36_1
      try clear hfz36_2
      try clear hfz39_0
      try clear hfz39_1
      try clear hfz39_2
      try clear hfz39_3
      try clear hfz41_0
      try clear hfz41_1
      try clear hfz41_2
      try clear hfz42_0
      try clear hfz42_1
      try clear hfz42_2
      try clear hfz42_3
      try clear p2
      obtain ⟨x20_2, rfl, HA, HK2, HO_16, HO_18, BK101, BK102, BK103, BK104, HB⟩ := hrel
      cases gk with
      | zero => exact absurd HA.out (by simp [isobathlaw07_SoundNearer.l0])
      | succ k2 =>
       have H := HA.out
       clear HA
       simp only [isobathlaw07_SoundNearer.l0] at H
       by_cases c44 : x20_2 < (t107.length : Int)
       ·rw [if_pos c44] at H
        have c44b0 : decide (x20_2 < (t107.length : Int)) = true := zdt c44
        clear c44
        by_cases c45 : 0 ≤ x20_2
        ·rw [if_pos c45] at H
         have c45b0 : decide (0 ≤ x20_2) = true := zdt c45
         clear c45
         replace H := Option.bind_eq_some_iff.mp H
         obtain ⟨t117, A460, H⟩ := H
         replace H : (if t117 = true then (isobathlaw07_SoundNearer.l0 k2 l1 a4 (wrap64 ((Int.tmod (wrap64 (a3)) 4) + 1)) t107 t111 (wrap64 (x20_2 + 1)) l0_0 a0_1 a0_2 a2_0 a2_1 a2_2 a2_3 a5_0 a5_1 a5_2 a5_3 a6_0 a6_1) else (none)) = some r := H
         have A46 := zam A460
         clear A460
         by_cases c47 : t117 = true
         ·subst c47
          have H1 : (isobathlaw07_SoundNearer.l0 k2 l1 a4 (wrap64 ((Int.tmod (wrap64 (a3)) 4) + 1)) t107 t111 (wrap64 (x20_2 + 1)) l0_0 a0_1 a0_2 a2_0 a2_1 a2_2 a2_3 a5_0 a5_1 a5_2 a5_3 a6_0 a6_1) = some r := by rw [if_pos rfl] at H; exact H
          clear H
          have H := H1
          clear H1
          have H' := zam H
          clear H
          obtain ⟨Ao48, co48, eo48⟩ := Kd.R_slice HO_16.out
          subst eo48
          have p116 : 0 ≤ (x20_2 : Int) := zod zq9
          have q116 : x20_2 < (t107.length : Int) := zod zq9
          obtain ⟨ad116, e116, hx116_0, hx116_1, hx116_2, hx116_3⟩ := at_T29 (Kd.R_reads' HO_16.out).2.2 x20_2 p116 q116
          cases e116
          replace p116 := eq_true p116
          replace q116 := eq_true q116
          obtain ⟨Ao49, co49, eo49⟩ := Kd.R_slice HO_18.out
          subst eo49
          go_wp2_with (first | ((with_reducible refine zgc (f := 16) rfl ?_); refine goesL_ (some 76) rfl rfl Try.func16 (by kernel_rfl) rfl #[.agg #[.int .i64 ((rd_T29 t107 x20_2).f0.f0), .int .i64 ((rd_T29 t107 x20_2).f0.f1), .int .i64 ((rd_T29 t107 x20_2).f1.f0), .int .i64 ((rd_T29 t107 x20_2).f1.f1)], .slice Ao49 t111.length co49] rfl zq5 ?_; (with_reducible refine (isobathlaw07_within.calls k2 ((rd_T29 t107 x20_2).f0.f0) ((rd_T29 t107 x20_2).f0.f1) ((rd_T29 t107 x20_2).f1.f0) ((rd_T29 t107 x20_2).f1.f1) _ _ t111 true _ ?side1 ?side2 A46.out).mono ?_); (case side1 => repeat (first | exact (Kd.R_reads' HO_18.out).2.2 | (with_reducible refine Kd.C_alloc ?_ _) | (with_reducible refine Kd.C_drewN ?_ _) | (with_reducible refine Kd.C_drew ?_))); (case side2 => exact (Kd.R_reads' HO_18.out).2.1); rintro e w50 ⟨rfl, hb⟩; refine ⟨_, rfl, ?_⟩; have n0_ := zam (Kd.R_below zq12 hb); have n1_ := zam (Kd.R_below (by (with_reducible repeat (first | apply zRa | apply zRn | apply zRd)); exact HO_18.out) hb); have n2_ := zam (zkb (g := gb101) (o := .cells #[.slice A0_0 l0_0.length c0_0, .int .i64 a0_1, .int .i64 a0_2] 26 (0, 0)) zq0 hb); have n3_ := zam (zkb (g := gb102) (o := .cells #[.int .i64 a2_0, .int .i64 a2_1, .int .i64 a2_2, .int .i64 a2_3] 29 (0, 0)) zq4 hb); have n4_ := zam (zkb (g := gb103) (o := .cells #[.int .i64 a5_0, .int .i64 a5_1, .int .i64 a5_2, .int .i64 a5_3] 29 (0, 0)) zq6 hb); have n5_ := zam (zkb (g := gb104) (o := .cells #[.int .i64 a6_0, .int .i64 a6_1] 24 (0, 0)) zq7 hb); have n6_ := zam (zbt zq8 hb); clear HO_16; clear HO_18; clear BK101; clear BK102; clear BK103; clear BK104; clear HB; have HO_16 := n0_; have HO_18 := n1_; have BK101 := n2_; have BK102 := n3_; have BK103 := n4_; have BK104 := n5_; have HB := n6_; clear n0_ n1_ n2_ n3_ n4_ n5_ n6_; (try clear hb); (try clear hb2); (try clear hk); (try clear hi)))
          go_roundg k2
          case measure => have := HJ7.out; have := HK2.out; omega
          case rel => exact ⟨(wrap64 (x20_2 + 1)), zq10, H', ⟨by have := HJ7.out; have := HK2.out; omega⟩, ⟨by (with_reducible repeat (first | apply zRa | apply zRn | apply zRd)); exact HO_16.out⟩, ⟨by (with_reducible repeat (first | apply zRa | apply zRn | apply zRd)); exact HO_18.out⟩, ⟨by (with_reducible repeat (first | refine zkn ?_ _ | refine zkd ?_ | refine zka ?_ _)); exact BK101.out⟩, ⟨by (with_reducible repeat (first | refine zkn ?_ _ | refine zkd ?_ | refine zka ?_ _)); exact BK102.out⟩, ⟨by (with_reducible repeat (first | refine zkn ?_ _ | refine zkd ?_ | refine zka ?_ _)); exact BK103.out⟩, ⟨by (with_reducible repeat (first | refine zkn ?_ _ | refine zkd ?_ | refine zka ?_ _)); exact BK104.out⟩, ⟨by repeat (first | (with_reducible first | exact HB.out | apply zba | apply zbn | apply zb1 | refine zbs ?_ GE101.out | refine zbs ?_ GE102.out | refine zbs ?_ GE103.out | refine zbs ?_ GE104.out) | exact HB.out)⟩⟩
         replace c47 := Bool.eq_false_iff.mpr c47
         subst c47
         have H1 : (none) = some r := by rw [if_neg (show ¬ (false = true) by decide)] at H; exact H
         clear H
         have H := H1
         clear H1
         exact absurd H (by simp)
        rw [if_neg c45] at H
        exact absurd H (by simp)
       rw [if_neg c44] at H
       have c44b0 : decide (x20_2 < (t107.length : Int)) = false := zdf c44
       clear c44
       have H' := zam H
       clear H
       obtain ⟨Ao51, co51, eo51⟩ := Kd.R_slice HO_16.out
       subst eo51
       go_wp2
       go_loopg [21, 22] k2 (fun kq v21 v22 w' => ∃ (x21_3 : List (S24)) (x22_3 : Int), v22 = .int .i64 x22_3 ∧ Aside0 (isobathlaw07_SoundNearer.l1 kq l1 a4 (wrap64 ((Int.tmod (wrap64 (a3)) 4) + 1)) t107 x21_3 x22_3 l0_0 a0_1 a0_2 a2_0 a2_1 a2_2 a2_3 a5_0 a5_1 a5_2 a5_3 a6_0 a6_1 = some r) ∧ Aside0 (kq ≤ k2) ∧ Aside0 (Kd.R k29 29 w' w.heap.size (fun k_ => k_ ≠ gb102 ∧ k_ ≠ gb103) (.slice Ao51 t107.length co51) t107) ∧ Aside0 (Kd.R k24 24 w' w.heap.size (fun k_ => k_ ≠ gb104) v21 x21_3) ∧ Aside0 (w'.heap[gb101]? = some (.cells #[(.slice A0_0 l0_0.length c0_0), .int .i64 a0_1, .int .i64 a0_2] 26 (0, 0))) ∧ Aside0 (w'.heap[gb102]? = some (.cells #[.int .i64 a2_0, .int .i64 a2_1, .int .i64 a2_2, .int .i64 a2_3] 29 (0, 0))) ∧ Aside0 (w'.heap[gb103]? = some (.cells #[.int .i64 a5_0, .int .i64 a5_1, .int .i64 a5_2, .int .i64 a5_3] 29 (0, 0))) ∧ Aside0 (w'.heap[gb104]? = some (.cells #[.int .i64 a6_0, .int .i64 a6_1] 24 (0, 0))) ∧ Aside0 (Below w.heap.size w w'))
       case atStart => exact ⟨(([] : List (S24))), (0), zq10, H', ⟨Nat.le_refl _⟩, ⟨by (with_reducible repeat (first | apply zRa | apply zRn | apply zRd)); exact Kd.R_mono HO_16.out (fun _ hk => ⟨hk.2.1, hk.2.2⟩)⟩, ⟨by first | exact Kd.R_nil _ _ _ _ _ | exact Kd.N_nil _ _ _ _ _ | exact Kd.V_nil _ _ _ _ _ | exact Kd.Q_nil _ _ _ _ _ | exact Kd.S_nil _ _ _ _ _⟩, ⟨by (with_reducible repeat (first | refine zkn ?_ _ | refine zkd ?_ | refine zka ?_ _)); exact BK101.out⟩, ⟨by (with_reducible repeat (first | refine zkn ?_ _ | refine zkd ?_ | refine zka ?_ _)); exact BK102.out⟩, ⟨by (with_reducible repeat (first | refine zkn ?_ _ | refine zkd ?_ | refine zka ?_ _)); exact BK103.out⟩, ⟨by (with_reducible repeat (first | refine zkn ?_ _ | refine zkd ?_ | refine zka ?_ _)); exact BK104.out⟩, ⟨by repeat (first | (with_reducible first | exact HB.out | apply zba | apply zbn | apply zb1 | refine zbs ?_ GE101.out | refine zbs ?_ GE102.out | refine zbs ?_ GE103.out | refine zbs ?_ GE104.out) | exact HB.out)⟩⟩
       case round =>
        clear H'
        try clear c1
        try clear p1
        try clear q1
        try clear hx1
        try clear c2
        try clear p2
        try clear c3
        try clear c4
        try clear p6
        try clear p11
        try clear q11
        try clear hx11
        try clear c13
        try clear c14
        try clear c15
        try clear c16
        try clear c17
        try clear c20
        try clear c21
        try clear c22
        try clear c26
        try clear c31
        try clear c31b0
        try clear c31b1
        try clear c32
        try clear c32b0
        try clear c32b1
        try clear c33
        try clear c34
        try clear c35
        try clear c37
        try clear c38
        try clear c44
        try clear c44b0
        try clear c45
        try clear c45b0
        try clear c47
        try clear hcz18_0
        try clear hcz18_1
        try clear hcz18_2
        try clear hcz23_0
        try clear hcz23_1
        try clear hcz23_2
        try clear hcz25_0
        try clear hcz25_1
        try clear hcz25_2
        try clear hcz36_0
        try clear hcz36_1
        try clear hcz36_2
        try clear hcz39_0
        try clear hcz39_1
        try clear hcz39_2
        try clear hcz39_3
        try clear hcz41_0
        try clear hcz41_1
        try clear hcz41_2
        try clear hcz42_0
        try clear hcz42_1
        try clear hcz42_2
        try clear hcz42_3
        try clear hfz18_0
        try clear hfz18_1
        try clear hfz18_2
        try clear hfz23_0
        try clear hfz23_1
        try clear hfz23_2
        try clear hfz25_0
        try clear hfz25_1
        try clear hfz25_2
        try clear hfz36_0
        try clear hfz36_1
        try clear hfz36_2
        try clear hfz39_0
        try clear hfz39_1
        try clear hfz39_2
        try clear hfz39_3
        try clear hfz41_0
        try clear hfz41_1
        try clear hfz41_2
        try clear hfz42_0
        try clear hfz42_1
        try clear hfz42_2
        try clear hfz42_3
        try clear hx116_0
        try clear hx116_1
        try clear hx116_2
        try clear hx116_3
        try clear p116
        try clear p2
        try clear p6
        try clear q116
        obtain ⟨x21_3, x22_3, rfl, HA, HK3, HO_16, HO_21, BK101, BK102, BK103, BK104, HB⟩ := hrel
        cases gk with
        | zero => exact absurd HA.out (by simp [isobathlaw07_SoundNearer.l1])
        | succ k3 =>
         have H := HA.out
         clear HA
         simp only [isobathlaw07_SoundNearer.l1] at H
         by_cases c52 : x22_3 < (l1.length : Int)
         ·rw [if_pos c52] at H
          have c52b0 : decide (x22_3 < (l1.length : Int)) = true := zdt c52
          clear c52
          by_cases c53 : 0 ≤ x22_3
          ·rw [if_pos c53] at H
           have c53b0 : decide (0 ≤ x22_3) = true := zdt c53
           clear c53
           obtain ⟨ji54, hji54⟩ : ∃ j_ : Int, (mn (wrap64 (a4)) (wrap64 (Int.tdiv (wrap64 (((rd_T24 l1 x22_3).f1) - ((rd_T24 l1 x22_3).f0))) 2))) = j_ := ⟨_, rfl⟩
           replace H : ((some (([(⟨wrap64 (((rd_T24 l1 x22_3).f0) + (ji54)), wrap64 (((rd_T24 l1 x22_3).f1) - (ji54))⟩ : S24)] : List (S24)) : List (S24))).bind fun y122 => (if x21_3.length + y122.length < 8796093022208 then (isobathlaw07_SoundNearer.l1 k3 l1 a4 (wrap64 ((Int.tmod (wrap64 (a3)) 4) + 1)) t107 (x21_3 ++ y122) (wrap64 (x22_3 + 1)) l0_0 a0_1 a0_2 a2_0 a2_1 a2_2 a2_3 a5_0 a5_1 a5_2 a5_3 a6_0 a6_1) else (none))) = some r := by first | (rw [hji54] at H; exact H) | (simp only [hji54] at H ⊢; exact H)
           have hji54_ : (if (wrap64 (Int.tdiv (wrap64 (((rd_T24 l1 x22_3).f1) - ((rd_T24 l1 x22_3).f0))) 2)) < (wrap64 (a4)) then (wrap64 (Int.tdiv (wrap64 (((rd_T24 l1 x22_3).f1) - ((rd_T24 l1 x22_3).f0))) 2)) else (wrap64 (a4))) = ji54 := hji54
           obtain ⟨y122, hy122⟩ : ∃ y_ : List (S24), y_ = (([(⟨wrap64 (((rd_T24 l1 x22_3).f0) + (ji54)), wrap64 (((rd_T24 l1 x22_3).f1) - (ji54))⟩ : S24)] : List (S24))) := ⟨_, rfl⟩
           replace H : (if x21_3.length + y122.length < 8796093022208 then (isobathlaw07_SoundNearer.l1 k3 l1 a4 (wrap64 ((Int.tmod (wrap64 (a3)) 4) + 1)) t107 (x21_3 ++ y122) (wrap64 (x22_3 + 1)) l0_0 a0_1 a0_2 a2_0 a2_1 a2_2 a2_3 a5_0 a5_1 a5_2 a5_3 a6_0 a6_1) else (none)) = some r := by first | (rw [hy122]; with_reducible exact H) | (have H2_ := (Option.bind_some _ _).symm.trans H; rw [hy122]; with_reducible exact H2_) | (have H2_ := (Option.bind_some _ _).symm.trans H; with_reducible exact H2_) | with_reducible exact H | (rw [hy122]; exact H) | exact H
           have Ny122 := zam hy122
           clear hy122
           by_cases c55 : x21_3.length + y122.length < 8796093022208
           ·rw [if_pos c55] at H
            have LMc55 := zam c55
            clear c55
            obtain ⟨y125, hy125⟩ : ∃ y_ : List (S24), y_ = (x21_3 ++ y122) := ⟨_, rfl⟩
            replace H : (isobathlaw07_SoundNearer.l1 k3 l1 a4 (wrap64 ((Int.tmod (wrap64 (a3)) 4) + 1)) t107 y125 (wrap64 (x22_3 + 1)) l0_0 a0_1 a0_2 a2_0 a2_1 a2_2 a2_3 a5_0 a5_1 a5_2 a5_3 a6_0 a6_1) = some r := by first | (rw [hy125]; with_reducible exact H) | (have H2_ := (Option.bind_some _ _).symm.trans H; rw [hy125]; with_reducible exact H2_) | (have H2_ := (Option.bind_some _ _).symm.trans H; with_reducible exact H2_) | with_reducible exact H | (rw [hy125]; exact H) | exact H
            have Ny125 := zam hy125
            clear hy125
            have H' := zam H
            clear H
            try go_wp2
            have n0_ := zam (zRd HO_16.out)
            have n1_ := zam (zRd HO_21.out)
            have n2_ := zam (zkd BK101.out)
            have n3_ := zam (zkd BK102.out)
            have n4_ := zam (zkd BK103.out)
            have n5_ := zam (zkd BK104.out)
            have n6_ := zam (zb1 HB.out)
            clear HO_16
            clear HO_21
            clear BK101
            clear BK102
            clear BK103
            clear BK104
            clear HB
            have HO_16 := n0_
            have HO_21 := n1_
            have BK101 := n2_
            have BK102 := n3_
            have BK103 := n4_
            have BK104 := n5_
            have HB := n6_
            clear n0_ n1_ n2_ n3_ n4_ n5_ n6_
            have p118 : 0 ≤ (x22_3 : Int) := zod zq9
            have q118 : x22_3 < (l1.length : Int) := zod zq9
            obtain ⟨ad118, e118, hx118_0, hx118_1⟩ := at_T24 HR1.out x22_3 p118 q118
            have hw118_1 := hx118_1
            have hw118_0 := hx118_0
            cases e118
            replace hx118_0 := (HB.out.cell (zwb w _ hx118_0)).trans hx118_0
            replace hx118_1 := (HB.out.cell (zwb w _ hx118_1)).trans hx118_1
            replace p118 := eq_true p118
            replace q118 := eq_true q118
            have p119 : 0 ≤ (x22_3 : Int) := zod zq9
            have q119 : x22_3 < (l1.length : Int) := zod zq9
            obtain ⟨ad119, e119, hx119_0, hx119_1⟩ := at_T24 HR1.out x22_3 p119 q119
            have hw119_1 := hx119_1
            have hw119_0 := hx119_0
            obtain rfl : ad118 = ad119 := (by injection e119)
            replace hx119_0 := (HB.out.cell (zwb w _ hx119_0)).trans hx119_0
            replace hx119_1 := (HB.out.cell (zwb w _ hx119_1)).trans hx119_1
            replace p119 := eq_true p119
            replace q119 := eq_true q119
            refine start_ (n := 16) (S := fun w' => w'.cell? (ad118.add ((x22_3).toNat * 2)) = some (.int .i64 ((rd_T24 l1 x22_3).f0)) ∧ w'.cell? ⟨(ad118.add ((x22_3).toNat * 2)).block, (ad118.add ((x22_3).toNat * 2)).off + 1, none⟩ = some (.int .i64 ((rd_T24 l1 x22_3).f1)) ∧ w'.cell? (ad118.add ((x22_3).toNat * 2)) = some (.int .i64 ((rd_T24 l1 x22_3).f0)) ∧ w'.cell? ⟨(ad118.add ((x22_3).toNat * 2)).block, (ad118.add ((x22_3).toNat * 2)).off + 1, none⟩ = some (.int .i64 ((rd_T24 l1 x22_3).f1))) (ds := []) #[false, false, false, false, false, false, false, false, false, false, false, false, false, false, false, false] (by kernel_rfl) rfl rfl ⟨((HB.out.cell (zwb w _ hw118_0)).trans hw118_0), ((HB.out.cell (zwb w _ hw118_1)).trans hw118_1), ((HB.out.cell (zwb w _ hw119_0)).trans hw119_0), ((HB.out.cell (zwb w _ hw119_1)).trans hw119_1)⟩ (fun hHeld => ?_); refine with_tabW isobathlaw07_SoundNearer.tab19 isobathlaw07_SoundNearer.bits19 (fun HT_ HW_ => ?_)
            generalize wr.drew = w56 at HO_16 HO_21 BK101 BK102 BK103 BK104 HB hx118_0 hx118_1 hx119_0 hx119_1 hHeld ⊢
            refine pure_ (i := 0) (N := some 84) (v := ?_) (a' := ?_) #[true, false, false, false, false, false, false, false, false, false, false, false, false, false, false, false] rfl rfl (any_of HT_.out (by kernel_rfl)) (fun _ _ _ h => h) (Or.inl ⟨by rfl, ?_⟩) ?_ ?_
            rotate_left
            ·intro w'
             go_simp
             with_reducible rfl
            rotate_left
            ·simp only [Act.put, zsa, zsz, zss, i64_w, i32_w]
             rfl
            refine pure_ (i := 1) (N := some 85) (v := ?_) (a' := ?_) #[true, true, false, false, false, false, false, false, false, false, false, false, false, false, false, false] rfl rfl (any_of HT_.out (by kernel_rfl)) (fun _ _ _ h => h) (Or.inl ⟨by rfl, ?_⟩) ?_ ?_
            rotate_left
            ·intro w'
             go_simp
             with_reducible rfl
            rotate_left
            ·simp only [Act.put, zsa, zsz, zss, i64_w, i32_w]
             rfl
            refine pure_ (i := 2) (N := some 86) (v := ?_) (a' := ?_) #[true, true, true, false, false, false, false, false, false, false, false, false, false, false, false, false] rfl rfl (any_of HT_.out (by kernel_rfl)) (fun _ _ _ h => h) (Or.inl ⟨by rfl, ?_⟩) ?_ ?_
            rotate_left
            ·intro w'
             go_simp
             with_reducible rfl
            rotate_left
            ·simp only [Act.put, zsa, zsz, zss, i64_w, i32_w]
             rfl
            refine pure_ (i := 3) (N := some 87) (v := ?_) (a' := ?_) #[true, true, true, true, false, false, false, false, false, false, false, false, false, false, false, false] rfl rfl (any_of HT_.out (by kernel_rfl)) (fun _ _ _ h => h) (Or.inl ⟨by rfl, ?_⟩) ?_ ?_
            rotate_left
            ·intro w'
             go_simp
             with_reducible rfl
            rotate_left
            ·simp only [Act.put, zsa, zsz, zss, i64_w, i32_w]
             rfl
            refine pure_ (i := 4) (N := some 88) (v := ?_) (a' := ?_) #[true, true, true, true, true, false, false, false, false, false, false, false, false, false, false, false] rfl rfl (any_of HT_.out (by kernel_rfl)) (fun _ _ _ h => h) (Or.inl ⟨by rfl, ?_⟩) ?_ ?_
            rotate_left
            ·intro w'
             go_simp
             with_reducible rfl
            rotate_left
            ·simp only [Act.put, zsa, zsz, zss, i64_w, i32_w]
             rfl
            refine pure_ (i := 5) (N := some 89) (v := ?_) (a' := ?_) #[true, true, true, true, true, true, false, false, false, false, false, false, false, false, false, false] rfl rfl (any_of HT_.out (by kernel_rfl)) (fun _ _ _ h => h) (Or.inl ⟨by rfl, ?_⟩) ?_ ?_
            rotate_left
            ·intro w'
             go_simp
             with_reducible rfl
            rotate_left
            ·simp only [Act.put, zsa, zsz, zss, i64_w, i32_w]
             rfl
            refine pure_ (i := 7) (N := some 91) (v := ?_) (a' := ?_) #[true, true, true, true, true, true, false, true, false, false, false, false, false, false, false, false] rfl rfl (any_of HT_.out (by kernel_rfl)) (fun _ _ _ h => h) (Or.inl ⟨by rfl, ?_⟩) ?_ ?_
            rotate_left
            ·intro w'
             go_simp
             with_reducible rfl
            rotate_left
            ·simp only [Act.put, zsa, zsz, zss, i64_w, i32_w]
             rfl
            refine pure_ (i := 8) (N := some 92) (v := ?_) (a' := ?_) #[true, true, true, true, true, true, false, true, true, false, false, false, false, false, false, false] rfl rfl (any_of HT_.out (by kernel_rfl)) (fun _ _ _ h => h) (Or.inl ⟨by rfl, ?_⟩) ?_ ?_
            rotate_left
            ·intro w'
             go_simp
             with_reducible rfl
            rotate_left
            ·simp only [Act.put, zsa, zsz, zss, i64_w, i32_w]
             rfl
            refine pure_ (i := 9) (N := some 93) (v := ?_) (a' := ?_) #[true, true, true, true, true, true, false, true, true, true, false, false, false, false, false, false] rfl rfl (any_of HT_.out (by kernel_rfl)) (fun _ _ _ h => h) (Or.inl ⟨by rfl, ?_⟩) ?_ ?_
            rotate_left
            ·intro w'
             go_simp
             with_reducible rfl
            rotate_left
            ·simp only [Act.put, zsa, zsz, zss, i64_w, i32_w]
             rfl
            refine pure_ (i := 10) (N := some 94) (v := ?_) (a' := ?_) #[true, true, true, true, true, true, false, true, true, true, true, false, false, false, false, false] rfl rfl (any_of HT_.out (by kernel_rfl)) (fun _ _ _ h => h) (Or.inl ⟨by rfl, ?_⟩) ?_ ?_
            rotate_left
            ·intro w'
             go_simp
             with_reducible rfl
            rotate_left
            ·simp only [Act.put, zsa, zsz, zss, i64_w, i32_w]
             rfl
            refine take_ (i := 6) (N := some 90) (v := ?_) (a' := ?_) #[true, true, true, true, true, true, true, true, true, true, true, false, false, false, false, false] rfl rfl (take_ofW HT_.out HW_.out (by kernel_rfl)) (fun _ _ _ h => h) (Or.inl ⟨by rfl, ?_⟩) hHeld ?_ ?_
            rotate_left
            ·rintro w' ⟨s0, s1, s2, s3⟩
             go_simp
             with_reducible rfl
            rotate_left
            ·simp only [Act.put, zsa, zsz, zss, i64_w, i32_w]
             rfl
            refine take_ (i := 11) (N := some 95) (v := ?_) (a' := ?_) #[true, true, true, true, true, true, true, true, true, true, true, true, false, false, false, false] rfl rfl (take_ofW HT_.out HW_.out (by kernel_rfl)) (fun _ _ _ h => h) (Or.inl ⟨by rfl, ?_⟩) hHeld ?_ ?_
            rotate_left
            ·rintro w' ⟨s0, s1, s2, s3⟩
             go_simp
             with_reducible rfl
            rotate_left
            ·simp only [Act.put, zsa, zsz, zss, i64_w, i32_w]
             rfl
            refine pure_ (i := 12) (N := some 96) (v := ?_) (a' := ?_) #[true, true, true, true, true, true, true, true, true, true, true, true, true, false, false, false] rfl rfl (any_of HT_.out (by kernel_rfl)) (fun _ _ _ h => h) (Or.inl ⟨by rfl, ?_⟩) ?_ ?_
            rotate_left
            ·intro w'
             go_simp
             with_reducible rfl
            rotate_left
            ·simp only [Act.put, zsa, zsz, zss, i64_w, i32_w]
             rfl
            refine pure_ (i := 13) (N := some 97) (v := ?_) (a' := ?_) #[true, true, true, true, true, true, true, true, true, true, true, true, true, true, false, false] rfl rfl (any_of HT_.out (by kernel_rfl)) (fun _ _ _ h => h) (Or.inl ⟨by rfl, ?_⟩) ?_ ?_
            rotate_left
            ·intro w'
             go_simp
             with_reducible rfl
            rotate_left
            ·simp only [Act.put, zsa, zsz, zss, i64_w, i32_w]
             rfl
            refine pure_ (i := 14) (N := some 98) (v := ?_) (a' := ?_) #[true, true, true, true, true, true, true, true, true, true, true, true, true, true, true, false] rfl rfl (any_of HT_.out (by kernel_rfl)) (fun _ _ _ h => h) (Or.inl ⟨by rfl, ?_⟩) ?_ ?_
            rotate_left
            ·intro w'
             go_simp
             with_reducible rfl
            rotate_left
            ·simp only [Act.put, zsa, zsz, zss, i64_w, i32_w]
             rfl
            refine pure_ (i := 15) (N := some 23) (v := ?_) (a' := ?_) #[true, true, true, true, true, true, true, true, true, true, true, true, true, true, true, true] rfl rfl (any_of HT_.out (by kernel_rfl)) (fun _ _ _ h => h) (Or.inl ⟨by rfl, ?_⟩) ?_ ?_
            rotate_left
            ·intro w'
             go_simp
             with_reducible rfl
            rotate_left
            ·simp only [Act.put, zsa, zsz, zss, i64_w, i32_w]
             rfl
            refine done_ (done_of HT_.out (by kernel_rfl)) ?_
            try go_wp2
            have n0_ := zam (zRd HO_16.out)
            have n1_ := zam (zRd HO_21.out)
            have n2_ := zam (zkd BK101.out)
            have n3_ := zam (zkd BK102.out)
            have n4_ := zam (zkd BK103.out)
            have n5_ := zam (zkd BK104.out)
            have n6_ := zam (zb1 HB.out)
            clear HO_16
            clear HO_21
            clear BK101
            clear BK102
            clear BK103
            clear BK104
            clear HB
            have HO_16 := n0_
            have HO_21 := n1_
            have BK101 := n2_
            have BK102 := n3_
            have BK103 := n4_
            have BK104 := n5_
            have HB := n6_
            clear n0_ n1_ n2_ n3_ n4_ n5_ n6_
            have p120 : 0 ≤ (x22_3 : Int) := zod zq9
            have q120 : x22_3 < (l1.length : Int) := zod zq9
            obtain ⟨ad120, e120, hx120_0, hx120_1⟩ := at_T24 HR1.out x22_3 p120 q120
            have hw120_1 := hx120_1
            have hw120_0 := hx120_0
            obtain rfl : ad118 = ad120 := (by injection e120)
            replace hx120_0 := (HB.out.cell (zwb w _ hx120_0)).trans hx120_0
            replace hx120_1 := (HB.out.cell (zwb w _ hx120_1)).trans hx120_1
            replace p120 := eq_true p120
            replace q120 := eq_true q120
            have p121 : 0 ≤ (x22_3 : Int) := zod zq9
            have q121 : x22_3 < (l1.length : Int) := zod zq9
            obtain ⟨ad121, e121, hx121_0, hx121_1⟩ := at_T24 HR1.out x22_3 p121 q121
            have hw121_1 := hx121_1
            have hw121_0 := hx121_0
            obtain rfl : ad118 = ad121 := (by injection e121)
            replace hx121_0 := (HB.out.cell (zwb w _ hx121_0)).trans hx121_0
            replace hx121_1 := (HB.out.cell (zwb w _ hx121_1)).trans hx121_1
            replace p121 := eq_true p121
            replace q121 := eq_true q121
            refine start_ (n := 19) (S := fun w' => w'.cell? (ad118.add ((x22_3).toNat * 2)) = some (.int .i64 ((rd_T24 l1 x22_3).f0)) ∧ w'.cell? ⟨(ad118.add ((x22_3).toNat * 2)).block, (ad118.add ((x22_3).toNat * 2)).off + 1, none⟩ = some (.int .i64 ((rd_T24 l1 x22_3).f1)) ∧ w'.cell? (ad118.add ((x22_3).toNat * 2)) = some (.int .i64 ((rd_T24 l1 x22_3).f0)) ∧ w'.cell? ⟨(ad118.add ((x22_3).toNat * 2)).block, (ad118.add ((x22_3).toNat * 2)).off + 1, none⟩ = some (.int .i64 ((rd_T24 l1 x22_3).f1))) (ds := []) #[false, false, false, false, false, false, false, false, false, false, false, false, false, false, false, false, false, false, false] (by kernel_rfl) rfl rfl ⟨((HB.out.cell (zwb w _ hw120_0)).trans hw120_0), ((HB.out.cell (zwb w _ hw120_1)).trans hw120_1), ((HB.out.cell (zwb w _ hw121_0)).trans hw121_0), ((HB.out.cell (zwb w _ hw121_1)).trans hw121_1)⟩ (fun hHeld => ?_); refine with_tabW isobathlaw07_SoundNearer.tab20 isobathlaw07_SoundNearer.bits20 (fun HT_ HW_ => ?_)
            generalize w56.drew = w57 at HO_16 HO_21 BK101 BK102 BK103 BK104 HB hx120_0 hx120_1 hx121_0 hx121_1 hHeld ⊢
            refine pure_ (i := 0) (N := some 99) (v := ?_) (a' := ?_) #[true, false, false, false, false, false, false, false, false, false, false, false, false, false, false, false, false, false, false] rfl rfl (any_of HT_.out (by kernel_rfl)) (fun _ _ _ h => h) (Or.inl ⟨by rfl, ?_⟩) ?_ ?_
            rotate_left
            ·intro w'
             go_simp
             with_reducible rfl
            rotate_left
            ·simp only [Act.put, zsa, zsz, zss, i64_w, i32_w]
             rfl
            refine pure_ (i := 1) (N := some 100) (v := ?_) (a' := ?_) #[true, true, false, false, false, false, false, false, false, false, false, false, false, false, false, false, false, false, false] rfl rfl (any_of HT_.out (by kernel_rfl)) (fun _ _ _ h => h) (Or.inl ⟨by rfl, ?_⟩) ?_ ?_
            rotate_left
            ·intro w'
             go_simp
             with_reducible rfl
            rotate_left
            ·simp only [Act.put, zsa, zsz, zss, i64_w, i32_w]
             rfl
            refine pure_ (i := 2) (N := some 101) (v := ?_) (a' := ?_) #[true, true, true, false, false, false, false, false, false, false, false, false, false, false, false, false, false, false, false] rfl rfl (any_of HT_.out (by kernel_rfl)) (fun _ _ _ h => h) (Or.inl ⟨by rfl, ?_⟩) ?_ ?_
            rotate_left
            ·intro w'
             go_simp
             with_reducible rfl
            rotate_left
            ·simp only [Act.put, zsa, zsz, zss, i64_w, i32_w]
             rfl
            refine pure_ (i := 3) (N := some 102) (v := ?_) (a' := ?_) #[true, true, true, true, false, false, false, false, false, false, false, false, false, false, false, false, false, false, false] rfl rfl (any_of HT_.out (by kernel_rfl)) (fun _ _ _ h => h) (Or.inl ⟨by rfl, ?_⟩) ?_ ?_
            rotate_left
            ·intro w'
             go_simp
             with_reducible rfl
            rotate_left
            ·simp only [Act.put, zsa, zsz, zss, i64_w, i32_w]
             rfl
            refine pure_ (i := 4) (N := some 103) (v := ?_) (a' := ?_) #[true, true, true, true, true, false, false, false, false, false, false, false, false, false, false, false, false, false, false] rfl rfl (any_of HT_.out (by kernel_rfl)) (fun _ _ _ h => h) (Or.inl ⟨by rfl, ?_⟩) ?_ ?_
            rotate_left
            ·intro w'
             go_simp
             with_reducible rfl
            rotate_left
            ·simp only [Act.put, zsa, zsz, zss, i64_w, i32_w]
             rfl
            refine pure_ (i := 6) (N := some 105) (v := ?_) (a' := ?_) #[true, true, true, true, true, false, true, false, false, false, false, false, false, false, false, false, false, false, false] rfl rfl (any_of HT_.out (by kernel_rfl)) (fun _ _ _ h => h) (Or.inl ⟨by rfl, ?_⟩) ?_ ?_
            rotate_left
            ·intro w'
             go_simp
             with_reducible rfl
            rotate_left
            ·simp only [Act.put, zsa, zsz, zss, i64_w, i32_w]
             rfl
            refine pure_ (i := 8) (N := some 107) (v := ?_) (a' := ?_) #[true, true, true, true, true, false, true, false, true, false, false, false, false, false, false, false, false, false, false] rfl rfl (any_of HT_.out (by kernel_rfl)) (fun _ _ _ h => h) (Or.inl ⟨by rfl, ?_⟩) ?_ ?_
            rotate_left
            ·intro w'
             go_simp
             with_reducible rfl
            rotate_left
            ·simp only [Act.put, zsa, zsz, zss, i64_w, i32_w]
             rfl
            refine pure_ (i := 9) (N := some 108) (v := ?_) (a' := ?_) #[true, true, true, true, true, false, true, false, true, true, false, false, false, false, false, false, false, false, false] rfl rfl (any_of HT_.out (by kernel_rfl)) (fun _ _ _ h => h) (Or.inl ⟨by rfl, ?_⟩) ?_ ?_
            rotate_left
            ·intro w'
             go_simp
             with_reducible rfl
            rotate_left
            ·simp only [Act.put, zsa, zsz, zss, i64_w, i32_w]
             rfl
            refine pure_ (i := 10) (N := some 109) (v := ?_) (a' := ?_) #[true, true, true, true, true, false, true, false, true, true, true, false, false, false, false, false, false, false, false] rfl rfl (any_of HT_.out (by kernel_rfl)) (fun _ _ _ h => h) (Or.inl ⟨by rfl, ?_⟩) ?_ ?_
            rotate_left
            ·intro w'
             go_simp
             with_reducible rfl
            rotate_left
            ·simp only [Act.put, zsa, zsz, zss, i64_w, i32_w]
             rfl
            refine pure_ (i := 11) (N := some 110) (v := ?_) (a' := ?_) #[true, true, true, true, true, false, true, false, true, true, true, true, false, false, false, false, false, false, false] rfl rfl (any_of HT_.out (by kernel_rfl)) (fun _ _ _ h => h) (Or.inl ⟨by rfl, ?_⟩) ?_ ?_
            rotate_left
            ·intro w'
             go_simp
             with_reducible rfl
            rotate_left
            ·simp only [Act.put, zsa, zsz, zss, i64_w, i32_w]
             rfl
            refine pure_ (i := 13) (N := some 112) (v := ?_) (a' := ?_) #[true, true, true, true, true, false, true, false, true, true, true, true, false, true, false, false, false, false, false] rfl rfl (any_of HT_.out (by kernel_rfl)) (fun _ _ _ h => h) (Or.inl ⟨by rfl, ?_⟩) ?_ ?_
            rotate_left
            ·intro w'
             go_simp
             with_reducible rfl
            rotate_left
            ·simp only [Act.put, zsa, zsz, zss, i64_w, i32_w]
             rfl
            refine take_ (i := 5) (N := some 104) (v := ?_) (a' := ?_) #[true, true, true, true, true, true, true, false, true, true, true, true, false, true, false, false, false, false, false] rfl rfl (take_ofW HT_.out HW_.out (by kernel_rfl)) (fun _ _ _ h => h) (Or.inl ⟨by rfl, ?_⟩) hHeld ?_ ?_
            rotate_left
            ·rintro w' ⟨s0, s1, s2, s3⟩
             go_simp
             with_reducible rfl
            rotate_left
            ·simp only [Act.put, zsa, zsz, zss, i64_w, i32_w]
             rfl
            refine pure_ (i := 7) (N := some 106) (v := ?_) (a' := ?_) #[true, true, true, true, true, true, true, true, true, true, true, true, false, true, false, false, false, false, false] rfl rfl (any_of HT_.out (by kernel_rfl)) (fun _ _ _ h => h) (Or.inl ⟨by rfl, ?_⟩) ?_ ?_
            rotate_left
            ·intro w'
             go_simp
             with_reducible rfl
            rotate_left
            ·simp only [Act.put, zsa, zsz, zss, i64_w, i32_w]
             rfl
            refine take_ (i := 12) (N := some 111) (v := ?_) (a' := ?_) #[true, true, true, true, true, true, true, true, true, true, true, true, true, true, false, false, false, false, false] rfl rfl (take_ofW HT_.out HW_.out (by kernel_rfl)) (fun _ _ _ h => h) (Or.inl ⟨by rfl, ?_⟩) hHeld ?_ ?_
            rotate_left
            ·rintro w' ⟨s0, s1, s2, s3⟩
             go_simp
             with_reducible rfl
            rotate_left
            ·simp only [Act.put, zsa, zsz, zss, i64_w, i32_w]
             rfl
            refine pure_ (i := 14) (N := some 113) (v := ?_) (a' := ?_) #[true, true, true, true, true, true, true, true, true, true, true, true, true, true, true, false, false, false, false] rfl rfl (any_of HT_.out (by kernel_rfl)) (fun _ _ _ h => h) (Or.inl ⟨by rfl, ?_⟩) ?_ ?_
            rotate_left
            ·intro w'
             go_simp
             with_reducible rfl
            rotate_left
            ·simp only [Act.put, zsa, zsz, zss, i64_w, i32_w]
             rfl
            refine pure_ (i := 15) (N := some 114) (v := ?_) (a' := ?_) #[true, true, true, true, true, true, true, true, true, true, true, true, true, true, true, true, false, false, false] rfl rfl (any_of HT_.out (by kernel_rfl)) (fun _ _ _ h => h) (Or.inl ⟨by rfl, ?_⟩) ?_ ?_
            rotate_left
            ·intro w'
             go_simp
             with_reducible rfl
            rotate_left
            ·simp only [Act.put, zsa, zsz, zss, i64_w, i32_w]
             rfl
            refine one_ (i := 16) (N := some 115) #[true, true, true, true, true, true, true, true, true, true, true, true, true, true, true, true, true, false, false] rfl rfl (one_of HT_.out (by kernel_rfl)) (by decide) (fun K hK => ?_)
            refine Kd.R_lit_step k24 _ 24 ?hg (N := 115) ?hd (xs := ([(⟨wrap64 (((rd_T24 l1 x22_3).f0) + (ji54)), wrap64 (((rd_T24 l1 x22_3).f1) - (ji54))⟩ : S24)] : List (S24))) (inner := [.int .i64 (wrap64 (((rd_T24 l1 x22_3).f0) + (ji54))), .int .i64 (wrap64 (((rd_T24 l1 x22_3).f1) - (ji54)))]) (ok := fun _ => True) (okp := fun _ => True) ?hr ?hp (fun _ hk => hk) trivial (Below.refl _ _) (Nat.le_refl _) (by simp) ?_; (case hd => rfl); (case hg => rfl); (case hr => first | (go_simp; done) | (go_simp; rfl)); (case hp => exact (Reps.c2 (show Kd.M k24 _ _ _ (⟨wrap64 (((rd_T24 l1 x22_3).f0) + (ji54)), wrap64 (((rd_T24 l1 x22_3).f1) - (ji54))⟩ : S24) [.int .i64 (wrap64 (((rd_T24 l1 x22_3).f0) + (ji54))), .int .i64 (wrap64 (((rd_T24 l1 x22_3).f1) - (ji54)))] from (k24_mkM _ _ _ (⟨wrap64 (((rd_T24 l1 x22_3).f0) + (ji54)), wrap64 (((rd_T24 l1 x22_3).f1) - (ji54))⟩ : S24) )) (Reps.none _ _)))
            intro v123 w58 ho59 hb hg_ hnew_
            clear hg_ hnew_
            (first | rw [← Ny122.out] at ho59 | (simp only [Int.reduceToNat] at ho59; rw [← Ny122.out] at ho59))
            have n0_ := zam (Kd.R_below zq12 hb)
            have n1_ := zam (Kd.R_elder' (by (with_reducible repeat (first | apply zRa | apply zRn | apply zRd)); exact HO_21.out) (Kd.R_base ho59) hb)
            have n2_ := zam (Kd.R_lower (Kd.R_newB (Kd.R_new' ho59 (Kd.R_lt (by (with_reducible repeat (first | apply zRa | apply zRn | apply zRd)); exact HO_21.out))) (g := gb104) (o := .cells #[.int .i64 a6_0, .int .i64 a6_1] 24 (0, 0)) zq7) (zbz zq8))
            have n3_ := zam (zkb (g := gb101) (o := .cells #[.slice A0_0 l0_0.length c0_0, .int .i64 a0_1, .int .i64 a0_2] 26 (0, 0)) zq0 hb)
            have n4_ := zam (zkb (g := gb102) (o := .cells #[.int .i64 a2_0, .int .i64 a2_1, .int .i64 a2_2, .int .i64 a2_3] 29 (0, 0)) zq4 hb)
            have n5_ := zam (zkb (g := gb103) (o := .cells #[.int .i64 a5_0, .int .i64 a5_1, .int .i64 a5_2, .int .i64 a5_3] 29 (0, 0)) zq6 hb)
            have n6_ := zam (zkb (g := gb104) (o := .cells #[.int .i64 a6_0, .int .i64 a6_1] 24 (0, 0)) zq7 hb)
            have n7_ := zam (zbt zq8 hb)
            clear HO_16
            clear HO_21
            clear BK101
            clear BK102
            clear BK103
            clear BK104
            clear HB
            have HO_16 := n0_
            have HO_21 := n1_
            have HO124 := n2_
            have BK101 := n3_
            have BK102 := n4_
            have BK103 := n5_
            have BK104 := n6_
            have HB := n7_
            clear n0_ n1_ n2_ n3_ n4_ n5_ n6_ n7_
            clear hb ho59
            obtain ⟨Ao61, co61, eo61⟩ := Kd.R_slice HO124.out
            (first | subst eo61 | (injection eo61 with f1_ f2_ f3_; have f4_ := f1_.symm; have f5_ := f3_.symm; clear f1_ f2_ f3_; subst f4_; subst f5_))
            refine hK.out _ _ ⟨((HB.out.cell (zwb w _ hw120_0)).trans hw120_0), ((HB.out.cell (zwb w _ hw120_1)).trans hw120_1), ((HB.out.cell (zwb w _ hw121_0)).trans hw121_0), ((HB.out.cell (zwb w _ hw121_1)).trans hw121_1)⟩ (fun hHeld => ?_)
            clear hK K
            refine norm_ (a' := ?_) ?_ ?_
            rotate_left
            ·show Act.put _ (some 115) _ = _
             simp only [Act.put, zsa, zsz, zss, i64_w, i32_w]
             rfl
            refine one_ (i := 17) (N := some 116) #[true, true, true, true, true, true, true, true, true, true, true, true, true, true, true, true, true, true, false] rfl rfl (one_of HT_.out (by kernel_rfl)) (by decide) (fun K hK => ?_)
            refine Kd.R_append_rows_step k24 (w0 := w) w.heap.size (by rfl) (.tmp 99) (.tmp 115) 27 24 (.agg #[(.int .i64 0), (.int .i64 0)]) 16 rfl Try.underlying27 info24 rfl (by decide) (by omega) u21 x21_3 y122 _ _ _ (fun k_ => some k_ ≠ (.slice Ao61 y122.length co61 : Value).ownBlock ∧ k_ ≠ gb104) (fun _ => False) rfl rfl ?aO ?aR (fun _ _ h => h) (fun _ h => h.elim) ?aF ?aB ?aS ?aL ?_
            (case aR => repeat (first | exact (Kd.R_reads' HO124.out).2.2 | (with_reducible refine Kd.C_alloc ?_ _) | (with_reducible refine Kd.C_drewN ?_ _) | (with_reducible refine Kd.C_drew ?_)))
            (case aB => exact zq8)
            (case aF => exact (fun k_ hk => ⟨Kd.fresh' (Kd.R_lt (by (with_reducible repeat (first | apply zRa | apply zRn | apply zRd)); exact HO124.out)) k_ hk, Kd.freshB (g := gb104) (o := .cells #[.int .i64 a6_0, .int .i64 a6_1] 24 (0, 0)) zq7 k_ hk⟩))
            (case aO => exact (by (with_reducible repeat (first | apply zRa | apply zRn | apply zRd)); exact Kd.R_mono HO_21.out (fun _ hk => ⟨hk.2, hk.1⟩)))
            (case aS => exact (zbz zq8))
            (case aL => have := LMc55.out; omega)
            intro v126 w60 ho hb hg hat
            rw [← Ny125.out] at ho
            have n0_ := zam (Kd.R_over' zq12 (Kd.R_typed (by (with_reducible repeat (first | apply zRa | apply zRn | apply zRd)); exact HO_21.out)) (by decide) hg)
            have n1_ := zam (zkg (g := gb101) (o := .cells #[.slice A0_0 l0_0.length c0_0, .int .i64 a0_1, .int .i64 a0_2] 26 (0, 0)) zq0 hg (Kd.R_ne HO_21.out BK101.out (by decide)))
            have n2_ := zam (zkg (g := gb102) (o := .cells #[.int .i64 a2_0, .int .i64 a2_1, .int .i64 a2_2, .int .i64 a2_3] 29 (0, 0)) zq4 hg (Kd.R_ne HO_21.out BK102.out (by decide)))
            have n3_ := zam (zkg (g := gb103) (o := .cells #[.int .i64 a5_0, .int .i64 a5_1, .int .i64 a5_2, .int .i64 a5_3] 29 (0, 0)) zq6 hg (Kd.R_ne HO_21.out BK103.out (by decide)))
            have n4_ := zam (zkg (g := gb104) (o := .cells #[.int .i64 a6_0, .int .i64 a6_1] 24 (0, 0)) zq7 hg (Kd.R_away HO_21.out (fun _ hk => hk.1)))
            have n5_ := zam (Kd.R_after (ok := (fun k_ => k_ ≠ gb104)) (by (with_reducible repeat (first | apply zRa | apply zRn | apply zRd)); exact Kd.R_mono HO124.out (fun _ hk => ⟨hk.2, hk.1.2⟩)) hg hat)
            have n6_ := zam (hb)
            have n7_ := zam (ho)
            clear HO_16
            clear BK101
            clear BK102
            clear BK103
            clear BK104
            clear HO124
            clear HB
            clear HO_21
            have HO_16 := n0_
            have BK101 := n1_
            have BK102 := n2_
            have BK103 := n3_
            have BK104 := n4_
            have HO124 := n5_
            have HB := n6_
            have HO127 := n7_
            clear n0_ n1_ n2_ n3_ n4_ n5_ n6_ n7_
            clear ho hb hg hat
            refine hK.out _ _ ⟨((HB.out.cell (zwb w _ hw120_0)).trans hw120_0), ((HB.out.cell (zwb w _ hw120_1)).trans hw120_1), ((HB.out.cell (zwb w _ hw121_0)).trans hw121_0), ((HB.out.cell (zwb w _ hw121_1)).trans hw121_1)⟩ (fun hHeld => ?_)
            clear hK K
            refine norm_ (a' := ?_) ?_ ?_
            rotate_left
            ·show Act.put _ (some 116) _ = _
             simp only [Act.put, zsa, zsz, zss, i64_w, i32_w]
             rfl
            refine pure_ (i := 18) (N := some 21) (v := ?_) (a' := ?_) #[true, true, true, true, true, true, true, true, true, true, true, true, true, true, true, true, true, true, true] rfl rfl (any_of HT_.out (by kernel_rfl)) (fun _ _ _ h => h) (Or.inl ⟨by rfl, ?_⟩) ?_ ?_
            rotate_left
            ·intro w'
             go_simp
             with_reducible rfl
            rotate_left
            ·simp only [Act.put, zsa, zsz, zss, i64_w, i32_w]
             rfl
            refine done_ (done_of HT_.out (by kernel_rfl)) ?_
            try go_wp2
            go_roundg k3
            case measure => have := HJ7.out; have := HK2.out; have := HK3.out; omega
            case rel => exact ⟨(y125), (wrap64 (x22_3 + 1)), zq10, H', ⟨by have := HJ7.out; have := HK2.out; have := HK3.out; omega⟩, ⟨by (with_reducible repeat (first | apply zRa | apply zRn | apply zRd)); exact HO_16.out⟩, ⟨by (with_reducible repeat (first | apply zRa | apply zRn | apply zRd)); exact Kd.R_mono HO127.out (fun _ hk => hk.2)⟩, ⟨by (with_reducible repeat (first | refine zkn ?_ _ | refine zkd ?_ | refine zka ?_ _)); exact BK101.out⟩, ⟨by (with_reducible repeat (first | refine zkn ?_ _ | refine zkd ?_ | refine zka ?_ _)); exact BK102.out⟩, ⟨by (with_reducible repeat (first | refine zkn ?_ _ | refine zkd ?_ | refine zka ?_ _)); exact BK103.out⟩, ⟨by (with_reducible repeat (first | refine zkn ?_ _ | refine zkd ?_ | refine zka ?_ _)); exact BK104.out⟩, ⟨by repeat (first | (with_reducible first | exact HB.out | apply zba | apply zbn | apply zb1 | refine zbs ?_ GE101.out | refine zbs ?_ GE102.out | refine zbs ?_ GE103.out | refine zbs ?_ GE104.out) | exact HB.out)⟩⟩
           rw [if_neg c55] at H
           exact absurd H (by simp)
          rw [if_neg c53] at H
          exact absurd H (by simp)
         rw [if_neg c52] at H
         have c52b0 : decide (x22_3 < (l1.length : Int)) = false := zdf c52
         clear c52
         replace H := Option.bind_eq_some_iff.mp H
         obtain ⟨⟨t128, t131⟩, A620, H⟩ := H
         replace H : (if t131 = 0 then (isobathlaw07_SoundNearer.l2 k3 l1 (wrap64 ((Int.tmod (wrap64 (a3)) 4) + 1)) t107 t128 0 l0_0 a0_1 a0_2 a2_0 a2_1 a2_2 a2_3 a5_0 a5_1 a5_2 a5_3 a6_0 a6_1) else (none)) = some r := H
         have A62 := zam A620
         clear A620
         by_cases c63 : t131 = 0
         ·rw [if_pos c63] at H
          have c63b0 : (t131 == 0) = true := beq_iff_eq.mpr c63
          have c63b1 : (t131 != 0) = false := bne_eq_false_iff_eq.mpr c63
          clear c63
          have H' := zam H
          clear H
          have hnb64 := NB101_102.out
          have hnc64 := NB102_101.out
          have hnb65 := NB101_103.out
          have hnc65 := NB103_101.out
          have hnb66 := NB101_104.out
          have hnc66 := NB104_101.out
          have hcz67_0 : wr.cell? ⟨gb101, 0, none⟩ = some (.slice A0_0 l0_0.length c0_0) := (zkc BK101.out 0).trans rfl
          have hcz67_1 : wr.cell? ⟨gb101, 1, none⟩ = some (.int .i64 a0_1) := (zkc BK101.out 1).trans rfl
          have hcz67_2 : wr.cell? ⟨gb101, 2, none⟩ = some (.int .i64 a0_2) := (zkc BK101.out 2).trans rfl
          have hfz67_0 := zkz BK101.out 0
          have hfz67_1 := zkz BK101.out 1
          have hfz67_2 := zkz BK101.out 2
          have hnb68 := NB102_103.out
          have hnc68 := NB103_102.out
          have hnb69 := NB102_104.out
          have hnc69 := NB104_102.out
          have hcz70_0 : wr.cell? ⟨gb102, 0, none⟩ = some (.int .i64 a2_0) := (zkc BK102.out 0).trans rfl
          have hcz70_1 : wr.cell? ⟨gb102, 1, none⟩ = some (.int .i64 a2_1) := (zkc BK102.out 1).trans rfl
          have hcz70_2 : wr.cell? ⟨gb102, 2, none⟩ = some (.int .i64 a2_2) := (zkc BK102.out 2).trans rfl
          have hcz70_3 : wr.cell? ⟨gb102, 3, none⟩ = some (.int .i64 a2_3) := (zkc BK102.out 3).trans rfl
          have hfz70_0 := zkz BK102.out 0
          have hfz70_1 := zkz BK102.out 1
          have hfz70_2 := zkz BK102.out 2
          have hfz70_3 := zkz BK102.out 3
          obtain ⟨Ao71, co71, eo71⟩ := Kd.R_slice HO_21.out
          subst eo71
          go_wp2_with (first | ((with_reducible refine zgc (f := 15) rfl ?_); refine goesL_ (some 122) rfl rfl Try.func15 (by kernel_rfl) rfl #[.agg #[.slice A0_0 l0_0.length c0_0, .int .i64 a0_1, .int .i64 a0_2], .slice Ao71 x21_3.length co71, .agg #[.int .i64 a2_0, .int .i64 a2_1, .int .i64 a2_2, .int .i64 a2_3], .int .i64 (wrap64 ((Int.tmod (wrap64 (a3)) 4) + 1))] rfl zq5 ?_; (with_reducible refine (sound_Region.calls k3 _ _ l0_0 a0_1 a0_2 _ _ x21_3 a2_0 a2_1 a2_2 a2_3 (wrap64 ((Int.tmod (wrap64 (a3)) 4) + 1)) t128 t131 _ ?side1 ?side2 ?side3 ?side4 A62.out).mono ?_); (case side1 => repeat (first | exact (Kd.C_below HR0_0.out HB.out) | (with_reducible refine Kd.C_alloc ?_ _) | (with_reducible refine Kd.C_drewN ?_ _) | (with_reducible refine Kd.C_drew ?_))); (case side2 => exact HC0_0.out); (case side3 => repeat (first | exact (Kd.R_reads' HO_21.out).2.2 | (with_reducible refine Kd.C_alloc ?_ _) | (with_reducible refine Kd.C_drewN ?_ _) | (with_reducible refine Kd.C_drew ?_))); (case side4 => exact (Kd.R_reads' HO_21.out).2.1); rintro e w72 ⟨v129, rfl, ho0, hb⟩; refine ⟨_, rfl, ?_⟩; have n0_ := zam (Kd.R_elder' zq12 (Kd.R_base ho0) hb); have n1_ := zam (Kd.R_below (by (with_reducible repeat (first | apply zRa | apply zRn | apply zRd)); exact HO_21.out) hb); have n2_ := zam (Kd.R_lower (Kd.R_newB (Kd.R_newB (Kd.R_new' ho0 (Kd.R_lt zq12)) (g := gb102) (o := .cells #[.int .i64 a2_0, .int .i64 a2_1, .int .i64 a2_2, .int .i64 a2_3] 29 (0, 0)) zq4) (g := gb103) (o := .cells #[.int .i64 a5_0, .int .i64 a5_1, .int .i64 a5_2, .int .i64 a5_3] 29 (0, 0)) zq6) (zbz zq8)); have n3_ := zam (zkb (g := gb101) (o := .cells #[.slice A0_0 l0_0.length c0_0, .int .i64 a0_1, .int .i64 a0_2] 26 (0, 0)) zq0 hb); have n4_ := zam (zkb (g := gb102) (o := .cells #[.int .i64 a2_0, .int .i64 a2_1, .int .i64 a2_2, .int .i64 a2_3] 29 (0, 0)) zq4 hb); have n5_ := zam (zkb (g := gb103) (o := .cells #[.int .i64 a5_0, .int .i64 a5_1, .int .i64 a5_2, .int .i64 a5_3] 29 (0, 0)) zq6 hb); have n6_ := zam (zkb (g := gb104) (o := .cells #[.int .i64 a6_0, .int .i64 a6_1] 24 (0, 0)) zq7 hb); have n7_ := zam (zbt zq8 hb); clear HO_16; clear HO_21; clear BK101; clear BK102; clear BK103; clear BK104; clear HB; have HO_16 := n0_; have HO_21 := n1_; have HO130 := n2_; have BK101 := n3_; have BK102 := n4_; have BK103 := n5_; have BK104 := n6_; have HB := n7_; clear n0_ n1_ n2_ n3_ n4_ n5_ n6_ n7_; (try clear hb); (try clear hb2); (try clear hk); (try clear hi); (try clear ho0)))
          go_loopg [25] k3 (fun kq v25 w' => ∃ (x25_4 : Int), v25 = .int .i64 x25_4 ∧ Aside0 (isobathlaw07_SoundNearer.l2 kq l1 (wrap64 ((Int.tmod (wrap64 (a3)) 4) + 1)) t107 t128 x25_4 l0_0 a0_1 a0_2 a2_0 a2_1 a2_2 a2_3 a5_0 a5_1 a5_2 a5_3 a6_0 a6_1 = some r) ∧ Aside0 (kq ≤ k3) ∧ Aside0 (Kd.R k29 29 w' w.heap.size (fun k_ => some k_ ≠ (v129 : Value).ownBlock ∧ k_ ≠ gb102 ∧ k_ ≠ gb103) (.slice Ao51 t107.length co51) t107) ∧ Aside0 (Kd.R k29 29 w' w.heap.size (fun k_ => some k_ ≠ ((.slice Ao51 t107.length co51) : Value).ownBlock ∧ k_ ≠ gb102 ∧ k_ ≠ gb103) v129 t128) ∧ Aside0 (w'.heap[gb101]? = some (.cells #[(.slice A0_0 l0_0.length c0_0), .int .i64 a0_1, .int .i64 a0_2] 26 (0, 0))) ∧ Aside0 (w'.heap[gb102]? = some (.cells #[.int .i64 a2_0, .int .i64 a2_1, .int .i64 a2_2, .int .i64 a2_3] 29 (0, 0))) ∧ Aside0 (w'.heap[gb103]? = some (.cells #[.int .i64 a5_0, .int .i64 a5_1, .int .i64 a5_2, .int .i64 a5_3] 29 (0, 0))) ∧ Aside0 (w'.heap[gb104]? = some (.cells #[.int .i64 a6_0, .int .i64 a6_1] 24 (0, 0))) ∧ Aside0 (Below w.heap.size w w'))
          case atStart => exact ⟨(0), zq10, H', ⟨Nat.le_refl _⟩, ⟨by (with_reducible repeat (first | apply zRa | apply zRn | apply zRd)); exact Kd.R_mono HO_16.out (fun _ hk => ⟨hk.2, ⟨hk.1.1, hk.1.2⟩⟩)⟩, ⟨by (with_reducible repeat (first | apply zRa | apply zRn | apply zRd)); exact Kd.R_mono HO130.out (fun _ hk => ⟨hk.1.1.2, ⟨hk.1.2, hk.2⟩⟩)⟩, ⟨by (with_reducible repeat (first | refine zkn ?_ _ | refine zkd ?_ | refine zka ?_ _)); exact BK101.out⟩, ⟨by (with_reducible repeat (first | refine zkn ?_ _ | refine zkd ?_ | refine zka ?_ _)); exact BK102.out⟩, ⟨by (with_reducible repeat (first | refine zkn ?_ _ | refine zkd ?_ | refine zka ?_ _)); exact BK103.out⟩, ⟨by (with_reducible repeat (first | refine zkn ?_ _ | refine zkd ?_ | refine zka ?_ _)); exact BK104.out⟩, ⟨by repeat (first | (with_reducible first | exact HB.out | apply zba | apply zbn | apply zb1 | refine zbs ?_ GE101.out | refine zbs ?_ GE102.out | refine zbs ?_ GE103.out | refine zbs ?_ GE104.out) | exact HB.out)⟩⟩
          case round =>
           clear H'
           try clear c1
           try clear p1
           try clear q1
           try clear hx1
           try clear c2
           try clear p2
           try clear c3
           try clear c4
           try clear c5
           try clear c6
           try clear p6
           try clear p11
           try clear q11
           try clear hx11
           try clear p12
           try clear q12
           try clear hx12
           try clear c15
           try clear c16
           try clear c17
           try clear c20
           try clear c21
           try clear c22
           try clear c26
           try clear c31
           try clear c31b0
           try clear c31b1
           try clear c32
           try clear c32b0
           try clear c32b1
           try clear c33
           try clear c34
           try clear c35
           try clear c37
           try clear c38
           try clear c44
           try clear c44b0
           try clear c45
           try clear c45b0
           try clear c47
           try clear c52
           try clear c52b0
           try clear c53
           try clear c53b0
           try clear c55
           try clear c63
           try clear c63b0
           try clear c63b1
           try clear c64
           try clear p64
           try clear c65
           try clear c66
           try clear c68
           try clear c69
           try clear hcz18_0
           try clear hcz18_1
           try clear hcz18_2
           try clear hcz23_0
           try clear hcz23_1
           try clear hcz23_2
           try clear hcz25_0
           try clear hcz25_1
           try clear hcz25_2
           try clear hcz36_0
           try clear hcz36_1
           try clear hcz36_2
           try clear hcz39_0
           try clear hcz39_1
           try clear hcz39_2
           try clear hcz39_3
           try clear hcz41_0
           try clear hcz41_1
           try clear hcz41_2
           try clear hcz42_0
           try clear hcz42_1
           try clear hcz42_2
           try clear hcz42_3
           try clear hcz67_0
           try clear hcz67_1
           try clear hcz67_2
           try clear hcz70_0
           try clear hcz70_1
           try clear hcz70_2
           try clear hcz70_3
           try clear hfz18_0
           try clear hfz18_1
           try clear hfz18_2
           try clear hfz23_0
           try clear hfz23_1
           try clear hfz23_2
           try clear hfz25_0
           try clear hfz25_1
           try clear hfz25_2
           try clear hfz36_0
           try clear hfz36_1
           try clear hfz36_2
           try clear hfz39_0
           try clear hfz39_1
           try clear hfz39_2
           try clear hfz39_3
           try clear hfz41_0
           try clear hfz41_1
           try clear hfz41_2
           try clear hfz42_0
           try clear hfz42_1
           try clear hfz42_2
           try clear hfz42_3
           try clear hfz67_0
           try clear hfz67_1
           try clear hfz67_2
           try clear hfz70_0
           try clear hfz70_1
           try clear hfz70_2
           try clear hfz70_3
           try clear hx116_0
           try clear hx116_1
           try clear hx116_2
           try clear hx116_3
           try clear hx118_0
           try clear hx118_1
           try clear hx119_0
           try clear hx119_1
           try clear hx120_0
           try clear hx120_1
           try clear hx121_0
           try clear hx121_1
           try clear p116
           try clear p118
           try clear p119
           try clear p120
           try clear p121
           try clear p2
           try clear p6
           try clear q116
           try clear q118
           try clear q119
           try clear q120
           try clear q121
           obtain ⟨x25_4, rfl, HA, HK4, HO_16, HO_24, BK101, BK102, BK103, BK104, HB⟩ := hrel
           cases gk with
           | zero => exact absurd HA.out (by simp [isobathlaw07_SoundNearer.l2])
           | succ k4 =>
            have H := HA.out
            clear HA
            simp only [isobathlaw07_SoundNearer.l2] at H
            by_cases c73 : x25_4 < (t128.length : Int)
            ·rw [if_pos c73] at H
             have c73b0 : decide (x25_4 < (t128.length : Int)) = true := zdt c73
             clear c73
             by_cases c74 : 0 ≤ x25_4
             ·rw [if_pos c74] at H
              have c74b0 : decide (0 ≤ x25_4) = true := zdt c74
              clear c74
              replace H := Option.bind_eq_some_iff.mp H
              obtain ⟨t133, A750, H⟩ := H
              replace H : (if t133 = true then (isobathlaw07_SoundNearer.l2 k4 l1 (wrap64 ((Int.tmod (wrap64 (a3)) 4) + 1)) t107 t128 (wrap64 (x25_4 + 1)) l0_0 a0_1 a0_2 a2_0 a2_1 a2_2 a2_3 a5_0 a5_1 a5_2 a5_3 a6_0 a6_1) else (none)) = some r := H
              have A75 := zam A750
              clear A750
              by_cases c76 : t133 = true
              ·subst c76
               have H1 : (isobathlaw07_SoundNearer.l2 k4 l1 (wrap64 ((Int.tmod (wrap64 (a3)) 4) + 1)) t107 t128 (wrap64 (x25_4 + 1)) l0_0 a0_1 a0_2 a2_0 a2_1 a2_2 a2_3 a5_0 a5_1 a5_2 a5_3 a6_0 a6_1) = some r := by rw [if_pos rfl] at H; exact H
               clear H
               have H := H1
               clear H1
               have H' := zam H
               clear H
               obtain ⟨Ao77, co77, eo77⟩ := Kd.R_slice HO_24.out
               subst eo77
               have p132 : 0 ≤ (x25_4 : Int) := zod zq9
               have q132 : x25_4 < (t128.length : Int) := zod zq9
               obtain ⟨ad132, e132, hx132_0, hx132_1, hx132_2, hx132_3⟩ := at_T29 (Kd.R_reads' HO_24.out).2.2 x25_4 p132 q132
               cases e132
               replace p132 := eq_true p132
               replace q132 := eq_true q132
               go_wp2_with (first | ((with_reducible refine zgc (f := 16) rfl ?_); refine goesL_ (some 138) rfl rfl Try.func16 (by kernel_rfl) rfl #[.agg #[.int .i64 ((rd_T29 t128 x25_4).f0.f0), .int .i64 ((rd_T29 t128 x25_4).f0.f1), .int .i64 ((rd_T29 t128 x25_4).f1.f0), .int .i64 ((rd_T29 t128 x25_4).f1.f1)], .slice Ao51 t107.length co51] rfl zq5 ?_; (with_reducible refine (isobathlaw07_within.calls k4 ((rd_T29 t128 x25_4).f0.f0) ((rd_T29 t128 x25_4).f0.f1) ((rd_T29 t128 x25_4).f1.f0) ((rd_T29 t128 x25_4).f1.f1) _ _ t107 true _ ?side1 ?side2 A75.out).mono ?_); (case side1 => repeat (first | exact (Kd.R_reads' HO_16.out).2.2 | (with_reducible refine Kd.C_alloc ?_ _) | (with_reducible refine Kd.C_drewN ?_ _) | (with_reducible refine Kd.C_drew ?_))); (case side2 => exact (Kd.R_reads' HO_16.out).2.1); rintro e w78 ⟨rfl, hb⟩; refine ⟨_, rfl, ?_⟩; have n0_ := zam (Kd.R_below zq12 hb); have n1_ := zam (Kd.R_below zq14 hb); have n2_ := zam (zkb (g := gb101) (o := .cells #[.slice A0_0 l0_0.length c0_0, .int .i64 a0_1, .int .i64 a0_2] 26 (0, 0)) zq0 hb); have n3_ := zam (zkb (g := gb102) (o := .cells #[.int .i64 a2_0, .int .i64 a2_1, .int .i64 a2_2, .int .i64 a2_3] 29 (0, 0)) zq4 hb); have n4_ := zam (zkb (g := gb103) (o := .cells #[.int .i64 a5_0, .int .i64 a5_1, .int .i64 a5_2, .int .i64 a5_3] 29 (0, 0)) zq6 hb); have n5_ := zam (zkb (g := gb104) (o := .cells #[.int .i64 a6_0, .int .i64 a6_1] 24 (0, 0)) zq7 hb); have n6_ := zam (zbt zq8 hb); clear HO_16; clear HO_24; clear BK101; clear BK102; clear BK103; clear BK104; clear HB; have HO_16 := n0_; have HO_24 := n1_; have BK101 := n2_; have BK102 := n3_; have BK103 := n4_; have BK104 := n5_; have HB := n6_; clear n0_ n1_ n2_ n3_ n4_ n5_ n6_; (try clear hb); (try clear hb2); (try clear hk); (try clear hi)))
               go_roundg k4
               case measure => have := HJ7.out; have := HK2.out; have := HK3.out; have := HK4.out; omega
               case rel => exact ⟨(wrap64 (x25_4 + 1)), zq10, H', ⟨by have := HJ7.out; have := HK2.out; have := HK3.out; have := HK4.out; omega⟩, ⟨by (with_reducible repeat (first | apply zRa | apply zRn | apply zRd)); exact HO_16.out⟩, ⟨by (with_reducible repeat (first | apply zRa | apply zRn | apply zRd)); exact HO_24.out⟩, ⟨by (with_reducible repeat (first | refine zkn ?_ _ | refine zkd ?_ | refine zka ?_ _)); exact BK101.out⟩, ⟨by (with_reducible repeat (first | refine zkn ?_ _ | refine zkd ?_ | refine zka ?_ _)); exact BK102.out⟩, ⟨by (with_reducible repeat (first | refine zkn ?_ _ | refine zkd ?_ | refine zka ?_ _)); exact BK103.out⟩, ⟨by (with_reducible repeat (first | refine zkn ?_ _ | refine zkd ?_ | refine zka ?_ _)); exact BK104.out⟩, ⟨by repeat (first | (with_reducible first | exact HB.out | apply zba | apply zbn | apply zb1 | refine zbs ?_ GE101.out | refine zbs ?_ GE102.out | refine zbs ?_ GE103.out | refine zbs ?_ GE104.out) | exact HB.out)⟩⟩
              replace c76 := Bool.eq_false_iff.mpr c76
              subst c76
              have H1 : (none) = some r := by rw [if_neg (show ¬ (false = true) by decide)] at H; exact H
              clear H
              have H := H1
              clear H1
              exact absurd H (by simp)
             rw [if_neg c74] at H
             exact absurd H (by simp)
            rw [if_neg c73] at H
            have c73b0 : decide (x25_4 < (t128.length : Int)) = false := zdf c73
            clear c73
            obtain ⟨y135, hy135⟩ : ∃ y_ : List (S29), y_ = (([] : List (S29))) := ⟨_, rfl⟩
            replace H : (if y135.length + l0_0.length < 4398046511104 then ((some (y135 ++ l0_0 : List (S29))).bind fun y138 => ((some (([(⟨(⟨a5_0, a5_1⟩ : S24), (⟨a5_2, a5_3⟩ : S24)⟩ : S29)] : List (S29)) : List (S29))).bind fun y141 => (if y138.length + y141.length < 4398046511104 then ((some (([] : List (S24)) : List (S24))).bind fun y147 => (if y147.length + l1.length < 8796093022208 then ((some (y147 ++ l1 : List (S24))).bind fun y150 => ((some (([(⟨a6_0, a6_1⟩ : S24)] : List (S24)) : List (S24))).bind fun y153 => (if y150.length + y153.length < 8796093022208 then ((sound_Region.f k4 (y138 ++ y141) a0_1 a0_2 (y150 ++ y153) a2_0 a2_1 a2_2 a2_3 (wrap64 ((Int.tmod (wrap64 (a3)) 4) + 1))).bind fun bt159 => (isobathlaw07_SoundNearer.l3 k4 t107 bt159.2 bt159.1 0)) else (none)))) else (none))) else (none)))) else (none)) = some r := by first | (rw [hy135]; with_reducible exact H) | (have H2_ := (Option.bind_some _ _).symm.trans H; rw [hy135]; with_reducible exact H2_) | (have H2_ := (Option.bind_some _ _).symm.trans H; with_reducible exact H2_) | with_reducible exact H | (rw [hy135]; exact H) | exact H
            have Ny135 := zam hy135
            clear hy135
            by_cases c79 : y135.length + l0_0.length < 4398046511104
            ·rw [if_pos c79] at H
             have LMc79 := zam c79
             clear c79
             obtain ⟨y138, hy138⟩ : ∃ y_ : List (S29), y_ = (y135 ++ l0_0) := ⟨_, rfl⟩
             replace H : ((some (([(⟨(⟨a5_0, a5_1⟩ : S24), (⟨a5_2, a5_3⟩ : S24)⟩ : S29)] : List (S29)) : List (S29))).bind fun y141 => (if y138.length + y141.length < 4398046511104 then ((some (([] : List (S24)) : List (S24))).bind fun y147 => (if y147.length + l1.length < 8796093022208 then ((some (y147 ++ l1 : List (S24))).bind fun y150 => ((some (([(⟨a6_0, a6_1⟩ : S24)] : List (S24)) : List (S24))).bind fun y153 => (if y150.length + y153.length < 8796093022208 then ((sound_Region.f k4 (y138 ++ y141) a0_1 a0_2 (y150 ++ y153) a2_0 a2_1 a2_2 a2_3 (wrap64 ((Int.tmod (wrap64 (a3)) 4) + 1))).bind fun bt159 => (isobathlaw07_SoundNearer.l3 k4 t107 bt159.2 bt159.1 0)) else (none)))) else (none))) else (none))) = some r := by first | (rw [hy138]; with_reducible exact H) | (have H2_ := (Option.bind_some _ _).symm.trans H; rw [hy138]; with_reducible exact H2_) | (have H2_ := (Option.bind_some _ _).symm.trans H; with_reducible exact H2_) | with_reducible exact H | (rw [hy138]; exact H) | exact H
             have Ny138 := zam hy138
             clear hy138
             obtain ⟨y141, hy141⟩ : ∃ y_ : List (S29), y_ = (([(⟨(⟨a5_0, a5_1⟩ : S24), (⟨a5_2, a5_3⟩ : S24)⟩ : S29)] : List (S29))) := ⟨_, rfl⟩
             replace H : (if y138.length + y141.length < 4398046511104 then ((some (([] : List (S24)) : List (S24))).bind fun y147 => (if y147.length + l1.length < 8796093022208 then ((some (y147 ++ l1 : List (S24))).bind fun y150 => ((some (([(⟨a6_0, a6_1⟩ : S24)] : List (S24)) : List (S24))).bind fun y153 => (if y150.length + y153.length < 8796093022208 then ((sound_Region.f k4 (y138 ++ y141) a0_1 a0_2 (y150 ++ y153) a2_0 a2_1 a2_2 a2_3 (wrap64 ((Int.tmod (wrap64 (a3)) 4) + 1))).bind fun bt159 => (isobathlaw07_SoundNearer.l3 k4 t107 bt159.2 bt159.1 0)) else (none)))) else (none))) else (none)) = some r := by first | (rw [hy141]; with_reducible exact H) | (have H2_ := (Option.bind_some _ _).symm.trans H; rw [hy141]; with_reducible exact H2_) | (have H2_ := (Option.bind_some _ _).symm.trans H; with_reducible exact H2_) | with_reducible exact H | (rw [hy141]; exact H) | exact H
             have Ny141 := zam hy141
             clear hy141
             by_cases c80 : y138.length + y141.length < 4398046511104
             ·rw [if_pos c80] at H
              have LMc80 := zam c80
              clear c80
              obtain ⟨y144, hy144⟩ : ∃ y_ : List (S29), y_ = (y138 ++ y141) := ⟨_, rfl⟩
              replace H : ((some (([] : List (S24)) : List (S24))).bind fun y147 => (if y147.length + l1.length < 8796093022208 then ((some (y147 ++ l1 : List (S24))).bind fun y150 => ((some (([(⟨a6_0, a6_1⟩ : S24)] : List (S24)) : List (S24))).bind fun y153 => (if y150.length + y153.length < 8796093022208 then ((sound_Region.f k4 y144 a0_1 a0_2 (y150 ++ y153) a2_0 a2_1 a2_2 a2_3 (wrap64 ((Int.tmod (wrap64 (a3)) 4) + 1))).bind fun bt159 => (isobathlaw07_SoundNearer.l3 k4 t107 bt159.2 bt159.1 0)) else (none)))) else (none))) = some r := by first | (rw [hy144]; with_reducible exact H) | (have H2_ := (Option.bind_some _ _).symm.trans H; rw [hy144]; with_reducible exact H2_) | (have H2_ := (Option.bind_some _ _).symm.trans H; with_reducible exact H2_) | with_reducible exact H | (rw [hy144]; exact H) | exact H
              have Ny144 := zam hy144
              clear hy144
              obtain ⟨y147, hy147⟩ : ∃ y_ : List (S24), y_ = (([] : List (S24))) := ⟨_, rfl⟩
              replace H : (if y147.length + l1.length < 8796093022208 then ((some (y147 ++ l1 : List (S24))).bind fun y150 => ((some (([(⟨a6_0, a6_1⟩ : S24)] : List (S24)) : List (S24))).bind fun y153 => (if y150.length + y153.length < 8796093022208 then ((sound_Region.f k4 y144 a0_1 a0_2 (y150 ++ y153) a2_0 a2_1 a2_2 a2_3 (wrap64 ((Int.tmod (wrap64 (a3)) 4) + 1))).bind fun bt159 => (isobathlaw07_SoundNearer.l3 k4 t107 bt159.2 bt159.1 0)) else (none)))) else (none)) = some r := by first | (rw [hy147]; with_reducible exact H) | (have H2_ := (Option.bind_some _ _).symm.trans H; rw [hy147]; with_reducible exact H2_) | (have H2_ := (Option.bind_some _ _).symm.trans H; with_reducible exact H2_) | with_reducible exact H | (rw [hy147]; exact H) | exact H
              have Ny147 := zam hy147
              clear hy147
              by_cases c81 : y147.length + l1.length < 8796093022208
              ·rw [if_pos c81] at H
               have LMc81 := zam c81
               clear c81
               obtain ⟨y150, hy150⟩ : ∃ y_ : List (S24), y_ = (y147 ++ l1) := ⟨_, rfl⟩
               replace H : ((some (([(⟨a6_0, a6_1⟩ : S24)] : List (S24)) : List (S24))).bind fun y153 => (if y150.length + y153.length < 8796093022208 then ((sound_Region.f k4 y144 a0_1 a0_2 (y150 ++ y153) a2_0 a2_1 a2_2 a2_3 (wrap64 ((Int.tmod (wrap64 (a3)) 4) + 1))).bind fun bt159 => (isobathlaw07_SoundNearer.l3 k4 t107 bt159.2 bt159.1 0)) else (none))) = some r := by first | (rw [hy150]; with_reducible exact H) | (have H2_ := (Option.bind_some _ _).symm.trans H; rw [hy150]; with_reducible exact H2_) | (have H2_ := (Option.bind_some _ _).symm.trans H; with_reducible exact H2_) | with_reducible exact H | (rw [hy150]; exact H) | exact H
               have Ny150 := zam hy150
               clear hy150
               obtain ⟨y153, hy153⟩ : ∃ y_ : List (S24), y_ = (([(⟨a6_0, a6_1⟩ : S24)] : List (S24))) := ⟨_, rfl⟩
               replace H : (if y150.length + y153.length < 8796093022208 then ((sound_Region.f k4 y144 a0_1 a0_2 (y150 ++ y153) a2_0 a2_1 a2_2 a2_3 (wrap64 ((Int.tmod (wrap64 (a3)) 4) + 1))).bind fun bt159 => (isobathlaw07_SoundNearer.l3 k4 t107 bt159.2 bt159.1 0)) else (none)) = some r := by first | (rw [hy153]; with_reducible exact H) | (have H2_ := (Option.bind_some _ _).symm.trans H; rw [hy153]; with_reducible exact H2_) | (have H2_ := (Option.bind_some _ _).symm.trans H; with_reducible exact H2_) | with_reducible exact H | (rw [hy153]; exact H) | exact H
               have Ny153 := zam hy153
               clear hy153
               by_cases c82 : y150.length + y153.length < 8796093022208
               ·rw [if_pos c82] at H
                have LMc82 := zam c82
                clear c82
                obtain ⟨y156, hy156⟩ : ∃ y_ : List (S24), y_ = (y150 ++ y153) := ⟨_, rfl⟩
                replace H : ((sound_Region.f k4 y144 a0_1 a0_2 y156 a2_0 a2_1 a2_2 a2_3 (wrap64 ((Int.tmod (wrap64 (a3)) 4) + 1))).bind fun bt159 => (isobathlaw07_SoundNearer.l3 k4 t107 bt159.2 bt159.1 0)) = some r := by first | (rw [hy156]; with_reducible exact H) | (have H2_ := (Option.bind_some _ _).symm.trans H; rw [hy156]; with_reducible exact H2_) | (have H2_ := (Option.bind_some _ _).symm.trans H; with_reducible exact H2_) | with_reducible exact H | (rw [hy156]; exact H) | exact H
                have Ny156 := zam hy156
                clear hy156
                replace H := Option.bind_eq_some_iff.mp H
                obtain ⟨⟨t159, t162⟩, A830, H⟩ := H
                replace H : (isobathlaw07_SoundNearer.l3 k4 t107 t162 t159 0) = some r := H
                have A83 := zam A830
                clear A830
                have H' := zam H
                clear H
                obtain ⟨Ao84, co84, eo84⟩ := Kd.R_slice HO_24.out
                subst eo84
                have hnb85 := NB101_102.out
                have hnc85 := NB102_101.out
                have hnb86 := NB101_103.out
                have hnc86 := NB103_101.out
                have hnb87 := NB101_104.out
                have hnc87 := NB104_101.out
                have hcz88_0 : wr.cell? ⟨gb101, 0, none⟩ = some (.slice A0_0 l0_0.length c0_0) := (zkc BK101.out 0).trans rfl
                have hcz88_1 : wr.cell? ⟨gb101, 1, none⟩ = some (.int .i64 a0_1) := (zkc BK101.out 1).trans rfl
                have hcz88_2 : wr.cell? ⟨gb101, 2, none⟩ = some (.int .i64 a0_2) := (zkc BK101.out 2).trans rfl
                have hfz88_0 := zkz BK101.out 0
                have hfz88_1 := zkz BK101.out 1
                have hfz88_2 := zkz BK101.out 2
                try go_wp2_with (first | ((with_reducible refine zgd (N := 26) rfl ?_); (try (refine gate_guard (by rfl) ?_; dsimp only)); refine box_event ?hg (N := 26) ?hd (cs := #[.slice none 0 0, .int .i64 0, .int .i64 0]) (t := 26) ?hr ?_; (case hd => rfl); (case hg => rfl); (case hr => first | (go_simp; done) | (go_simp; rfl)); intro gb134 hg w89 hbox hb; have n0_ := zam (Kd.R_below zq12 hb); have n1_ := zam (Kd.R_below zq14 hb); have n2_ := zam (zkb (g := gb101) (o := .cells #[.slice A0_0 l0_0.length c0_0, .int .i64 a0_1, .int .i64 a0_2] 26 (0, 0)) zq0 hb); have n3_ := zam (zkb (g := gb102) (o := .cells #[.int .i64 a2_0, .int .i64 a2_1, .int .i64 a2_2, .int .i64 a2_3] 29 (0, 0)) zq4 hb); have n4_ := zam (zkb (g := gb103) (o := .cells #[.int .i64 a5_0, .int .i64 a5_1, .int .i64 a5_2, .int .i64 a5_3] 29 (0, 0)) zq6 hb); have n5_ := zam (zkb (g := gb104) (o := .cells #[.int .i64 a6_0, .int .i64 a6_1] 24 (0, 0)) zq7 hb); have n6_ := zam (zbt zq8 hb); have n7_ := zam (hbox); have n8_ := zam ((by rw [hg]; exact (zbz zq8) : w.heap.size ≤ gb134)); have n9_ := zam ((by rw [hg]; exact (zbz zq8) : w.heap.size ≤ gb134)); have n10_ := zam ((by rw [hg]; exact Nat.ne_of_lt (blk_lt (g := gb101) (o := .cells #[.slice A0_0 l0_0.length c0_0, .int .i64 a0_1, .int .i64 a0_2] 26 (0, 0)) zq0) : gb101 ≠ gb134)); have n11_ := zam ((by rw [hg]; exact Nat.ne_of_gt (blk_lt (g := gb101) (o := .cells #[.slice A0_0 l0_0.length c0_0, .int .i64 a0_1, .int .i64 a0_2] 26 (0, 0)) zq0) : gb134 ≠ gb101)); have n12_ := zam ((by rw [hg]; exact Nat.ne_of_lt (blk_lt (g := gb102) (o := .cells #[.int .i64 a2_0, .int .i64 a2_1, .int .i64 a2_2, .int .i64 a2_3] 29 (0, 0)) zq4) : gb102 ≠ gb134)); have n13_ := zam ((by rw [hg]; exact Nat.ne_of_gt (blk_lt (g := gb102) (o := .cells #[.int .i64 a2_0, .int .i64 a2_1, .int .i64 a2_2, .int .i64 a2_3] 29 (0, 0)) zq4) : gb134 ≠ gb102)); have n14_ := zam ((by rw [hg]; exact Nat.ne_of_lt (blk_lt (g := gb103) (o := .cells #[.int .i64 a5_0, .int .i64 a5_1, .int .i64 a5_2, .int .i64 a5_3] 29 (0, 0)) zq6) : gb103 ≠ gb134)); have n15_ := zam ((by rw [hg]; exact Nat.ne_of_gt (blk_lt (g := gb103) (o := .cells #[.int .i64 a5_0, .int .i64 a5_1, .int .i64 a5_2, .int .i64 a5_3] 29 (0, 0)) zq6) : gb134 ≠ gb103)); have n16_ := zam ((by rw [hg]; exact Nat.ne_of_lt (blk_lt (g := gb104) (o := .cells #[.int .i64 a6_0, .int .i64 a6_1] 24 (0, 0)) zq7) : gb104 ≠ gb134)); have n17_ := zam ((by rw [hg]; exact Nat.ne_of_gt (blk_lt (g := gb104) (o := .cells #[.int .i64 a6_0, .int .i64 a6_1] 24 (0, 0)) zq7) : gb134 ≠ gb104)); clear HO_16; clear HO_24; clear BK101; clear BK102; clear BK103; clear BK104; clear HB; have HO_16 := n0_; have HO_24 := n1_; have BK101 := n2_; have BK102 := n3_; have BK103 := n4_; have BK104 := n5_; have HB := n6_; have BK134 := n7_; have GW134 := n8_; have GE134 := n9_; have NB101_134 := n10_; have NB134_101 := n11_; have NB102_134 := n12_; have NB134_102 := n13_; have NB103_134 := n14_; have NB134_103 := n15_; have NB104_134 := n16_; have NB134_104 := n17_; clear n0_ n1_ n2_ n3_ n4_ n5_ n6_ n7_ n8_ n9_ n10_ n11_ n12_ n13_ n14_ n15_ n16_ n17_; clear hb hbox hg; have hnb90 := NB134_101.out; have hnc90 := NB101_134.out; have hnb91 := NB134_102.out; have hnc91 := NB102_134.out; have hnb92 := NB134_103.out; have hnc92 := NB103_134.out; have hnb93 := NB134_104.out; have hnc93 := NB104_134.out; have hcz94_0 : w89.cell? ⟨gb134, 0, none⟩ = some (.slice none 0 0) := (zkc BK134.out 0).trans rfl; have hcz94_1 : w89.cell? ⟨gb134, 1, none⟩ = some (.int .i64 0) := (zkc BK134.out 1).trans rfl; have hcz94_2 : w89.cell? ⟨gb134, 2, none⟩ = some (.int .i64 0) := (zkc BK134.out 2).trans rfl; have hfz94_0 := zkz BK134.out 0; have hfz94_1 := zkz BK134.out 1; have hfz94_2 := zkz BK134.out 2))
                have n0_ : Aside0 (Kd.R k29 29 (((w89.setCell ⟨gb134, 0, none⟩ (.slice A0_0 l0_0.length c0_0)).setCell ⟨gb134, 1, none⟩ (.int .i64 a0_1)).setCell ⟨gb134, 2, none⟩ (.int .i64 a0_2)) w.heap.size (fun k_ => some k_ ≠ (.slice Ao84 t128.length co84 : Value).ownBlock ∧ k_ ≠ gb102 ∧ k_ ≠ gb103) (.slice Ao51 t107.length co51) t107) := ⟨by (with_reducible repeat (first | apply zRa | apply zRn | apply zRd)); exact Kd.R_mono (Kd.R_far (p := ⟨gb134, 2, none⟩) (Kd.R_far (p := ⟨gb134, 1, none⟩) (Kd.R_far (p := ⟨gb134, 0, none⟩) (Kd.R_types HO_16.out BK134.out (by decide)) (fun _ hk => hk.2) (.slice A0_0 l0_0.length c0_0)) (fun _ hk => hk.2) (.int .i64 a0_1)) (fun _ hk => hk.2) (.int .i64 a0_2)) (fun _ hk => ⟨hk.1.1, ⟨hk.1.2.1, hk.1.2.2⟩⟩)⟩
                have n1_ : Aside0 (Kd.R k29 29 (((w89.setCell ⟨gb134, 0, none⟩ (.slice A0_0 l0_0.length c0_0)).setCell ⟨gb134, 1, none⟩ (.int .i64 a0_1)).setCell ⟨gb134, 2, none⟩ (.int .i64 a0_2)) w.heap.size (fun k_ => some k_ ≠ (.slice Ao51 t107.length co51 : Value).ownBlock ∧ k_ ≠ gb102 ∧ k_ ≠ gb103) (.slice Ao84 t128.length co84) t128) := ⟨by (with_reducible repeat (first | apply zRa | apply zRn | apply zRd)); exact Kd.R_mono (Kd.R_far (p := ⟨gb134, 2, none⟩) (Kd.R_far (p := ⟨gb134, 1, none⟩) (Kd.R_far (p := ⟨gb134, 0, none⟩) (Kd.R_types HO_24.out BK134.out (by decide)) (fun _ hk => hk.2) (.slice A0_0 l0_0.length c0_0)) (fun _ hk => hk.2) (.int .i64 a0_1)) (fun _ hk => hk.2) (.int .i64 a0_2)) (fun _ hk => ⟨hk.1.1, ⟨hk.1.2.1, hk.1.2.2⟩⟩)⟩
                have n2_ : Aside0 ((((w89.setCell ⟨gb134, 0, none⟩ (.slice A0_0 l0_0.length c0_0)).setCell ⟨gb134, 1, none⟩ (.int .i64 a0_1)).setCell ⟨gb134, 2, none⟩ (.int .i64 a0_2)).heap[gb101]? = some (.cells #[.slice A0_0 l0_0.length c0_0, .int .i64 a0_1, .int .i64 a0_2] 26 (0, 0))) := ⟨by (with_reducible repeat (first | refine zkn ?_ _ | refine zkd ?_ | refine zka ?_ _)); refine zkf ?_ NB101_134.out _; (with_reducible repeat (first | refine zkn ?_ _ | refine zkd ?_ | refine zka ?_ _)); refine zkf ?_ NB101_134.out _; (with_reducible repeat (first | refine zkn ?_ _ | refine zkd ?_ | refine zka ?_ _)); refine zkf ?_ NB101_134.out _; (with_reducible repeat (first | refine zkn ?_ _ | refine zkd ?_ | refine zka ?_ _)); exact BK101.out⟩
                have n3_ : Aside0 ((((w89.setCell ⟨gb134, 0, none⟩ (.slice A0_0 l0_0.length c0_0)).setCell ⟨gb134, 1, none⟩ (.int .i64 a0_1)).setCell ⟨gb134, 2, none⟩ (.int .i64 a0_2)).heap[gb102]? = some (.cells #[.int .i64 a2_0, .int .i64 a2_1, .int .i64 a2_2, .int .i64 a2_3] 29 (0, 0))) := ⟨by (with_reducible repeat (first | refine zkn ?_ _ | refine zkd ?_ | refine zka ?_ _)); refine zkf ?_ NB102_134.out _; (with_reducible repeat (first | refine zkn ?_ _ | refine zkd ?_ | refine zka ?_ _)); refine zkf ?_ NB102_134.out _; (with_reducible repeat (first | refine zkn ?_ _ | refine zkd ?_ | refine zka ?_ _)); refine zkf ?_ NB102_134.out _; (with_reducible repeat (first | refine zkn ?_ _ | refine zkd ?_ | refine zka ?_ _)); exact BK102.out⟩
                have n4_ : Aside0 ((((w89.setCell ⟨gb134, 0, none⟩ (.slice A0_0 l0_0.length c0_0)).setCell ⟨gb134, 1, none⟩ (.int .i64 a0_1)).setCell ⟨gb134, 2, none⟩ (.int .i64 a0_2)).heap[gb103]? = some (.cells #[.int .i64 a5_0, .int .i64 a5_1, .int .i64 a5_2, .int .i64 a5_3] 29 (0, 0))) := ⟨by (with_reducible repeat (first | refine zkn ?_ _ | refine zkd ?_ | refine zka ?_ _)); refine zkf ?_ NB103_134.out _; (with_reducible repeat (first | refine zkn ?_ _ | refine zkd ?_ | refine zka ?_ _)); refine zkf ?_ NB103_134.out _; (with_reducible repeat (first | refine zkn ?_ _ | refine zkd ?_ | refine zka ?_ _)); refine zkf ?_ NB103_134.out _; (with_reducible repeat (first | refine zkn ?_ _ | refine zkd ?_ | refine zka ?_ _)); exact BK103.out⟩
                have n5_ : Aside0 ((((w89.setCell ⟨gb134, 0, none⟩ (.slice A0_0 l0_0.length c0_0)).setCell ⟨gb134, 1, none⟩ (.int .i64 a0_1)).setCell ⟨gb134, 2, none⟩ (.int .i64 a0_2)).heap[gb104]? = some (.cells #[.int .i64 a6_0, .int .i64 a6_1] 24 (0, 0))) := ⟨by (with_reducible repeat (first | refine zkn ?_ _ | refine zkd ?_ | refine zka ?_ _)); refine zkf ?_ NB104_134.out _; (with_reducible repeat (first | refine zkn ?_ _ | refine zkd ?_ | refine zka ?_ _)); refine zkf ?_ NB104_134.out _; (with_reducible repeat (first | refine zkn ?_ _ | refine zkd ?_ | refine zka ?_ _)); refine zkf ?_ NB104_134.out _; (with_reducible repeat (first | refine zkn ?_ _ | refine zkd ?_ | refine zka ?_ _)); exact BK104.out⟩
                have n6_ : Aside0 ((((w89.setCell ⟨gb134, 0, none⟩ (.slice A0_0 l0_0.length c0_0)).setCell ⟨gb134, 1, none⟩ (.int .i64 a0_1)).setCell ⟨gb134, 2, none⟩ (.int .i64 a0_2)).heap[gb134]? = some (.cells #[.slice A0_0 l0_0.length c0_0, .int .i64 a0_1, .int .i64 a0_2] 26 (0, 0))) := ⟨by (with_reducible repeat (first | refine zkn ?_ _ | refine zkd ?_ | refine zka ?_ _)); refine blk_put (cs := #[.slice A0_0 l0_0.length c0_0, .int .i64 a0_1, .int .i64 0]) ?_ 2 _ rfl; (with_reducible repeat (first | refine zkn ?_ _ | refine zkd ?_ | refine zka ?_ _)); refine blk_put (cs := #[.slice A0_0 l0_0.length c0_0, .int .i64 0, .int .i64 0]) ?_ 1 _ rfl; (with_reducible repeat (first | refine zkn ?_ _ | refine zkd ?_ | refine zka ?_ _)); refine blk_put (cs := #[.slice none 0 0, .int .i64 0, .int .i64 0]) ?_ 0 _ rfl; (with_reducible repeat (first | refine zkn ?_ _ | refine zkd ?_ | refine zka ?_ _)); exact BK134.out⟩
                have n7_ : Aside0 (Below w.heap.size w (((w89.setCell ⟨gb134, 0, none⟩ (.slice A0_0 l0_0.length c0_0)).setCell ⟨gb134, 1, none⟩ (.int .i64 a0_1)).setCell ⟨gb134, 2, none⟩ (.int .i64 a0_2))) := ⟨by repeat (first | (with_reducible first | exact HB.out | apply zba | apply zbn | apply zb1 | refine zbs ?_ GE101.out | refine zbs ?_ GE102.out | refine zbs ?_ GE103.out | refine zbs ?_ GE104.out | refine zbs ?_ GE134.out) | exact HB.out)⟩
                (try clear HO_16)
                (try clear HO_24)
                (try clear BK101)
                (try clear BK102)
                (try clear BK103)
                (try clear BK104)
                (try clear BK134)
                (try clear HB)
                generalize (((w89.setCell ⟨gb134, 0, none⟩ (.slice A0_0 l0_0.length c0_0)).setCell ⟨gb134, 1, none⟩ (.int .i64 a0_1)).setCell ⟨gb134, 2, none⟩ (.int .i64 a0_2)) = w95 at n0_ n1_ n2_ n3_ n4_ n5_ n6_ n7_ ⊢
                have HO_16 := n0_
                have HO_24 := n1_
                have BK101 := n2_
                have BK102 := n3_
                have BK103 := n4_
                have BK104 := n5_
                have BK134 := n6_
                have HB := n7_
                clear n0_ n1_ n2_ n3_ n4_ n5_ n6_ n7_
                have n0_ := zam (zRd HO_16.out)
                have n1_ := zam (zRd HO_24.out)
                have n2_ := zam (zkd BK101.out)
                have n3_ := zam (zkd BK102.out)
                have n4_ := zam (zkd BK103.out)
                have n5_ := zam (zkd BK104.out)
                have n6_ := zam (zkd BK134.out)
                have n7_ := zam (zb1 HB.out)
                clear HO_16
                clear HO_24
                clear BK101
                clear BK102
                clear BK103
                clear BK104
                clear BK134
                clear HB
                have HO_16 := n0_
                have HO_24 := n1_
                have BK101 := n2_
                have BK102 := n3_
                have BK103 := n4_
                have BK104 := n5_
                have BK134 := n6_
                have HB := n7_
                clear n0_ n1_ n2_ n3_ n4_ n5_ n6_ n7_
                refine start_ (n := 9) (S := fun w' => w'.cell? ⟨gb101, 0, none⟩ = some (.slice A0_0 l0_0.length c0_0) ∧ w'.cell? ⟨gb101, 1, none⟩ = some (.int .i64 a0_1) ∧ w'.cell? ⟨gb101, 2, none⟩ = some (.int .i64 a0_2) ∧ w'.cell? ⟨gb103, 0, none⟩ = some (.int .i64 a5_0) ∧ w'.cell? ⟨gb103, 1, none⟩ = some (.int .i64 a5_1) ∧ w'.cell? ⟨gb103, 2, none⟩ = some (.int .i64 a5_2) ∧ w'.cell? ⟨gb103, 3, none⟩ = some (.int .i64 a5_3)) (ds := []) #[false, false, false, false, false, false, false, false, false] (by kernel_rfl) rfl rfl ⟨(zkc BK101.out 0).trans rfl, (zkc BK101.out 1).trans rfl, (zkc BK101.out 2).trans rfl, (zkc BK103.out 0).trans rfl, (zkc BK103.out 1).trans rfl, (zkc BK103.out 2).trans rfl, (zkc BK103.out 3).trans rfl⟩ (fun hHeld => ?_); refine with_tabW isobathlaw07_SoundNearer.tab30 isobathlaw07_SoundNearer.bits30 (fun HT_ HW_ => ?_)
                generalize w95.drew = w96 at HO_16 HO_24 BK101 BK102 BK103 BK104 BK134 HB hHeld ⊢
                refine pure_ (i := 1) (N := some 142) (v := ?_) (a' := ?_) #[false, true, false, false, false, false, false, false, false] rfl rfl (any_of HT_.out (by kernel_rfl)) (fun _ _ _ h => h) (Or.inl ⟨by rfl, ?_⟩) ?_ ?_
                rotate_left
                ·intro w'
                 go_simp
                 with_reducible rfl
                rotate_left
                ·simp only [Act.put, zsa, zsz, zss, i64_w, i32_w]
                 rfl
                refine take_ (i := 2) (N := some 143) (v := ?_) (a' := ?_) #[false, true, true, false, false, false, false, false, false] rfl rfl (take_ofW HT_.out HW_.out (by kernel_rfl)) (fun _ _ _ h => h) (Or.inl ⟨by rfl, ?_⟩) hHeld ?_ ?_
                rotate_left
                ·rintro w' ⟨s0, s1, s2, s3, s4, s5, s6⟩
                 go_simp
                 with_reducible rfl
                rotate_left
                ·simp only [Act.put, zsa, zsz, zss, i64_w, i32_w]
                 rfl
                refine take_ (i := 4) (N := some 145) (v := ?_) (a' := ?_) #[false, true, true, false, true, false, false, false, false] rfl rfl (take_ofW HT_.out HW_.out (by kernel_rfl)) (fun _ _ _ h => h) (Or.inl ⟨by rfl, ?_⟩) hHeld ?_ ?_
                rotate_left
                ·rintro w' ⟨s0, s1, s2, s3, s4, s5, s6⟩
                 go_simp
                 with_reducible rfl
                rotate_left
                ·simp only [Act.put, zsa, zsz, zss, i64_w, i32_w]
                 rfl
                refine join_ (σ := Value × Value × Value) 3 #[true, true, true, true, true, true, false, false, false] (fun s_ => [(141, s_.1), (144, s_.2.1), (146, s_.2.2)]) (fun s_ w' => (w'.cell? ⟨gb101, 0, none⟩ = some (.slice A0_0 l0_0.length c0_0) ∧ w'.cell? ⟨gb101, 1, none⟩ = some (.int .i64 a0_1) ∧ w'.cell? ⟨gb101, 2, none⟩ = some (.int .i64 a0_2) ∧ w'.cell? ⟨gb103, 0, none⟩ = some (.int .i64 a5_0) ∧ w'.cell? ⟨gb103, 1, none⟩ = some (.int .i64 a5_1) ∧ w'.cell? ⟨gb103, 2, none⟩ = some (.int .i64 a5_2) ∧ w'.cell? ⟨gb103, 3, none⟩ = some (.int .i64 a5_3)) ∧ (Kd.R k29 29 w' w.heap.size (fun k_ => some k_ ≠ (s_.2.2 : Value).ownBlock ∧ some k_ ≠ (.slice Ao51 t107.length co51 : Value).ownBlock ∧ some k_ ≠ (.slice Ao84 t128.length co84 : Value).ownBlock ∧ k_ ≠ gb102 ∧ k_ ≠ gb103) s_.2.1 y138) ∧ (Kd.R k29 29 w' w.heap.size (fun k_ => some k_ ≠ (s_.2.1 : Value).ownBlock ∧ some k_ ≠ (.slice Ao51 t107.length co51 : Value).ownBlock ∧ some k_ ≠ (.slice Ao84 t128.length co84 : Value).ownBlock ∧ k_ ≠ gb102 ∧ k_ ≠ gb103) s_.2.2 y141) ∧ (Kd.R k29 29 w' w.heap.size (fun k_ => some k_ ≠ (s_.2.1 : Value).ownBlock ∧ some k_ ≠ (s_.2.2 : Value).ownBlock ∧ some k_ ≠ (.slice Ao84 t128.length co84 : Value).ownBlock ∧ k_ ≠ gb102 ∧ k_ ≠ gb103) (.slice Ao51 t107.length co51) t107) ∧ (Kd.R k29 29 w' w.heap.size (fun k_ => some k_ ≠ (s_.2.1 : Value).ownBlock ∧ some k_ ≠ (s_.2.2 : Value).ownBlock ∧ some k_ ≠ (.slice Ao51 t107.length co51 : Value).ownBlock ∧ k_ ≠ gb102 ∧ k_ ≠ gb103) (.slice Ao84 t128.length co84) t128) ∧ (w'.heap[gb101]? = some (.cells #[.slice A0_0 l0_0.length c0_0, .int .i64 a0_1, .int .i64 a0_2] 26 (0, 0))) ∧ (w'.heap[gb102]? = some (.cells #[.int .i64 a2_0, .int .i64 a2_1, .int .i64 a2_2, .int .i64 a2_3] 29 (0, 0))) ∧ (w'.heap[gb103]? = some (.cells #[.int .i64 a5_0, .int .i64 a5_1, .int .i64 a5_2, .int .i64 a5_3] 29 (0, 0))) ∧ (w'.heap[gb104]? = some (.cells #[.int .i64 a6_0, .int .i64 a6_1] 24 (0, 0))) ∧ (w'.heap[gb134]? = some (.cells #[.slice A0_0 l0_0.length c0_0, .int .i64 a0_1, .int .i64 a0_2] 26 (0, 0))) ∧ (Below w.heap.size w w')) ?_ ?_
                rotate_left
                ·intro hCont
                 refine two_ (i := 0) (j := 5) (Ni := some 141) (Nj := some 146) #[true, true, true, false, true, false, false, false, false] #[false, true, true, false, true, true, false, false, false] rfl rfl rfl rfl (two_of HT_.out (by kernel_rfl)) (by decide) (by decide) (fun K hK => ?_) (fun K hK => ?_)
                 ·skip
                  refine Kd.R_lit_step k29 _ 29 ?hg (N := 141) ?hd (xs := ([] : List (S29))) (inner := []) (ok := fun _ => True) (okp := fun _ => True) ?hr ?hp (fun _ hk => hk) trivial (Below.refl _ _) (Nat.le_refl _) (by simp) ?_; (case hd => rfl); (case hg => rfl); (case hr => first | (go_simp; done) | (go_simp; rfl)); (case hp => exact (Reps.none _ _))
                  intro v136 w97 ho98 hb hg_ hnew_
                  clear hg_ hnew_
                  (first | rw [← Ny135.out] at ho98 | (simp only [Int.reduceToNat] at ho98; rw [← Ny135.out] at ho98))
                  have n0_ := zam (Kd.R_elder' zq12 (Kd.R_base ho98) hb)
                  have n1_ := zam (Kd.R_elder' zq14 (Kd.R_base ho98) hb)
                  have n2_ := zam (Kd.R_lower (Kd.R_newB (Kd.R_newB (Kd.R_new' (Kd.R_new' ho98 (Kd.R_lt zq12)) (Kd.R_lt zq14)) (g := gb102) (o := .cells #[.int .i64 a2_0, .int .i64 a2_1, .int .i64 a2_2, .int .i64 a2_3] 29 (0, 0)) zq4) (g := gb103) (o := .cells #[.int .i64 a5_0, .int .i64 a5_1, .int .i64 a5_2, .int .i64 a5_3] 29 (0, 0)) zq6) (zbz zq3))
                  have n3_ := zam (zkb (g := gb101) (o := .cells #[.slice A0_0 l0_0.length c0_0, .int .i64 a0_1, .int .i64 a0_2] 26 (0, 0)) zq0 hb)
                  have n4_ := zam (zkb (g := gb102) (o := .cells #[.int .i64 a2_0, .int .i64 a2_1, .int .i64 a2_2, .int .i64 a2_3] 29 (0, 0)) zq4 hb)
                  have n5_ := zam (zkb (g := gb103) (o := .cells #[.int .i64 a5_0, .int .i64 a5_1, .int .i64 a5_2, .int .i64 a5_3] 29 (0, 0)) zq6 hb)
                  have n6_ := zam (zkb (g := gb104) (o := .cells #[.int .i64 a6_0, .int .i64 a6_1] 24 (0, 0)) zq7 hb)
                  have n7_ := zam (zkb (g := gb134) (o := .cells #[.slice A0_0 l0_0.length c0_0, .int .i64 a0_1, .int .i64 a0_2] 26 (0, 0)) zq13 hb)
                  have n8_ := zam (zbt zq3 hb)
                  clear HO_16
                  clear HO_24
                  clear BK101
                  clear BK102
                  clear BK103
                  clear BK104
                  clear BK134
                  clear HB
                  have HO_16 := n0_
                  have HO_24 := n1_
                  have HO137 := n2_
                  have BK101 := n3_
                  have BK102 := n4_
                  have BK103 := n5_
                  have BK104 := n6_
                  have BK134 := n7_
                  have HB := n8_
                  clear n0_ n1_ n2_ n3_ n4_ n5_ n6_ n7_ n8_
                  clear hb ho98
                  refine hK.out _ _ ⟨(zkc BK101.out 0).trans rfl, (zkc BK101.out 1).trans rfl, (zkc BK101.out 2).trans rfl, (zkc BK103.out 0).trans rfl, (zkc BK103.out 1).trans rfl, (zkc BK103.out 2).trans rfl, (zkc BK103.out 3).trans rfl⟩ (fun hHeld => ?_)
                  clear hK K
                  refine norm_ (a' := ?_) ?_ ?_
                  rotate_left
                  ·show Act.put _ (some 141) _ = _
                   simp only [Act.put, zsa, zsz, zss, i64_w, i32_w]
                   rfl
                  refine two_ (i := 3) (j := 5) (Ni := some 144) (Nj := some 146) #[true, true, true, true, true, false, false, false, false] #[true, true, true, false, true, true, false, false, false] rfl rfl rfl rfl (two_of HT_.out (by kernel_rfl)) (by decide) (by decide) (fun K hK => ?_) (fun K hK => ?_)
                  ·skip
                   refine Kd.R_append_rows_step k29 (w0 := w) w.heap.size (by rfl) (.tmp 141) (.tmp 143) 22 29 (.agg #[(.int .i64 0), (.int .i64 0), (.int .i64 0), (.int .i64 0)]) 32 rfl Try.underlying22 info29 rfl (by decide) (by omega) v136 y135 l0_0 _ _ _ (fun k_ => some k_ ≠ (.slice Ao51 t107.length co51 : Value).ownBlock ∧ some k_ ≠ (.slice Ao84 t128.length co84 : Value).ownBlock ∧ k_ ≠ gb102 ∧ k_ ≠ gb103) (fun _ => False) rfl rfl ?aO ?aR (fun _ _ h => h) (fun _ h => h.elim) ?aF ?aB ?aS ?aL ?_
                   (case aR => repeat (first | exact (Kd.C_below HR0_0.out HB.out) | (with_reducible refine Kd.C_alloc ?_ _) | (with_reducible refine Kd.C_drewN ?_ _) | (with_reducible refine Kd.C_drew ?_)))
                   (case aB => exact zq3)
                   (case aF => exact (fun k_ hk => ⟨Kd.fresh' (Kd.R_lt zq12) k_ hk, Kd.fresh' (Kd.R_lt zq14) k_ hk, Kd.freshB (g := gb102) (o := .cells #[.int .i64 a2_0, .int .i64 a2_1, .int .i64 a2_2, .int .i64 a2_3] 29 (0, 0)) zq4 k_ hk, Kd.freshB (g := gb103) (o := .cells #[.int .i64 a5_0, .int .i64 a5_1, .int .i64 a5_2, .int .i64 a5_3] 29 (0, 0)) zq6 k_ hk⟩))
                   (case aO => exact (by (with_reducible repeat (first | apply zRa | apply zRn | apply zRd)); exact Kd.R_mono HO137.out (fun _ hk => ⟨hk.1.1.1.2, ⟨hk.1.1.2, ⟨hk.1.2, hk.2⟩⟩⟩)))
                   (case aS => exact (zbz zq3))
                   (case aL => have := LMc79.out; omega)
                   intro v139 w99 ho hb hg hat
                   rw [← Ny138.out] at ho
                   have n0_ := zam (Kd.R_after (ok := (fun k_ => some k_ ≠ (.slice Ao84 t128.length co84 : Value).ownBlock ∧ k_ ≠ gb102 ∧ k_ ≠ gb103)) zq12 hg hat)
                   have n1_ := zam (Kd.R_after (ok := (fun k_ => some k_ ≠ (.slice Ao51 t107.length co51 : Value).ownBlock ∧ k_ ≠ gb102 ∧ k_ ≠ gb103)) zq14 hg hat)
                   have n2_ := zam (zkg (g := gb101) (o := .cells #[.slice A0_0 l0_0.length c0_0, .int .i64 a0_1, .int .i64 a0_2] 26 (0, 0)) zq0 hg (Kd.R_ne HO137.out BK101.out (by decide)))
                   have n3_ := zam (zkg (g := gb102) (o := .cells #[.int .i64 a2_0, .int .i64 a2_1, .int .i64 a2_2, .int .i64 a2_3] 29 (0, 0)) zq4 hg (Kd.R_away HO137.out (fun _ hk => hk.1.2)))
                   have n4_ := zam (zkg (g := gb103) (o := .cells #[.int .i64 a5_0, .int .i64 a5_1, .int .i64 a5_2, .int .i64 a5_3] 29 (0, 0)) zq6 hg (Kd.R_away HO137.out (fun _ hk => hk.2)))
                   have n5_ := zam (zkg (g := gb104) (o := .cells #[.int .i64 a6_0, .int .i64 a6_1] 24 (0, 0)) zq7 hg (Kd.R_ne HO137.out BK104.out (by decide)))
                   have n6_ := zam (zkg (g := gb134) (o := .cells #[.slice A0_0 l0_0.length c0_0, .int .i64 a0_1, .int .i64 a0_2] 26 (0, 0)) zq13 hg (Kd.R_ne HO137.out BK134.out (by decide)))
                   have n7_ := zam (hb)
                   have n8_ := zam (ho)
                   clear HO_16
                   clear HO_24
                   clear BK101
                   clear BK102
                   clear BK103
                   clear BK104
                   clear BK134
                   clear HB
                   clear HO137
                   have HO_16 := n0_
                   have HO_24 := n1_
                   have BK101 := n2_
                   have BK102 := n3_
                   have BK103 := n4_
                   have BK104 := n5_
                   have BK134 := n6_
                   have HB := n7_
                   have HO140 := n8_
                   clear n0_ n1_ n2_ n3_ n4_ n5_ n6_ n7_ n8_
                   clear ho hb hg hat
                   refine hK.out _ _ ⟨(zkc BK101.out 0).trans rfl, (zkc BK101.out 1).trans rfl, (zkc BK101.out 2).trans rfl, (zkc BK103.out 0).trans rfl, (zkc BK103.out 1).trans rfl, (zkc BK103.out 2).trans rfl, (zkc BK103.out 3).trans rfl⟩ (fun hHeld => ?_)
                   clear hK K
                   refine norm_ (a' := ?_) ?_ ?_
                   rotate_left
                   ·show Act.put _ (some 144) _ = _
                    simp only [Act.put, zsa, zsz, zss, i64_w, i32_w]
                    rfl
                   refine one_ (i := 5) (N := some 146) #[true, true, true, true, true, true, false, false, false] rfl rfl (one_of HT_.out (by kernel_rfl)) (by decide) (fun K hK => ?_)
                   refine Kd.R_lit_step k29 _ 29 ?hg (N := 146) ?hd (xs := ([(⟨(⟨a5_0, a5_1⟩ : S24), (⟨a5_2, a5_3⟩ : S24)⟩ : S29)] : List (S29))) (inner := [.int .i64 a5_0, .int .i64 a5_1, .int .i64 a5_2, .int .i64 a5_3]) (ok := fun _ => True) (okp := fun _ => True) ?hr ?hp (fun _ hk => hk) trivial (Below.refl _ _) (Nat.le_refl _) (by simp) ?_; (case hd => rfl); (case hg => rfl); (case hr => first | (go_simp; done) | (go_simp; rfl)); (case hp => exact (Reps.c4 (show Kd.M k29 _ _ _ (⟨(⟨a5_0, a5_1⟩ : S24), (⟨a5_2, a5_3⟩ : S24)⟩ : S29) [.int .i64 a5_0, .int .i64 a5_1, .int .i64 a5_2, .int .i64 a5_3] from (k29_mkM _ _ _ (⟨(⟨a5_0, a5_1⟩ : S24), (⟨a5_2, a5_3⟩ : S24)⟩ : S29) )) (Reps.none _ _)))
                   intro v142 w100 ho101 hb hg_ hnew_
                   clear hg_ hnew_
                   (first | rw [← Ny141.out] at ho101 | (simp only [Int.reduceToNat] at ho101; rw [← Ny141.out] at ho101))
                   have n0_ := zam (Kd.R_elder' zq12 (Kd.R_base ho101) hb)
                   have n1_ := zam (Kd.R_elder' zq14 (Kd.R_base ho101) hb)
                   have n2_ := zam (Kd.R_elder' (by (with_reducible repeat (first | apply zRa | apply zRn | apply zRd)); exact HO140.out) (Kd.R_base ho101) hb)
                   have n3_ := zam (Kd.R_lower (Kd.R_newB (Kd.R_newB (Kd.R_new' (Kd.R_new' (Kd.R_new' ho101 (Kd.R_lt zq12)) (Kd.R_lt zq14)) (Kd.R_lt (by (with_reducible repeat (first | apply zRa | apply zRn | apply zRd)); exact HO140.out))) (g := gb102) (o := .cells #[.int .i64 a2_0, .int .i64 a2_1, .int .i64 a2_2, .int .i64 a2_3] 29 (0, 0)) zq4) (g := gb103) (o := .cells #[.int .i64 a5_0, .int .i64 a5_1, .int .i64 a5_2, .int .i64 a5_3] 29 (0, 0)) zq6) (zbz zq3))
                   have n4_ := zam (zkb (g := gb101) (o := .cells #[.slice A0_0 l0_0.length c0_0, .int .i64 a0_1, .int .i64 a0_2] 26 (0, 0)) zq0 hb)
                   have n5_ := zam (zkb (g := gb102) (o := .cells #[.int .i64 a2_0, .int .i64 a2_1, .int .i64 a2_2, .int .i64 a2_3] 29 (0, 0)) zq4 hb)
                   have n6_ := zam (zkb (g := gb103) (o := .cells #[.int .i64 a5_0, .int .i64 a5_1, .int .i64 a5_2, .int .i64 a5_3] 29 (0, 0)) zq6 hb)
                   have n7_ := zam (zkb (g := gb104) (o := .cells #[.int .i64 a6_0, .int .i64 a6_1] 24 (0, 0)) zq7 hb)
                   have n8_ := zam (zkb (g := gb134) (o := .cells #[.slice A0_0 l0_0.length c0_0, .int .i64 a0_1, .int .i64 a0_2] 26 (0, 0)) zq13 hb)
                   have n9_ := zam (zbt zq3 hb)
                   clear HO_16
                   clear HO_24
                   clear HO140
                   clear BK101
                   clear BK102
                   clear BK103
                   clear BK104
                   clear BK134
                   clear HB
                   have HO_16 := n0_
                   have HO_24 := n1_
                   have HO140 := n2_
                   have HO143 := n3_
                   have BK101 := n4_
                   have BK102 := n5_
                   have BK103 := n6_
                   have BK104 := n7_
                   have BK134 := n8_
                   have HB := n9_
                   clear n0_ n1_ n2_ n3_ n4_ n5_ n6_ n7_ n8_ n9_
                   clear hb ho101
                   refine hK.out _ _ ⟨(zkc BK101.out 0).trans rfl, (zkc BK101.out 1).trans rfl, (zkc BK101.out 2).trans rfl, (zkc BK103.out 0).trans rfl, (zkc BK103.out 1).trans rfl, (zkc BK103.out 2).trans rfl, (zkc BK103.out 3).trans rfl⟩ (fun hHeld => ?_)
                   clear hK K
                   refine norm_ (a' := ?_) ?_ ?_
                   rotate_left
                   ·show Act.put _ (some 146) _ = _
                    simp only [Act.put, zsa, zsz, zss, i64_w, i32_w]
                    rfl
                   exact norm_ (by simp only [putAll, Act.put, zsa, zsz, zss]) (hCont (v136, v139, v142) _ ⟨hHeld, (by (with_reducible repeat (first | apply zRa | apply zRn | apply zRd)); exact Kd.R_mono HO140.out (fun _ hk => ⟨hk.2, ⟨hk.1.1, ⟨hk.1.2.1, ⟨hk.1.2.2.1, hk.1.2.2.2⟩⟩⟩⟩)), (by (with_reducible repeat (first | apply zRa | apply zRn | apply zRd)); exact Kd.R_mono HO143.out (fun _ hk => ⟨hk.1.1.2, ⟨hk.1.1.1.1.2, ⟨hk.1.1.1.2, ⟨hk.1.2, hk.2⟩⟩⟩⟩)), (by (with_reducible repeat (first | apply zRa | apply zRn | apply zRd)); exact Kd.R_mono HO_16.out (fun _ hk => ⟨hk.1.2, ⟨hk.2, ⟨hk.1.1.1, ⟨hk.1.1.2.1, hk.1.1.2.2⟩⟩⟩⟩)), (by (with_reducible repeat (first | apply zRa | apply zRn | apply zRd)); exact Kd.R_mono HO_24.out (fun _ hk => ⟨hk.1.2, ⟨hk.2, ⟨hk.1.1.1, ⟨hk.1.1.2.1, hk.1.1.2.2⟩⟩⟩⟩)), zq0, zq4, zq6, zq7, zq13, zq3⟩)
                  skip
                  refine Kd.R_lit_step k29 _ 29 ?hg (N := 146) ?hd (xs := ([(⟨(⟨a5_0, a5_1⟩ : S24), (⟨a5_2, a5_3⟩ : S24)⟩ : S29)] : List (S29))) (inner := [.int .i64 a5_0, .int .i64 a5_1, .int .i64 a5_2, .int .i64 a5_3]) (ok := fun _ => True) (okp := fun _ => True) ?hr ?hp (fun _ hk => hk) trivial (Below.refl _ _) (Nat.le_refl _) (by simp) ?_; (case hd => rfl); (case hg => rfl); (case hr => first | (go_simp; done) | (go_simp; rfl)); (case hp => exact (Reps.c4 (show Kd.M k29 _ _ _ (⟨(⟨a5_0, a5_1⟩ : S24), (⟨a5_2, a5_3⟩ : S24)⟩ : S29) [.int .i64 a5_0, .int .i64 a5_1, .int .i64 a5_2, .int .i64 a5_3] from (k29_mkM _ _ _ (⟨(⟨a5_0, a5_1⟩ : S24), (⟨a5_2, a5_3⟩ : S24)⟩ : S29) )) (Reps.none _ _)))
                  intro v142 w99 ho100 hb hg_ hnew_
                  clear hg_ hnew_
                  (first | rw [← Ny141.out] at ho100 | (simp only [Int.reduceToNat] at ho100; rw [← Ny141.out] at ho100))
                  have n0_ := zam (Kd.R_elder' zq12 (Kd.R_base ho100) hb)
                  have n1_ := zam (Kd.R_elder' zq14 (Kd.R_base ho100) hb)
                  have n2_ := zam (Kd.R_elder' (by (with_reducible repeat (first | apply zRa | apply zRn | apply zRd)); exact HO137.out) (Kd.R_base ho100) hb)
                  have n3_ := zam (Kd.R_lower (Kd.R_newB (Kd.R_newB (Kd.R_new' (Kd.R_new' (Kd.R_new' ho100 (Kd.R_lt zq12)) (Kd.R_lt zq14)) (Kd.R_lt (by (with_reducible repeat (first | apply zRa | apply zRn | apply zRd)); exact HO137.out))) (g := gb102) (o := .cells #[.int .i64 a2_0, .int .i64 a2_1, .int .i64 a2_2, .int .i64 a2_3] 29 (0, 0)) zq4) (g := gb103) (o := .cells #[.int .i64 a5_0, .int .i64 a5_1, .int .i64 a5_2, .int .i64 a5_3] 29 (0, 0)) zq6) (zbz zq3))
                  have n4_ := zam (zkb (g := gb101) (o := .cells #[.slice A0_0 l0_0.length c0_0, .int .i64 a0_1, .int .i64 a0_2] 26 (0, 0)) zq0 hb)
                  have n5_ := zam (zkb (g := gb102) (o := .cells #[.int .i64 a2_0, .int .i64 a2_1, .int .i64 a2_2, .int .i64 a2_3] 29 (0, 0)) zq4 hb)
                  have n6_ := zam (zkb (g := gb103) (o := .cells #[.int .i64 a5_0, .int .i64 a5_1, .int .i64 a5_2, .int .i64 a5_3] 29 (0, 0)) zq6 hb)
                  have n7_ := zam (zkb (g := gb104) (o := .cells #[.int .i64 a6_0, .int .i64 a6_1] 24 (0, 0)) zq7 hb)
                  have n8_ := zam (zkb (g := gb134) (o := .cells #[.slice A0_0 l0_0.length c0_0, .int .i64 a0_1, .int .i64 a0_2] 26 (0, 0)) zq13 hb)
                  have n9_ := zam (zbt zq3 hb)
                  clear HO_16
                  clear HO_24
                  clear HO137
                  clear BK101
                  clear BK102
                  clear BK103
                  clear BK104
                  clear BK134
                  clear HB
                  have HO_16 := n0_
                  have HO_24 := n1_
                  have HO137 := n2_
                  have HO143 := n3_
                  have BK101 := n4_
                  have BK102 := n5_
                  have BK103 := n6_
                  have BK104 := n7_
                  have BK134 := n8_
                  have HB := n9_
                  clear n0_ n1_ n2_ n3_ n4_ n5_ n6_ n7_ n8_ n9_
                  clear hb ho100
                  refine hK.out _ _ ⟨(zkc BK101.out 0).trans rfl, (zkc BK101.out 1).trans rfl, (zkc BK101.out 2).trans rfl, (zkc BK103.out 0).trans rfl, (zkc BK103.out 1).trans rfl, (zkc BK103.out 2).trans rfl, (zkc BK103.out 3).trans rfl⟩ (fun hHeld => ?_)
                  clear hK K
                  refine norm_ (a' := ?_) ?_ ?_
                  rotate_left
                  ·show Act.put _ (some 146) _ = _
                   simp only [Act.put, zsa, zsz, zss, i64_w, i32_w]
                   rfl
                  refine one_ (i := 3) (N := some 144) #[true, true, true, true, true, true, false, false, false] rfl rfl (one_of HT_.out (by kernel_rfl)) (by decide) (fun K hK => ?_)
                  refine Kd.R_append_rows_step k29 (w0 := w) w.heap.size (by rfl) (.tmp 141) (.tmp 143) 22 29 (.agg #[(.int .i64 0), (.int .i64 0), (.int .i64 0), (.int .i64 0)]) 32 rfl Try.underlying22 info29 rfl (by decide) (by omega) v136 y135 l0_0 _ _ _ (fun k_ => some k_ ≠ (.slice Ao51 t107.length co51 : Value).ownBlock ∧ some k_ ≠ (.slice Ao84 t128.length co84 : Value).ownBlock ∧ some k_ ≠ (v142 : Value).ownBlock ∧ k_ ≠ gb102 ∧ k_ ≠ gb103) (fun _ => False) rfl rfl ?aO ?aR (fun _ _ h => h) (fun _ h => h.elim) ?aF ?aB ?aS ?aL ?_
                  (case aR => repeat (first | exact (Kd.C_below HR0_0.out HB.out) | (with_reducible refine Kd.C_alloc ?_ _) | (with_reducible refine Kd.C_drewN ?_ _) | (with_reducible refine Kd.C_drew ?_)))
                  (case aB => exact zq3)
                  (case aF => exact (fun k_ hk => ⟨Kd.fresh' (Kd.R_lt zq12) k_ hk, Kd.fresh' (Kd.R_lt zq14) k_ hk, Kd.fresh' (Kd.R_lt zq16) k_ hk, Kd.freshB (g := gb102) (o := .cells #[.int .i64 a2_0, .int .i64 a2_1, .int .i64 a2_2, .int .i64 a2_3] 29 (0, 0)) zq4 k_ hk, Kd.freshB (g := gb103) (o := .cells #[.int .i64 a5_0, .int .i64 a5_1, .int .i64 a5_2, .int .i64 a5_3] 29 (0, 0)) zq6 k_ hk⟩))
                  (case aO => exact (by (with_reducible repeat (first | apply zRa | apply zRn | apply zRd)); exact Kd.R_mono HO137.out (fun _ hk => ⟨hk.1.1.1.1.2, ⟨hk.1.1.1.2, ⟨hk.2, ⟨hk.1.1.2, hk.1.2⟩⟩⟩⟩)))
                  (case aS => exact (zbz zq3))
                  (case aL => have := LMc79.out; omega)
                  intro v139 w101 ho hb hg hat
                  rw [← Ny138.out] at ho
                  have n0_ := zam (Kd.R_after (ok := (fun k_ => some k_ ≠ (.slice Ao84 t128.length co84 : Value).ownBlock ∧ some k_ ≠ (v142 : Value).ownBlock ∧ k_ ≠ gb102 ∧ k_ ≠ gb103)) (by (with_reducible repeat (first | apply zRa | apply zRn | apply zRd)); exact Kd.R_mono HO_16.out (fun _ hk => ⟨⟨hk.1.1.1, ⟨hk.2, ⟨hk.1.1.2.1, hk.1.1.2.2⟩⟩⟩, hk.1.2⟩)) hg hat)
                  have n1_ := zam (Kd.R_after (ok := (fun k_ => some k_ ≠ (.slice Ao51 t107.length co51 : Value).ownBlock ∧ some k_ ≠ (v142 : Value).ownBlock ∧ k_ ≠ gb102 ∧ k_ ≠ gb103)) (by (with_reducible repeat (first | apply zRa | apply zRn | apply zRd)); exact Kd.R_mono HO_24.out (fun _ hk => ⟨⟨hk.1.1.1, ⟨hk.2, ⟨hk.1.1.2.1, hk.1.1.2.2⟩⟩⟩, hk.1.2⟩)) hg hat)
                  have n2_ := zam (zkg (g := gb101) (o := .cells #[.slice A0_0 l0_0.length c0_0, .int .i64 a0_1, .int .i64 a0_2] 26 (0, 0)) zq0 hg (Kd.R_ne HO137.out BK101.out (by decide)))
                  have n3_ := zam (zkg (g := gb102) (o := .cells #[.int .i64 a2_0, .int .i64 a2_1, .int .i64 a2_2, .int .i64 a2_3] 29 (0, 0)) zq4 hg (Kd.R_away HO137.out (fun _ hk => hk.1.1.2)))
                  have n4_ := zam (zkg (g := gb103) (o := .cells #[.int .i64 a5_0, .int .i64 a5_1, .int .i64 a5_2, .int .i64 a5_3] 29 (0, 0)) zq6 hg (Kd.R_away HO137.out (fun _ hk => hk.1.2)))
                  have n5_ := zam (zkg (g := gb104) (o := .cells #[.int .i64 a6_0, .int .i64 a6_1] 24 (0, 0)) zq7 hg (Kd.R_ne HO137.out BK104.out (by decide)))
                  have n6_ := zam (zkg (g := gb134) (o := .cells #[.slice A0_0 l0_0.length c0_0, .int .i64 a0_1, .int .i64 a0_2] 26 (0, 0)) zq13 hg (Kd.R_ne HO137.out BK134.out (by decide)))
                  have n7_ := zam (Kd.R_after (ok := (fun k_ => some k_ ≠ (.slice Ao51 t107.length co51 : Value).ownBlock ∧ some k_ ≠ (.slice Ao84 t128.length co84 : Value).ownBlock ∧ k_ ≠ gb102 ∧ k_ ≠ gb103)) (by (with_reducible repeat (first | apply zRa | apply zRn | apply zRd)); exact Kd.R_mono HO143.out (fun _ hk => ⟨⟨hk.1.1.1.1.2, ⟨hk.1.1.1.2, ⟨hk.1.2, hk.2⟩⟩⟩, hk.1.1.2⟩)) hg hat)
                  have n8_ := zam (hb)
                  have n9_ := zam (ho)
                  clear HO_16
                  clear HO_24
                  clear BK101
                  clear BK102
                  clear BK103
                  clear BK104
                  clear BK134
                  clear HO143
                  clear HB
                  clear HO137
                  have HO_16 := n0_
                  have HO_24 := n1_
                  have BK101 := n2_
                  have BK102 := n3_
                  have BK103 := n4_
                  have BK104 := n5_
                  have BK134 := n6_
                  have HO143 := n7_
                  have HB := n8_
                  have HO140 := n9_
                  clear n0_ n1_ n2_ n3_ n4_ n5_ n6_ n7_ n8_ n9_
                  clear ho hb hg hat
                  refine hK.out _ _ ⟨(zkc BK101.out 0).trans rfl, (zkc BK101.out 1).trans rfl, (zkc BK101.out 2).trans rfl, (zkc BK103.out 0).trans rfl, (zkc BK103.out 1).trans rfl, (zkc BK103.out 2).trans rfl, (zkc BK103.out 3).trans rfl⟩ (fun hHeld => ?_)
                  clear hK K
                  refine norm_ (a' := ?_) ?_ ?_
                  rotate_left
                  ·show Act.put _ (some 144) _ = _
                   simp only [Act.put, zsa, zsz, zss, i64_w, i32_w]
                   rfl
                  exact norm_ (by simp only [putAll, Act.put, zsa, zsz, zss]) (hCont (v136, v139, v142) _ ⟨hHeld, (by (with_reducible repeat (first | apply zRa | apply zRn | apply zRd)); exact Kd.R_mono HO140.out (fun _ hk => ⟨hk.2.2.1, ⟨hk.1, ⟨hk.2.1, ⟨hk.2.2.2.1, hk.2.2.2.2⟩⟩⟩⟩)), (by (with_reducible repeat (first | apply zRa | apply zRn | apply zRd)); exact Kd.R_mono HO143.out (fun _ hk => ⟨hk.2, ⟨hk.1.1, ⟨hk.1.2.1, ⟨hk.1.2.2.1, hk.1.2.2.2⟩⟩⟩⟩)), (by (with_reducible repeat (first | apply zRa | apply zRn | apply zRd)); exact Kd.R_mono HO_16.out (fun _ hk => ⟨hk.2, ⟨hk.1.2.1, ⟨hk.1.1, ⟨hk.1.2.2.1, hk.1.2.2.2⟩⟩⟩⟩)), (by (with_reducible repeat (first | apply zRa | apply zRn | apply zRd)); exact Kd.R_mono HO_24.out (fun _ hk => ⟨hk.2, ⟨hk.1.2.1, ⟨hk.1.1, ⟨hk.1.2.2.1, hk.1.2.2.2⟩⟩⟩⟩)), zq0, zq4, zq6, zq7, zq13, zq3⟩)
                 skip
                 refine Kd.R_lit_step k29 _ 29 ?hg (N := 146) ?hd (xs := ([(⟨(⟨a5_0, a5_1⟩ : S24), (⟨a5_2, a5_3⟩ : S24)⟩ : S29)] : List (S29))) (inner := [.int .i64 a5_0, .int .i64 a5_1, .int .i64 a5_2, .int .i64 a5_3]) (ok := fun _ => True) (okp := fun _ => True) ?hr ?hp (fun _ hk => hk) trivial (Below.refl _ _) (Nat.le_refl _) (by simp) ?_; (case hd => rfl); (case hg => rfl); (case hr => first | (go_simp; done) | (go_simp; rfl)); (case hp => exact (Reps.c4 (show Kd.M k29 _ _ _ (⟨(⟨a5_0, a5_1⟩ : S24), (⟨a5_2, a5_3⟩ : S24)⟩ : S29) [.int .i64 a5_0, .int .i64 a5_1, .int .i64 a5_2, .int .i64 a5_3] from (k29_mkM _ _ _ (⟨(⟨a5_0, a5_1⟩ : S24), (⟨a5_2, a5_3⟩ : S24)⟩ : S29) )) (Reps.none _ _)))
                 intro v142 w97 ho98 hb hg_ hnew_
                 clear hg_ hnew_
                 (first | rw [← Ny141.out] at ho98 | (simp only [Int.reduceToNat] at ho98; rw [← Ny141.out] at ho98))
                 have n0_ := zam (Kd.R_elder' zq12 (Kd.R_base ho98) hb)
                 have n1_ := zam (Kd.R_elder' zq14 (Kd.R_base ho98) hb)
                 have n2_ := zam (Kd.R_lower (Kd.R_newB (Kd.R_newB (Kd.R_new' (Kd.R_new' ho98 (Kd.R_lt zq12)) (Kd.R_lt zq14)) (g := gb102) (o := .cells #[.int .i64 a2_0, .int .i64 a2_1, .int .i64 a2_2, .int .i64 a2_3] 29 (0, 0)) zq4) (g := gb103) (o := .cells #[.int .i64 a5_0, .int .i64 a5_1, .int .i64 a5_2, .int .i64 a5_3] 29 (0, 0)) zq6) (zbz zq3))
                 have n3_ := zam (zkb (g := gb101) (o := .cells #[.slice A0_0 l0_0.length c0_0, .int .i64 a0_1, .int .i64 a0_2] 26 (0, 0)) zq0 hb)
                 have n4_ := zam (zkb (g := gb102) (o := .cells #[.int .i64 a2_0, .int .i64 a2_1, .int .i64 a2_2, .int .i64 a2_3] 29 (0, 0)) zq4 hb)
                 have n5_ := zam (zkb (g := gb103) (o := .cells #[.int .i64 a5_0, .int .i64 a5_1, .int .i64 a5_2, .int .i64 a5_3] 29 (0, 0)) zq6 hb)
                 have n6_ := zam (zkb (g := gb104) (o := .cells #[.int .i64 a6_0, .int .i64 a6_1] 24 (0, 0)) zq7 hb)
                 have n7_ := zam (zkb (g := gb134) (o := .cells #[.slice A0_0 l0_0.length c0_0, .int .i64 a0_1, .int .i64 a0_2] 26 (0, 0)) zq13 hb)
                 have n8_ := zam (zbt zq3 hb)
                 clear HO_16
                 clear HO_24
                 clear BK101
                 clear BK102
                 clear BK103
                 clear BK104
                 clear BK134
                 clear HB
                 have HO_16 := n0_
                 have HO_24 := n1_
                 have HO143 := n2_
                 have BK101 := n3_
                 have BK102 := n4_
                 have BK103 := n5_
                 have BK104 := n6_
                 have BK134 := n7_
                 have HB := n8_
                 clear n0_ n1_ n2_ n3_ n4_ n5_ n6_ n7_ n8_
                 clear hb ho98
                 refine hK.out _ _ ⟨(zkc BK101.out 0).trans rfl, (zkc BK101.out 1).trans rfl, (zkc BK101.out 2).trans rfl, (zkc BK103.out 0).trans rfl, (zkc BK103.out 1).trans rfl, (zkc BK103.out 2).trans rfl, (zkc BK103.out 3).trans rfl⟩ (fun hHeld => ?_)
                 clear hK K
                 refine norm_ (a' := ?_) ?_ ?_
                 rotate_left
                 ·show Act.put _ (some 146) _ = _
                  simp only [Act.put, zsa, zsz, zss, i64_w, i32_w]
                  rfl
                 refine one_ (i := 0) (N := some 141) #[true, true, true, false, true, true, false, false, false] rfl rfl (one_of HT_.out (by kernel_rfl)) (by decide) (fun K hK => ?_)
                 refine Kd.R_lit_step k29 _ 29 ?hg (N := 141) ?hd (xs := ([] : List (S29))) (inner := []) (ok := fun _ => True) (okp := fun _ => True) ?hr ?hp (fun _ hk => hk) trivial (Below.refl _ _) (Nat.le_refl _) (by simp) ?_; (case hd => rfl); (case hg => rfl); (case hr => first | (go_simp; done) | (go_simp; rfl)); (case hp => exact (Reps.none _ _))
                 intro v136 w99 ho100 hb hg_ hnew_
                 clear hg_ hnew_
                 (first | rw [← Ny135.out] at ho100 | (simp only [Int.reduceToNat] at ho100; rw [← Ny135.out] at ho100))
                 have n0_ := zam (Kd.R_elder' zq12 (Kd.R_base ho100) hb)
                 have n1_ := zam (Kd.R_elder' zq14 (Kd.R_base ho100) hb)
                 have n2_ := zam (Kd.R_elder' zq16 (Kd.R_base ho100) hb)
                 have n3_ := zam (Kd.R_lower (Kd.R_newB (Kd.R_newB (Kd.R_new' (Kd.R_new' (Kd.R_new' ho100 (Kd.R_lt zq12)) (Kd.R_lt zq14)) (Kd.R_lt zq16)) (g := gb102) (o := .cells #[.int .i64 a2_0, .int .i64 a2_1, .int .i64 a2_2, .int .i64 a2_3] 29 (0, 0)) zq4) (g := gb103) (o := .cells #[.int .i64 a5_0, .int .i64 a5_1, .int .i64 a5_2, .int .i64 a5_3] 29 (0, 0)) zq6) (zbz zq3))
                 have n4_ := zam (zkb (g := gb101) (o := .cells #[.slice A0_0 l0_0.length c0_0, .int .i64 a0_1, .int .i64 a0_2] 26 (0, 0)) zq0 hb)
                 have n5_ := zam (zkb (g := gb102) (o := .cells #[.int .i64 a2_0, .int .i64 a2_1, .int .i64 a2_2, .int .i64 a2_3] 29 (0, 0)) zq4 hb)
                 have n6_ := zam (zkb (g := gb103) (o := .cells #[.int .i64 a5_0, .int .i64 a5_1, .int .i64 a5_2, .int .i64 a5_3] 29 (0, 0)) zq6 hb)
                 have n7_ := zam (zkb (g := gb104) (o := .cells #[.int .i64 a6_0, .int .i64 a6_1] 24 (0, 0)) zq7 hb)
                 have n8_ := zam (zkb (g := gb134) (o := .cells #[.slice A0_0 l0_0.length c0_0, .int .i64 a0_1, .int .i64 a0_2] 26 (0, 0)) zq13 hb)
                 have n9_ := zam (zbt zq3 hb)
                 clear HO_16
                 clear HO_24
                 clear HO143
                 clear BK101
                 clear BK102
                 clear BK103
                 clear BK104
                 clear BK134
                 clear HB
                 have HO_16 := n0_
                 have HO_24 := n1_
                 have HO143 := n2_
                 have HO137 := n3_
                 have BK101 := n4_
                 have BK102 := n5_
                 have BK103 := n6_
                 have BK104 := n7_
                 have BK134 := n8_
                 have HB := n9_
                 clear n0_ n1_ n2_ n3_ n4_ n5_ n6_ n7_ n8_ n9_
                 clear hb ho100
                 refine hK.out _ _ ⟨(zkc BK101.out 0).trans rfl, (zkc BK101.out 1).trans rfl, (zkc BK101.out 2).trans rfl, (zkc BK103.out 0).trans rfl, (zkc BK103.out 1).trans rfl, (zkc BK103.out 2).trans rfl, (zkc BK103.out 3).trans rfl⟩ (fun hHeld => ?_)
                 clear hK K
                 refine norm_ (a' := ?_) ?_ ?_
                 rotate_left
                 ·show Act.put _ (some 141) _ = _
                  simp only [Act.put, zsa, zsz, zss, i64_w, i32_w]
                  rfl
                 refine one_ (i := 3) (N := some 144) #[true, true, true, true, true, true, false, false, false] rfl rfl (one_of HT_.out (by kernel_rfl)) (by decide) (fun K hK => ?_)
                 refine Kd.R_append_rows_step k29 (w0 := w) w.heap.size (by rfl) (.tmp 141) (.tmp 143) 22 29 (.agg #[(.int .i64 0), (.int .i64 0), (.int .i64 0), (.int .i64 0)]) 32 rfl Try.underlying22 info29 rfl (by decide) (by omega) v136 y135 l0_0 _ _ _ (fun k_ => some k_ ≠ (.slice Ao51 t107.length co51 : Value).ownBlock ∧ some k_ ≠ (.slice Ao84 t128.length co84 : Value).ownBlock ∧ some k_ ≠ (v142 : Value).ownBlock ∧ k_ ≠ gb102 ∧ k_ ≠ gb103) (fun _ => False) rfl rfl ?aO ?aR (fun _ _ h => h) (fun _ h => h.elim) ?aF ?aB ?aS ?aL ?_
                 (case aR => repeat (first | exact (Kd.C_below HR0_0.out HB.out) | (with_reducible refine Kd.C_alloc ?_ _) | (with_reducible refine Kd.C_drewN ?_ _) | (with_reducible refine Kd.C_drew ?_)))
                 (case aB => exact zq3)
                 (case aF => exact (fun k_ hk => ⟨Kd.fresh' (Kd.R_lt zq12) k_ hk, Kd.fresh' (Kd.R_lt zq14) k_ hk, Kd.fresh' (Kd.R_lt zq16) k_ hk, Kd.freshB (g := gb102) (o := .cells #[.int .i64 a2_0, .int .i64 a2_1, .int .i64 a2_2, .int .i64 a2_3] 29 (0, 0)) zq4 k_ hk, Kd.freshB (g := gb103) (o := .cells #[.int .i64 a5_0, .int .i64 a5_1, .int .i64 a5_2, .int .i64 a5_3] 29 (0, 0)) zq6 k_ hk⟩))
                 (case aO => exact (by (with_reducible repeat (first | apply zRa | apply zRn | apply zRd)); exact Kd.R_mono HO137.out (fun _ hk => ⟨hk.1.1.1.1.2, ⟨hk.1.1.1.2, ⟨hk.1.1.2, ⟨hk.1.2, hk.2⟩⟩⟩⟩)))
                 (case aS => exact (zbz zq3))
                 (case aL => have := LMc79.out; omega)
                 intro v139 w101 ho hb hg hat
                 rw [← Ny138.out] at ho
                 have n0_ := zam (Kd.R_after (ok := (fun k_ => some k_ ≠ (.slice Ao84 t128.length co84 : Value).ownBlock ∧ some k_ ≠ (v142 : Value).ownBlock ∧ k_ ≠ gb102 ∧ k_ ≠ gb103)) (by (with_reducible repeat (first | apply zRa | apply zRn | apply zRd)); exact Kd.R_mono HO_16.out (fun _ hk => ⟨⟨hk.1.1.1, ⟨hk.1.2, ⟨hk.1.1.2.1, hk.1.1.2.2⟩⟩⟩, hk.2⟩)) hg hat)
                 have n1_ := zam (Kd.R_after (ok := (fun k_ => some k_ ≠ (.slice Ao51 t107.length co51 : Value).ownBlock ∧ some k_ ≠ (v142 : Value).ownBlock ∧ k_ ≠ gb102 ∧ k_ ≠ gb103)) (by (with_reducible repeat (first | apply zRa | apply zRn | apply zRd)); exact Kd.R_mono HO_24.out (fun _ hk => ⟨⟨hk.1.1.1, ⟨hk.1.2, ⟨hk.1.1.2.1, hk.1.1.2.2⟩⟩⟩, hk.2⟩)) hg hat)
                 have n2_ := zam (zkg (g := gb101) (o := .cells #[.slice A0_0 l0_0.length c0_0, .int .i64 a0_1, .int .i64 a0_2] 26 (0, 0)) zq0 hg (Kd.R_ne HO137.out BK101.out (by decide)))
                 have n3_ := zam (zkg (g := gb102) (o := .cells #[.int .i64 a2_0, .int .i64 a2_1, .int .i64 a2_2, .int .i64 a2_3] 29 (0, 0)) zq4 hg (Kd.R_away HO137.out (fun _ hk => hk.1.2)))
                 have n4_ := zam (zkg (g := gb103) (o := .cells #[.int .i64 a5_0, .int .i64 a5_1, .int .i64 a5_2, .int .i64 a5_3] 29 (0, 0)) zq6 hg (Kd.R_away HO137.out (fun _ hk => hk.2)))
                 have n5_ := zam (zkg (g := gb104) (o := .cells #[.int .i64 a6_0, .int .i64 a6_1] 24 (0, 0)) zq7 hg (Kd.R_ne HO137.out BK104.out (by decide)))
                 have n6_ := zam (zkg (g := gb134) (o := .cells #[.slice A0_0 l0_0.length c0_0, .int .i64 a0_1, .int .i64 a0_2] 26 (0, 0)) zq13 hg (Kd.R_ne HO137.out BK134.out (by decide)))
                 have n7_ := zam (Kd.R_after (ok := (fun k_ => some k_ ≠ (.slice Ao51 t107.length co51 : Value).ownBlock ∧ some k_ ≠ (.slice Ao84 t128.length co84 : Value).ownBlock ∧ k_ ≠ gb102 ∧ k_ ≠ gb103)) (by (with_reducible repeat (first | apply zRa | apply zRn | apply zRd)); exact Kd.R_mono HO143.out (fun _ hk => ⟨⟨hk.1.1.1.1.2, ⟨hk.1.1.1.2, ⟨hk.1.1.2, hk.1.2⟩⟩⟩, hk.2⟩)) hg hat)
                 have n8_ := zam (hb)
                 have n9_ := zam (ho)
                 clear HO_16
                 clear HO_24
                 clear BK101
                 clear BK102
                 clear BK103
                 clear BK104
                 clear BK134
                 clear HO143
                 clear HB
                 clear HO137
                 have HO_16 := n0_
                 have HO_24 := n1_
                 have BK101 := n2_
                 have BK102 := n3_
                 have BK103 := n4_
                 have BK104 := n5_
                 have BK134 := n6_
                 have HO143 := n7_
                 have HB := n8_
                 have HO140 := n9_
                 clear n0_ n1_ n2_ n3_ n4_ n5_ n6_ n7_ n8_ n9_
                 clear ho hb hg hat
                 refine hK.out _ _ ⟨(zkc BK101.out 0).trans rfl, (zkc BK101.out 1).trans rfl, (zkc BK101.out 2).trans rfl, (zkc BK103.out 0).trans rfl, (zkc BK103.out 1).trans rfl, (zkc BK103.out 2).trans rfl, (zkc BK103.out 3).trans rfl⟩ (fun hHeld => ?_)
                 clear hK K
                 refine norm_ (a' := ?_) ?_ ?_
                 rotate_left
                 ·show Act.put _ (some 144) _ = _
                  simp only [Act.put, zsa, zsz, zss, i64_w, i32_w]
                  rfl
                 exact norm_ (by simp only [putAll, Act.put, zsa, zsz, zss]) (hCont (v136, v139, v142) _ ⟨hHeld, (by (with_reducible repeat (first | apply zRa | apply zRn | apply zRd)); exact Kd.R_mono HO140.out (fun _ hk => ⟨hk.2.2.1, ⟨hk.1, ⟨hk.2.1, ⟨hk.2.2.2.1, hk.2.2.2.2⟩⟩⟩⟩)), (by (with_reducible repeat (first | apply zRa | apply zRn | apply zRd)); exact Kd.R_mono HO143.out (fun _ hk => ⟨hk.2, ⟨hk.1.1, ⟨hk.1.2.1, ⟨hk.1.2.2.1, hk.1.2.2.2⟩⟩⟩⟩)), (by (with_reducible repeat (first | apply zRa | apply zRn | apply zRd)); exact Kd.R_mono HO_16.out (fun _ hk => ⟨hk.2, ⟨hk.1.2.1, ⟨hk.1.1, ⟨hk.1.2.2.1, hk.1.2.2.2⟩⟩⟩⟩)), (by (with_reducible repeat (first | apply zRa | apply zRn | apply zRd)); exact Kd.R_mono HO_24.out (fun _ hk => ⟨hk.2, ⟨hk.1.2.1, ⟨hk.1.1, ⟨hk.1.2.2.1, hk.1.2.2.2⟩⟩⟩⟩)), zq0, zq4, zq6, zq7, zq13, zq3⟩)
                rintro ⟨v136, v139, v142⟩ w102 ⟨hS_, h0_, h1_, h2_, h3_, h4_, h5_, h6_, h7_, h8_, h9_⟩
                have n0_ : Aside0 (Kd.R k29 29 w102 w.heap.size (fun k_ => some k_ ≠ (v142 : Value).ownBlock ∧ some k_ ≠ (.slice Ao51 t107.length co51 : Value).ownBlock ∧ some k_ ≠ (.slice Ao84 t128.length co84 : Value).ownBlock ∧ k_ ≠ gb102 ∧ k_ ≠ gb103) v139 y138) := ⟨h0_⟩
                have n1_ : Aside0 (Kd.R k29 29 w102 w.heap.size (fun k_ => some k_ ≠ (v139 : Value).ownBlock ∧ some k_ ≠ (.slice Ao51 t107.length co51 : Value).ownBlock ∧ some k_ ≠ (.slice Ao84 t128.length co84 : Value).ownBlock ∧ k_ ≠ gb102 ∧ k_ ≠ gb103) v142 y141) := ⟨h1_⟩
                have n2_ : Aside0 (Kd.R k29 29 w102 w.heap.size (fun k_ => some k_ ≠ (v139 : Value).ownBlock ∧ some k_ ≠ (v142 : Value).ownBlock ∧ some k_ ≠ (.slice Ao84 t128.length co84 : Value).ownBlock ∧ k_ ≠ gb102 ∧ k_ ≠ gb103) (.slice Ao51 t107.length co51) t107) := ⟨h2_⟩
                have n3_ : Aside0 (Kd.R k29 29 w102 w.heap.size (fun k_ => some k_ ≠ (v139 : Value).ownBlock ∧ some k_ ≠ (v142 : Value).ownBlock ∧ some k_ ≠ (.slice Ao51 t107.length co51 : Value).ownBlock ∧ k_ ≠ gb102 ∧ k_ ≠ gb103) (.slice Ao84 t128.length co84) t128) := ⟨h3_⟩
                have n4_ : Aside0 (w102.heap[gb101]? = some (.cells #[.slice A0_0 l0_0.length c0_0, .int .i64 a0_1, .int .i64 a0_2] 26 (0, 0))) := ⟨h4_⟩
                have n5_ : Aside0 (w102.heap[gb102]? = some (.cells #[.int .i64 a2_0, .int .i64 a2_1, .int .i64 a2_2, .int .i64 a2_3] 29 (0, 0))) := ⟨h5_⟩
                have n6_ : Aside0 (w102.heap[gb103]? = some (.cells #[.int .i64 a5_0, .int .i64 a5_1, .int .i64 a5_2, .int .i64 a5_3] 29 (0, 0))) := ⟨h6_⟩
                have n7_ : Aside0 (w102.heap[gb104]? = some (.cells #[.int .i64 a6_0, .int .i64 a6_1] 24 (0, 0))) := ⟨h7_⟩
                have n8_ : Aside0 (w102.heap[gb134]? = some (.cells #[.slice A0_0 l0_0.length c0_0, .int .i64 a0_1, .int .i64 a0_2] 26 (0, 0))) := ⟨h8_⟩
                have n9_ : Aside0 (Below w.heap.size w w102) := ⟨h9_⟩
                clear HO_16
                clear HO_24
                clear BK101
                clear BK102
                clear BK103
                clear BK104
                clear BK134
                clear HB
                clear h0_ h1_ h2_ h3_ h4_ h5_ h6_ h7_ h8_ h9_
                have HO140 := n0_
                have HO143 := n1_
                have HO_16 := n2_
                have HO_24 := n3_
                have BK101 := n4_
                have BK102 := n5_
                have BK103 := n6_
                have BK104 := n7_
                have BK134 := n8_
                have HB := n9_
                clear n0_ n1_ n2_ n3_ n4_ n5_ n6_ n7_ n8_ n9_
                have hHeld : w102.cell? ⟨gb101, 0, none⟩ = some (.slice A0_0 l0_0.length c0_0) ∧ w102.cell? ⟨gb101, 1, none⟩ = some (.int .i64 a0_1) ∧ w102.cell? ⟨gb101, 2, none⟩ = some (.int .i64 a0_2) ∧ w102.cell? ⟨gb103, 0, none⟩ = some (.int .i64 a5_0) ∧ w102.cell? ⟨gb103, 1, none⟩ = some (.int .i64 a5_1) ∧ w102.cell? ⟨gb103, 2, none⟩ = some (.int .i64 a5_2) ∧ w102.cell? ⟨gb103, 3, none⟩ = some (.int .i64 a5_3) := hS_
                obtain ⟨Ao104, co104, eo104⟩ := Kd.R_slice HO143.out
                (first | subst eo104 | (injection eo104 with f1_ f2_ f3_; have f4_ := f1_.symm; have f5_ := f3_.symm; clear f1_ f2_ f3_; subst f4_; subst f5_))
                refine norm_ (a' := ?_) ?_ ?_
                rotate_left
                ·simp only [putAll, Act.put, zsa, zsz, zss]
                 rfl
                refine one_ (i := 6) (N := some 147) #[true, true, true, true, true, true, true, false, false] rfl rfl (one_of HT_.out (by kernel_rfl)) (by decide) (fun K hK => ?_)
                refine Kd.R_append_rows_step k29 (w0 := w) w.heap.size (by rfl) (.tmp 144) (.tmp 146) 22 29 (.agg #[(.int .i64 0), (.int .i64 0), (.int .i64 0), (.int .i64 0)]) 32 rfl Try.underlying22 info29 rfl (by decide) (by omega) v139 y138 y141 _ _ _ (fun k_ => some k_ ≠ (.slice Ao51 t107.length co51 : Value).ownBlock ∧ some k_ ≠ (.slice Ao84 t128.length co84 : Value).ownBlock ∧ some k_ ≠ (.slice Ao104 y141.length co104 : Value).ownBlock ∧ k_ ≠ gb102 ∧ k_ ≠ gb103) (fun _ => False) rfl rfl ?aO ?aR (fun _ _ h => h) (fun _ h => h.elim) ?aF ?aB ?aS ?aL ?_
                (case aR => repeat (first | exact (Kd.R_reads' HO143.out).2.2 | (with_reducible refine Kd.C_alloc ?_ _) | (with_reducible refine Kd.C_drewN ?_ _) | (with_reducible refine Kd.C_drew ?_)))
                (case aB => exact zq3)
                (case aF => exact (fun k_ hk => ⟨Kd.fresh' (Kd.R_lt zq12) k_ hk, Kd.fresh' (Kd.R_lt zq14) k_ hk, Kd.fresh' (Kd.R_lt zq16) k_ hk, Kd.freshB (g := gb102) (o := .cells #[.int .i64 a2_0, .int .i64 a2_1, .int .i64 a2_2, .int .i64 a2_3] 29 (0, 0)) zq4 k_ hk, Kd.freshB (g := gb103) (o := .cells #[.int .i64 a5_0, .int .i64 a5_1, .int .i64 a5_2, .int .i64 a5_3] 29 (0, 0)) zq6 k_ hk⟩))
                (case aO => exact (by (with_reducible repeat (first | apply zRa | apply zRn | apply zRd)); exact Kd.R_mono HO140.out (fun _ hk => ⟨hk.2.1, ⟨hk.2.2.1, ⟨hk.1, ⟨hk.2.2.2.1, hk.2.2.2.2⟩⟩⟩⟩)))
                (case aS => exact (zbz zq3))
                (case aL => have := LMc80.out; omega)
                intro v145 w103 ho hb hg hat
                rw [← Ny144.out] at ho
                have n0_ := zam (Kd.R_after (ok := (fun k_ => some k_ ≠ (.slice Ao84 t128.length co84 : Value).ownBlock ∧ some k_ ≠ (.slice Ao104 y141.length co104 : Value).ownBlock ∧ k_ ≠ gb102 ∧ k_ ≠ gb103)) (by (with_reducible repeat (first | apply zRa | apply zRn | apply zRd)); exact Kd.R_mono HO_16.out (fun _ hk => ⟨⟨hk.2.2.1, ⟨hk.2.1, ⟨hk.2.2.2.1, hk.2.2.2.2⟩⟩⟩, hk.1⟩)) hg hat)
                have n1_ := zam (Kd.R_after (ok := (fun k_ => some k_ ≠ (.slice Ao51 t107.length co51 : Value).ownBlock ∧ some k_ ≠ (.slice Ao104 y141.length co104 : Value).ownBlock ∧ k_ ≠ gb102 ∧ k_ ≠ gb103)) (by (with_reducible repeat (first | apply zRa | apply zRn | apply zRd)); exact Kd.R_mono HO_24.out (fun _ hk => ⟨⟨hk.2.2.1, ⟨hk.2.1, ⟨hk.2.2.2.1, hk.2.2.2.2⟩⟩⟩, hk.1⟩)) hg hat)
                have n2_ := zam (zkg (g := gb101) (o := .cells #[.slice A0_0 l0_0.length c0_0, .int .i64 a0_1, .int .i64 a0_2] 26 (0, 0)) zq0 hg (Kd.R_ne HO140.out BK101.out (by decide)))
                have n3_ := zam (zkg (g := gb102) (o := .cells #[.int .i64 a2_0, .int .i64 a2_1, .int .i64 a2_2, .int .i64 a2_3] 29 (0, 0)) zq4 hg (Kd.R_away HO140.out (fun _ hk => hk.2.2.2.1)))
                have n4_ := zam (zkg (g := gb103) (o := .cells #[.int .i64 a5_0, .int .i64 a5_1, .int .i64 a5_2, .int .i64 a5_3] 29 (0, 0)) zq6 hg (Kd.R_away HO140.out (fun _ hk => hk.2.2.2.2)))
                have n5_ := zam (zkg (g := gb104) (o := .cells #[.int .i64 a6_0, .int .i64 a6_1] 24 (0, 0)) zq7 hg (Kd.R_ne HO140.out BK104.out (by decide)))
                have n6_ := zam (zkg (g := gb134) (o := .cells #[.slice A0_0 l0_0.length c0_0, .int .i64 a0_1, .int .i64 a0_2] 26 (0, 0)) zq13 hg (Kd.R_ne HO140.out BK134.out (by decide)))
                have n7_ := zam (Kd.R_after (ok := (fun k_ => some k_ ≠ (.slice Ao51 t107.length co51 : Value).ownBlock ∧ some k_ ≠ (.slice Ao84 t128.length co84 : Value).ownBlock ∧ k_ ≠ gb102 ∧ k_ ≠ gb103)) (by (with_reducible repeat (first | apply zRa | apply zRn | apply zRd)); exact Kd.R_mono HO143.out (fun _ hk => ⟨⟨hk.2.1, ⟨hk.2.2.1, ⟨hk.2.2.2.1, hk.2.2.2.2⟩⟩⟩, hk.1⟩)) hg hat)
                have n8_ := zam (hb)
                have n9_ := zam (ho)
                clear HO_16
                clear HO_24
                clear BK101
                clear BK102
                clear BK103
                clear BK104
                clear BK134
                clear HO143
                clear HB
                clear HO140
                have HO_16 := n0_
                have HO_24 := n1_
                have BK101 := n2_
                have BK102 := n3_
                have BK103 := n4_
                have BK104 := n5_
                have BK134 := n6_
                have HO143 := n7_
                have HB := n8_
                have HO146 := n9_
                clear n0_ n1_ n2_ n3_ n4_ n5_ n6_ n7_ n8_ n9_
                clear ho hb hg hat
                obtain ⟨Ao105, co105, eo105⟩ := Kd.R_slice HO146.out
                (first | subst eo105 | (injection eo105 with f1_ f2_ f3_; have f4_ := f1_.symm; have f5_ := f3_.symm; clear f1_ f2_ f3_; subst f4_; subst f5_))
                refine hK.out _ _ ⟨(zkc BK101.out 0).trans rfl, (zkc BK101.out 1).trans rfl, (zkc BK101.out 2).trans rfl, (zkc BK103.out 0).trans rfl, (zkc BK103.out 1).trans rfl, (zkc BK103.out 2).trans rfl, (zkc BK103.out 3).trans rfl⟩ (fun hHeld => ?_)
                clear hK K
                refine norm_ (a' := ?_) ?_ ?_
                rotate_left
                ·show Act.put _ (some 147) _ = _
                 simp only [Act.put, zsa, zsz, zss, i64_w, i32_w]
                 rfl
                refine pure_ (i := 7) (N := some 148) (v := ?_) (a' := ?_) #[true, true, true, true, true, true, true, true, false] rfl rfl (any_of HT_.out (by kernel_rfl)) (fun _ _ _ h => h) (Or.inl ⟨by rfl, ?_⟩) ?_ ?_
                rotate_left
                ·intro w'
                 go_simp
                 with_reducible rfl
                rotate_left
                ·simp only [Act.put, zsa, zsz, zss, i64_w, i32_w]
                 rfl
                refine one_ (i := 8) (N := none) #[true, true, true, true, true, true, true, true, true] rfl rfl (one_of HT_.out (by kernel_rfl)) (by decide) (fun K hK => ?_)
                have hs106 : w103.cell? ⟨gb134, 0, none⟩ = some (.slice A0_0 l0_0.length c0_0) := (zkc BK134.out 0).trans rfl
                have hfs106 := zkz BK134.out 0
                have hns106_0 := NB101_134.out
                have hns106_1 := NB102_134.out
                have hns106_2 := NB103_134.out
                have hns106_3 := NB104_134.out
                have hms106_0 := NB134_101.out
                have hms106_1 := NB134_102.out
                have hms106_2 := NB134_103.out
                have hms106_3 := NB134_104.out
                refine skip_ (w1 := ?_) (by rfl) rfl ?_ ?_
                rotate_left
                ·go_simp
                 rfl
                refine hK.out _ _ ⟨((cell_far (p := ⟨gb134, _, none⟩) NB101_134.out _).trans (hHeld.1)), ((cell_far (p := ⟨gb134, _, none⟩) NB101_134.out _).trans (hHeld.2.1)), ((cell_far (p := ⟨gb134, _, none⟩) NB101_134.out _).trans (hHeld.2.2.1)), ((cell_far (p := ⟨gb134, _, none⟩) NB103_134.out _).trans (hHeld.2.2.2.1)), ((cell_far (p := ⟨gb134, _, none⟩) NB103_134.out _).trans (hHeld.2.2.2.2.1)), ((cell_far (p := ⟨gb134, _, none⟩) NB103_134.out _).trans (hHeld.2.2.2.2.2.1)), ((cell_far (p := ⟨gb134, _, none⟩) NB103_134.out _).trans (hHeld.2.2.2.2.2.2))⟩ (fun hHeld => ?_)
                clear hK K
                refine done_ (done_of HT_.out (by kernel_rfl)) ?_
                try go_wp2
                have n0_ : Aside0 (Kd.R k29 29 (w103.setCell ⟨gb134, 0, none⟩ (.slice Ao105 y144.length co105)) w.heap.size (fun k_ => some k_ ≠ (.slice Ao84 t128.length co84 : Value).ownBlock ∧ some k_ ≠ (.slice Ao104 y141.length co104 : Value).ownBlock ∧ some k_ ≠ (.slice Ao105 y144.length co105 : Value).ownBlock ∧ k_ ≠ gb102 ∧ k_ ≠ gb103) (.slice Ao51 t107.length co51) t107) := ⟨by (with_reducible repeat (first | apply zRa | apply zRn | apply zRd)); exact Kd.R_mono (Kd.R_far (p := ⟨gb134, 0, none⟩) (Kd.R_types HO_16.out BK134.out (by decide)) (fun _ hk => hk.2) (.slice Ao105 y144.length co105)) (fun _ hk => ⟨hk.1.1.1, ⟨hk.1.1.2.1, ⟨hk.1.2, ⟨hk.1.1.2.2.1, hk.1.1.2.2.2⟩⟩⟩⟩)⟩
                have n1_ : Aside0 (Kd.R k29 29 (w103.setCell ⟨gb134, 0, none⟩ (.slice Ao105 y144.length co105)) w.heap.size (fun k_ => some k_ ≠ (.slice Ao51 t107.length co51 : Value).ownBlock ∧ some k_ ≠ (.slice Ao104 y141.length co104 : Value).ownBlock ∧ some k_ ≠ (.slice Ao105 y144.length co105 : Value).ownBlock ∧ k_ ≠ gb102 ∧ k_ ≠ gb103) (.slice Ao84 t128.length co84) t128) := ⟨by (with_reducible repeat (first | apply zRa | apply zRn | apply zRd)); exact Kd.R_mono (Kd.R_far (p := ⟨gb134, 0, none⟩) (Kd.R_types HO_24.out BK134.out (by decide)) (fun _ hk => hk.2) (.slice Ao105 y144.length co105)) (fun _ hk => ⟨hk.1.1.1, ⟨hk.1.1.2.1, ⟨hk.1.2, ⟨hk.1.1.2.2.1, hk.1.1.2.2.2⟩⟩⟩⟩)⟩
                have n2_ : Aside0 (Kd.R k29 29 (w103.setCell ⟨gb134, 0, none⟩ (.slice Ao105 y144.length co105)) w.heap.size (fun k_ => some k_ ≠ (.slice Ao51 t107.length co51 : Value).ownBlock ∧ some k_ ≠ (.slice Ao84 t128.length co84 : Value).ownBlock ∧ some k_ ≠ (.slice Ao105 y144.length co105 : Value).ownBlock ∧ k_ ≠ gb102 ∧ k_ ≠ gb103) (.slice Ao104 y141.length co104) y141) := ⟨by (with_reducible repeat (first | apply zRa | apply zRn | apply zRd)); exact Kd.R_mono (Kd.R_far (p := ⟨gb134, 0, none⟩) (Kd.R_types HO143.out BK134.out (by decide)) (fun _ hk => hk.2) (.slice Ao105 y144.length co105)) (fun _ hk => ⟨hk.1.1.1, ⟨hk.1.1.2.1, ⟨hk.1.2, ⟨hk.1.1.2.2.1, hk.1.1.2.2.2⟩⟩⟩⟩)⟩
                have n3_ : Aside0 (Kd.R k29 29 (w103.setCell ⟨gb134, 0, none⟩ (.slice Ao105 y144.length co105)) w.heap.size (fun k_ => some k_ ≠ (.slice Ao51 t107.length co51 : Value).ownBlock ∧ some k_ ≠ (.slice Ao84 t128.length co84 : Value).ownBlock ∧ some k_ ≠ (.slice Ao104 y141.length co104 : Value).ownBlock ∧ k_ ≠ gb102 ∧ k_ ≠ gb103) (.slice Ao105 y144.length co105) y144) := ⟨by (with_reducible repeat (first | apply zRa | apply zRn | apply zRd)); exact Kd.R_mono (Kd.R_far (p := ⟨gb134, 0, none⟩) (Kd.R_types HO146.out BK134.out (by decide)) (fun _ hk => hk.2) (.slice Ao105 y144.length co105)) (fun _ hk => ⟨hk.1.1, ⟨hk.1.2.1, ⟨hk.1.2.2.1, ⟨hk.1.2.2.2.1, hk.1.2.2.2.2⟩⟩⟩⟩)⟩
                have n4_ : Aside0 ((w103.setCell ⟨gb134, 0, none⟩ (.slice Ao105 y144.length co105)).heap[gb101]? = some (.cells #[.slice A0_0 l0_0.length c0_0, .int .i64 a0_1, .int .i64 a0_2] 26 (0, 0))) := ⟨by (with_reducible repeat (first | refine zkn ?_ _ | refine zkd ?_ | refine zka ?_ _)); refine zkf ?_ NB101_134.out _; (with_reducible repeat (first | refine zkn ?_ _ | refine zkd ?_ | refine zka ?_ _)); exact BK101.out⟩
                have n5_ : Aside0 ((w103.setCell ⟨gb134, 0, none⟩ (.slice Ao105 y144.length co105)).heap[gb102]? = some (.cells #[.int .i64 a2_0, .int .i64 a2_1, .int .i64 a2_2, .int .i64 a2_3] 29 (0, 0))) := ⟨by (with_reducible repeat (first | refine zkn ?_ _ | refine zkd ?_ | refine zka ?_ _)); refine zkf ?_ NB102_134.out _; (with_reducible repeat (first | refine zkn ?_ _ | refine zkd ?_ | refine zka ?_ _)); exact BK102.out⟩
                have n6_ : Aside0 ((w103.setCell ⟨gb134, 0, none⟩ (.slice Ao105 y144.length co105)).heap[gb103]? = some (.cells #[.int .i64 a5_0, .int .i64 a5_1, .int .i64 a5_2, .int .i64 a5_3] 29 (0, 0))) := ⟨by (with_reducible repeat (first | refine zkn ?_ _ | refine zkd ?_ | refine zka ?_ _)); refine zkf ?_ NB103_134.out _; (with_reducible repeat (first | refine zkn ?_ _ | refine zkd ?_ | refine zka ?_ _)); exact BK103.out⟩
                have n7_ : Aside0 ((w103.setCell ⟨gb134, 0, none⟩ (.slice Ao105 y144.length co105)).heap[gb104]? = some (.cells #[.int .i64 a6_0, .int .i64 a6_1] 24 (0, 0))) := ⟨by (with_reducible repeat (first | refine zkn ?_ _ | refine zkd ?_ | refine zka ?_ _)); refine zkf ?_ NB104_134.out _; (with_reducible repeat (first | refine zkn ?_ _ | refine zkd ?_ | refine zka ?_ _)); exact BK104.out⟩
                have n8_ : Aside0 ((w103.setCell ⟨gb134, 0, none⟩ (.slice Ao105 y144.length co105)).heap[gb134]? = some (.cells #[.slice Ao105 y144.length co105, .int .i64 a0_1, .int .i64 a0_2] 26 (0, 0))) := ⟨by (with_reducible repeat (first | refine zkn ?_ _ | refine zkd ?_ | refine zka ?_ _)); refine blk_put (cs := #[.slice A0_0 l0_0.length c0_0, .int .i64 a0_1, .int .i64 a0_2]) ?_ 0 _ rfl; (with_reducible repeat (first | refine zkn ?_ _ | refine zkd ?_ | refine zka ?_ _)); exact BK134.out⟩
                have n9_ : Aside0 (Below w.heap.size w (w103.setCell ⟨gb134, 0, none⟩ (.slice Ao105 y144.length co105))) := ⟨by repeat (first | (with_reducible first | exact HB.out | apply zba | apply zbn | apply zb1 | refine zbs ?_ GE101.out | refine zbs ?_ GE102.out | refine zbs ?_ GE103.out | refine zbs ?_ GE104.out | refine zbs ?_ GE134.out) | exact HB.out)⟩
                (try clear HO_16)
                (try clear HO_24)
                (try clear HO143)
                (try clear HO146)
                (try clear BK101)
                (try clear BK102)
                (try clear BK103)
                (try clear BK104)
                (try clear BK134)
                (try clear HB)
                generalize (w103.setCell ⟨gb134, 0, none⟩ (.slice Ao105 y144.length co105)) = w107 at n0_ n1_ n2_ n3_ n4_ n5_ n6_ n7_ n8_ n9_ ⊢
                have HO_16 := n0_
                have HO_24 := n1_
                have HO143 := n2_
                have HO146 := n3_
                have BK101 := n4_
                have BK102 := n5_
                have BK103 := n6_
                have BK104 := n7_
                have BK134 := n8_
                have HB := n9_
                clear n0_ n1_ n2_ n3_ n4_ n5_ n6_ n7_ n8_ n9_
                have n0_ := zam (zRd HO_16.out)
                have n1_ := zam (zRd HO_24.out)
                have n2_ := zam (zRd HO143.out)
                have n3_ := zam (zRd HO146.out)
                have n4_ := zam (zkd BK101.out)
                have n5_ := zam (zkd BK102.out)
                have n6_ := zam (zkd BK103.out)
                have n7_ := zam (zkd BK104.out)
                have n8_ := zam (zkd BK134.out)
                have n9_ := zam (zb1 HB.out)
                clear HO_16
                clear HO_24
                clear HO143
                clear HO146
                clear BK101
                clear BK102
                clear BK103
                clear BK104
                clear BK134
                clear HB
                have HO_16 := n0_
                have HO_24 := n1_
                have HO143 := n2_
                have HO146 := n3_
                have BK101 := n4_
                have BK102 := n5_
                have BK103 := n6_
                have BK104 := n7_
                have BK134 := n8_
                have HB := n9_
                clear n0_ n1_ n2_ n3_ n4_ n5_ n6_ n7_ n8_ n9_
                refine start_ (n := 15) (S := fun w' => w'.cell? ⟨gb134, 0, none⟩ = some (.slice Ao105 y144.length co105) ∧ w'.cell? ⟨gb134, 1, none⟩ = some (.int .i64 a0_1) ∧ w'.cell? ⟨gb134, 2, none⟩ = some (.int .i64 a0_2) ∧ w'.cell? ⟨gb104, 0, none⟩ = some (.int .i64 a6_0) ∧ w'.cell? ⟨gb104, 1, none⟩ = some (.int .i64 a6_1) ∧ w'.cell? ⟨gb102, 0, none⟩ = some (.int .i64 a2_0) ∧ w'.cell? ⟨gb102, 1, none⟩ = some (.int .i64 a2_1) ∧ w'.cell? ⟨gb102, 2, none⟩ = some (.int .i64 a2_2) ∧ w'.cell? ⟨gb102, 3, none⟩ = some (.int .i64 a2_3)) (ds := []) #[false, false, false, false, false, false, false, false, false, false, false, false, false, false, false] (by kernel_rfl) rfl rfl ⟨(zkc BK134.out 0).trans rfl, (zkc BK134.out 1).trans rfl, (zkc BK134.out 2).trans rfl, (zkc BK104.out 0).trans rfl, (zkc BK104.out 1).trans rfl, (zkc BK102.out 0).trans rfl, (zkc BK102.out 1).trans rfl, (zkc BK102.out 2).trans rfl, (zkc BK102.out 3).trans rfl⟩ (fun hHeld => ?_); refine with_tabW isobathlaw07_SoundNearer.tab31 isobathlaw07_SoundNearer.bits31 (fun HT_ HW_ => ?_)
                generalize w107.drew = w108 at HO_16 HO_24 HO143 HO146 BK101 BK102 BK103 BK104 BK134 HB hHeld ⊢
                refine pure_ (i := 2) (N := some 152) (v := ?_) (a' := ?_) #[false, false, true, false, false, false, false, false, false, false, false, false, false, false, false] rfl rfl (any_of HT_.out (by kernel_rfl)) (fun _ _ _ h => h) (Or.inl ⟨by rfl, ?_⟩) ?_ ?_
                rotate_left
                ·intro w'
                 go_simp
                 with_reducible rfl
                rotate_left
                ·simp only [Act.put, zsa, zsz, zss, i64_w, i32_w]
                 rfl
                refine pure_ (i := 8) (N := some 158) (v := ?_) (a' := ?_) #[false, false, true, false, false, false, false, false, true, false, false, false, false, false, false] rfl rfl (any_of HT_.out (by kernel_rfl)) (fun _ _ _ h => h) (Or.inl ⟨by rfl, ?_⟩) ?_ ?_
                rotate_left
                ·intro w'
                 go_simp
                 with_reducible rfl
                rotate_left
                ·simp only [Act.put, zsa, zsz, zss, i64_w, i32_w]
                 rfl
                refine take_ (i := 0) (N := some 150) (v := ?_) (a' := ?_) #[true, false, true, false, false, false, false, false, true, false, false, false, false, false, false] rfl rfl (take_ofW HT_.out HW_.out (by kernel_rfl)) (fun _ _ _ h => h) (Or.inl ⟨by rfl, ?_⟩) hHeld ?_ ?_
                rotate_left
                ·rintro w' ⟨s0, s1, s2, s3, s4, s5, s6, s7, s8⟩
                 go_simp
                 with_reducible rfl
                rotate_left
                ·simp only [Act.put, zsa, zsz, zss, i64_w, i32_w]
                 rfl
                refine take_ (i := 4) (N := some 154) (v := ?_) (a' := ?_) #[true, false, true, false, true, false, false, false, true, false, false, false, false, false, false] rfl rfl (take_ofW HT_.out HW_.out (by kernel_rfl)) (fun _ _ _ h => h) (Or.inl ⟨by rfl, ?_⟩) hHeld ?_ ?_
                rotate_left
                ·rintro w' ⟨s0, s1, s2, s3, s4, s5, s6, s7, s8⟩
                 go_simp
                 with_reducible rfl
                rotate_left
                ·simp only [Act.put, zsa, zsz, zss, i64_w, i32_w]
                 rfl
                refine take_ (i := 7) (N := some 157) (v := ?_) (a' := ?_) #[true, false, true, false, true, false, false, true, true, false, false, false, false, false, false] rfl rfl (take_ofW HT_.out HW_.out (by kernel_rfl)) (fun _ _ _ h => h) (Or.inl ⟨by rfl, ?_⟩) hHeld ?_ ?_
                rotate_left
                ·rintro w' ⟨s0, s1, s2, s3, s4, s5, s6, s7, s8⟩
                 go_simp
                 with_reducible rfl
                rotate_left
                ·simp only [Act.put, zsa, zsz, zss, i64_w, i32_w]
                 rfl
                refine join_ (σ := Value × Value × Value) 7 #[true, true, true, true, true, true, false, true, true, false, false, false, false, false, false] (fun s_ => [(151, s_.1), (153, s_.2.1), (155, s_.2.2)]) (fun s_ w' => (w'.cell? ⟨gb134, 0, none⟩ = some (.slice Ao105 y144.length co105) ∧ w'.cell? ⟨gb134, 1, none⟩ = some (.int .i64 a0_1) ∧ w'.cell? ⟨gb134, 2, none⟩ = some (.int .i64 a0_2) ∧ w'.cell? ⟨gb104, 0, none⟩ = some (.int .i64 a6_0) ∧ w'.cell? ⟨gb104, 1, none⟩ = some (.int .i64 a6_1) ∧ w'.cell? ⟨gb102, 0, none⟩ = some (.int .i64 a2_0) ∧ w'.cell? ⟨gb102, 1, none⟩ = some (.int .i64 a2_1) ∧ w'.cell? ⟨gb102, 2, none⟩ = some (.int .i64 a2_2) ∧ w'.cell? ⟨gb102, 3, none⟩ = some (.int .i64 a2_3)) ∧ (Kd.R k29 29 w' w.heap.size (fun k_ => some k_ ≠ (.slice Ao105 y144.length co105 : Value).ownBlock ∧ some k_ ≠ (.slice Ao51 t107.length co51 : Value).ownBlock ∧ some k_ ≠ (.slice Ao84 t128.length co84 : Value).ownBlock ∧ k_ ≠ gb102 ∧ k_ ≠ gb103) (.slice Ao104 y141.length co104) y141) ∧ (Kd.R k29 29 w' w.heap.size (fun k_ => some k_ ≠ (.slice Ao104 y141.length co104 : Value).ownBlock ∧ some k_ ≠ (.slice Ao51 t107.length co51 : Value).ownBlock ∧ some k_ ≠ (.slice Ao84 t128.length co84 : Value).ownBlock ∧ k_ ≠ gb102 ∧ k_ ≠ gb103) (.slice Ao105 y144.length co105) y144) ∧ (Kd.R k24 24 w' w.heap.size (fun k_ => some k_ ≠ (s_.2.2 : Value).ownBlock ∧ k_ ≠ gb104) s_.2.1 y150) ∧ (Kd.R k24 24 w' w.heap.size (fun k_ => some k_ ≠ (s_.2.1 : Value).ownBlock ∧ k_ ≠ gb104) s_.2.2 y153) ∧ (Kd.R k29 29 w' w.heap.size (fun k_ => some k_ ≠ (.slice Ao104 y141.length co104 : Value).ownBlock ∧ some k_ ≠ (.slice Ao105 y144.length co105 : Value).ownBlock ∧ some k_ ≠ (.slice Ao84 t128.length co84 : Value).ownBlock ∧ k_ ≠ gb102 ∧ k_ ≠ gb103) (.slice Ao51 t107.length co51) t107) ∧ (Kd.R k29 29 w' w.heap.size (fun k_ => some k_ ≠ (.slice Ao104 y141.length co104 : Value).ownBlock ∧ some k_ ≠ (.slice Ao105 y144.length co105 : Value).ownBlock ∧ some k_ ≠ (.slice Ao51 t107.length co51 : Value).ownBlock ∧ k_ ≠ gb102 ∧ k_ ≠ gb103) (.slice Ao84 t128.length co84) t128) ∧ (w'.heap[gb101]? = some (.cells #[.slice A0_0 l0_0.length c0_0, .int .i64 a0_1, .int .i64 a0_2] 26 (0, 0))) ∧ (w'.heap[gb102]? = some (.cells #[.int .i64 a2_0, .int .i64 a2_1, .int .i64 a2_2, .int .i64 a2_3] 29 (0, 0))) ∧ (w'.heap[gb103]? = some (.cells #[.int .i64 a5_0, .int .i64 a5_1, .int .i64 a5_2, .int .i64 a5_3] 29 (0, 0))) ∧ (w'.heap[gb104]? = some (.cells #[.int .i64 a6_0, .int .i64 a6_1] 24 (0, 0))) ∧ (w'.heap[gb134]? = some (.cells #[.slice Ao105 y144.length co105, .int .i64 a0_1, .int .i64 a0_2] 26 (0, 0))) ∧ (Below w.heap.size w w')) ?_ ?_
                rotate_left
                ·intro hCont
                 refine two_ (i := 1) (j := 5) (Ni := some 151) (Nj := some 155) #[true, true, true, false, true, false, false, true, true, false, false, false, false, false, false] #[true, false, true, false, true, true, false, true, true, false, false, false, false, false, false] rfl rfl rfl rfl (two_of HT_.out (by kernel_rfl)) (by decide) (by decide) (fun K hK => ?_) (fun K hK => ?_)
                 ·skip
                  refine Kd.R_lit_step k24 _ 24 ?hg (N := 151) ?hd (xs := ([] : List (S24))) (inner := []) (ok := fun _ => True) (okp := fun _ => True) ?hr ?hp (fun _ hk => hk) trivial (Below.refl _ _) (Nat.le_refl _) (by simp) ?_; (case hd => rfl); (case hg => rfl); (case hr => first | (go_simp; done) | (go_simp; rfl)); (case hp => exact (Reps.none _ _))
                  intro v148 w109 ho110 hb hg_ hnew_
                  clear hg_ hnew_
                  (first | rw [← Ny147.out] at ho110 | (simp only [Int.reduceToNat] at ho110; rw [← Ny147.out] at ho110))
                  have n0_ := zam (Kd.R_below zq12 hb)
                  have n1_ := zam (Kd.R_below zq14 hb)
                  have n2_ := zam (Kd.R_below zq16 hb)
                  have n3_ := zam (Kd.R_below zq22 hb)
                  have n4_ := zam (Kd.R_lower (Kd.R_newB ho110 (g := gb104) (o := .cells #[.int .i64 a6_0, .int .i64 a6_1] 24 (0, 0)) zq7) (zbz zq3))
                  have n5_ := zam (zkb (g := gb101) (o := .cells #[.slice A0_0 l0_0.length c0_0, .int .i64 a0_1, .int .i64 a0_2] 26 (0, 0)) zq0 hb)
                  have n6_ := zam (zkb (g := gb102) (o := .cells #[.int .i64 a2_0, .int .i64 a2_1, .int .i64 a2_2, .int .i64 a2_3] 29 (0, 0)) zq4 hb)
                  have n7_ := zam (zkb (g := gb103) (o := .cells #[.int .i64 a5_0, .int .i64 a5_1, .int .i64 a5_2, .int .i64 a5_3] 29 (0, 0)) zq6 hb)
                  have n8_ := zam (zkb (g := gb104) (o := .cells #[.int .i64 a6_0, .int .i64 a6_1] 24 (0, 0)) zq7 hb)
                  have n9_ := zam (zkb (g := gb134) (o := .cells #[.slice Ao105 y144.length co105, .int .i64 a0_1, .int .i64 a0_2] 26 (0, 0)) zq13 hb)
                  have n10_ := zam (zbt zq3 hb)
                  clear HO_16
                  clear HO_24
                  clear HO143
                  clear HO146
                  clear BK101
                  clear BK102
                  clear BK103
                  clear BK104
                  clear BK134
                  clear HB
                  have HO_16 := n0_
                  have HO_24 := n1_
                  have HO143 := n2_
                  have HO146 := n3_
                  have HO149 := n4_
                  have BK101 := n5_
                  have BK102 := n6_
                  have BK103 := n7_
                  have BK104 := n8_
                  have BK134 := n9_
                  have HB := n10_
                  clear n0_ n1_ n2_ n3_ n4_ n5_ n6_ n7_ n8_ n9_ n10_
                  clear hb ho110
                  refine hK.out _ _ ⟨(zkc BK134.out 0).trans rfl, (zkc BK134.out 1).trans rfl, (zkc BK134.out 2).trans rfl, (zkc BK104.out 0).trans rfl, (zkc BK104.out 1).trans rfl, (zkc BK102.out 0).trans rfl, (zkc BK102.out 1).trans rfl, (zkc BK102.out 2).trans rfl, (zkc BK102.out 3).trans rfl⟩ (fun hHeld => ?_)
                  clear hK K
                  refine norm_ (a' := ?_) ?_ ?_
                  rotate_left
                  ·show Act.put _ (some 151) _ = _
                   simp only [Act.put, zsa, zsz, zss, i64_w, i32_w]
                   rfl
                  refine two_ (i := 3) (j := 5) (Ni := some 153) (Nj := some 155) #[true, true, true, true, true, false, false, true, true, false, false, false, false, false, false] #[true, true, true, false, true, true, false, true, true, false, false, false, false, false, false] rfl rfl rfl rfl (two_of HT_.out (by kernel_rfl)) (by decide) (by decide) (fun K hK => ?_) (fun K hK => ?_)
                  ·skip
                   refine Kd.R_append_rows_step k24 (w0 := w) w.heap.size (by rfl) (.tmp 151) (.tmp 152) 27 24 (.agg #[(.int .i64 0), (.int .i64 0)]) 16 rfl Try.underlying27 info24 rfl (by decide) (by omega) v148 y147 l1 _ _ _ (fun k_ => k_ ≠ gb104) (fun _ => False) rfl rfl ?aO ?aR (fun _ _ h => h) (fun _ h => h.elim) ?aF ?aB ?aS ?aL ?_
                   (case aR => repeat (first | exact (Kd.C_below HR1.out HB.out) | (with_reducible refine Kd.C_alloc ?_ _) | (with_reducible refine Kd.C_drewN ?_ _) | (with_reducible refine Kd.C_drew ?_)))
                   (case aB => exact zq3)
                   (case aF => exact (fun k_ hk => Kd.freshB (g := gb104) (o := .cells #[.int .i64 a6_0, .int .i64 a6_1] 24 (0, 0)) zq7 k_ hk))
                   (case aO => exact (by (with_reducible repeat (first | apply zRa | apply zRn | apply zRd)); exact Kd.R_mono HO149.out (fun _ hk => hk.2)))
                   (case aS => exact (zbz zq3))
                   (case aL => have := LMc81.out; omega)
                   intro v151 w111 ho hb hg hat
                   rw [← Ny150.out] at ho
                   have n0_ := zam (Kd.R_over' zq12 (Kd.R_typed zq18) (by decide) hg)
                   have n1_ := zam (Kd.R_over' zq14 (Kd.R_typed zq18) (by decide) hg)
                   have n2_ := zam (zkg (g := gb101) (o := .cells #[.slice A0_0 l0_0.length c0_0, .int .i64 a0_1, .int .i64 a0_2] 26 (0, 0)) zq0 hg (Kd.R_ne HO149.out BK101.out (by decide)))
                   have n3_ := zam (zkg (g := gb102) (o := .cells #[.int .i64 a2_0, .int .i64 a2_1, .int .i64 a2_2, .int .i64 a2_3] 29 (0, 0)) zq4 hg (Kd.R_ne HO149.out BK102.out (by decide)))
                   have n4_ := zam (zkg (g := gb103) (o := .cells #[.int .i64 a5_0, .int .i64 a5_1, .int .i64 a5_2, .int .i64 a5_3] 29 (0, 0)) zq6 hg (Kd.R_ne HO149.out BK103.out (by decide)))
                   have n5_ := zam (zkg (g := gb104) (o := .cells #[.int .i64 a6_0, .int .i64 a6_1] 24 (0, 0)) zq7 hg (Kd.R_away HO149.out (fun _ hk => hk.2)))
                   have n6_ := zam (zkg (g := gb134) (o := .cells #[.slice Ao105 y144.length co105, .int .i64 a0_1, .int .i64 a0_2] 26 (0, 0)) zq13 hg (Kd.R_ne HO149.out BK134.out (by decide)))
                   have n7_ := zam (Kd.R_over' zq16 (Kd.R_typed zq18) (by decide) hg)
                   have n8_ := zam (Kd.R_over' zq22 (Kd.R_typed zq18) (by decide) hg)
                   have n9_ := zam (hb)
                   have n10_ := zam (ho)
                   clear HO_16
                   clear HO_24
                   clear BK101
                   clear BK102
                   clear BK103
                   clear BK104
                   clear BK134
                   clear HO143
                   clear HO146
                   clear HB
                   clear HO149
                   have HO_16 := n0_
                   have HO_24 := n1_
                   have BK101 := n2_
                   have BK102 := n3_
                   have BK103 := n4_
                   have BK104 := n5_
                   have BK134 := n6_
                   have HO143 := n7_
                   have HO146 := n8_
                   have HB := n9_
                   have HO152 := n10_
                   clear n0_ n1_ n2_ n3_ n4_ n5_ n6_ n7_ n8_ n9_ n10_
                   clear ho hb hg hat
                   refine hK.out _ _ ⟨(zkc BK134.out 0).trans rfl, (zkc BK134.out 1).trans rfl, (zkc BK134.out 2).trans rfl, (zkc BK104.out 0).trans rfl, (zkc BK104.out 1).trans rfl, (zkc BK102.out 0).trans rfl, (zkc BK102.out 1).trans rfl, (zkc BK102.out 2).trans rfl, (zkc BK102.out 3).trans rfl⟩ (fun hHeld => ?_)
                   clear hK K
                   refine norm_ (a' := ?_) ?_ ?_
                   rotate_left
                   ·show Act.put _ (some 153) _ = _
                    simp only [Act.put, zsa, zsz, zss, i64_w, i32_w]
                    rfl
                   refine one_ (i := 5) (N := some 155) #[true, true, true, true, true, true, false, true, true, false, false, false, false, false, false] rfl rfl (one_of HT_.out (by kernel_rfl)) (by decide) (fun K hK => ?_)
                   refine Kd.R_lit_step k24 _ 24 ?hg (N := 155) ?hd (xs := ([(⟨a6_0, a6_1⟩ : S24)] : List (S24))) (inner := [.int .i64 a6_0, .int .i64 a6_1]) (ok := fun _ => True) (okp := fun _ => True) ?hr ?hp (fun _ hk => hk) trivial (Below.refl _ _) (Nat.le_refl _) (by simp) ?_; (case hd => rfl); (case hg => rfl); (case hr => first | (go_simp; done) | (go_simp; rfl)); (case hp => exact (Reps.c2 (show Kd.M k24 _ _ _ (⟨a6_0, a6_1⟩ : S24) [.int .i64 a6_0, .int .i64 a6_1] from (k24_mkM _ _ _ (⟨a6_0, a6_1⟩ : S24) )) (Reps.none _ _)))
                   intro v154 w112 ho113 hb hg_ hnew_
                   clear hg_ hnew_
                   (first | rw [← Ny153.out] at ho113 | (simp only [Int.reduceToNat] at ho113; rw [← Ny153.out] at ho113))
                   have n0_ := zam (Kd.R_below zq12 hb)
                   have n1_ := zam (Kd.R_below zq14 hb)
                   have n2_ := zam (Kd.R_below zq16 hb)
                   have n3_ := zam (Kd.R_below zq22 hb)
                   have n4_ := zam (Kd.R_elder' zq25 (Kd.R_base ho113) hb)
                   have n5_ := zam (Kd.R_lower (Kd.R_newB (Kd.R_new' ho113 (Kd.R_lt zq25)) (g := gb104) (o := .cells #[.int .i64 a6_0, .int .i64 a6_1] 24 (0, 0)) zq7) (zbz zq3))
                   have n6_ := zam (zkb (g := gb101) (o := .cells #[.slice A0_0 l0_0.length c0_0, .int .i64 a0_1, .int .i64 a0_2] 26 (0, 0)) zq0 hb)
                   have n7_ := zam (zkb (g := gb102) (o := .cells #[.int .i64 a2_0, .int .i64 a2_1, .int .i64 a2_2, .int .i64 a2_3] 29 (0, 0)) zq4 hb)
                   have n8_ := zam (zkb (g := gb103) (o := .cells #[.int .i64 a5_0, .int .i64 a5_1, .int .i64 a5_2, .int .i64 a5_3] 29 (0, 0)) zq6 hb)
                   have n9_ := zam (zkb (g := gb104) (o := .cells #[.int .i64 a6_0, .int .i64 a6_1] 24 (0, 0)) zq7 hb)
                   have n10_ := zam (zkb (g := gb134) (o := .cells #[.slice Ao105 y144.length co105, .int .i64 a0_1, .int .i64 a0_2] 26 (0, 0)) zq13 hb)
                   have n11_ := zam (zbt zq3 hb)
                   clear HO_16
                   clear HO_24
                   clear HO143
                   clear HO146
                   clear HO152
                   clear BK101
                   clear BK102
                   clear BK103
                   clear BK104
                   clear BK134
                   clear HB
                   have HO_16 := n0_
                   have HO_24 := n1_
                   have HO143 := n2_
                   have HO146 := n3_
                   have HO152 := n4_
                   have HO155 := n5_
                   have BK101 := n6_
                   have BK102 := n7_
                   have BK103 := n8_
                   have BK104 := n9_
                   have BK134 := n10_
                   have HB := n11_
                   clear n0_ n1_ n2_ n3_ n4_ n5_ n6_ n7_ n8_ n9_ n10_ n11_
                   clear hb ho113
                   refine hK.out _ _ ⟨(zkc BK134.out 0).trans rfl, (zkc BK134.out 1).trans rfl, (zkc BK134.out 2).trans rfl, (zkc BK104.out 0).trans rfl, (zkc BK104.out 1).trans rfl, (zkc BK102.out 0).trans rfl, (zkc BK102.out 1).trans rfl, (zkc BK102.out 2).trans rfl, (zkc BK102.out 3).trans rfl⟩ (fun hHeld => ?_)
                   clear hK K
                   refine norm_ (a' := ?_) ?_ ?_
                   rotate_left
                   ·show Act.put _ (some 155) _ = _
                    simp only [Act.put, zsa, zsz, zss, i64_w, i32_w]
                    rfl
                   exact norm_ (by simp only [putAll, Act.put, zsa, zsz, zss]) (hCont (v148, v151, v154) _ ⟨hHeld, zq28, zq29, (by (with_reducible repeat (first | apply zRa | apply zRn | apply zRd)); exact Kd.R_mono HO152.out (fun _ hk => ⟨hk.2, hk.1⟩)), (by (with_reducible repeat (first | apply zRa | apply zRn | apply zRd)); exact Kd.R_mono HO155.out (fun _ hk => ⟨hk.1.2, hk.2⟩)), zq30, zq31, zq0, zq4, zq6, zq7, zq13, zq3⟩)
                  skip
                  refine Kd.R_lit_step k24 _ 24 ?hg (N := 155) ?hd (xs := ([(⟨a6_0, a6_1⟩ : S24)] : List (S24))) (inner := [.int .i64 a6_0, .int .i64 a6_1]) (ok := fun _ => True) (okp := fun _ => True) ?hr ?hp (fun _ hk => hk) trivial (Below.refl _ _) (Nat.le_refl _) (by simp) ?_; (case hd => rfl); (case hg => rfl); (case hr => first | (go_simp; done) | (go_simp; rfl)); (case hp => exact (Reps.c2 (show Kd.M k24 _ _ _ (⟨a6_0, a6_1⟩ : S24) [.int .i64 a6_0, .int .i64 a6_1] from (k24_mkM _ _ _ (⟨a6_0, a6_1⟩ : S24) )) (Reps.none _ _)))
                  intro v154 w111 ho112 hb hg_ hnew_
                  clear hg_ hnew_
                  (first | rw [← Ny153.out] at ho112 | (simp only [Int.reduceToNat] at ho112; rw [← Ny153.out] at ho112))
                  have n0_ := zam (Kd.R_below zq12 hb)
                  have n1_ := zam (Kd.R_below zq14 hb)
                  have n2_ := zam (Kd.R_below zq16 hb)
                  have n3_ := zam (Kd.R_below zq22 hb)
                  have n4_ := zam (Kd.R_elder' zq18 (Kd.R_base ho112) hb)
                  have n5_ := zam (Kd.R_lower (Kd.R_newB (Kd.R_new' ho112 (Kd.R_lt zq18)) (g := gb104) (o := .cells #[.int .i64 a6_0, .int .i64 a6_1] 24 (0, 0)) zq7) (zbz zq3))
                  have n6_ := zam (zkb (g := gb101) (o := .cells #[.slice A0_0 l0_0.length c0_0, .int .i64 a0_1, .int .i64 a0_2] 26 (0, 0)) zq0 hb)
                  have n7_ := zam (zkb (g := gb102) (o := .cells #[.int .i64 a2_0, .int .i64 a2_1, .int .i64 a2_2, .int .i64 a2_3] 29 (0, 0)) zq4 hb)
                  have n8_ := zam (zkb (g := gb103) (o := .cells #[.int .i64 a5_0, .int .i64 a5_1, .int .i64 a5_2, .int .i64 a5_3] 29 (0, 0)) zq6 hb)
                  have n9_ := zam (zkb (g := gb104) (o := .cells #[.int .i64 a6_0, .int .i64 a6_1] 24 (0, 0)) zq7 hb)
                  have n10_ := zam (zkb (g := gb134) (o := .cells #[.slice Ao105 y144.length co105, .int .i64 a0_1, .int .i64 a0_2] 26 (0, 0)) zq13 hb)
                  have n11_ := zam (zbt zq3 hb)
                  clear HO_16
                  clear HO_24
                  clear HO143
                  clear HO146
                  clear HO149
                  clear BK101
                  clear BK102
                  clear BK103
                  clear BK104
                  clear BK134
                  clear HB
                  have HO_16 := n0_
                  have HO_24 := n1_
                  have HO143 := n2_
                  have HO146 := n3_
                  have HO149 := n4_
                  have HO155 := n5_
                  have BK101 := n6_
                  have BK102 := n7_
                  have BK103 := n8_
                  have BK104 := n9_
                  have BK134 := n10_
                  have HB := n11_
                  clear n0_ n1_ n2_ n3_ n4_ n5_ n6_ n7_ n8_ n9_ n10_ n11_
                  clear hb ho112
                  refine hK.out _ _ ⟨(zkc BK134.out 0).trans rfl, (zkc BK134.out 1).trans rfl, (zkc BK134.out 2).trans rfl, (zkc BK104.out 0).trans rfl, (zkc BK104.out 1).trans rfl, (zkc BK102.out 0).trans rfl, (zkc BK102.out 1).trans rfl, (zkc BK102.out 2).trans rfl, (zkc BK102.out 3).trans rfl⟩ (fun hHeld => ?_)
                  clear hK K
                  refine norm_ (a' := ?_) ?_ ?_
                  rotate_left
                  ·show Act.put _ (some 155) _ = _
                   simp only [Act.put, zsa, zsz, zss, i64_w, i32_w]
                   rfl
                  refine one_ (i := 3) (N := some 153) #[true, true, true, true, true, true, false, true, true, false, false, false, false, false, false] rfl rfl (one_of HT_.out (by kernel_rfl)) (by decide) (fun K hK => ?_)
                  refine Kd.R_append_rows_step k24 (w0 := w) w.heap.size (by rfl) (.tmp 151) (.tmp 152) 27 24 (.agg #[(.int .i64 0), (.int .i64 0)]) 16 rfl Try.underlying27 info24 rfl (by decide) (by omega) v148 y147 l1 _ _ _ (fun k_ => some k_ ≠ (v154 : Value).ownBlock ∧ k_ ≠ gb104) (fun _ => False) rfl rfl ?aO ?aR (fun _ _ h => h) (fun _ h => h.elim) ?aF ?aB ?aS ?aL ?_
                  (case aR => repeat (first | exact (Kd.C_below HR1.out HB.out) | (with_reducible refine Kd.C_alloc ?_ _) | (with_reducible refine Kd.C_drewN ?_ _) | (with_reducible refine Kd.C_drew ?_)))
                  (case aB => exact zq3)
                  (case aF => exact (fun k_ hk => ⟨Kd.fresh' (Kd.R_lt zq33) k_ hk, Kd.freshB (g := gb104) (o := .cells #[.int .i64 a6_0, .int .i64 a6_1] 24 (0, 0)) zq7 k_ hk⟩))
                  (case aO => exact (by (with_reducible repeat (first | apply zRa | apply zRn | apply zRd)); exact Kd.R_mono HO149.out (fun _ hk => ⟨hk.2, hk.1.2⟩)))
                  (case aS => exact (zbz zq3))
                  (case aL => have := LMc81.out; omega)
                  intro v151 w113 ho hb hg hat
                  rw [← Ny150.out] at ho
                  have n0_ := zam (Kd.R_over' zq12 (Kd.R_typed zq18) (by decide) hg)
                  have n1_ := zam (Kd.R_over' zq14 (Kd.R_typed zq18) (by decide) hg)
                  have n2_ := zam (zkg (g := gb101) (o := .cells #[.slice A0_0 l0_0.length c0_0, .int .i64 a0_1, .int .i64 a0_2] 26 (0, 0)) zq0 hg (Kd.R_ne HO149.out BK101.out (by decide)))
                  have n3_ := zam (zkg (g := gb102) (o := .cells #[.int .i64 a2_0, .int .i64 a2_1, .int .i64 a2_2, .int .i64 a2_3] 29 (0, 0)) zq4 hg (Kd.R_ne HO149.out BK102.out (by decide)))
                  have n4_ := zam (zkg (g := gb103) (o := .cells #[.int .i64 a5_0, .int .i64 a5_1, .int .i64 a5_2, .int .i64 a5_3] 29 (0, 0)) zq6 hg (Kd.R_ne HO149.out BK103.out (by decide)))
                  have n5_ := zam (zkg (g := gb104) (o := .cells #[.int .i64 a6_0, .int .i64 a6_1] 24 (0, 0)) zq7 hg (Kd.R_away HO149.out (fun _ hk => hk.1.2)))
                  have n6_ := zam (zkg (g := gb134) (o := .cells #[.slice Ao105 y144.length co105, .int .i64 a0_1, .int .i64 a0_2] 26 (0, 0)) zq13 hg (Kd.R_ne HO149.out BK134.out (by decide)))
                  have n7_ := zam (Kd.R_over' zq16 (Kd.R_typed zq18) (by decide) hg)
                  have n8_ := zam (Kd.R_over' zq22 (Kd.R_typed zq18) (by decide) hg)
                  have n9_ := zam (Kd.R_after (ok := (fun k_ => k_ ≠ gb104)) (by (with_reducible repeat (first | apply zRa | apply zRn | apply zRd)); exact Kd.R_mono HO155.out (fun _ hk => ⟨hk.2, hk.1.2⟩)) hg hat)
                  have n10_ := zam (hb)
                  have n11_ := zam (ho)
                  clear HO_16
                  clear HO_24
                  clear BK101
                  clear BK102
                  clear BK103
                  clear BK104
                  clear BK134
                  clear HO143
                  clear HO146
                  clear HO155
                  clear HB
                  clear HO149
                  have HO_16 := n0_
                  have HO_24 := n1_
                  have BK101 := n2_
                  have BK102 := n3_
                  have BK103 := n4_
                  have BK104 := n5_
                  have BK134 := n6_
                  have HO143 := n7_
                  have HO146 := n8_
                  have HO155 := n9_
                  have HB := n10_
                  have HO152 := n11_
                  clear n0_ n1_ n2_ n3_ n4_ n5_ n6_ n7_ n8_ n9_ n10_ n11_
                  clear ho hb hg hat
                  refine hK.out _ _ ⟨(zkc BK134.out 0).trans rfl, (zkc BK134.out 1).trans rfl, (zkc BK134.out 2).trans rfl, (zkc BK104.out 0).trans rfl, (zkc BK104.out 1).trans rfl, (zkc BK102.out 0).trans rfl, (zkc BK102.out 1).trans rfl, (zkc BK102.out 2).trans rfl, (zkc BK102.out 3).trans rfl⟩ (fun hHeld => ?_)
                  clear hK K
                  refine norm_ (a' := ?_) ?_ ?_
                  rotate_left
                  ·show Act.put _ (some 153) _ = _
                   simp only [Act.put, zsa, zsz, zss, i64_w, i32_w]
                   rfl
                  exact norm_ (by simp only [putAll, Act.put, zsa, zsz, zss]) (hCont (v148, v151, v154) _ ⟨hHeld, zq28, zq29, zq25, (by (with_reducible repeat (first | apply zRa | apply zRn | apply zRd)); exact Kd.R_mono HO155.out (fun _ hk => ⟨hk.2, hk.1⟩)), zq30, zq31, zq0, zq4, zq6, zq7, zq13, zq3⟩)
                 skip
                 refine Kd.R_lit_step k24 _ 24 ?hg (N := 155) ?hd (xs := ([(⟨a6_0, a6_1⟩ : S24)] : List (S24))) (inner := [.int .i64 a6_0, .int .i64 a6_1]) (ok := fun _ => True) (okp := fun _ => True) ?hr ?hp (fun _ hk => hk) trivial (Below.refl _ _) (Nat.le_refl _) (by simp) ?_; (case hd => rfl); (case hg => rfl); (case hr => first | (go_simp; done) | (go_simp; rfl)); (case hp => exact (Reps.c2 (show Kd.M k24 _ _ _ (⟨a6_0, a6_1⟩ : S24) [.int .i64 a6_0, .int .i64 a6_1] from (k24_mkM _ _ _ (⟨a6_0, a6_1⟩ : S24) )) (Reps.none _ _)))
                 intro v154 w109 ho110 hb hg_ hnew_
                 clear hg_ hnew_
                 (first | rw [← Ny153.out] at ho110 | (simp only [Int.reduceToNat] at ho110; rw [← Ny153.out] at ho110))
                 have n0_ := zam (Kd.R_below zq12 hb)
                 have n1_ := zam (Kd.R_below zq14 hb)
                 have n2_ := zam (Kd.R_below zq16 hb)
                 have n3_ := zam (Kd.R_below zq22 hb)
                 have n4_ := zam (Kd.R_lower (Kd.R_newB ho110 (g := gb104) (o := .cells #[.int .i64 a6_0, .int .i64 a6_1] 24 (0, 0)) zq7) (zbz zq3))
                 have n5_ := zam (zkb (g := gb101) (o := .cells #[.slice A0_0 l0_0.length c0_0, .int .i64 a0_1, .int .i64 a0_2] 26 (0, 0)) zq0 hb)
                 have n6_ := zam (zkb (g := gb102) (o := .cells #[.int .i64 a2_0, .int .i64 a2_1, .int .i64 a2_2, .int .i64 a2_3] 29 (0, 0)) zq4 hb)
                 have n7_ := zam (zkb (g := gb103) (o := .cells #[.int .i64 a5_0, .int .i64 a5_1, .int .i64 a5_2, .int .i64 a5_3] 29 (0, 0)) zq6 hb)
                 have n8_ := zam (zkb (g := gb104) (o := .cells #[.int .i64 a6_0, .int .i64 a6_1] 24 (0, 0)) zq7 hb)
                 have n9_ := zam (zkb (g := gb134) (o := .cells #[.slice Ao105 y144.length co105, .int .i64 a0_1, .int .i64 a0_2] 26 (0, 0)) zq13 hb)
                 have n10_ := zam (zbt zq3 hb)
                 clear HO_16
                 clear HO_24
                 clear HO143
                 clear HO146
                 clear BK101
                 clear BK102
                 clear BK103
                 clear BK104
                 clear BK134
                 clear HB
                 have HO_16 := n0_
                 have HO_24 := n1_
                 have HO143 := n2_
                 have HO146 := n3_
                 have HO155 := n4_
                 have BK101 := n5_
                 have BK102 := n6_
                 have BK103 := n7_
                 have BK104 := n8_
                 have BK134 := n9_
                 have HB := n10_
                 clear n0_ n1_ n2_ n3_ n4_ n5_ n6_ n7_ n8_ n9_ n10_
                 clear hb ho110
                 refine hK.out _ _ ⟨(zkc BK134.out 0).trans rfl, (zkc BK134.out 1).trans rfl, (zkc BK134.out 2).trans rfl, (zkc BK104.out 0).trans rfl, (zkc BK104.out 1).trans rfl, (zkc BK102.out 0).trans rfl, (zkc BK102.out 1).trans rfl, (zkc BK102.out 2).trans rfl, (zkc BK102.out 3).trans rfl⟩ (fun hHeld => ?_)
                 clear hK K
                 refine norm_ (a' := ?_) ?_ ?_
                 rotate_left
                 ·show Act.put _ (some 155) _ = _
                  simp only [Act.put, zsa, zsz, zss, i64_w, i32_w]
                  rfl
                 refine one_ (i := 1) (N := some 151) #[true, true, true, false, true, true, false, true, true, false, false, false, false, false, false] rfl rfl (one_of HT_.out (by kernel_rfl)) (by decide) (fun K hK => ?_)
                 refine Kd.R_lit_step k24 _ 24 ?hg (N := 151) ?hd (xs := ([] : List (S24))) (inner := []) (ok := fun _ => True) (okp := fun _ => True) ?hr ?hp (fun _ hk => hk) trivial (Below.refl _ _) (Nat.le_refl _) (by simp) ?_; (case hd => rfl); (case hg => rfl); (case hr => first | (go_simp; done) | (go_simp; rfl)); (case hp => exact (Reps.none _ _))
                 intro v148 w111 ho112 hb hg_ hnew_
                 clear hg_ hnew_
                 (first | rw [← Ny147.out] at ho112 | (simp only [Int.reduceToNat] at ho112; rw [← Ny147.out] at ho112))
                 have n0_ := zam (Kd.R_below zq12 hb)
                 have n1_ := zam (Kd.R_below zq14 hb)
                 have n2_ := zam (Kd.R_below zq16 hb)
                 have n3_ := zam (Kd.R_below zq22 hb)
                 have n4_ := zam (Kd.R_elder' zq33 (Kd.R_base ho112) hb)
                 have n5_ := zam (Kd.R_lower (Kd.R_newB (Kd.R_new' ho112 (Kd.R_lt zq33)) (g := gb104) (o := .cells #[.int .i64 a6_0, .int .i64 a6_1] 24 (0, 0)) zq7) (zbz zq3))
                 have n6_ := zam (zkb (g := gb101) (o := .cells #[.slice A0_0 l0_0.length c0_0, .int .i64 a0_1, .int .i64 a0_2] 26 (0, 0)) zq0 hb)
                 have n7_ := zam (zkb (g := gb102) (o := .cells #[.int .i64 a2_0, .int .i64 a2_1, .int .i64 a2_2, .int .i64 a2_3] 29 (0, 0)) zq4 hb)
                 have n8_ := zam (zkb (g := gb103) (o := .cells #[.int .i64 a5_0, .int .i64 a5_1, .int .i64 a5_2, .int .i64 a5_3] 29 (0, 0)) zq6 hb)
                 have n9_ := zam (zkb (g := gb104) (o := .cells #[.int .i64 a6_0, .int .i64 a6_1] 24 (0, 0)) zq7 hb)
                 have n10_ := zam (zkb (g := gb134) (o := .cells #[.slice Ao105 y144.length co105, .int .i64 a0_1, .int .i64 a0_2] 26 (0, 0)) zq13 hb)
                 have n11_ := zam (zbt zq3 hb)
                 clear HO_16
                 clear HO_24
                 clear HO143
                 clear HO146
                 clear HO155
                 clear BK101
                 clear BK102
                 clear BK103
                 clear BK104
                 clear BK134
                 clear HB
                 have HO_16 := n0_
                 have HO_24 := n1_
                 have HO143 := n2_
                 have HO146 := n3_
                 have HO155 := n4_
                 have HO149 := n5_
                 have BK101 := n6_
                 have BK102 := n7_
                 have BK103 := n8_
                 have BK104 := n9_
                 have BK134 := n10_
                 have HB := n11_
                 clear n0_ n1_ n2_ n3_ n4_ n5_ n6_ n7_ n8_ n9_ n10_ n11_
                 clear hb ho112
                 refine hK.out _ _ ⟨(zkc BK134.out 0).trans rfl, (zkc BK134.out 1).trans rfl, (zkc BK134.out 2).trans rfl, (zkc BK104.out 0).trans rfl, (zkc BK104.out 1).trans rfl, (zkc BK102.out 0).trans rfl, (zkc BK102.out 1).trans rfl, (zkc BK102.out 2).trans rfl, (zkc BK102.out 3).trans rfl⟩ (fun hHeld => ?_)
                 clear hK K
                 refine norm_ (a' := ?_) ?_ ?_
                 rotate_left
                 ·show Act.put _ (some 151) _ = _
                  simp only [Act.put, zsa, zsz, zss, i64_w, i32_w]
                  rfl
                 refine one_ (i := 3) (N := some 153) #[true, true, true, true, true, true, false, true, true, false, false, false, false, false, false] rfl rfl (one_of HT_.out (by kernel_rfl)) (by decide) (fun K hK => ?_)
                 refine Kd.R_append_rows_step k24 (w0 := w) w.heap.size (by rfl) (.tmp 151) (.tmp 152) 27 24 (.agg #[(.int .i64 0), (.int .i64 0)]) 16 rfl Try.underlying27 info24 rfl (by decide) (by omega) v148 y147 l1 _ _ _ (fun k_ => some k_ ≠ (v154 : Value).ownBlock ∧ k_ ≠ gb104) (fun _ => False) rfl rfl ?aO ?aR (fun _ _ h => h) (fun _ h => h.elim) ?aF ?aB ?aS ?aL ?_
                 (case aR => repeat (first | exact (Kd.C_below HR1.out HB.out) | (with_reducible refine Kd.C_alloc ?_ _) | (with_reducible refine Kd.C_drewN ?_ _) | (with_reducible refine Kd.C_drew ?_)))
                 (case aB => exact zq3)
                 (case aF => exact (fun k_ hk => ⟨Kd.fresh' (Kd.R_lt zq33) k_ hk, Kd.freshB (g := gb104) (o := .cells #[.int .i64 a6_0, .int .i64 a6_1] 24 (0, 0)) zq7 k_ hk⟩))
                 (case aO => exact (by (with_reducible repeat (first | apply zRa | apply zRn | apply zRd)); exact Kd.R_mono HO149.out (fun _ hk => ⟨hk.1.2, hk.2⟩)))
                 (case aS => exact (zbz zq3))
                 (case aL => have := LMc81.out; omega)
                 intro v151 w113 ho hb hg hat
                 rw [← Ny150.out] at ho
                 have n0_ := zam (Kd.R_over' zq12 (Kd.R_typed zq18) (by decide) hg)
                 have n1_ := zam (Kd.R_over' zq14 (Kd.R_typed zq18) (by decide) hg)
                 have n2_ := zam (zkg (g := gb101) (o := .cells #[.slice A0_0 l0_0.length c0_0, .int .i64 a0_1, .int .i64 a0_2] 26 (0, 0)) zq0 hg (Kd.R_ne HO149.out BK101.out (by decide)))
                 have n3_ := zam (zkg (g := gb102) (o := .cells #[.int .i64 a2_0, .int .i64 a2_1, .int .i64 a2_2, .int .i64 a2_3] 29 (0, 0)) zq4 hg (Kd.R_ne HO149.out BK102.out (by decide)))
                 have n4_ := zam (zkg (g := gb103) (o := .cells #[.int .i64 a5_0, .int .i64 a5_1, .int .i64 a5_2, .int .i64 a5_3] 29 (0, 0)) zq6 hg (Kd.R_ne HO149.out BK103.out (by decide)))
                 have n5_ := zam (zkg (g := gb104) (o := .cells #[.int .i64 a6_0, .int .i64 a6_1] 24 (0, 0)) zq7 hg (Kd.R_away HO149.out (fun _ hk => hk.2)))
                 have n6_ := zam (zkg (g := gb134) (o := .cells #[.slice Ao105 y144.length co105, .int .i64 a0_1, .int .i64 a0_2] 26 (0, 0)) zq13 hg (Kd.R_ne HO149.out BK134.out (by decide)))
                 have n7_ := zam (Kd.R_over' zq16 (Kd.R_typed zq18) (by decide) hg)
                 have n8_ := zam (Kd.R_over' zq22 (Kd.R_typed zq18) (by decide) hg)
                 have n9_ := zam (Kd.R_after (ok := (fun k_ => k_ ≠ gb104)) (by (with_reducible repeat (first | apply zRa | apply zRn | apply zRd)); exact Kd.R_mono HO155.out (fun _ hk => ⟨hk.1.2, hk.2⟩)) hg hat)
                 have n10_ := zam (hb)
                 have n11_ := zam (ho)
                 clear HO_16
                 clear HO_24
                 clear BK101
                 clear BK102
                 clear BK103
                 clear BK104
                 clear BK134
                 clear HO143
                 clear HO146
                 clear HO155
                 clear HB
                 clear HO149
                 have HO_16 := n0_
                 have HO_24 := n1_
                 have BK101 := n2_
                 have BK102 := n3_
                 have BK103 := n4_
                 have BK104 := n5_
                 have BK134 := n6_
                 have HO143 := n7_
                 have HO146 := n8_
                 have HO155 := n9_
                 have HB := n10_
                 have HO152 := n11_
                 clear n0_ n1_ n2_ n3_ n4_ n5_ n6_ n7_ n8_ n9_ n10_ n11_
                 clear ho hb hg hat
                 refine hK.out _ _ ⟨(zkc BK134.out 0).trans rfl, (zkc BK134.out 1).trans rfl, (zkc BK134.out 2).trans rfl, (zkc BK104.out 0).trans rfl, (zkc BK104.out 1).trans rfl, (zkc BK102.out 0).trans rfl, (zkc BK102.out 1).trans rfl, (zkc BK102.out 2).trans rfl, (zkc BK102.out 3).trans rfl⟩ (fun hHeld => ?_)
                 clear hK K
                 refine norm_ (a' := ?_) ?_ ?_
                 rotate_left
                 ·show Act.put _ (some 153) _ = _
                  simp only [Act.put, zsa, zsz, zss, i64_w, i32_w]
                  rfl
                 exact norm_ (by simp only [putAll, Act.put, zsa, zsz, zss]) (hCont (v148, v151, v154) _ ⟨hHeld, zq28, zq29, zq25, (by (with_reducible repeat (first | apply zRa | apply zRn | apply zRd)); exact Kd.R_mono HO155.out (fun _ hk => ⟨hk.2, hk.1⟩)), zq30, zq31, zq0, zq4, zq6, zq7, zq13, zq3⟩)
                rintro ⟨v148, v151, v154⟩ w114 ⟨hS_, h0_, h1_, h2_, h3_, h4_, h5_, h6_, h7_, h8_, h9_, h10_, h11_⟩
                have n0_ : Aside0 (Kd.R k29 29 w114 w.heap.size (fun k_ => some k_ ≠ (.slice Ao105 y144.length co105 : Value).ownBlock ∧ some k_ ≠ (.slice Ao51 t107.length co51 : Value).ownBlock ∧ some k_ ≠ (.slice Ao84 t128.length co84 : Value).ownBlock ∧ k_ ≠ gb102 ∧ k_ ≠ gb103) (.slice Ao104 y141.length co104) y141) := ⟨h0_⟩
                have n1_ : Aside0 (Kd.R k29 29 w114 w.heap.size (fun k_ => some k_ ≠ (.slice Ao104 y141.length co104 : Value).ownBlock ∧ some k_ ≠ (.slice Ao51 t107.length co51 : Value).ownBlock ∧ some k_ ≠ (.slice Ao84 t128.length co84 : Value).ownBlock ∧ k_ ≠ gb102 ∧ k_ ≠ gb103) (.slice Ao105 y144.length co105) y144) := ⟨h1_⟩
                have n2_ : Aside0 (Kd.R k24 24 w114 w.heap.size (fun k_ => some k_ ≠ (v154 : Value).ownBlock ∧ k_ ≠ gb104) v151 y150) := ⟨h2_⟩
                have n3_ : Aside0 (Kd.R k24 24 w114 w.heap.size (fun k_ => some k_ ≠ (v151 : Value).ownBlock ∧ k_ ≠ gb104) v154 y153) := ⟨h3_⟩
                have n4_ : Aside0 (Kd.R k29 29 w114 w.heap.size (fun k_ => some k_ ≠ (.slice Ao104 y141.length co104 : Value).ownBlock ∧ some k_ ≠ (.slice Ao105 y144.length co105 : Value).ownBlock ∧ some k_ ≠ (.slice Ao84 t128.length co84 : Value).ownBlock ∧ k_ ≠ gb102 ∧ k_ ≠ gb103) (.slice Ao51 t107.length co51) t107) := ⟨h4_⟩
                have n5_ : Aside0 (Kd.R k29 29 w114 w.heap.size (fun k_ => some k_ ≠ (.slice Ao104 y141.length co104 : Value).ownBlock ∧ some k_ ≠ (.slice Ao105 y144.length co105 : Value).ownBlock ∧ some k_ ≠ (.slice Ao51 t107.length co51 : Value).ownBlock ∧ k_ ≠ gb102 ∧ k_ ≠ gb103) (.slice Ao84 t128.length co84) t128) := ⟨h5_⟩
                have n6_ : Aside0 (w114.heap[gb101]? = some (.cells #[.slice A0_0 l0_0.length c0_0, .int .i64 a0_1, .int .i64 a0_2] 26 (0, 0))) := ⟨h6_⟩
                have n7_ : Aside0 (w114.heap[gb102]? = some (.cells #[.int .i64 a2_0, .int .i64 a2_1, .int .i64 a2_2, .int .i64 a2_3] 29 (0, 0))) := ⟨h7_⟩
                have n8_ : Aside0 (w114.heap[gb103]? = some (.cells #[.int .i64 a5_0, .int .i64 a5_1, .int .i64 a5_2, .int .i64 a5_3] 29 (0, 0))) := ⟨h8_⟩
                have n9_ : Aside0 (w114.heap[gb104]? = some (.cells #[.int .i64 a6_0, .int .i64 a6_1] 24 (0, 0))) := ⟨h9_⟩
                have n10_ : Aside0 (w114.heap[gb134]? = some (.cells #[.slice Ao105 y144.length co105, .int .i64 a0_1, .int .i64 a0_2] 26 (0, 0))) := ⟨h10_⟩
                have n11_ : Aside0 (Below w.heap.size w w114) := ⟨h11_⟩
                clear HO_16
                clear HO_24
                clear HO143
                clear HO146
                clear BK101
                clear BK102
                clear BK103
                clear BK104
                clear BK134
                clear HB
                clear h0_ h1_ h2_ h3_ h4_ h5_ h6_ h7_ h8_ h9_ h10_ h11_
                have HO143 := n0_
                have HO146 := n1_
                have HO152 := n2_
                have HO155 := n3_
                have HO_16 := n4_
                have HO_24 := n5_
                have BK101 := n6_
                have BK102 := n7_
                have BK103 := n8_
                have BK104 := n9_
                have BK134 := n10_
                have HB := n11_
                clear n0_ n1_ n2_ n3_ n4_ n5_ n6_ n7_ n8_ n9_ n10_ n11_
                have hHeld : w114.cell? ⟨gb134, 0, none⟩ = some (.slice Ao105 y144.length co105) ∧ w114.cell? ⟨gb134, 1, none⟩ = some (.int .i64 a0_1) ∧ w114.cell? ⟨gb134, 2, none⟩ = some (.int .i64 a0_2) ∧ w114.cell? ⟨gb104, 0, none⟩ = some (.int .i64 a6_0) ∧ w114.cell? ⟨gb104, 1, none⟩ = some (.int .i64 a6_1) ∧ w114.cell? ⟨gb102, 0, none⟩ = some (.int .i64 a2_0) ∧ w114.cell? ⟨gb102, 1, none⟩ = some (.int .i64 a2_1) ∧ w114.cell? ⟨gb102, 2, none⟩ = some (.int .i64 a2_2) ∧ w114.cell? ⟨gb102, 3, none⟩ = some (.int .i64 a2_3) := hS_
                obtain ⟨Ao116, co116, eo116⟩ := Kd.R_slice HO155.out
                (first | subst eo116 | (injection eo116 with f1_ f2_ f3_; have f4_ := f1_.symm; have f5_ := f3_.symm; clear f1_ f2_ f3_; subst f4_; subst f5_))
                refine norm_ (a' := ?_) ?_ ?_
                rotate_left
                ·simp only [putAll, Act.put, zsa, zsz, zss]
                 rfl
                refine one_ (i := 6) (N := some 156) #[true, true, true, true, true, true, true, true, true, false, false, false, false, false, false] rfl rfl (one_of HT_.out (by kernel_rfl)) (by decide) (fun K hK => ?_)
                refine Kd.R_append_rows_step k24 (w0 := w) w.heap.size (by rfl) (.tmp 153) (.tmp 155) 27 24 (.agg #[(.int .i64 0), (.int .i64 0)]) 16 rfl Try.underlying27 info24 rfl (by decide) (by omega) v151 y150 y153 _ _ _ (fun k_ => some k_ ≠ (.slice Ao116 y153.length co116 : Value).ownBlock ∧ k_ ≠ gb104) (fun _ => False) rfl rfl ?aO ?aR (fun _ _ h => h) (fun _ h => h.elim) ?aF ?aB ?aS ?aL ?_
                (case aR => repeat (first | exact (Kd.R_reads' HO155.out).2.2 | (with_reducible refine Kd.C_alloc ?_ _) | (with_reducible refine Kd.C_drewN ?_ _) | (with_reducible refine Kd.C_drew ?_)))
                (case aB => exact zq3)
                (case aF => exact (fun k_ hk => ⟨Kd.fresh' (Kd.R_lt zq33) k_ hk, Kd.freshB (g := gb104) (o := .cells #[.int .i64 a6_0, .int .i64 a6_1] 24 (0, 0)) zq7 k_ hk⟩))
                (case aO => exact zq25)
                (case aS => exact (zbz zq3))
                (case aL => have := LMc82.out; omega)
                intro v157 w115 ho hb hg hat
                rw [← Ny156.out] at ho
                have n0_ := zam (Kd.R_over' zq12 (Kd.R_typed zq25) (by decide) hg)
                have n1_ := zam (Kd.R_over' zq14 (Kd.R_typed zq25) (by decide) hg)
                have n2_ := zam (zkg (g := gb101) (o := .cells #[.slice A0_0 l0_0.length c0_0, .int .i64 a0_1, .int .i64 a0_2] 26 (0, 0)) zq0 hg (Kd.R_ne HO152.out BK101.out (by decide)))
                have n3_ := zam (zkg (g := gb102) (o := .cells #[.int .i64 a2_0, .int .i64 a2_1, .int .i64 a2_2, .int .i64 a2_3] 29 (0, 0)) zq4 hg (Kd.R_ne HO152.out BK102.out (by decide)))
                have n4_ := zam (zkg (g := gb103) (o := .cells #[.int .i64 a5_0, .int .i64 a5_1, .int .i64 a5_2, .int .i64 a5_3] 29 (0, 0)) zq6 hg (Kd.R_ne HO152.out BK103.out (by decide)))
                have n5_ := zam (zkg (g := gb104) (o := .cells #[.int .i64 a6_0, .int .i64 a6_1] 24 (0, 0)) zq7 hg (Kd.R_away HO152.out (fun _ hk => hk.2)))
                have n6_ := zam (zkg (g := gb134) (o := .cells #[.slice Ao105 y144.length co105, .int .i64 a0_1, .int .i64 a0_2] 26 (0, 0)) zq13 hg (Kd.R_ne HO152.out BK134.out (by decide)))
                have n7_ := zam (Kd.R_over' zq16 (Kd.R_typed zq25) (by decide) hg)
                have n8_ := zam (Kd.R_over' zq22 (Kd.R_typed zq25) (by decide) hg)
                have n9_ := zam (Kd.R_after (ok := (fun k_ => k_ ≠ gb104)) (by (with_reducible repeat (first | apply zRa | apply zRn | apply zRd)); exact Kd.R_mono HO155.out (fun _ hk => ⟨hk.2, hk.1⟩)) hg hat)
                have n10_ := zam (hb)
                have n11_ := zam (ho)
                clear HO_16
                clear HO_24
                clear BK101
                clear BK102
                clear BK103
                clear BK104
                clear BK134
                clear HO143
                clear HO146
                clear HO155
                clear HB
                clear HO152
                have HO_16 := n0_
                have HO_24 := n1_
                have BK101 := n2_
                have BK102 := n3_
                have BK103 := n4_
                have BK104 := n5_
                have BK134 := n6_
                have HO143 := n7_
                have HO146 := n8_
                have HO155 := n9_
                have HB := n10_
                have HO158 := n11_
                clear n0_ n1_ n2_ n3_ n4_ n5_ n6_ n7_ n8_ n9_ n10_ n11_
                clear ho hb hg hat
                obtain ⟨Ao117, co117, eo117⟩ := Kd.R_slice HO158.out
                (first | subst eo117 | (injection eo117 with f1_ f2_ f3_; have f4_ := f1_.symm; have f5_ := f3_.symm; clear f1_ f2_ f3_; subst f4_; subst f5_))
                refine hK.out _ _ ⟨(zkc BK134.out 0).trans rfl, (zkc BK134.out 1).trans rfl, (zkc BK134.out 2).trans rfl, (zkc BK104.out 0).trans rfl, (zkc BK104.out 1).trans rfl, (zkc BK102.out 0).trans rfl, (zkc BK102.out 1).trans rfl, (zkc BK102.out 2).trans rfl, (zkc BK102.out 3).trans rfl⟩ (fun hHeld => ?_)
                clear hK K
                refine norm_ (a' := ?_) ?_ ?_
                rotate_left
                ·show Act.put _ (some 156) _ = _
                 simp only [Act.put, zsa, zsz, zss, i64_w, i32_w]
                 rfl
                refine one_ (i := 9) (N := some 159) #[true, true, true, true, true, true, true, true, true, true, false, false, false, false, false] rfl rfl (one_of HT_.out (by kernel_rfl)) (by decide) (fun K hK => ?_)
                refine goes_ Try.func15 (by kernel_rfl) rfl #[.agg #[.slice Ao105 y144.length co105, .int .i64 a0_1, .int .i64 a0_2], .slice Ao117 y156.length co117, .agg #[.int .i64 a2_0, .int .i64 a2_1, .int .i64 a2_2, .int .i64 a2_3], .int .i64 (wrap64 ((Int.tmod (wrap64 (a3)) 4) + 1))] (by rfl) rfl rfl zq5 ?_
                with_reducible refine (sound_Region.calls k4 _ _ y144 a0_1 a0_2 _ _ y156 a2_0 a2_1 a2_2 a2_3 (wrap64 ((Int.tmod (wrap64 (a3)) 4) + 1)) t159 t162 _ ?side1 ?side2 ?side3 ?side4 A83.out).mono ?_
                (case side1 => repeat (first | exact (Kd.R_reads' HO146.out).2.2 | (with_reducible refine Kd.C_alloc ?_ _) | (with_reducible refine Kd.C_drewN ?_ _) | (with_reducible refine Kd.C_drew ?_)))
                (case side2 => exact (Kd.R_reads' HO146.out).2.1)
                (case side3 => repeat (first | exact (Kd.R_reads' HO158.out).2.2 | (with_reducible refine Kd.C_alloc ?_ _) | (with_reducible refine Kd.C_drewN ?_ _) | (with_reducible refine Kd.C_drew ?_)))
                (case side4 => exact (Kd.R_reads' HO158.out).2.1)
                rintro e w118 ⟨v160, rfl, ho0, hb⟩
                refine ⟨_, rfl, ?_⟩
                have n0_ := zam (Kd.R_elder' zq12 (Kd.R_base ho0) hb)
                have n1_ := zam (Kd.R_elder' zq14 (Kd.R_base ho0) hb)
                have n2_ := zam (Kd.R_elder' zq16 (Kd.R_base ho0) hb)
                have n3_ := zam (Kd.R_elder' zq22 (Kd.R_base ho0) hb)
                have n4_ := zam (Kd.R_below zq33 hb)
                have n5_ := zam (Kd.R_below (by (with_reducible repeat (first | apply zRa | apply zRn | apply zRd)); exact HO158.out) hb)
                have n6_ := zam (Kd.R_lower (Kd.R_newB (Kd.R_newB (Kd.R_new' (Kd.R_new' (Kd.R_new' (Kd.R_new' ho0 (Kd.R_lt zq12)) (Kd.R_lt zq14)) (Kd.R_lt zq16)) (Kd.R_lt zq22)) (g := gb102) (o := .cells #[.int .i64 a2_0, .int .i64 a2_1, .int .i64 a2_2, .int .i64 a2_3] 29 (0, 0)) zq4) (g := gb103) (o := .cells #[.int .i64 a5_0, .int .i64 a5_1, .int .i64 a5_2, .int .i64 a5_3] 29 (0, 0)) zq6) (zbz zq3))
                have n7_ := zam (zkb (g := gb101) (o := .cells #[.slice A0_0 l0_0.length c0_0, .int .i64 a0_1, .int .i64 a0_2] 26 (0, 0)) zq0 hb)
                have n8_ := zam (zkb (g := gb102) (o := .cells #[.int .i64 a2_0, .int .i64 a2_1, .int .i64 a2_2, .int .i64 a2_3] 29 (0, 0)) zq4 hb)
                have n9_ := zam (zkb (g := gb103) (o := .cells #[.int .i64 a5_0, .int .i64 a5_1, .int .i64 a5_2, .int .i64 a5_3] 29 (0, 0)) zq6 hb)
                have n10_ := zam (zkb (g := gb104) (o := .cells #[.int .i64 a6_0, .int .i64 a6_1] 24 (0, 0)) zq7 hb)
                have n11_ := zam (zkb (g := gb134) (o := .cells #[.slice Ao105 y144.length co105, .int .i64 a0_1, .int .i64 a0_2] 26 (0, 0)) zq13 hb)
                have n12_ := zam (zbt zq3 hb)
                clear HO_16
                clear HO_24
                clear HO143
                clear HO146
                clear HO155
                clear HO158
                clear BK101
                clear BK102
                clear BK103
                clear BK104
                clear BK134
                clear HB
                have HO_16 := n0_
                have HO_24 := n1_
                have HO143 := n2_
                have HO146 := n3_
                have HO155 := n4_
                have HO158 := n5_
                have HO161 := n6_
                have BK101 := n7_
                have BK102 := n8_
                have BK103 := n9_
                have BK104 := n10_
                have BK134 := n11_
                have HB := n12_
                clear n0_ n1_ n2_ n3_ n4_ n5_ n6_ n7_ n8_ n9_ n10_ n11_ n12_
                (try clear hb)
                (try clear hb2)
                (try clear hk)
                (try clear hi)
                (try clear ho0)
                refine hK.out _ _ ⟨(zkc BK134.out 0).trans rfl, (zkc BK134.out 1).trans rfl, (zkc BK134.out 2).trans rfl, (zkc BK104.out 0).trans rfl, (zkc BK104.out 1).trans rfl, (zkc BK102.out 0).trans rfl, (zkc BK102.out 1).trans rfl, (zkc BK102.out 2).trans rfl, (zkc BK102.out 3).trans rfl⟩ (fun hHeld => ?_)
                clear hK K
                refine norm_ (a' := ?_) ?_ ?_
                rotate_left
                ·show Act.put _ (some 159) _ = _
                 simp only [Act.put, zsa, zsz, zss, i64_w, i32_w]
                 rfl
                refine pure_ (i := 10) (N := some 149) (v := ?_) (a' := ?_) #[true, true, true, true, true, true, true, true, true, true, true, false, false, false, false] rfl rfl (any_of HT_.out (by kernel_rfl)) (fun _ _ _ h => h) (Or.inl ⟨by rfl, ?_⟩) ?_ ?_
                rotate_left
                ·intro w'
                 go_simp
                 with_reducible rfl
                rotate_left
                ·simp only [Act.put, zsa, zsz, zss, i64_w, i32_w]
                 rfl
                refine pure_ (i := 11) (N := some 160) (v := ?_) (a' := ?_) #[true, true, true, true, true, true, true, true, true, true, true, true, false, false, false] rfl rfl (any_of HT_.out (by kernel_rfl)) (fun _ _ _ h => h) (Or.inl ⟨by rfl, ?_⟩) ?_ ?_
                rotate_left
                ·intro w'
                 go_simp
                 with_reducible rfl
                rotate_left
                ·simp only [Act.put, zsa, zsz, zss, i64_w, i32_w]
                 rfl
                refine pure_ (i := 12) (N := some 161) (v := ?_) (a' := ?_) #[true, true, true, true, true, true, true, true, true, true, true, true, true, false, false] rfl rfl (any_of HT_.out (by kernel_rfl)) (fun _ _ _ h => h) (Or.inl ⟨by rfl, ?_⟩) ?_ ?_
                rotate_left
                ·intro w'
                 go_simp
                 with_reducible rfl
                rotate_left
                ·simp only [Act.put, zsa, zsz, zss, i64_w, i32_w]
                 rfl
                refine pure_ (i := 13) (N := some 24) (v := ?_) (a' := ?_) #[true, true, true, true, true, true, true, true, true, true, true, true, true, true, false] rfl rfl (any_of HT_.out (by kernel_rfl)) (fun _ _ _ h => h) (Or.inl ⟨by rfl, ?_⟩) ?_ ?_
                rotate_left
                ·intro w'
                 go_simp
                 with_reducible rfl
                rotate_left
                ·simp only [Act.put, zsa, zsz, zss, i64_w, i32_w]
                 rfl
                refine pure_ (i := 14) (N := some 17) (v := ?_) (a' := ?_) #[true, true, true, true, true, true, true, true, true, true, true, true, true, true, true] rfl rfl (any_of HT_.out (by kernel_rfl)) (fun _ _ _ h => h) (Or.inl ⟨by rfl, ?_⟩) ?_ ?_
                rotate_left
                ·intro w'
                 go_simp
                 with_reducible rfl
                rotate_left
                ·simp only [Act.put, zsa, zsz, zss, i64_w, i32_w]
                 rfl
                refine done_ (done_of HT_.out (by kernel_rfl)) ?_
                try go_wp2
                go_loopg [27] k4 (fun kq v27 w' => ∃ (x27_5 : Int), v27 = .int .i64 x27_5 ∧ Aside0 (isobathlaw07_SoundNearer.l3 kq t107 t162 t159 x27_5 = some r) ∧ Aside0 (kq ≤ k4) ∧ Aside0 (Kd.R k29 29 w' w.heap.size (fun k_ => some k_ ≠ (v160 : Value).ownBlock ∧ some k_ ≠ ((.slice Ao105 y144.length co105) : Value).ownBlock ∧ k_ ≠ gb102 ∧ k_ ≠ gb103) (.slice Ao51 t107.length co51) t107) ∧ Aside0 (Kd.R k29 29 w' w.heap.size (fun k_ => some k_ ≠ ((.slice Ao51 t107.length co51) : Value).ownBlock ∧ some k_ ≠ ((.slice Ao105 y144.length co105) : Value).ownBlock ∧ k_ ≠ gb102 ∧ k_ ≠ gb103) v160 t159) ∧ Aside0 (Kd.R k29 29 w' w.heap.size (fun k_ => some k_ ≠ ((.slice Ao51 t107.length co51) : Value).ownBlock ∧ some k_ ≠ (v160 : Value).ownBlock ∧ k_ ≠ gb102 ∧ k_ ≠ gb103) (.slice Ao105 y144.length co105) y144) ∧ Aside0 (w'.heap[gb101]? = some (.cells #[(.slice A0_0 l0_0.length c0_0), .int .i64 a0_1, .int .i64 a0_2] 26 (0, 0))) ∧ Aside0 (w'.heap[gb102]? = some (.cells #[.int .i64 a2_0, .int .i64 a2_1, .int .i64 a2_2, .int .i64 a2_3] 29 (0, 0))) ∧ Aside0 (w'.heap[gb103]? = some (.cells #[.int .i64 a5_0, .int .i64 a5_1, .int .i64 a5_2, .int .i64 a5_3] 29 (0, 0))) ∧ Aside0 (w'.heap[gb104]? = some (.cells #[.int .i64 a6_0, .int .i64 a6_1] 24 (0, 0))) ∧ Aside0 (w'.heap[gb134]? = some (.cells #[(.slice Ao105 y144.length co105), .int .i64 a0_1, .int .i64 a0_2] 26 (0, 0))) ∧ Aside0 (Below w.heap.size w w'))
                case atStart => exact ⟨(0), zq10, H', ⟨Nat.le_refl _⟩, ⟨by (with_reducible repeat (first | apply zRa | apply zRn | apply zRd)); exact Kd.R_mono HO_16.out (fun _ hk => ⟨hk.2, ⟨hk.1.2.1, ⟨hk.1.2.2.2.1, hk.1.2.2.2.2⟩⟩⟩)⟩, ⟨by (with_reducible repeat (first | apply zRa | apply zRn | apply zRd)); exact Kd.R_mono HO161.out (fun _ hk => ⟨hk.1.1.1.1.1.2, ⟨hk.1.1.2, ⟨hk.1.2, hk.2⟩⟩⟩)⟩, ⟨by (with_reducible repeat (first | apply zRa | apply zRn | apply zRd)); exact Kd.R_mono HO146.out (fun _ hk => ⟨hk.1.2.1, ⟨hk.2, ⟨hk.1.2.2.2.1, hk.1.2.2.2.2⟩⟩⟩)⟩, ⟨by (with_reducible repeat (first | refine zkn ?_ _ | refine zkd ?_ | refine zka ?_ _)); exact BK101.out⟩, ⟨by (with_reducible repeat (first | refine zkn ?_ _ | refine zkd ?_ | refine zka ?_ _)); exact BK102.out⟩, ⟨by (with_reducible repeat (first | refine zkn ?_ _ | refine zkd ?_ | refine zka ?_ _)); exact BK103.out⟩, ⟨by (with_reducible repeat (first | refine zkn ?_ _ | refine zkd ?_ | refine zka ?_ _)); exact BK104.out⟩, ⟨by (with_reducible repeat (first | refine zkn ?_ _ | refine zkd ?_ | refine zka ?_ _)); exact BK134.out⟩, ⟨by repeat (first | (with_reducible first | exact HB.out | apply zba | apply zbn | apply zb1 | refine zbs ?_ GE101.out | refine zbs ?_ GE102.out | refine zbs ?_ GE103.out | refine zbs ?_ GE104.out | refine zbs ?_ GE134.out) | exact HB.out)⟩⟩
                case round =>
                 clear H'
                 try clear c1
                 try clear c2
                 try clear p2
                 try clear p6
                 try clear c8
                 try clear c15
                 try clear p64
                 try clear c81
                 try clear c82
                 obtain ⟨x27_5, rfl, HA, HK5, HO_16, HO_24, HO_135000, BK101, BK102, BK103, BK104, BK134, HB⟩ := hrel
                 cases gk with
                 | zero => exact absurd HA.out (by simp [isobathlaw07_SoundNearer.l3])
                 | succ k5 =>
                  have H := HA.out
                  clear HA
                  simp only [isobathlaw07_SoundNearer.l3] at H
                  have HC119 := zam H
                  clear H
                  go_upto_region 33 with (fail)
                  go_cut [169] (fun v169 wc => ∃ (kq : Nat) (x169_118 : Bool), v169 = .bool x169_118 ∧ Aside0 (isobathlaw07_SoundNearer.j5 kq t107 t162 t159 x27_5 x169_118 = some r) ∧ Aside0 (kq ≤ k5) ∧ Aside0 (Kd.R k29 29 wc w.heap.size (fun k_ => some k_ ≠ (v160 : Value).ownBlock ∧ some k_ ≠ ((.slice Ao105 y144.length co105) : Value).ownBlock ∧ k_ ≠ gb102 ∧ k_ ≠ gb103) (.slice Ao51 t107.length co51) t107) ∧ Aside0 (Kd.R k29 29 wc w.heap.size (fun k_ => some k_ ≠ ((.slice Ao51 t107.length co51) : Value).ownBlock ∧ some k_ ≠ ((.slice Ao105 y144.length co105) : Value).ownBlock ∧ k_ ≠ gb102 ∧ k_ ≠ gb103) v160 t159) ∧ Aside0 (Kd.R k29 29 wc w.heap.size (fun k_ => some k_ ≠ ((.slice Ao51 t107.length co51) : Value).ownBlock ∧ some k_ ≠ (v160 : Value).ownBlock ∧ k_ ≠ gb102 ∧ k_ ≠ gb103) (.slice Ao105 y144.length co105) y144) ∧ Aside0 (wc.heap[gb101]? = some (.cells #[(.slice A0_0 l0_0.length c0_0), .int .i64 a0_1, .int .i64 a0_2] 26 (0, 0))) ∧ Aside0 (wc.heap[gb102]? = some (.cells #[.int .i64 a2_0, .int .i64 a2_1, .int .i64 a2_2, .int .i64 a2_3] 29 (0, 0))) ∧ Aside0 (wc.heap[gb103]? = some (.cells #[.int .i64 a5_0, .int .i64 a5_1, .int .i64 a5_2, .int .i64 a5_3] 29 (0, 0))) ∧ Aside0 (wc.heap[gb104]? = some (.cells #[.int .i64 a6_0, .int .i64 a6_1] 24 (0, 0))) ∧ Aside0 (wc.heap[gb134]? = some (.cells #[(.slice Ao105 y144.length co105), .int .i64 a0_1, .int .i64 a0_2] 26 (0, 0))) ∧ Aside0 (Below w.heap.size w wc))
                  case first =>
                   have H := HC119.out
                   clear HC119
                   by_cases c120 : x27_5 < (t159.length : Int)
                   ·rw [if_pos c120] at H
                    have c120b0 : decide (x27_5 < (t159.length : Int)) = true := zdt c120
                    clear c120
                    (first | rw [c120b0] | (simp only [i64_w, i32_w]; rw [c120b0]) | skip)
                    have H' := zam H
                    clear H
                    obtain ⟨Ao121, co121, eo121⟩ := Kd.R_slice HO_24.out
                    subst eo121
                    go_wp2
                    go_meet
                    case rel => exact ⟨_, ((t162 == 0)), zq10, H', ⟨by have := HJ7.out; have := HK2.out; have := HK3.out; have := HK4.out; have := HK5.out; first | omega | exact Nat.le_refl _⟩, ⟨by (with_reducible repeat (first | apply zRa | apply zRn | apply zRd)); exact HO_16.out⟩, ⟨by (with_reducible repeat (first | apply zRa | apply zRn | apply zRd)); exact HO_24.out⟩, ⟨by (with_reducible repeat (first | apply zRa | apply zRn | apply zRd)); exact HO_135000.out⟩, ⟨by (with_reducible repeat (first | refine zkn ?_ _ | refine zkd ?_ | refine zka ?_ _)); exact BK101.out⟩, ⟨by (with_reducible repeat (first | refine zkn ?_ _ | refine zkd ?_ | refine zka ?_ _)); exact BK102.out⟩, ⟨by (with_reducible repeat (first | refine zkn ?_ _ | refine zkd ?_ | refine zka ?_ _)); exact BK103.out⟩, ⟨by (with_reducible repeat (first | refine zkn ?_ _ | refine zkd ?_ | refine zka ?_ _)); exact BK104.out⟩, ⟨by (with_reducible repeat (first | refine zkn ?_ _ | refine zkd ?_ | refine zka ?_ _)); exact BK134.out⟩, ⟨by repeat (first | (with_reducible first | exact HB.out | apply zba | apply zbn | apply zb1 | refine zbs ?_ GE101.out | refine zbs ?_ GE102.out | refine zbs ?_ GE103.out | refine zbs ?_ GE104.out | refine zbs ?_ GE134.out) | exact HB.out)⟩⟩
                   rw [if_neg c120] at H
                   have c120b0 : decide (x27_5 < (t159.length : Int)) = false := zdf c120
                   clear c120
                   (first | rw [c120b0] | (simp only [i64_w, i32_w]; rw [c120b0]) | skip)
                   have H' := zam H
                   clear H
                   obtain ⟨Ao122, co122, eo122⟩ := Kd.R_slice HO_24.out
                   subst eo122
                   go_wp2
                   go_meet
                   case rel => exact ⟨_, (false), zq10, H', ⟨by have := HJ7.out; have := HK2.out; have := HK3.out; have := HK4.out; have := HK5.out; first | omega | exact Nat.le_refl _⟩, ⟨by (with_reducible repeat (first | apply zRa | apply zRn | apply zRd)); exact HO_16.out⟩, ⟨by (with_reducible repeat (first | apply zRa | apply zRn | apply zRd)); exact HO_24.out⟩, ⟨by (with_reducible repeat (first | apply zRa | apply zRn | apply zRd)); exact HO_135000.out⟩, ⟨by (with_reducible repeat (first | refine zkn ?_ _ | refine zkd ?_ | refine zka ?_ _)); exact BK101.out⟩, ⟨by (with_reducible repeat (first | refine zkn ?_ _ | refine zkd ?_ | refine zka ?_ _)); exact BK102.out⟩, ⟨by (with_reducible repeat (first | refine zkn ?_ _ | refine zkd ?_ | refine zka ?_ _)); exact BK103.out⟩, ⟨by (with_reducible repeat (first | refine zkn ?_ _ | refine zkd ?_ | refine zka ?_ _)); exact BK104.out⟩, ⟨by (with_reducible repeat (first | refine zkn ?_ _ | refine zkd ?_ | refine zka ?_ _)); exact BK134.out⟩, ⟨by repeat (first | (with_reducible first | exact HB.out | apply zba | apply zbn | apply zb1 | refine zbs ?_ GE101.out | refine zbs ?_ GE102.out | refine zbs ?_ GE103.out | refine zbs ?_ GE104.out | refine zbs ?_ GE134.out) | exact HB.out)⟩⟩
                  case rest =>
                   clear HC119
                   try clear c1
                   try clear c2
                   try clear p2
                   try clear p6
                   try clear c8
                   try clear c12
                   try clear c15
                   try clear p64
                   try clear c81
                   try clear c82
                   try clear c120
                   try clear c120b0
                   try clear p2
                   try clear p6
                   try clear p64
                   obtain ⟨kq, x169_118, rfl, HA, HJ118, HO_16, HO_24, HO_135000, BK101, BK102, BK103, BK104, BK134, HB⟩ := hcut
                   cases kq with
                   | zero => exact absurd HA.out (by simp [isobathlaw07_SoundNearer.j5])
                   | succ kj118 =>
                    have H := HA.out
                    clear HA
                    simp only [isobathlaw07_SoundNearer.j5] at H
                    by_cases c123 : x169_118 = true
                    ·subst c123
                     have H1 : (if 0 ≤ x27_5 then (if x27_5 < (t159.length : Int) then ((isobathlaw07_within.f kj118 ((rd_T29 t159 x27_5).f0.f0) ((rd_T29 t159 x27_5).f0.f1) ((rd_T29 t159 x27_5).f1.f0) ((rd_T29 t159 x27_5).f1.f1) t107).bind fun t164 => (if t164 = true then (isobathlaw07_SoundNearer.l3 kj118 t107 t162 t159 (wrap64 (x27_5 + 1))) else (none))) else (none)) else (none)) = some r := by rw [if_pos rfl] at H; exact H
                     clear H
                     have H := H1
                     clear H1
                     by_cases c124 : 0 ≤ x27_5
                     ·rw [if_pos c124] at H
                      have c124b0 : decide (0 ≤ x27_5) = true := zdt c124
                      clear c124
                      by_cases c125 : x27_5 < (t159.length : Int)
                      ·rw [if_pos c125] at H
                       have c125b0 : decide (x27_5 < (t159.length : Int)) = true := zdt c125
                       clear c125
                       replace H := Option.bind_eq_some_iff.mp H
                       obtain ⟨t164, A1260, H⟩ := H
                       replace H : (if t164 = true then (isobathlaw07_SoundNearer.l3 kj118 t107 t162 t159 (wrap64 (x27_5 + 1))) else (none)) = some r := H
                       have A126 := zam A1260
                       clear A1260
                       by_cases c127 : t164 = true
                       ·subst c127
                        have H1 : (isobathlaw07_SoundNearer.l3 kj118 t107 t162 t159 (wrap64 (x27_5 + 1))) = some r := by rw [if_pos rfl] at H; exact H
                        clear H
                        have H := H1
                        clear H1
                        have H' := zam H
                        clear H
                        obtain ⟨Ao128, co128, eo128⟩ := Kd.R_slice HO_24.out
                        subst eo128
                        have p163 : 0 ≤ (x27_5 : Int) := zod zq9
                        have q163 : x27_5 < (t159.length : Int) := zod zq9
                        obtain ⟨ad163, e163, hx163_0, hx163_1, hx163_2, hx163_3⟩ := at_T29 (Kd.R_reads' HO_24.out).2.2 x27_5 p163 q163
                        cases e163
                        replace p163 := eq_true p163
                        replace q163 := eq_true q163
                        go_wp2_with (first | ((with_reducible refine zgc (f := 16) rfl ?_); refine goesL_ (some 177) rfl rfl Try.func16 (by kernel_rfl) rfl #[.agg #[.int .i64 ((rd_T29 t159 x27_5).f0.f0), .int .i64 ((rd_T29 t159 x27_5).f0.f1), .int .i64 ((rd_T29 t159 x27_5).f1.f0), .int .i64 ((rd_T29 t159 x27_5).f1.f1)], .slice Ao51 t107.length co51] rfl zq5 ?_; (with_reducible refine (isobathlaw07_within.calls kj118 ((rd_T29 t159 x27_5).f0.f0) ((rd_T29 t159 x27_5).f0.f1) ((rd_T29 t159 x27_5).f1.f0) ((rd_T29 t159 x27_5).f1.f1) _ _ t107 true _ ?side1 ?side2 A126.out).mono ?_); (case side1 => repeat (first | exact (Kd.R_reads' HO_16.out).2.2 | (with_reducible refine Kd.C_alloc ?_ _) | (with_reducible refine Kd.C_drewN ?_ _) | (with_reducible refine Kd.C_drew ?_))); (case side2 => exact (Kd.R_reads' HO_16.out).2.1); rintro e w129 ⟨rfl, hb⟩; refine ⟨_, rfl, ?_⟩; have n0_ := zam (Kd.R_below zq12 hb); have n1_ := zam (Kd.R_below zq14 hb); have n2_ := zam (Kd.R_below (by (with_reducible repeat (first | apply zRa | apply zRn | apply zRd)); exact HO_135000.out) hb); have n3_ := zam (zkb (g := gb101) (o := .cells #[.slice A0_0 l0_0.length c0_0, .int .i64 a0_1, .int .i64 a0_2] 26 (0, 0)) zq0 hb); have n4_ := zam (zkb (g := gb102) (o := .cells #[.int .i64 a2_0, .int .i64 a2_1, .int .i64 a2_2, .int .i64 a2_3] 29 (0, 0)) zq4 hb); have n5_ := zam (zkb (g := gb103) (o := .cells #[.int .i64 a5_0, .int .i64 a5_1, .int .i64 a5_2, .int .i64 a5_3] 29 (0, 0)) zq6 hb); have n6_ := zam (zkb (g := gb104) (o := .cells #[.int .i64 a6_0, .int .i64 a6_1] 24 (0, 0)) zq7 hb); have n7_ := zam (zkb (g := gb134) (o := .cells #[.slice Ao105 y144.length co105, .int .i64 a0_1, .int .i64 a0_2] 26 (0, 0)) zq13 hb); have n8_ := zam (zbt zq3 hb); clear HO_16; clear HO_24; clear HO_135000; clear BK101; clear BK102; clear BK103; clear BK104; clear BK134; clear HB; have HO_16 := n0_; have HO_24 := n1_; have HO_135000 := n2_; have BK101 := n3_; have BK102 := n4_; have BK103 := n5_; have BK104 := n6_; have BK134 := n7_; have HB := n8_; clear n0_ n1_ n2_ n3_ n4_ n5_ n6_ n7_ n8_; (try clear hb); (try clear hb2); (try clear hk); (try clear hi)))
                        go_roundg kj118
                        case measure => have := HJ7.out; have := HK2.out; have := HK3.out; have := HK4.out; have := HK5.out; have := HJ118.out; omega
                        case rel => exact ⟨(wrap64 (x27_5 + 1)), zq10, H', ⟨by have := HJ7.out; have := HK2.out; have := HK3.out; have := HK4.out; have := HK5.out; have := HJ118.out; omega⟩, ⟨by (with_reducible repeat (first | apply zRa | apply zRn | apply zRd)); exact HO_16.out⟩, ⟨by (with_reducible repeat (first | apply zRa | apply zRn | apply zRd)); exact HO_24.out⟩, ⟨by (with_reducible repeat (first | apply zRa | apply zRn | apply zRd)); exact HO_135000.out⟩, ⟨by (with_reducible repeat (first | refine zkn ?_ _ | refine zkd ?_ | refine zka ?_ _)); exact BK101.out⟩, ⟨by (with_reducible repeat (first | refine zkn ?_ _ | refine zkd ?_ | refine zka ?_ _)); exact BK102.out⟩, ⟨by (with_reducible repeat (first | refine zkn ?_ _ | refine zkd ?_ | refine zka ?_ _)); exact BK103.out⟩, ⟨by (with_reducible repeat (first | refine zkn ?_ _ | refine zkd ?_ | refine zka ?_ _)); exact BK104.out⟩, ⟨by (with_reducible repeat (first | refine zkn ?_ _ | refine zkd ?_ | refine zka ?_ _)); exact BK134.out⟩, ⟨by repeat (first | (with_reducible first | exact HB.out | apply zba | apply zbn | apply zb1 | refine zbs ?_ GE101.out | refine zbs ?_ GE102.out | refine zbs ?_ GE103.out | refine zbs ?_ GE104.out | refine zbs ?_ GE134.out) | exact HB.out)⟩⟩
                       replace c127 := Bool.eq_false_iff.mpr c127
                       subst c127
                       have H1 : (none) = some r := by rw [if_neg (show ¬ (false = true) by decide)] at H; exact H
                       clear H
                       have H := H1
                       clear H1
                       exact absurd H (by simp)
                      rw [if_neg c125] at H
                      exact absurd H (by simp)
                     rw [if_neg c124] at H
                     exact absurd H (by simp)
                    replace c123 := Bool.eq_false_iff.mpr c123
                    subst c123
                    have H1 : ((isobathlaw07_Works.f kj118).bind fun t165 => (some t165)) = some r := by rw [if_neg (show ¬ (false = true) by decide)] at H; exact H
                    clear H
                    have H := H1
                    clear H1
                    replace H := Option.bind_eq_some_iff.mp H
                    obtain ⟨t165, A1300, H⟩ := H
                    replace H : (some t165) = some r := H
                    have A130 := zam A1300
                    clear A1300
                    obtain rfl := zsi H
                    go_wp2_with (first | ((with_reducible refine zgc (f := 14) rfl ?_); refine goesL_ (some 179) rfl rfl Try.func14 (by kernel_rfl) rfl #[] rfl zq5 ?_; (with_reducible refine (isobathlaw07_Works.calls kj118  t165 _ A130.out).mono ?_); rintro e w131 ⟨rfl, hb⟩; refine ⟨_, rfl, ?_⟩; have n0_ := zam (Kd.R_below zq12 hb); have n1_ := zam (Kd.R_below zq14 hb); have n2_ := zam (Kd.R_below (by (with_reducible repeat (first | apply zRa | apply zRn | apply zRd)); exact HO_135000.out) hb); have n3_ := zam (zkb (g := gb101) (o := .cells #[.slice A0_0 l0_0.length c0_0, .int .i64 a0_1, .int .i64 a0_2] 26 (0, 0)) zq0 hb); have n4_ := zam (zkb (g := gb102) (o := .cells #[.int .i64 a2_0, .int .i64 a2_1, .int .i64 a2_2, .int .i64 a2_3] 29 (0, 0)) zq4 hb); have n5_ := zam (zkb (g := gb103) (o := .cells #[.int .i64 a5_0, .int .i64 a5_1, .int .i64 a5_2, .int .i64 a5_3] 29 (0, 0)) zq6 hb); have n6_ := zam (zkb (g := gb104) (o := .cells #[.int .i64 a6_0, .int .i64 a6_1] 24 (0, 0)) zq7 hb); have n7_ := zam (zkb (g := gb134) (o := .cells #[.slice Ao105 y144.length co105, .int .i64 a0_1, .int .i64 a0_2] 26 (0, 0)) zq13 hb); have n8_ := zam (zbt zq3 hb); clear HO_16; clear HO_24; clear HO_135000; clear BK101; clear BK102; clear BK103; clear BK104; clear BK134; clear HB; have HO_16 := n0_; have HO_24 := n1_; have HO_135000 := n2_; have BK101 := n3_; have BK102 := n4_; have BK103 := n5_; have BK104 := n6_; have BK134 := n7_; have HB := n8_; clear n0_ n1_ n2_ n3_ n4_ n5_ n6_ n7_ n8_; (try clear hb); (try clear hb2); (try clear hk); (try clear hi)))
                    go_ret
                    exact ⟨by first | rfl | (simp [errW_none, errW_some] <;> rfl) | (simp [*, errW_none, errW_some] <;> rfl), by repeat (first | (with_reducible first | exact HB.out | apply zba | apply zbn | apply zb1 | refine zbs ?_ GE101.out | refine zbs ?_ GE102.out | refine zbs ?_ GE103.out | refine zbs ?_ GE104.out | refine zbs ?_ GE134.out) | exact HB.out)⟩
               rw [if_neg c82] at H
               exact absurd H (by simp)
              rw [if_neg c81] at H
              exact absurd H (by simp)
             rw [if_neg c80] at H
             exact absurd H (by simp)
            rw [if_neg c79] at H
            exact absurd H (by simp)
         rw [if_neg c63] at H
         exact absurd H (by simp)
    rw [if_neg c32] at H
    have c32b0 : (t110 == 0) = false := beq_eq_false_iff_ne.mpr c32
    have c32b1 : (t110 != 0) = true := bne_iff_ne.mpr c32
    replace H := Option.bind_eq_some_iff.mp H
    obtain ⟨t115, A1320, H⟩ := H
    replace H : (some t115) = some r := H
    have A132 := zam A1320
    clear A1320
    obtain rfl := zsi H
    have hnb133 := NB101_102.out
    have hnc133 := NB102_101.out
    have hnb134 := NB101_103.out
    have hnc134 := NB103_101.out
    have hnb135 := NB101_104.out
    have hnc135 := NB104_101.out
    have hcz136_0 : wc.cell? ⟨gb101, 0, none⟩ = some (.slice A0_0 l0_0.length c0_0) := (zkc BK101.out 0).trans rfl
    have hcz136_1 : wc.cell? ⟨gb101, 1, none⟩ = some (.int .i64 a0_1) := (zkc BK101.out 1).trans rfl
    have hcz136_2 : wc.cell? ⟨gb101, 2, none⟩ = some (.int .i64 a0_2) := (zkc BK101.out 2).trans rfl
    have hfz136_0 := zkz BK101.out 0
    have hfz136_1 := zkz BK101.out 1
    have hfz136_2 := zkz BK101.out 2
    have hnb137 := NB102_103.out
    have hnc137 := NB103_102.out
    have hnb138 := NB102_104.out
    have hnc138 := NB104_102.out
    have hcz139_0 : wc.cell? ⟨gb102, 0, none⟩ = some (.int .i64 a2_0) := (zkc BK102.out 0).trans rfl
    have hcz139_1 : wc.cell? ⟨gb102, 1, none⟩ = some (.int .i64 a2_1) := (zkc BK102.out 1).trans rfl
    have hcz139_2 : wc.cell? ⟨gb102, 2, none⟩ = some (.int .i64 a2_2) := (zkc BK102.out 2).trans rfl
    have hcz139_3 : wc.cell? ⟨gb102, 3, none⟩ = some (.int .i64 a2_3) := (zkc BK102.out 3).trans rfl
    have hfz139_0 := zkz BK102.out 0
    have hfz139_1 := zkz BK102.out 1
    have hfz139_2 := zkz BK102.out 2
    have hfz139_3 := zkz BK102.out 3
    go_wp2_with (first | ((with_reducible refine zgc (f := 15) rfl ?_); refine goesL_ (some 47) rfl rfl Try.func15 (by kernel_rfl) rfl #[.agg #[.slice A0_0 l0_0.length c0_0, .int .i64 a0_1, .int .i64 a0_2], .slice A1 l1.length c1, .agg #[.int .i64 a2_0, .int .i64 a2_1, .int .i64 a2_2, .int .i64 a2_3], .int .i64 (wrap64 ((Int.tmod (wrap64 (a3)) 4) + 1))] rfl zq5 ?_; (with_reducible refine (sound_Region.calls kj7 _ _ l0_0 a0_1 a0_2 _ _ l1 a2_0 a2_1 a2_2 a2_3 (wrap64 ((Int.tmod (wrap64 (a3)) 4) + 1)) t107 t110 _ ?side1 ?side2 ?side3 ?side4 A29.out).mono ?_); (case side1 => repeat (first | exact (Kd.C_below HR0_0.out HB.out) | (with_reducible refine Kd.C_alloc ?_ _) | (with_reducible refine Kd.C_drewN ?_ _) | (with_reducible refine Kd.C_drew ?_))); (case side2 => exact HC0_0.out); (case side3 => repeat (first | exact (Kd.C_below HR1.out HB.out) | (with_reducible refine Kd.C_alloc ?_ _) | (with_reducible refine Kd.C_drewN ?_ _) | (with_reducible refine Kd.C_drew ?_))); (case side4 => exact HC1.out); rintro e w140 ⟨v108, rfl, ho0, hb⟩; refine ⟨_, rfl, ?_⟩; have n0_ := zam (Kd.R_lower (Kd.R_newB (Kd.R_newB ho0 (g := gb102) (o := .cells #[.int .i64 a2_0, .int .i64 a2_1, .int .i64 a2_2, .int .i64 a2_3] 29 (0, 0)) zq4) (g := gb103) (o := .cells #[.int .i64 a5_0, .int .i64 a5_1, .int .i64 a5_2, .int .i64 a5_3] 29 (0, 0)) zq6) (zbz zq8)); have n1_ := zam (zkb (g := gb101) (o := .cells #[.slice A0_0 l0_0.length c0_0, .int .i64 a0_1, .int .i64 a0_2] 26 (0, 0)) zq0 hb); have n2_ := zam (zkb (g := gb102) (o := .cells #[.int .i64 a2_0, .int .i64 a2_1, .int .i64 a2_2, .int .i64 a2_3] 29 (0, 0)) zq4 hb); have n3_ := zam (zkb (g := gb103) (o := .cells #[.int .i64 a5_0, .int .i64 a5_1, .int .i64 a5_2, .int .i64 a5_3] 29 (0, 0)) zq6 hb); have n4_ := zam (zkb (g := gb104) (o := .cells #[.int .i64 a6_0, .int .i64 a6_1] 24 (0, 0)) zq7 hb); have n5_ := zam (zbt zq8 hb); clear BK101; clear BK102; clear BK103; clear BK104; clear HB; have HO109 := n0_; have BK101 := n1_; have BK102 := n2_; have BK103 := n3_; have BK104 := n4_; have HB := n5_; clear n0_ n1_ n2_ n3_ n4_ n5_; (try clear hb); (try clear hb2); (try clear hk); (try clear hi); (try clear ho0); have hcz141_0 : w140.cell? ⟨gb101, 0, none⟩ = some (.slice A0_0 l0_0.length c0_0) := (zkc BK101.out 0).trans rfl; have hcz141_1 : w140.cell? ⟨gb101, 1, none⟩ = some (.int .i64 a0_1) := (zkc BK101.out 1).trans rfl; have hcz141_2 : w140.cell? ⟨gb101, 2, none⟩ = some (.int .i64 a0_2) := (zkc BK101.out 2).trans rfl; have hfz141_0 := zkz BK101.out 0; have hfz141_1 := zkz BK101.out 1; have hfz141_2 := zkz BK101.out 2; have hcz142_0 : w140.cell? ⟨gb102, 0, none⟩ = some (.int .i64 a2_0) := (zkc BK102.out 0).trans rfl; have hcz142_1 : w140.cell? ⟨gb102, 1, none⟩ = some (.int .i64 a2_1) := (zkc BK102.out 1).trans rfl; have hcz142_2 : w140.cell? ⟨gb102, 2, none⟩ = some (.int .i64 a2_2) := (zkc BK102.out 2).trans rfl; have hcz142_3 : w140.cell? ⟨gb102, 3, none⟩ = some (.int .i64 a2_3) := (zkc BK102.out 3).trans rfl; have hfz142_0 := zkz BK102.out 0; have hfz142_1 := zkz BK102.out 1; have hfz142_2 := zkz BK102.out 2; have hfz142_3 := zkz BK102.out 3) | ((with_reducible refine zgc (f := 15) rfl ?_); refine goesL_ (some 56) rfl rfl Try.func15 (by kernel_rfl) rfl #[.agg #[.slice A0_0 l0_0.length c0_0, .int .i64 a0_1, .int .i64 a0_2], .slice A1 l1.length c1, .agg #[.int .i64 a2_0, .int .i64 a2_1, .int .i64 a2_2, .int .i64 a2_3], .int .i64 (wrap64 ((wrap64 ((Int.tmod (wrap64 (a3)) 4) + 1)) - 1))] rfl zq5 ?_; (with_reducible refine (sound_Region.calls kj7 _ _ l0_0 a0_1 a0_2 _ _ l1 a2_0 a2_1 a2_2 a2_3 (wrap64 ((wrap64 ((Int.tmod (wrap64 (a3)) 4) + 1)) - 1)) t111 t114 _ ?side1 ?side2 ?side3 ?side4 A30.out).mono ?_); (case side1 => repeat (first | exact (Kd.C_below HR0_0.out HB.out) | (with_reducible refine Kd.C_alloc ?_ _) | (with_reducible refine Kd.C_drewN ?_ _) | (with_reducible refine Kd.C_drew ?_))); (case side2 => exact HC0_0.out); (case side3 => repeat (first | exact (Kd.C_below HR1.out HB.out) | (with_reducible refine Kd.C_alloc ?_ _) | (with_reducible refine Kd.C_drewN ?_ _) | (with_reducible refine Kd.C_drew ?_))); (case side4 => exact HC1.out); rintro e w143 ⟨v112, rfl, ho0, hb⟩; refine ⟨_, rfl, ?_⟩; have n0_ := zam (Kd.R_elder' (by (with_reducible repeat (first | apply zRa | apply zRn | apply zRd)); exact HO109.out) (Kd.R_base ho0) hb); have n1_ := zam (Kd.R_lower (Kd.R_newB (Kd.R_newB (Kd.R_new' ho0 (Kd.R_lt (by (with_reducible repeat (first | apply zRa | apply zRn | apply zRd)); exact HO109.out))) (g := gb102) (o := .cells #[.int .i64 a2_0, .int .i64 a2_1, .int .i64 a2_2, .int .i64 a2_3] 29 (0, 0)) zq4) (g := gb103) (o := .cells #[.int .i64 a5_0, .int .i64 a5_1, .int .i64 a5_2, .int .i64 a5_3] 29 (0, 0)) zq6) (zbz zq8)); have n2_ := zam (zkb (g := gb101) (o := .cells #[.slice A0_0 l0_0.length c0_0, .int .i64 a0_1, .int .i64 a0_2] 26 (0, 0)) zq0 hb); have n3_ := zam (zkb (g := gb102) (o := .cells #[.int .i64 a2_0, .int .i64 a2_1, .int .i64 a2_2, .int .i64 a2_3] 29 (0, 0)) zq4 hb); have n4_ := zam (zkb (g := gb103) (o := .cells #[.int .i64 a5_0, .int .i64 a5_1, .int .i64 a5_2, .int .i64 a5_3] 29 (0, 0)) zq6 hb); have n5_ := zam (zkb (g := gb104) (o := .cells #[.int .i64 a6_0, .int .i64 a6_1] 24 (0, 0)) zq7 hb); have n6_ := zam (zbt zq8 hb); clear HO109; clear BK101; clear BK102; clear BK103; clear BK104; clear HB; have HO109 := n0_; have HO113 := n1_; have BK101 := n2_; have BK102 := n3_; have BK103 := n4_; have BK104 := n5_; have HB := n6_; clear n0_ n1_ n2_ n3_ n4_ n5_ n6_; (try clear hb); (try clear hb2); (try clear hk); (try clear hi); (try clear ho0)) | ((with_reducible refine zgc (f := 14) rfl ?_); refine goesL_ (some 64) rfl rfl Try.func14 (by kernel_rfl) rfl #[] rfl zq5 ?_; (with_reducible refine (isobathlaw07_Works.calls kj7  t115 _ A132.out).mono ?_); rintro e w144 ⟨rfl, hb⟩; refine ⟨_, rfl, ?_⟩; have n0_ := zam (Kd.R_below (by (with_reducible repeat (first | apply zRa | apply zRn | apply zRd)); exact HO109.out) hb); have n1_ := zam (Kd.R_below (by (with_reducible repeat (first | apply zRa | apply zRn | apply zRd)); exact HO113.out) hb); have n2_ := zam (zkb (g := gb101) (o := .cells #[.slice A0_0 l0_0.length c0_0, .int .i64 a0_1, .int .i64 a0_2] 26 (0, 0)) zq0 hb); have n3_ := zam (zkb (g := gb102) (o := .cells #[.int .i64 a2_0, .int .i64 a2_1, .int .i64 a2_2, .int .i64 a2_3] 29 (0, 0)) zq4 hb); have n4_ := zam (zkb (g := gb103) (o := .cells #[.int .i64 a5_0, .int .i64 a5_1, .int .i64 a5_2, .int .i64 a5_3] 29 (0, 0)) zq6 hb); have n5_ := zam (zkb (g := gb104) (o := .cells #[.int .i64 a6_0, .int .i64 a6_1] 24 (0, 0)) zq7 hb); have n6_ := zam (zbt zq8 hb); clear HO109; clear HO113; clear BK101; clear BK102; clear BK103; clear BK104; clear HB; have HO109 := n0_; have HO113 := n1_; have BK101 := n2_; have BK102 := n3_; have BK103 := n4_; have BK104 := n5_; have HB := n6_; clear n0_ n1_ n2_ n3_ n4_ n5_ n6_; (try clear hb); (try clear hb2); (try clear hk); (try clear hi)))
    go_ret
    exact ⟨by first | rfl | (simp [errW_none, errW_some] <;> rfl) | (simp [*, errW_none, errW_some] <;> rfl), by repeat (first | (with_reducible first | exact HB.out | apply zba | apply zbn | apply zb1 | refine zbs ?_ GE101.out | refine zbs ?_ GE102.out | refine zbs ?_ GE103.out | refine zbs ?_ GE104.out) | exact HB.out)⟩
   rw [if_neg c31] at H
   exact absurd H (by simp)
end Go.Proofs.Ytaheamdoldiojaa.P
