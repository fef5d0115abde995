/- each box of a region lies in one of the region with a lesser depth; with narrower arrivals, and with another station, no box is in the region that was not in it. Part 4 of 7. -/
-- Put together by wip/tools/shake.py, a program of this work: out of the words that the kit's print tool (print.sh) writes for a claim and what wip/tools/xprint.py prints, those that this claim reaches, and this work's own texts.
import Derived.Laws.EntriesVeiled
import Derived.Outline
import Derived.RegionTactic
import Derived.BigRegion
import Derived.Test.YtaheamdoldiojaaKSoundNearer2
namespace Go.Proofs.Ytaheamdoldiojaa.P
open Go.RowKit Go.Proofs.YtaheamdoldiojaaW.PrintWords Go.Proofs.YtaheamdoldiojaaW.PrintLast Go.Proofs.YtaheamdoldiojaaW.PrintMore
attribute [local go_sem] max2_int min2_int max_two min_two max_three min_three max_four min_four   -- for this text's walks alone
set_option linter.unusedVariables false
set_option linter.unusedSimpArgs false
def isobathlaw07_Example.f  : Option ((List (S29)) × Int × Int × (List (S24))) := (isobathlaw07_point.f 0 0).bind fun bt102 => ((isobathlaw07_point.f 3000 0).bind fun bt106 => ((isobathlaw07_point.f 0 4000).bind fun bt110 => (some ((([(⟨(⟨bt102.1, bt102.2.1⟩ : S24), (⟨bt102.2.2.1, bt102.2.2.2⟩ : S24)⟩ : S29), (⟨(⟨bt106.1, bt106.2.1⟩ : S24), (⟨bt106.2.2.1, bt106.2.2.2⟩ : S24)⟩ : S29), (⟨(⟨bt110.1, bt110.2.1⟩ : S24), (⟨bt110.2.2.1, bt110.2.2.2⟩ : S24)⟩ : S29)] : List (S29))), 1500, 1500, (([(⟨100, 100⟩ : S24), (⟨2100, 2100⟩ : S24), (⟨2767, 2767⟩ : S24)] : List (S24)))))))
set_option maxHeartbeats 8000000 in
set_option maxRecDepth 100000 in
theorem isobathlaw07_Example.calls  (r1 : List (S29)) (r2 : Int) (r3 : Int) (r4 : List (S24)) (w : World) (h : isobathlaw07_Example.f  = some (r1, r2, r3, r4)) :
  Calls Try.prog 55 #[] w fun e w' => ∃ v0_ v3_ : Value, e = .returned (.tuple #[.agg #[v0_, .int .i64 r2, .int .i64 r3], v3_]) ∧ Kd.R k29 29 w' w.heap.size (fun _ => True) v0_ r1 ∧ Kd.R k24 24 w' w.heap.size (fun _ => True) v3_ r4 ∧ Below w.heap.size w w' := by
 have hu26 := Try.underlying26
 have hu24 := Try.underlying24
 have HB := zam (Below.refl w.heap.size w)
 have H : ((isobathlaw07_point.f 0 0).bind fun bt102 => ((isobathlaw07_point.f 3000 0).bind fun bt106 => ((isobathlaw07_point.f 0 4000).bind fun bt110 => (some ((([(⟨(⟨bt102.1, bt102.2.1⟩ : S24), (⟨bt102.2.2.1, bt102.2.2.2⟩ : S24)⟩ : S29), (⟨(⟨bt106.1, bt106.2.1⟩ : S24), (⟨bt106.2.2.1, bt106.2.2.2⟩ : S24)⟩ : S29), (⟨(⟨bt110.1, bt110.2.1⟩ : S24), (⟨bt110.2.2.1, bt110.2.2.2⟩ : S24)⟩ : S29)] : List (S29))), 1500, 1500, (([(⟨100, 100⟩ : S24), (⟨2100, 2100⟩ : S24), (⟨2767, 2767⟩ : S24)] : List (S24)))))))) = some (r1, r2, r3, r4) := h
 clear h
 replace H := Option.bind_eq_some_iff.mp H
 obtain ⟨⟨t102, t103, t104, t105⟩, A10, H⟩ := H
 replace H : ((isobathlaw07_point.f 3000 0).bind fun bt106 => ((isobathlaw07_point.f 0 4000).bind fun bt110 => (some ((([(⟨(⟨t102, t103⟩ : S24), (⟨t104, t105⟩ : S24)⟩ : S29), (⟨(⟨bt106.1, bt106.2.1⟩ : S24), (⟨bt106.2.2.1, bt106.2.2.2⟩ : S24)⟩ : S29), (⟨(⟨bt110.1, bt110.2.1⟩ : S24), (⟨bt110.2.2.1, bt110.2.2.2⟩ : S24)⟩ : S29)] : List (S29))), 1500, 1500, (([(⟨100, 100⟩ : S24), (⟨2100, 2100⟩ : S24), (⟨2767, 2767⟩ : S24)] : List (S24))))))) = some (r1, r2, r3, r4) := H
 have A1 := zam A10
 clear A10
 replace H := Option.bind_eq_some_iff.mp H
 obtain ⟨⟨t106, t107, t108, t109⟩, A20, H⟩ := H
 replace H : ((isobathlaw07_point.f 0 4000).bind fun bt110 => (some ((([(⟨(⟨t102, t103⟩ : S24), (⟨t104, t105⟩ : S24)⟩ : S29), (⟨(⟨t106, t107⟩ : S24), (⟨t108, t109⟩ : S24)⟩ : S29), (⟨(⟨bt110.1, bt110.2.1⟩ : S24), (⟨bt110.2.2.1, bt110.2.2.2⟩ : S24)⟩ : S29)] : List (S29))), 1500, 1500, (([(⟨100, 100⟩ : S24), (⟨2100, 2100⟩ : S24), (⟨2767, 2767⟩ : S24)] : List (S24)))))) = some (r1, r2, r3, r4) := H
 have A2 := zam A20
 clear A20
 replace H := Option.bind_eq_some_iff.mp H
 obtain ⟨⟨t110, t111, t112, t113⟩, A30, H⟩ := H
 replace H : (some ((([(⟨(⟨t102, t103⟩ : S24), (⟨t104, t105⟩ : S24)⟩ : S29), (⟨(⟨t106, t107⟩ : S24), (⟨t108, t109⟩ : S24)⟩ : S29), (⟨(⟨t110, t111⟩ : S24), (⟨t112, t113⟩ : S24)⟩ : S29)] : List (S29))), 1500, 1500, (([(⟨100, 100⟩ : S24), (⟨2100, 2100⟩ : S24), (⟨2767, 2767⟩ : S24)] : List (S24))))) = some (r1, r2, r3, r4) := H
 have A3 := zam A30
 clear A30
 obtain ⟨y114, hy114⟩ : ∃ y_ : List (S29), y_ = (([(⟨(⟨t102, t103⟩ : S24), (⟨t104, t105⟩ : S24)⟩ : S29), (⟨(⟨t106, t107⟩ : S24), (⟨t108, t109⟩ : S24)⟩ : S29), (⟨(⟨t110, t111⟩ : S24), (⟨t112, t113⟩ : S24)⟩ : S29)] : List (S29))) := ⟨_, rfl⟩
 replace H : (some (y114, 1500, 1500, (([(⟨100, 100⟩ : S24), (⟨2100, 2100⟩ : S24), (⟨2767, 2767⟩ : S24)] : List (S24))))) = some (r1, r2, r3, r4) := by first | (rw [hy114]; with_reducible exact H) | (have H2_ := (Option.bind_some _ _).symm.trans H; rw [hy114]; with_reducible exact H2_) | (have H2_ := (Option.bind_some _ _).symm.trans H; with_reducible exact H2_) | with_reducible exact H | (rw [hy114]; exact H) | exact H
 have Ny114 := zam hy114
 clear hy114
 obtain ⟨y117, hy117⟩ : ∃ y_ : List (S24), y_ = (([(⟨100, 100⟩ : S24), (⟨2100, 2100⟩ : S24), (⟨2767, 2767⟩ : S24)] : List (S24))) := ⟨_, rfl⟩
 replace H : (some (y114, 1500, 1500, y117)) = some (r1, r2, r3, r4) := by first | (rw [hy117]; with_reducible exact H) | (have H2_ := (Option.bind_some _ _).symm.trans H; rw [hy117]; with_reducible exact H2_) | (have H2_ := (Option.bind_some _ _).symm.trans H; with_reducible exact H2_) | with_reducible exact H | (rw [hy117]; exact H) | exact H
 have Ny117 := zam hy117
 clear hy117
 simp only [Option.some.injEq, Prod.mk.injEq] at H
 obtain ⟨rfl, rfl, rfl, rfl⟩ := H
 go_enter Try.func55, Try.ntmps55
 go_wp2_with (first | ((with_reducible refine zgd (N := 0) rfl ?_); refine box_event ?hg (N := 0) ?hd (cs := #[.slice none 0 0, .int .i64 0, .int .i64 0]) (t := 26) ?hr ?_; (case hd => rfl); (case hg => rfl); (case hr => first | (go_simp; done) | (go_simp; rfl)); intro gb101 hg w4 hbox hb; have n0_ := zam (zbt zq1 hb); have n1_ := zam (hbox); have n2_ := zam ((by rw [hg]; exact (zbz zq1) : w.heap.size ≤ gb101)); have n3_ := zam ((by rw [hg]; exact (zbz zq1) : w.heap.size ≤ gb101)); clear HB; have HB := n0_; have BK101 := n1_; have GW101 := n2_; have GE101 := n3_; clear n0_ n1_ n2_ n3_; clear hb hbox hg) | ((with_reducible refine zgc (f := 56) rfl ?_); refine goesL_ (some 2) rfl rfl Try.func56 (by kernel_rfl) rfl #[.int .i64 0, .int .i64 0] rfl zq5 ?_; (with_reducible refine (isobathlaw07_point.calls 0 0 t102 t103 t104 t105 _ A1.out).mono ?_); rintro e w5 ⟨rfl, hb⟩; refine ⟨_, rfl, ?_⟩; have n0_ := zam (zkb (g := gb101) (o := .cells #[.slice none 0 0, .int .i64 0, .int .i64 0] 26 (0, 0)) zq0 hb); have n1_ := zam (zbt zq2 hb); clear BK101; clear HB; have BK101 := n0_; have HB := n1_; clear n0_ n1_; (try clear hb); (try clear hb2); (try clear hk); (try clear hi)) | ((with_reducible refine zgc (f := 56) rfl ?_); refine goesL_ (some 3) rfl rfl Try.func56 (by kernel_rfl) rfl #[.int .i64 3000, .int .i64 0] rfl zq5 ?_; (with_reducible refine (isobathlaw07_point.calls 3000 0 t106 t107 t108 t109 _ A2.out).mono ?_); rintro e w6 ⟨rfl, hb⟩; refine ⟨_, rfl, ?_⟩; have n0_ := zam (zkb (g := gb101) (o := .cells #[.slice none 0 0, .int .i64 0, .int .i64 0] 26 (0, 0)) zq0 hb); have n1_ := zam (zbt zq2 hb); clear BK101; clear HB; have BK101 := n0_; have HB := n1_; clear n0_ n1_; (try clear hb); (try clear hb2); (try clear hk); (try clear hi)) | ((with_reducible refine zgc (f := 56) rfl ?_); refine goesL_ (some 4) rfl rfl Try.func56 (by kernel_rfl) rfl #[.int .i64 0, .int .i64 4000] rfl zq5 ?_; (with_reducible refine (isobathlaw07_point.calls 0 4000 t110 t111 t112 t113 _ A3.out).mono ?_); rintro e w7 ⟨rfl, hb⟩; refine ⟨_, rfl, ?_⟩; have n0_ := zam (zkb (g := gb101) (o := .cells #[.slice none 0 0, .int .i64 0, .int .i64 0] 26 (0, 0)) zq0 hb); have n1_ := zam (zbt zq2 hb); clear BK101; clear HB; have BK101 := n0_; have HB := n1_; clear n0_ n1_; (try clear hb); (try clear hb2); (try clear hk); (try clear hi)) | ((with_reducible refine zgd (N := 5) rfl ?_); refine Kd.R_lit k29 _ 29 ?hg (N := 5) ?hd (xs := ([(⟨(⟨t102, t103⟩ : S24), (⟨t104, t105⟩ : S24)⟩ : S29), (⟨(⟨t106, t107⟩ : S24), (⟨t108, t109⟩ : S24)⟩ : S29), (⟨(⟨t110, t111⟩ : S24), (⟨t112, t113⟩ : S24)⟩ : S29)] : List (S29))) (inner := [.int .i64 t102, .int .i64 t103, .int .i64 t104, .int .i64 t105, .int .i64 t106, .int .i64 t107, .int .i64 t108, .int .i64 t109, .int .i64 t110, .int .i64 t111, .int .i64 t112, .int .i64 t113]) (ok := fun _ => True) (okp := fun _ => True) ?hr ?hp (fun _ hk => hk) trivial (Below.refl _ _) (Nat.le_refl _) (by simp) ?_; (case hd => rfl); (case hg => rfl); (case hr => first | (go_simp; done) | (go_simp; rfl)); (case hp => exact (Reps.c4 (show Kd.M k29 _ _ _ (⟨(⟨t102, t103⟩ : S24), (⟨t104, t105⟩ : S24)⟩ : S29) [.int .i64 t102, .int .i64 t103, .int .i64 t104, .int .i64 t105] from (k29_mkM _ _ _ (⟨(⟨t102, t103⟩ : S24), (⟨t104, t105⟩ : S24)⟩ : S29) )) (Reps.c4 (show Kd.M k29 _ _ _ (⟨(⟨t106, t107⟩ : S24), (⟨t108, t109⟩ : S24)⟩ : S29) [.int .i64 t106, .int .i64 t107, .int .i64 t108, .int .i64 t109] from (k29_mkM _ _ _ (⟨(⟨t106, t107⟩ : S24), (⟨t108, t109⟩ : S24)⟩ : S29) )) (Reps.c4 (show Kd.M k29 _ _ _ (⟨(⟨t110, t111⟩ : S24), (⟨t112, t113⟩ : S24)⟩ : S29) [.int .i64 t110, .int .i64 t111, .int .i64 t112, .int .i64 t113] from (k29_mkM _ _ _ (⟨(⟨t110, t111⟩ : S24), (⟨t112, t113⟩ : S24)⟩ : S29) )) (Reps.none _ _))))); intro v115 w8 ho9 hb hg_ hnew_; clear hg_ hnew_; (first | rw [← Ny114.out] at ho9 | (simp only [Int.reduceToNat] at ho9; rw [← Ny114.out] at ho9)); have n0_ := zam (Kd.R_lower ho9 (zbz zq2)); have n1_ := zam (zkb (g := gb101) (o := .cells #[.slice none 0 0, .int .i64 0, .int .i64 0] 26 (0, 0)) zq0 hb); have n2_ := zam (zbt zq2 hb); clear BK101; clear HB; have HO116 := n0_; have BK101 := n1_; have HB := n2_; clear n0_ n1_ n2_; clear hb ho9; obtain ⟨Ao10, co10, eo10⟩ := Kd.R_slice HO116.out; subst eo10) | ((with_reducible refine zgd (N := 11) rfl ?_); refine Kd.R_lit k24 _ 24 ?hg (N := 11) ?hd (xs := ([(⟨100, 100⟩ : S24), (⟨2100, 2100⟩ : S24), (⟨2767, 2767⟩ : S24)] : List (S24))) (inner := [.int .i64 100, .int .i64 100, .int .i64 2100, .int .i64 2100, .int .i64 2767, .int .i64 2767]) (ok := fun _ => True) (okp := fun _ => True) ?hr ?hp (fun _ hk => hk) trivial (Below.refl _ _) (Nat.le_refl _) (by simp) ?_; (case hd => rfl); (case hg => rfl); (case hr => first | (go_simp; done) | (go_simp; rfl)); (case hp => exact (Reps.c2 (show Kd.M k24 _ _ _ (⟨100, 100⟩ : S24) [.int .i64 100, .int .i64 100] from (k24_mkM _ _ _ (⟨100, 100⟩ : S24) )) (Reps.c2 (show Kd.M k24 _ _ _ (⟨2100, 2100⟩ : S24) [.int .i64 2100, .int .i64 2100] from (k24_mkM _ _ _ (⟨2100, 2100⟩ : S24) )) (Reps.c2 (show Kd.M k24 _ _ _ (⟨2767, 2767⟩ : S24) [.int .i64 2767, .int .i64 2767] from (k24_mkM _ _ _ (⟨2767, 2767⟩ : S24) )) (Reps.none _ _))))); intro v118 w11 ho12 hb hg_ hnew_; clear hg_ hnew_; (first | rw [← Ny117.out] at ho12 | (simp only [Int.reduceToNat] at ho12; rw [← Ny117.out] at ho12)); have n0_ := zam (Kd.R_below (by (with_reducible repeat (first | apply zRa | apply zRn | apply zRd)); exact HO116.out) hb); have n1_ := zam (Kd.R_lower ho12 (zbz zq2)); have n2_ := zam (zkb (g := gb101) (o := .cells #[.slice none 0 0, .int .i64 0, .int .i64 0] 26 (0, 0)) zq0 hb); have n3_ := zam (zbt zq2 hb); clear HO116; clear BK101; clear HB; have HO116 := n0_; have HO119 := n1_; have BK101 := n2_; have HB := n3_; clear n0_ n1_ n2_ n3_; clear hb ho12; have hcz13_0 : w11.cell? ⟨gb101, 0, none⟩ = some (.slice none 0 0) := (zkc BK101.out 0).trans rfl; have hcz13_1 : w11.cell? ⟨gb101, 1, none⟩ = some (.int .i64 0) := (zkc BK101.out 1).trans rfl; have hcz13_2 : w11.cell? ⟨gb101, 2, none⟩ = some (.int .i64 0) := (zkc BK101.out 2).trans rfl; have hfz13_0 := zkz BK101.out 0; have hfz13_1 := zkz BK101.out 1; have hfz13_2 := zkz BK101.out 2))
 refine bodyPost_ret (results_ct rfl _ _ gb101 26 #[.slice Ao10 y114.length co10, .int .i64 1500, .int .i64 1500] (0, 0) _ rfl (by (with_reducible repeat (first | refine zkn ?_ _ | refine zkd ?_ | refine zka ?_ _)); refine blk_put (cs := #[.slice Ao10 y114.length co10, .int .i64 1500, .int .i64 0]) ?_ 2 _ rfl; (with_reducible repeat (first | refine zkn ?_ _ | refine zkd ?_ | refine zka ?_ _)); refine blk_put (cs := #[.slice Ao10 y114.length co10, .int .i64 0, .int .i64 0]) ?_ 1 _ rfl; (with_reducible repeat (first | refine zkn ?_ _ | refine zkd ?_ | refine zka ?_ _)); refine blk_put (cs := #[.slice none 0 0, .int .i64 0, .int .i64 0]) ?_ 0 _ rfl; (with_reducible repeat (first | refine zkn ?_ _ | refine zkd ?_ | refine zka ?_ _)); exact BK101.out) Try.underlying26 rfl (by kernel_rfl)) rfl ?_
 exact ⟨_, _, by first | rfl | (simp [errW_none, errW_some] <;> rfl) | (simp [*, errW_none, errW_some] <;> rfl), by (with_reducible repeat (first | apply zRa | apply zRn | apply zRd)); exact Kd.R_mono (Kd.R_far (p := ⟨gb101, 2, none⟩) (Kd.R_far (p := ⟨gb101, 1, none⟩) (Kd.R_far (p := ⟨gb101, 0, none⟩) (Kd.R_types HO116.out BK101.out (by decide)) (fun _ hk => hk.2) (.slice Ao10 y114.length co10)) (fun _ hk => hk.2) (.int .i64 1500)) (fun _ hk => hk.2) (.int .i64 1500)) (fun _ hk => trivial), by (with_reducible repeat (first | apply zRa | apply zRn | apply zRd)); exact Kd.R_mono (Kd.R_far (p := ⟨gb101, 2, none⟩) (Kd.R_far (p := ⟨gb101, 1, none⟩) (Kd.R_far (p := ⟨gb101, 0, none⟩) (Kd.R_types HO119.out BK101.out (by decide)) (fun _ hk => hk.2) (.slice Ao10 y114.length co10)) (fun _ hk => hk.2) (.int .i64 1500)) (fun _ hk => hk.2) (.int .i64 1500)) (fun _ hk => trivial), by repeat (first | (with_reducible first | exact HB.out | apply zba | apply zbn | apply zb1 | refine zbs ?_ GE101.out) | exact HB.out)⟩
def isobathlaw07_Gauges.f  : Option ((List (S45)) × Int × Int × Int) := some ((([(⟨(([(⟨0, 1⟩ : S24), (⟨20, 30⟩ : S24), (⟨25, 40⟩ : S24)] : List (S24)))⟩ : S45), (⟨(([(⟨0, 5⟩ : S24), (⟨5, 25⟩ : S24), (⟨21, 22⟩ : S24)] : List (S24)))⟩ : S45)] : List (S45))), 20, 2, 1)
set_option maxHeartbeats 8000000 in
set_option maxRecDepth 100000 in
theorem isobathlaw07_Gauges.calls  (r1 : List (S45)) (r2 : Int) (r3 : Int) (r4 : Int) (w : World) (h : isobathlaw07_Gauges.f  = some (r1, r2, r3, r4)) :
  Calls Try.prog 57 #[] w fun e w' => ∃ v0_ : Value, e = .returned (.tuple #[v0_, .agg #[.int .i64 r2, .int .i64 r3, .int .i64 r4]]) ∧ Kd.N k45 45 w' w.heap.size (fun k_ => (w.heap.size ≤ k_)) v0_ r1 ∧ Below w.heap.size w w' := by
 have hu39 := Try.underlying39
 have hu24 := Try.underlying24
 have hu45 := Try.underlying45
 have HB := zam (Below.refl w.heap.size w)
 have H : (some ((([(⟨(([(⟨0, 1⟩ : S24), (⟨20, 30⟩ : S24), (⟨25, 40⟩ : S24)] : List (S24)))⟩ : S45), (⟨(([(⟨0, 5⟩ : S24), (⟨5, 25⟩ : S24), (⟨21, 22⟩ : S24)] : List (S24)))⟩ : S45)] : List (S45))), 20, 2, 1)) = some (r1, r2, r3, r4) := h
 clear h
 obtain ⟨y102, hy102⟩ : ∃ y_ : List (S24), y_ = (([(⟨0, 1⟩ : S24), (⟨20, 30⟩ : S24), (⟨25, 40⟩ : S24)] : List (S24))) := ⟨_, rfl⟩
 replace H : (some ((([(⟨y102⟩ : S45), (⟨(([(⟨0, 5⟩ : S24), (⟨5, 25⟩ : S24), (⟨21, 22⟩ : S24)] : List (S24)))⟩ : S45)] : List (S45))), 20, 2, 1)) = some (r1, r2, r3, r4) := by first | (rw [hy102]; with_reducible exact H) | (have H2_ := (Option.bind_some _ _).symm.trans H; rw [hy102]; with_reducible exact H2_) | (have H2_ := (Option.bind_some _ _).symm.trans H; with_reducible exact H2_) | with_reducible exact H | (rw [hy102]; exact H) | exact H
 have Ny102 := zam hy102
 clear hy102
 obtain ⟨y105, hy105⟩ : ∃ y_ : List (S24), y_ = (([(⟨0, 5⟩ : S24), (⟨5, 25⟩ : S24), (⟨21, 22⟩ : S24)] : List (S24))) := ⟨_, rfl⟩
 replace H : (some ((([(⟨y102⟩ : S45), (⟨y105⟩ : S45)] : List (S45))), 20, 2, 1)) = some (r1, r2, r3, r4) := by first | (rw [hy105]; with_reducible exact H) | (have H2_ := (Option.bind_some _ _).symm.trans H; rw [hy105]; with_reducible exact H2_) | (have H2_ := (Option.bind_some _ _).symm.trans H; with_reducible exact H2_) | with_reducible exact H | (rw [hy105]; exact H) | exact H
 have Ny105 := zam hy105
 clear hy105
 obtain ⟨y108, hy108⟩ : ∃ y_ : List (S45), y_ = (([(⟨y102⟩ : S45), (⟨y105⟩ : S45)] : List (S45))) := ⟨_, rfl⟩
 replace H : (some (y108, 20, 2, 1)) = some (r1, r2, r3, r4) := by first | (rw [hy108]; with_reducible exact H) | (have H2_ := (Option.bind_some _ _).symm.trans H; rw [hy108]; with_reducible exact H2_) | (have H2_ := (Option.bind_some _ _).symm.trans H; with_reducible exact H2_) | with_reducible exact H | (rw [hy108]; exact H) | exact H
 have Ny108 := zam hy108
 clear hy108
 simp only [Option.some.injEq, Prod.mk.injEq] at H
 obtain ⟨rfl, rfl, rfl, rfl⟩ := H
 go_enter Try.func57, Try.ntmps57
 go_wp2_with (first | ((with_reducible refine zgd (N := 1) rfl ?_); refine box_event ?hg (N := 1) ?hd (cs := #[.int .i64 0, .int .i64 0, .int .i64 0]) (t := 39) ?hr ?_; (case hd => rfl); (case hg => rfl); (case hr => first | (go_simp; done) | (go_simp; rfl)); intro gb101 hg w1 hbox hb; have n0_ := zam (zbt zq1 hb); have n1_ := zam (hbox); have n2_ := zam ((by rw [hg]; exact (zbz zq1) : w.heap.size ≤ gb101)); have n3_ := zam ((by rw [hg]; exact (zbz zq1) : w.heap.size ≤ gb101)); clear HB; have HB := n0_; have BK101 := n1_; have GW101 := n2_; have GE101 := n3_; clear n0_ n1_ n2_ n3_; clear hb hbox hg) | ((with_reducible refine zgd (N := 5) rfl ?_); refine Kd.R_lit k24 _ 24 ?hg (N := 5) ?hd (xs := ([(⟨0, 1⟩ : S24), (⟨20, 30⟩ : S24), (⟨25, 40⟩ : S24)] : List (S24))) (inner := [.int .i64 0, .int .i64 1, .int .i64 20, .int .i64 30, .int .i64 25, .int .i64 40]) (ok := fun _ => True) (okp := fun _ => True) ?hr ?hp (fun _ hk => hk) trivial (Below.refl _ _) (Nat.le_refl _) (by simp) ?_; (case hd => rfl); (case hg => rfl); (case hr => first | (go_simp; done) | (go_simp; rfl)); (case hp => exact (Reps.c2 (show Kd.M k24 _ _ _ (⟨0, 1⟩ : S24) [.int .i64 0, .int .i64 1] from (k24_mkM _ _ _ (⟨0, 1⟩ : S24) )) (Reps.c2 (show Kd.M k24 _ _ _ (⟨20, 30⟩ : S24) [.int .i64 20, .int .i64 30] from (k24_mkM _ _ _ (⟨20, 30⟩ : S24) )) (Reps.c2 (show Kd.M k24 _ _ _ (⟨25, 40⟩ : S24) [.int .i64 25, .int .i64 40] from (k24_mkM _ _ _ (⟨25, 40⟩ : S24) )) (Reps.none _ _))))); intro v103 w2 ho3 hb hg_ hnew_; clear hg_ hnew_; (first | rw [← Ny102.out] at ho3 | (simp only [Int.reduceToNat] at ho3; rw [← Ny102.out] at ho3)); have n0_ := zam (Kd.R_lower (Kd.R_newM (M := fun k_ => (w.heap.size ≤ k_)) ho3 (zbz zq2) (fun k_ h_ => h_)) (zbz zq2)); have n1_ := zam (zkb (g := gb101) (o := .cells #[.int .i64 0, .int .i64 0, .int .i64 0] 39 (0, 0)) zq0 hb); have n2_ := zam (zbt zq2 hb); clear BK101; clear HB; have HO104 := n0_; have BK101 := n1_; have HB := n2_; clear n0_ n1_ n2_; clear hb ho3; obtain ⟨Ao4, co4, eo4⟩ := Kd.R_slice HO104.out; subst eo4) | ((with_reducible refine zgd (N := 10) rfl ?_); refine Kd.R_lit k24 _ 24 ?hg (N := 10) ?hd (xs := ([(⟨0, 5⟩ : S24), (⟨5, 25⟩ : S24), (⟨21, 22⟩ : S24)] : List (S24))) (inner := [.int .i64 0, .int .i64 5, .int .i64 5, .int .i64 25, .int .i64 21, .int .i64 22]) (ok := fun _ => True) (okp := fun _ => True) ?hr ?hp (fun _ hk => hk) trivial (Below.refl _ _) (Nat.le_refl _) (by simp) ?_; (case hd => rfl); (case hg => rfl); (case hr => first | (go_simp; done) | (go_simp; rfl)); (case hp => exact (Reps.c2 (show Kd.M k24 _ _ _ (⟨0, 5⟩ : S24) [.int .i64 0, .int .i64 5] from (k24_mkM _ _ _ (⟨0, 5⟩ : S24) )) (Reps.c2 (show Kd.M k24 _ _ _ (⟨5, 25⟩ : S24) [.int .i64 5, .int .i64 25] from (k24_mkM _ _ _ (⟨5, 25⟩ : S24) )) (Reps.c2 (show Kd.M k24 _ _ _ (⟨21, 22⟩ : S24) [.int .i64 21, .int .i64 22] from (k24_mkM _ _ _ (⟨21, 22⟩ : S24) )) (Reps.none _ _))))); intro v106 w5 ho6 hb hg_ hnew_; clear hg_ hnew_; (first | rw [← Ny105.out] at ho6 | (simp only [Int.reduceToNat] at ho6; rw [← Ny105.out] at ho6)); have n0_ := zam (Kd.R_elder' zq17 (Kd.R_base ho6) hb); have n1_ := zam (Kd.R_lower (Kd.R_new' (Kd.R_newM (M := fun k_ => (w.heap.size ≤ k_)) ho6 (zbz zq2) (fun k_ h_ => h_)) (Kd.R_lt zq17)) (zbz zq2)); have n2_ := zam (zkb (g := gb101) (o := .cells #[.int .i64 0, .int .i64 0, .int .i64 0] 39 (0, 0)) zq0 hb); have n3_ := zam (zbt zq2 hb); clear HO104; clear BK101; clear HB; have HO104 := n0_; have HO107 := n1_; have BK101 := n2_; have HB := n3_; clear n0_ n1_ n2_ n3_; clear hb ho6; obtain ⟨Ao7, co7, eo7⟩ := Kd.R_slice HO107.out; subst eo7) | ((with_reducible refine zgd (N := 12) rfl ?_); refine Kd.N_lit k45 _ 45 ?hg (N' := 12) ?hd (xs := ([(⟨y102⟩ : S45), (⟨y105⟩ : S45)] : List (S45))) (inner := [.slice Ao4 y102.length co4, .slice Ao7 y105.length co7]) (ok := (fun k_ => (w.heap.size ≤ k_) ∧ k_ ≠ gb101)) (okp := (fun k_ => (w.heap.size ≤ k_) ∧ k_ ≠ gb101)) ?hr ?hp (fun _ hk => hk) ((show ∀ k_, w5.heap.size ≤ k_ → (fun k_ => (w.heap.size ≤ k_) ∧ k_ ≠ gb101) k_ from fun k_ hk => ⟨(Nat.le_trans (zbz zq2) hk), Kd.freshB (g := gb101) (o := .cells #[.int .i64 0, .int .i64 0, .int .i64 0] 39 (0, 0)) zq0 k_ hk⟩) _ (Nat.le_refl _)) (Below.refl _ _) (Nat.le_refl _) (by simp) ?_; (case hd => rfl); (case hg => rfl); (case hr => first | (go_simp; done) | (go_simp; rfl)); (case hp => exact (Reps.one (show Kd.FK k45 _ _ (⟨y102⟩ : S45) [.slice Ao4 y102.length co4] from (k45_mkF _ _ (⟨y102⟩ : S45) (Kd.R_reads' (Kd.R_mono (ok' := (fun k_ => (w.heap.size ≤ k_) ∧ k_ ≠ gb101)) (Kd.R_types (HO104.out) BK101.out (by decide)) (fun k_ hk => ⟨hk.1.1.1, hk.2⟩))).2.1 (Kd.R_F (Kd.R_mono (ok' := (fun k_ => (w.heap.size ≤ k_) ∧ k_ ≠ gb101)) (Kd.R_types (HO104.out) BK101.out (by decide)) (fun k_ hk => ⟨hk.1.1.1, hk.2⟩))))) (Reps.one (show Kd.FK k45 _ _ (⟨y105⟩ : S45) [.slice Ao7 y105.length co7] from (k45_mkF _ _ (⟨y105⟩ : S45) (Kd.R_reads' (Kd.R_mono (ok' := (fun k_ => (w.heap.size ≤ k_) ∧ k_ ≠ gb101)) (Kd.R_types (HO107.out) BK101.out (by decide)) (fun k_ hk => ⟨hk.1.1.1, hk.2⟩))).2.1 (Kd.R_F (Kd.R_mono (ok' := (fun k_ => (w.heap.size ≤ k_) ∧ k_ ≠ gb101)) (Kd.R_types (HO107.out) BK101.out (by decide)) (fun k_ hk => ⟨hk.1.1.1, hk.2⟩))))) (Reps.none _ _)))); intro v109 w8 ho9 hb hg_ hnew_; clear hg_ hnew_; (first | rw [← Ny108.out] at ho9 | (simp only [Int.reduceToNat] at ho9; rw [← Ny108.out] at ho9)); have n0_ := zam (Kd.N_lower ho9 (zbz zq2)); have n1_ := zam (zkb (g := gb101) (o := .cells #[.int .i64 0, .int .i64 0, .int .i64 0] 39 (0, 0)) zq0 hb); have n2_ := zam (zbt zq2 hb); clear BK101; clear HB; clear HO104; clear HO107; have HO110 := n0_; have BK101 := n1_; have HB := n2_; clear n0_ n1_ n2_; clear hb ho9; have hcz10_0 : w8.cell? ⟨gb101, 0, none⟩ = some (.int .i64 0) := (zkc BK101.out 0).trans rfl; have hcz10_1 : w8.cell? ⟨gb101, 1, none⟩ = some (.int .i64 0) := (zkc BK101.out 1).trans rfl; have hcz10_2 : w8.cell? ⟨gb101, 2, none⟩ = some (.int .i64 0) := (zkc BK101.out 2).trans rfl; have hfz10_0 := zkz BK101.out 0; have hfz10_1 := zkz BK101.out 1; have hfz10_2 := zkz BK101.out 2))
 refine bodyPost_ret (results_tc rfl _ _ gb101 39 #[.int .i64 20, .int .i64 2, .int .i64 1] (0, 0) _ rfl (by (with_reducible repeat (first | refine zkn ?_ _ | refine zkd ?_ | refine zka ?_ _)); refine blk_put (cs := #[.int .i64 20, .int .i64 2, .int .i64 0]) ?_ 2 _ rfl; (with_reducible repeat (first | refine zkn ?_ _ | refine zkd ?_ | refine zka ?_ _)); refine blk_put (cs := #[.int .i64 20, .int .i64 0, .int .i64 0]) ?_ 1 _ rfl; (with_reducible repeat (first | refine zkn ?_ _ | refine zkd ?_ | refine zka ?_ _)); refine blk_put (cs := #[.int .i64 0, .int .i64 0, .int .i64 0]) ?_ 0 _ rfl; (with_reducible repeat (first | refine zkn ?_ _ | refine zkd ?_ | refine zka ?_ _)); exact BK101.out) Try.underlying39 rfl (by kernel_rfl)) rfl ?_
 exact ⟨_, by first | rfl | (simp [errW_none, errW_some] <;> rfl) | (simp [*, errW_none, errW_some] <;> rfl), by (with_reducible repeat (first | apply Kd.N_alloc | apply Kd.N_drewN | apply Kd.N_drew)); exact Kd.N_mono (Kd.N_far (p := ⟨gb101, 2, none⟩) (Kd.N_far (p := ⟨gb101, 1, none⟩) (Kd.N_far (p := ⟨gb101, 0, none⟩) (Kd.N_mono HO110.out (fun k_ hk => (⟨hk, hk.2⟩ : _ ∧ k_ ≠ gb101))) (fun _ hk => hk.2) (.int .i64 20)) (fun _ hk => hk.2) (.int .i64 2)) (fun _ hk => hk.2) (.int .i64 1)) (fun _ hk => hk.1.1), by repeat (first | (with_reducible first | exact HB.out | apply zba | apply zbn | apply zb1 | refine zbs ?_ GE101.out) | exact HB.out)⟩
def api_Answer_63.l0 : Nat → List Int → Int → Int → Int → Option (Int)
 | 0, _, _, _, _ => none
 | k + 1, x0, x1, x7, x8 => if x8 < x7 then (if 0 ≤ x8 then (if x8 < (x0.length : Int) then (if x1 = (rd x0 x8) then (some x8) else (api_Answer_63.l0 k x0 x1 x7 (wrap64 (x8 + 1)))) else (none)) else (none)) else (some (-1))
def api_Answer_63.f (k : Nat) (l0 : List Int) (a1 : Int) : Option (Int) := api_Answer_63.l0 k l0 a1 (l0.length : Int) 0
theorem api_Answer_63.mono_l : ∀ k, (∀ y0 y1 y2 y3, LeO (api_Answer_63.l0 k y0 y1 y2 y3) (api_Answer_63.l0 (k + 1) y0 y1 y2 y3))
 | 0 => fun _ _ _ _ r h => by simp [api_Answer_63.l0] at h
 | k + 1 => by
  have ih0 := api_Answer_63.mono_l k
  intro y0 y1 y2 y3
  unfold api_Answer_63.l0
  repeat' first
  | (with_reducible exact ih0 _ _ _ _)
  | (with_reducible exact LeO.refl _)
  | (with_reducible exact LeO.none _)
  | (with_reducible refine LeO.ite ?_ ?_)
  | (with_reducible refine LeO.bind ?_ (fun _ => ?_))
  | exact ih0 _ _ _ _
  | exact LeO.none _
  | refine LeO.ite ?_ ?_
  | refine LeO.bind ?_ (fun _ => ?_)
theorem api_Answer_63.mono : ∀ a0 a1 k, LeO (api_Answer_63.f k a0 a1) (api_Answer_63.f (k + 1) a0 a1) := by
 intro a0 a1 k
 have ih0 := api_Answer_63.mono_l k
 unfold api_Answer_63.f
 repeat' first
   | (with_reducible exact ih0 _ _ _ _)
   | (with_reducible exact LeO.refl _)
   | (with_reducible exact LeO.none _)
   | (with_reducible refine LeO.ite ?_ ?_)
   | (with_reducible refine LeO.bind ?_ (fun _ => ?_))
   | exact ih0 _ _ _ _
   | exact LeO.none _
   | refine LeO.ite ?_ ?_
   | refine LeO.bind ?_ (fun _ => ?_)
set_option maxHeartbeats 8000000 in
set_option maxRecDepth 100000 in
theorem api_Answer_63.calls (k : Nat) (A0 : Option Addr) (c0 : Nat) (l0 : List Int) (a1 : Int) (r : Int) (w : World) (hr0 : Kd.C (Kd.int .i64) w A0 l0.length l0) (hc0 : l0.length ≤ c0) (h : api_Answer_63.f k l0 a1 = some r) :
  Calls Try.prog 63 #[.slice A0 l0.length c0, .int .i64 a1] w fun e w' => e = .returned (.int .i64 r) ∧ Drawn0 w w' := by
 have HR0 := zam hr0
 have HC0 := zam hc0
 clear hr0 hc0
 have H : (api_Answer_63.l0 k l0 a1 (l0.length : Int) 0) = some r := h
 clear h
 have H' := zam H
 clear H
 go_enter Try.func63, Try.ntmps63
 go_wp2
 go_loopg [8] k (fun kq v8 w' => ∃ (x8_1 : Int), v8 = .int .i64 x8_1 ∧ Aside0 (api_Answer_63.l0 kq l0 a1 (l0.length : Int) x8_1 = some r) ∧ Aside0 (kq ≤ k) ∧ Drawn0 w w')
 case atStart => exact ⟨(0), zq10, H', ⟨Nat.le_refl _⟩, by repeat (first | exact Drawn0.refl _ | apply Drawn0.step)⟩
 case round =>
  clear H'
  try clear p2
  obtain ⟨x8_1, rfl, HA, HK1, ⟨m1, rfl⟩⟩ := hrel
  cases gk with
  | zero => exact absurd HA.out (by simp [api_Answer_63.l0])
  | succ k1 =>
   have H := HA.out
   clear HA
   simp only [api_Answer_63.l0] at H
   by_cases c3 : x8_1 < (l0.length : Int)
   ·rw [if_pos c3] at H
    have c3b0 : decide (x8_1 < (l0.length : Int)) = true := zdt c3
    clear c3
    by_cases c4 : 0 ≤ x8_1
    ·rw [if_pos c4] at H
     have c4b0 : decide (0 ≤ x8_1) = true := zdt c4
     clear c4
     by_cases c5 : x8_1 < (l0.length : Int)
     ·rw [if_pos c5] at H
      have c5b0 : decide (x8_1 < (l0.length : Int)) = true := zdt c5
      clear c5
      by_cases c6 : a1 = (rd l0 x8_1)
      ·rw [if_pos c6] at H
       have c6b0 : (a1 == (rd l0 x8_1)) = true := beq_iff_eq.mpr c6
       have c6b1 : (a1 != (rd l0 x8_1)) = false := bne_eq_false_iff_eq.mpr c6
       clear c6
       obtain rfl := zsi H
       have p101 : 0 ≤ (x8_1 : Int) := zod zq9
       have q101 : x8_1 < (l0.length : Int) := zod zq9
       obtain ⟨ad101, e101, hx101_0⟩ := Kd.at_int HR0.out x8_1 p101 q101
       cases e101
       replace p101 := eq_true p101
       replace q101 := eq_true q101
       go_wp2
       go_ret
       exact ⟨by first | rfl | (simp; done) | (simp [*]; done), by repeat (first | exact Drawn0.refl _ | apply Drawn0.step)⟩
      rw [if_neg c6] at H
      have c6b0 : (a1 == (rd l0 x8_1)) = false := beq_eq_false_iff_ne.mpr c6
      have c6b1 : (a1 != (rd l0 x8_1)) = true := bne_iff_ne.mpr c6
      have H' := zam H
      clear H
      have p101 : 0 ≤ (x8_1 : Int) := zod zq9
      have q101 : x8_1 < (l0.length : Int) := zod zq9
      obtain ⟨ad101, e101, hx101_0⟩ := Kd.at_int HR0.out x8_1 p101 q101
      cases e101
      replace p101 := eq_true p101
      replace q101 := eq_true q101
      go_wp2
      go_roundg k1
      case measure => have := HK1.out; omega
      case rel => exact ⟨(wrap64 (x8_1 + 1)), zq10, H', ⟨by have := HK1.out; omega⟩, by repeat (first | exact Drawn0.refl _ | apply Drawn0.step)⟩
     rw [if_neg c5] at H
     exact absurd H (by simp)
    rw [if_neg c4] at H
    exact absurd H (by simp)
   rw [if_neg c3] at H
   have c3b0 : decide (x8_1 < (l0.length : Int)) = false := zdf c3
   clear c3
   obtain rfl := zsi H
   go_wp2
   go_ret
   exact ⟨by first | rfl | (simp; done) | (simp [*]; done), by repeat (first | exact Drawn0.refl _ | apply Drawn0.step)⟩
def sound_First_1.f (a0 : Int) : Option (Bool) := some (a0 != 0)
set_option maxHeartbeats 8000000 in
set_option maxRecDepth 100000 in
theorem sound_First_1.calls (a0 : Int) (r : Bool) (w : World) (h : sound_First_1.f a0 = some r) :
  Calls Try.prog 65 #[.int .i64 a0] w fun e w' => e = .returned (.bool r) ∧ Drawn0 w w' := by
 have H : (some (a0 != 0)) = some r := h
 clear h
 obtain rfl := zsi H
 go_enter Try.func65, Try.ntmps65
 go_wp2
 go_ret
 exact ⟨by first | rfl | (simp; done) | (simp [*]; done), by repeat (first | exact Drawn0.refl _ | apply Drawn0.step)⟩
def slices_IndexFunc_Answer_sound_First_1.l0 : Nat → List Int → Int → Int → Option (Int)
 | 0, _, _, _ => none
 | k + 1, x0, x7, x8 => if x8 < x7 then (if 0 ≤ x8 then (if x8 < (x0.length : Int) then ((sound_First_1.f (rd x0 x8)).bind fun t102 => (if t102 = true then (some x8) else (slices_IndexFunc_Answer_sound_First_1.l0 k x0 x7 (wrap64 (x8 + 1))))) else (none)) else (none)) else (some (-1))
def slices_IndexFunc_Answer_sound_First_1.f (k : Nat) (l0 : List Int)  : Option (Int) := slices_IndexFunc_Answer_sound_First_1.l0 k l0 (l0.length : Int) 0
theorem slices_IndexFunc_Answer_sound_First_1.mono_l : ∀ k, (∀ y0 y1 y2, LeO (slices_IndexFunc_Answer_sound_First_1.l0 k y0 y1 y2) (slices_IndexFunc_Answer_sound_First_1.l0 (k + 1) y0 y1 y2))
 | 0 => fun _ _ _ r h => by simp [slices_IndexFunc_Answer_sound_First_1.l0] at h
 | k + 1 => by
  have ih0 := slices_IndexFunc_Answer_sound_First_1.mono_l k
  intro y0 y1 y2
  unfold slices_IndexFunc_Answer_sound_First_1.l0
  repeat' first
  | (with_reducible exact ih0 _ _ _)
  | (with_reducible exact LeO.refl _)
  | (with_reducible exact LeO.none _)
  | (with_reducible refine LeO.ite ?_ ?_)
  | (with_reducible refine LeO.bind ?_ (fun _ => ?_))
  | exact ih0 _ _ _
  | exact LeO.none _
  | refine LeO.ite ?_ ?_
  | refine LeO.bind ?_ (fun _ => ?_)
theorem slices_IndexFunc_Answer_sound_First_1.mono : ∀ a0 k, LeO (slices_IndexFunc_Answer_sound_First_1.f k a0) (slices_IndexFunc_Answer_sound_First_1.f (k + 1) a0) := by
 intro a0 k
 have ih0 := slices_IndexFunc_Answer_sound_First_1.mono_l k
 unfold slices_IndexFunc_Answer_sound_First_1.f
 repeat' first
   | (with_reducible exact ih0 _ _ _)
   | (with_reducible exact LeO.refl _)
   | (with_reducible exact LeO.none _)
   | (with_reducible refine LeO.ite ?_ ?_)
   | (with_reducible refine LeO.bind ?_ (fun _ => ?_))
   | exact ih0 _ _ _
   | exact LeO.none _
   | refine LeO.ite ?_ ?_
   | refine LeO.bind ?_ (fun _ => ?_)
set_option maxHeartbeats 8000000 in
set_option maxRecDepth 100000 in
theorem slices_IndexFunc_Answer_sound_First_1.calls (k : Nat) (A0 : Option Addr) (c0 : Nat) (l0 : List Int)  (r : Int) (w : World) (hr0 : Kd.C (Kd.int .i64) w A0 l0.length l0) (hc0 : l0.length ≤ c0) (h : slices_IndexFunc_Answer_sound_First_1.f k l0 = some r) :
  Calls Try.prog 64 #[.slice A0 l0.length c0, .func (.func 65) #[] #[]] w fun e w' => e = .returned (.int .i64 r) ∧ Drawn0 w w' := by
 have HR0 := zam hr0
 have HC0 := zam hc0
 clear hr0 hc0
 have H : (slices_IndexFunc_Answer_sound_First_1.l0 k l0 (l0.length : Int) 0) = some r := h
 clear h
 have H' := zam H
 clear H
 go_enter Try.func64, Try.ntmps64
 go_wp2
 go_loopg [8] k (fun kq v8 w' => ∃ (x8_1 : Int), v8 = .int .i64 x8_1 ∧ Aside0 (slices_IndexFunc_Answer_sound_First_1.l0 kq l0 (l0.length : Int) x8_1 = some r) ∧ Aside0 (kq ≤ k) ∧ Drawn0 w w')
 case atStart => exact ⟨(0), zq10, H', ⟨Nat.le_refl _⟩, by repeat (first | exact Drawn0.refl _ | apply Drawn0.step)⟩
 case round =>
  clear H'
  try clear p2
  obtain ⟨x8_1, rfl, HA, HK1, ⟨m1, rfl⟩⟩ := hrel
  cases gk with
  | zero => exact absurd HA.out (by simp [slices_IndexFunc_Answer_sound_First_1.l0])
  | succ k1 =>
   have H := HA.out
   clear HA
   simp only [slices_IndexFunc_Answer_sound_First_1.l0] at H
   by_cases c3 : x8_1 < (l0.length : Int)
   ·rw [if_pos c3] at H
    have c3b0 : decide (x8_1 < (l0.length : Int)) = true := zdt c3
    clear c3
    by_cases c4 : 0 ≤ x8_1
    ·rw [if_pos c4] at H
     have c4b0 : decide (0 ≤ x8_1) = true := zdt c4
     clear c4
     by_cases c5 : x8_1 < (l0.length : Int)
     ·rw [if_pos c5] at H
      have c5b0 : decide (x8_1 < (l0.length : Int)) = true := zdt c5
      clear c5
      replace H := Option.bind_eq_some_iff.mp H
      obtain ⟨t102, A60, H⟩ := H
      replace H : (if t102 = true then (some x8_1) else (slices_IndexFunc_Answer_sound_First_1.l0 k1 l0 (l0.length : Int) (wrap64 (x8_1 + 1)))) = some r := H
      have A6 := zam A60
      clear A60
      by_cases c7 : t102 = true
      ·subst c7
       have H1 : (some x8_1) = some r := by rw [if_pos rfl] at H; exact H
       clear H
       have H := H1
       clear H1
       obtain rfl := zsi H
       have p101 : 0 ≤ (x8_1 : Int) := zod zq9
       have q101 : x8_1 < (l0.length : Int) := zod zq9
       obtain ⟨ad101, e101, hx101_0⟩ := Kd.at_int HR0.out x8_1 p101 q101
       cases e101
       replace p101 := eq_true p101
       replace q101 := eq_true q101
       go_wp2_with (first | (go_at_call 65; (with_reducible refine (sound_First_1.calls (rd l0 x8_1) true _ A6.out).mono ?_); rintro e w' ⟨rfl, ⟨nd, rfl⟩⟩))
       go_ret
       exact ⟨by first | rfl | (simp; done) | (simp [*]; done), by repeat (first | exact Drawn0.refl _ | apply Drawn0.step)⟩
      replace c7 := Bool.eq_false_iff.mpr c7
      subst c7
      have H1 : (slices_IndexFunc_Answer_sound_First_1.l0 k1 l0 (l0.length : Int) (wrap64 (x8_1 + 1))) = some r := by rw [if_neg (show ¬ (false = true) by decide)] at H; exact H
      clear H
      have H := H1
      clear H1
      have H' := zam H
      clear H
      have p101 : 0 ≤ (x8_1 : Int) := zod zq9
      have q101 : x8_1 < (l0.length : Int) := zod zq9
      obtain ⟨ad101, e101, hx101_0⟩ := Kd.at_int HR0.out x8_1 p101 q101
      cases e101
      replace p101 := eq_true p101
      replace q101 := eq_true q101
      go_wp2_with (first | (go_at_call 65; (with_reducible refine (sound_First_1.calls (rd l0 x8_1) false _ A6.out).mono ?_); rintro e w' ⟨rfl, ⟨nd, rfl⟩⟩))
      go_roundg k1
      case measure => have := HK1.out; omega
      case rel => exact ⟨(wrap64 (x8_1 + 1)), zq10, H', ⟨by have := HK1.out; omega⟩, by repeat (first | exact Drawn0.refl _ | apply Drawn0.step)⟩
     rw [if_neg c5] at H
     exact absurd H (by simp)
    rw [if_neg c4] at H
    exact absurd H (by simp)
   rw [if_neg c3] at H
   have c3b0 : decide (x8_1 < (l0.length : Int)) = false := zdf c3
   clear c3
   obtain rfl := zsi H
   go_wp2
   go_ret
   exact ⟨by first | rfl | (simp; done) | (simp [*]; done), by repeat (first | exact Drawn0.refl _ | apply Drawn0.step)⟩
def sound_enough.l0 : Nat → Int → Int → Int → List Int → Int → Int → Option (Int)
 | 0, _, _, _, _, _, _ => none
 | k + 1, x0, x5, x6, x9, x10, x11 => if x11 < x10 then (if 0 ≤ x11 then (if x11 < (x9.length : Int) then (if (rd x9 x11) = 2 then (if (rd x9 x11) = 0 then (sound_enough.l0 k x0 (wrap64 (x5 + 1)) x6 x9 x10 (wrap64 (x11 + 1))) else (sound_enough.l0 k x0 (wrap64 (x5 + 1)) (wrap64 (x6 + 1)) x9 x10 (wrap64 (x11 + 1)))) else (if (rd x9 x11) = 0 then (sound_enough.l0 k x0 x5 x6 x9 x10 (wrap64 (x11 + 1))) else (sound_enough.l0 k x0 x5 (wrap64 (x6 + 1)) x9 x10 (wrap64 (x11 + 1))))) else (none)) else (none)) else (if x5 ≥ x0 then (some 2) else (if x6 < x0 then (some 0) else (some 1)))
def sound_enough.f (k : Nat) (a0 : Int) (l1 : List Int) : Option (Int) := sound_enough.l0 k a0 0 0 l1 (l1.length : Int) 0
theorem sound_enough.mono_l : ∀ k, (∀ y0 y1 y2 y3 y4 y5, LeO (sound_enough.l0 k y0 y1 y2 y3 y4 y5) (sound_enough.l0 (k + 1) y0 y1 y2 y3 y4 y5))
 | 0 => fun _ _ _ _ _ _ r h => by simp [sound_enough.l0] at h
 | k + 1 => by
  have ih0 := sound_enough.mono_l k
  intro y0 y1 y2 y3 y4 y5
  unfold sound_enough.l0
  repeat' first
  | (with_reducible exact ih0 _ _ _ _ _ _)
  | (with_reducible exact LeO.refl _)
  | (with_reducible exact LeO.none _)
  | (with_reducible refine LeO.ite ?_ ?_)
  | (with_reducible refine LeO.bind ?_ (fun _ => ?_))
  | exact ih0 _ _ _ _ _ _
  | exact LeO.none _
  | refine LeO.ite ?_ ?_
  | refine LeO.bind ?_ (fun _ => ?_)
theorem sound_enough.mono : ∀ a0 a1 k, LeO (sound_enough.f k a0 a1) (sound_enough.f (k + 1) a0 a1) := by
 intro a0 a1 k
 have ih0 := sound_enough.mono_l k
 unfold sound_enough.f
 repeat' first
   | (with_reducible exact ih0 _ _ _ _ _ _)
   | (with_reducible exact LeO.refl _)
   | (with_reducible exact LeO.none _)
   | (with_reducible refine LeO.ite ?_ ?_)
   | (with_reducible refine LeO.bind ?_ (fun _ => ?_))
   | exact ih0 _ _ _ _ _ _
   | exact LeO.none _
   | refine LeO.ite ?_ ?_
   | refine LeO.bind ?_ (fun _ => ?_)
set_option maxHeartbeats 8000000 in
set_option maxRecDepth 100000 in
theorem sound_enough.calls (k : Nat) (a0 : Int) (A1 : Option Addr) (c1 : Nat) (l1 : List Int) (r : Int) (w : World) (hr1 : Kd.C (Kd.int .i64) w A1 l1.length l1) (hc1 : l1.length ≤ c1) (h : sound_enough.f k a0 l1 = some r) :
  Calls Try.prog 107 #[.int .i64 a0, .slice A1 l1.length c1] w fun e w' => e = .returned (.int .i64 r) ∧ Drawn0 w w' := by
 have HR1 := zam hr1
 have HC1 := zam hc1
 clear hr1 hc1
 have H : (sound_enough.l0 k a0 0 0 l1 (l1.length : Int) 0) = some r := h
 clear h
 have H' := zam H
 clear H
 go_enter Try.func107, Try.ntmps107
 go_wp2
 go_loopg [5, 6, 11] k (fun kq v5 v6 v11 w' => ∃ (x5_1 : Int) (x6_1 : Int) (x11_1 : Int), v5 = .int .i64 x5_1 ∧ v6 = .int .i64 x6_1 ∧ v11 = .int .i64 x11_1 ∧ Aside0 (sound_enough.l0 kq a0 x5_1 x6_1 l1 (l1.length : Int) x11_1 = some r) ∧ Aside0 (kq ≤ k) ∧ Drawn0 w w')
 case atStart => exact ⟨(0), (0), (0), zq10, zq10, zq10, H', ⟨Nat.le_refl _⟩, by repeat (first | exact Drawn0.refl _ | apply Drawn0.step)⟩
 case round =>
  clear H'
  try clear c1
  try clear p2
  obtain ⟨x5_1, x6_1, x11_1, rfl, rfl, rfl, HA, HK1, ⟨m1, rfl⟩⟩ := hrel
  cases gk with
  | zero => exact absurd HA.out (by simp [sound_enough.l0])
  | succ k1 =>
   have H := HA.out
   clear HA
   simp only [sound_enough.l0] at H
   by_cases c3 : x11_1 < (l1.length : Int)
   ·rw [if_pos c3] at H
    have c3b0 : decide (x11_1 < (l1.length : Int)) = true := zdt c3
    clear c3
    by_cases c4 : 0 ≤ x11_1
    ·rw [if_pos c4] at H
     have c4b0 : decide (0 ≤ x11_1) = true := zdt c4
     clear c4
     by_cases c5 : x11_1 < (l1.length : Int)
     ·rw [if_pos c5] at H
      have c5b0 : decide (x11_1 < (l1.length : Int)) = true := zdt c5
      clear c5
      by_cases c6 : (rd l1 x11_1) = 2
      ·rw [if_pos c6] at H
       have c6b0 : ((rd l1 x11_1) == 2) = true := beq_iff_eq.mpr c6
       have c6b1 : ((rd l1 x11_1) != 2) = false := bne_eq_false_iff_eq.mpr c6
       clear c6
       by_cases c7 : (rd l1 x11_1) = 0
       ·rw [if_pos c7] at H
        have c7b0 : ((rd l1 x11_1) == 0) = true := beq_iff_eq.mpr c7
        have c7b1 : ((rd l1 x11_1) != 0) = false := bne_eq_false_iff_eq.mpr c7
        clear c7
        have H' := zam H
        clear H
        have p101 : 0 ≤ (x11_1 : Int) := zod zq9
        have q101 : x11_1 < (l1.length : Int) := zod zq9
        obtain ⟨ad101, e101, hx101_0⟩ := Kd.at_int HR1.out x11_1 p101 q101
        cases e101
        replace p101 := eq_true p101
        replace q101 := eq_true q101
        go_wp2
        go_roundg k1
        case measure => have := HK1.out; omega
        case rel => exact ⟨(wrap64 (x5_1 + 1)), (x6_1), (wrap64 (x11_1 + 1)), zq10, zq10, zq10, H', ⟨by have := HK1.out; omega⟩, by repeat (first | exact Drawn0.refl _ | apply Drawn0.step)⟩
       rw [if_neg c7] at H
       have c7b0 : ((rd l1 x11_1) == 0) = false := beq_eq_false_iff_ne.mpr c7
       have c7b1 : ((rd l1 x11_1) != 0) = true := bne_iff_ne.mpr c7
       have H' := zam H
       clear H
       have p101 : 0 ≤ (x11_1 : Int) := zod zq9
       have q101 : x11_1 < (l1.length : Int) := zod zq9
       obtain ⟨ad101, e101, hx101_0⟩ := Kd.at_int HR1.out x11_1 p101 q101
       cases e101
       replace p101 := eq_true p101
       replace q101 := eq_true q101
       go_wp2
       go_roundg k1
       case measure => have := HK1.out; omega
       case rel => exact ⟨(wrap64 (x5_1 + 1)), (wrap64 (x6_1 + 1)), (wrap64 (x11_1 + 1)), zq10, zq10, zq10, H', ⟨by have := HK1.out; omega⟩, by repeat (first | exact Drawn0.refl _ | apply Drawn0.step)⟩
      rw [if_neg c6] at H
      have c6b0 : ((rd l1 x11_1) == 2) = false := beq_eq_false_iff_ne.mpr c6
      have c6b1 : ((rd l1 x11_1) != 2) = true := bne_iff_ne.mpr c6
      by_cases c8 : (rd l1 x11_1) = 0
      ·rw [if_pos c8] at H
       have c8b0 : ((rd l1 x11_1) == 0) = true := beq_iff_eq.mpr c8
       have c8b1 : ((rd l1 x11_1) != 0) = false := bne_eq_false_iff_eq.mpr c8
       clear c8
       have H' := zam H
       clear H
       have p101 : 0 ≤ (x11_1 : Int) := zod zq9
       have q101 : x11_1 < (l1.length : Int) := zod zq9
       obtain ⟨ad101, e101, hx101_0⟩ := Kd.at_int HR1.out x11_1 p101 q101
       cases e101
       replace p101 := eq_true p101
       replace q101 := eq_true q101
       go_wp2
       go_roundg k1
       case measure => have := HK1.out; omega
       case rel => exact ⟨(x5_1), (x6_1), (wrap64 (x11_1 + 1)), zq10, zq10, zq10, H', ⟨by have := HK1.out; omega⟩, by repeat (first | exact Drawn0.refl _ | apply Drawn0.step)⟩
      rw [if_neg c8] at H
      have c8b0 : ((rd l1 x11_1) == 0) = false := beq_eq_false_iff_ne.mpr c8
      have c8b1 : ((rd l1 x11_1) != 0) = true := bne_iff_ne.mpr c8
      have H' := zam H
      clear H
      have p101 : 0 ≤ (x11_1 : Int) := zod zq9
      have q101 : x11_1 < (l1.length : Int) := zod zq9
      obtain ⟨ad101, e101, hx101_0⟩ := Kd.at_int HR1.out x11_1 p101 q101
      cases e101
      replace p101 := eq_true p101
      replace q101 := eq_true q101
      go_wp2
      go_roundg k1
      case measure => have := HK1.out; omega
      case rel => exact ⟨(x5_1), (wrap64 (x6_1 + 1)), (wrap64 (x11_1 + 1)), zq10, zq10, zq10, H', ⟨by have := HK1.out; omega⟩, by repeat (first | exact Drawn0.refl _ | apply Drawn0.step)⟩
     rw [if_neg c5] at H
     exact absurd H (by simp)
    rw [if_neg c4] at H
    exact absurd H (by simp)
   rw [if_neg c3] at H
   have c3b0 : decide (x11_1 < (l1.length : Int)) = false := zdf c3
   clear c3
   by_cases c9 : x5_1 ≥ a0
   ·rw [if_pos c9] at H
    have c9b0 : decide (a0 ≤ x5_1) = true := zdt c9
    clear c9
    obtain rfl := zsi H
    go_wp2
    go_ret
    exact ⟨by first | rfl | (simp; done) | (simp [*]; done), by repeat (first | exact Drawn0.refl _ | apply Drawn0.step)⟩
   rw [if_neg c9] at H
   have c9b0 : decide (a0 ≤ x5_1) = false := zdf c9
   clear c9
   by_cases c10 : x6_1 < a0
   ·rw [if_pos c10] at H
    have c10b0 : decide (x6_1 < a0) = true := zdt c10
    clear c10
    obtain rfl := zsi H
    go_wp2
    go_ret
    exact ⟨by first | rfl | (simp; done) | (simp [*]; done), by repeat (first | exact Drawn0.refl _ | apply Drawn0.step)⟩
   rw [if_neg c10] at H
   have c10b0 : decide (x6_1 < a0) = false := zdf c10
   clear c10
   obtain rfl := zsi H
   go_wp2
   go_ret
   exact ⟨by first | rfl | (simp; done) | (simp [*]; done), by repeat (first | exact Drawn0.refl _ | apply Drawn0.step)⟩
def sound_high.j0 : Nat → Int → Bool → Int → Int → Option (Int)
 | 0, _, _, _, _ => none
 | k + 1, x1, x5, x102000, x102001 => if x5 = true then (some 2) else (if x102000 > (wrap64 (-x1)) then (if x102001 < x1 then (some 0) else (some 1)) else (some 1))
def sound_high.f (k : Nat) (a0_0 : Int) (a0_1 : Int) (a1 : Int) : Option (Int) := if a0_0 ≥ a1 then (sound_high.j0 k a1 true a0_0 a0_1) else (sound_high.j0 k a1 (decide (a0_1 ≤ (wrap64 (-a1)))) a0_0 a0_1)
theorem sound_high.mono_l : ∀ k, (∀ y0 y1 y2 y3, LeO (sound_high.j0 k y0 y1 y2 y3) (sound_high.j0 (k + 1) y0 y1 y2 y3))
 | 0 => fun _ _ _ _ r h => by simp [sound_high.j0] at h
 | k + 1 => by
  have ih0 := sound_high.mono_l k
  intro y0 y1 y2 y3
  unfold sound_high.j0
  repeat' first
  | (with_reducible exact ih0 _ _ _ _)
  | (with_reducible exact LeO.refl _)
  | (with_reducible exact LeO.none _)
  | (with_reducible refine LeO.ite ?_ ?_)
  | (with_reducible refine LeO.bind ?_ (fun _ => ?_))
  | exact ih0 _ _ _ _
  | exact LeO.none _
  | refine LeO.ite ?_ ?_
  | refine LeO.bind ?_ (fun _ => ?_)
theorem sound_high.mono : ∀ a0 a1 a2 k, LeO (sound_high.f k a0 a1 a2) (sound_high.f (k + 1) a0 a1 a2) := by
 intro a0 a1 a2 k
 have ih0 := sound_high.mono_l k
 unfold sound_high.f
 repeat' first
   | (with_reducible exact ih0 _ _ _ _)
   | (with_reducible exact LeO.refl _)
   | (with_reducible exact LeO.none _)
   | (with_reducible refine LeO.ite ?_ ?_)
   | (with_reducible refine LeO.bind ?_ (fun _ => ?_))
   | exact ih0 _ _ _ _
   | exact LeO.none _
   | refine LeO.ite ?_ ?_
   | refine LeO.bind ?_ (fun _ => ?_)
set_option maxHeartbeats 8000000 in
set_option maxRecDepth 100000 in
theorem sound_high.calls (k : Nat) (a0_0 : Int) (a0_1 : Int) (a1 : Int) (r : Int) (w : World) (h : sound_high.f k a0_0 a0_1 a1 = some r) :
  Calls Try.prog 129 #[.agg #[.int .i64 a0_0, .int .i64 a0_1], .int .i64 a1] w fun e w' => e = .returned (.int .i64 r) ∧ Below w.heap.size w w' := by
 have hu24 := Try.underlying24
 have HB := zam (Below.refl w.heap.size w)
 have H : (if a0_0 ≥ a1 then (sound_high.j0 k a1 true a0_0 a0_1) else (sound_high.j0 k a1 (decide (a0_1 ≤ (wrap64 (-a1)))) a0_0 a0_1)) = some r := h
 clear h
 have HC3 := zam H
 clear H
 go_enter Try.func129, Try.ntmps129
 go_upto_region 1 with (first | ((with_reducible refine zgd (N := 2) rfl ?_); refine box_event ?hg (N := 2) ?hd (cs := #[.int .i64 a0_0, .int .i64 a0_1]) (t := 24) ?hr ?_; (case hd => rfl); (case hg => rfl); (case hr => first | (go_simp; done) | (go_simp; rfl)); intro gb101 hg w4 hbox hb; have n0_ := zam (zbt zq1 hb); have n1_ := zam (hbox); have n2_ := zam ((by rw [hg]; exact (zbz zq1) : w.heap.size ≤ gb101)); have n3_ := zam ((by rw [hg]; exact (zbz zq1) : w.heap.size ≤ gb101)); clear HB; have HB := n0_; have BK101 := n1_; have GW101 := n2_; have GE101 := n3_; clear n0_ n1_ n2_ n3_; clear hb hbox hg))
 (try simp only [Act.put, zsa, zsz, zss])
 go_cut [5] (fun v5 wc => ∃ (kq : Nat) (x5_2 : Bool), v5 = .bool x5_2 ∧ Aside0 (sound_high.j0 kq a1 x5_2 a0_0 a0_1 = some r) ∧ Aside0 (kq ≤ k) ∧ Aside0 (wc.heap[gb101]? = some (.cells #[.int .i64 a0_0, .int .i64 a0_1] 24 (0, 0))) ∧ Aside0 (Below w.heap.size w wc))
 case first =>
  have H := HC3.out
  clear HC3
  by_cases c5 : a0_0 ≥ a1
  ·rw [if_pos c5] at H
   have c5b0 : decide (a1 ≤ a0_0) = true := zdt c5
   clear c5
   (first | rw [c5b0] | (simp only [i64_w, i32_w]; rw [c5b0]) | skip)
   have H' := zam H
   clear H
   have hcz6_0 : w4.cell? ⟨gb101, 0, none⟩ = some (.int .i64 a0_0) := (zkc BK101.out 0).trans rfl
   have hcz6_1 : w4.cell? ⟨gb101, 1, none⟩ = some (.int .i64 a0_1) := (zkc BK101.out 1).trans rfl
   have hfz6_0 := zkz BK101.out 0
   have hfz6_1 := zkz BK101.out 1
   go_wp2
   go_meet
   case rel => exact ⟨_, (true), zq10, H', ⟨by first | omega | exact Nat.le_refl _⟩, ⟨by (with_reducible repeat (first | refine zkn ?_ _ | refine zkd ?_ | refine zka ?_ _)); exact BK101.out⟩, ⟨by repeat (first | (with_reducible first | exact HB.out | apply zba | apply zbn | apply zb1 | refine zbs ?_ GE101.out) | exact HB.out)⟩⟩
  rw [if_neg c5] at H
  have c5b0 : decide (a1 ≤ a0_0) = false := zdf c5
  clear c5
  (first | rw [c5b0] | (simp only [i64_w, i32_w]; rw [c5b0]) | skip)
  have H' := zam H
  clear H
  have hcz7_0 : w4.cell? ⟨gb101, 0, none⟩ = some (.int .i64 a0_0) := (zkc BK101.out 0).trans rfl
  have hcz7_1 : w4.cell? ⟨gb101, 1, none⟩ = some (.int .i64 a0_1) := (zkc BK101.out 1).trans rfl
  have hfz7_0 := zkz BK101.out 0
  have hfz7_1 := zkz BK101.out 1
  go_wp2
  go_meet
  case rel => exact ⟨_, (decide (a0_1 ≤ (wrap64 (-a1)))), zq10, H', ⟨by first | omega | exact Nat.le_refl _⟩, ⟨by (with_reducible repeat (first | refine zkn ?_ _ | refine zkd ?_ | refine zka ?_ _)); exact BK101.out⟩, ⟨by repeat (first | (with_reducible first | exact HB.out | apply zba | apply zbn | apply zb1 | refine zbs ?_ GE101.out) | exact HB.out)⟩⟩
 case rest =>
  clear HC3
  try clear c1
  try clear p2
  try clear c5
  try clear c5b0
  try clear p6
  try clear hcz6_0
  try clear hcz6_1
  try clear hcz7_0
  try clear hcz7_1
  try clear hfz6_0
  try clear hfz6_1
  try clear hfz7_0
  try clear hfz7_1
  obtain ⟨kq, x5_2, rfl, HA, HJ2, BK101, HB⟩ := hcut
  cases kq with
  | zero => exact absurd HA.out (by simp [sound_high.j0])
  | succ kj2 =>
   have H := HA.out
   clear HA
   simp only [sound_high.j0] at H
   by_cases c8 : x5_2 = true
   ·subst c8
    have H1 : (some 2) = some r := by rw [if_pos rfl] at H; exact H
    clear H
    have H := H1
    clear H1
    obtain rfl := zsi H
    go_wp2
    go_ret
    exact ⟨by first | rfl | (simp [errW_none, errW_some] <;> rfl) | (simp [*, errW_none, errW_some] <;> rfl), by repeat (first | (with_reducible first | exact HB.out | apply zba | apply zbn | apply zb1 | refine zbs ?_ GE101.out) | exact HB.out)⟩
   replace c8 := Bool.eq_false_iff.mpr c8
   subst c8
   have H1 : (if a0_0 > (wrap64 (-a1)) then (if a0_1 < a1 then (some 0) else (some 1)) else (some 1)) = some r := by rw [if_neg (show ¬ (false = true) by decide)] at H; exact H
   clear H
   have H := H1
   clear H1
   by_cases c9 : a0_0 > (wrap64 (-a1))
   ·rw [if_pos c9] at H
    have c9b0 : decide ((wrap64 (-a1)) < a0_0) = true := zdt c9
    clear c9
    by_cases c10 : a0_1 < a1
    ·rw [if_pos c10] at H
     have c10b0 : decide (a0_1 < a1) = true := zdt c10
     clear c10
     obtain rfl := zsi H
     have hcz11_0 : wc.cell? ⟨gb101, 0, none⟩ = some (.int .i64 a0_0) := (zkc BK101.out 0).trans rfl
     have hcz11_1 : wc.cell? ⟨gb101, 1, none⟩ = some (.int .i64 a0_1) := (zkc BK101.out 1).trans rfl
     have hfz11_0 := zkz BK101.out 0
     have hfz11_1 := zkz BK101.out 1
     go_wp2
     go_ret
     exact ⟨by first | rfl | (simp [errW_none, errW_some] <;> rfl) | (simp [*, errW_none, errW_some] <;> rfl), by repeat (first | (with_reducible first | exact HB.out | apply zba | apply zbn | apply zb1 | refine zbs ?_ GE101.out) | exact HB.out)⟩
    rw [if_neg c10] at H
    have c10b0 : decide (a0_1 < a1) = false := zdf c10
    clear c10
    obtain rfl := zsi H
    have hcz12_0 : wc.cell? ⟨gb101, 0, none⟩ = some (.int .i64 a0_0) := (zkc BK101.out 0).trans rfl
    have hcz12_1 : wc.cell? ⟨gb101, 1, none⟩ = some (.int .i64 a0_1) := (zkc BK101.out 1).trans rfl
    have hfz12_0 := zkz BK101.out 0
    have hfz12_1 := zkz BK101.out 1
    go_wp2
    go_ret
    exact ⟨by first | rfl | (simp [errW_none, errW_some] <;> rfl) | (simp [*, errW_none, errW_some] <;> rfl), by repeat (first | (with_reducible first | exact HB.out | apply zba | apply zbn | apply zb1 | refine zbs ?_ GE101.out) | exact HB.out)⟩
   rw [if_neg c9] at H
   have c9b0 : decide ((wrap64 (-a1)) < a0_0) = false := zdf c9
   clear c9
   obtain rfl := zsi H
   have hcz13_0 : wc.cell? ⟨gb101, 0, none⟩ = some (.int .i64 a0_0) := (zkc BK101.out 0).trans rfl
   have hcz13_1 : wc.cell? ⟨gb101, 1, none⟩ = some (.int .i64 a0_1) := (zkc BK101.out 1).trans rfl
   have hfz13_0 := zkz BK101.out 0
   have hfz13_1 := zkz BK101.out 1
   go_wp2
   go_ret
   exact ⟨by first | rfl | (simp [errW_none, errW_some] <;> rfl) | (simp [*, errW_none, errW_some] <;> rfl), by repeat (first | (with_reducible first | exact HB.out | apply zba | apply zbn | apply zb1 | refine zbs ?_ GE101.out) | exact HB.out)⟩
mutual
def sound_risen.l0 : Nat → List Int → Int → Int → Int → List (S24) → Int → Int → Int → Int → Int → Option (List Int)
 | 0, _, _, _, _, _, _, _, _, _, _ => none
 | k + 1, x5, x6, x7, x8, x17, x18, x19, x103000, x103001, x103002 => if x19 < x18 then (if 0 ≤ x19 then (if x19 < (x17.length : Int) then ((sound_high.f k ((rd_T24 x17 x19).f0) ((rd_T24 x17 x19).f1) x103000).bind fun t108 => (if t108 = 2 then (sound_risen.j1 k x5 (wrap64 (x6 + 1)) (wrap64 (x7 + 1)) x8 x19 t108 x17 x18 x19 x103000 x103001 x103002) else (sound_risen.j1 k x5 0 (wrap64 (x7 + 1)) x8 x19 t108 x17 x18 x19 x103000 x103001 x103002))) else (none)) else (none)) else (some x5)
def sound_risen.j1 : Nat → List Int → Int → Int → Int → Int → Int → List (S24) → Int → Int → Int → Int → Int → Option (List Int)
 | 0, _, _, _, _, _, _, _, _, _, _, _, _ => none
 | k + 1, x5, x6, x7, x8, x9, x11, x17, x18, x19, x103000, x103001, x103002 => if x11 = 0 then (sound_risen.j2 k x5 x6 0 x8 x9 x17 x18 x19 x103000 x103001 x103002) else (sound_risen.j2 k x5 x6 x7 x8 x9 x17 x18 x19 x103000 x103001 x103002)
def sound_risen.j2 : Nat → List Int → Int → Int → Int → Int → List (S24) → Int → Int → Int → Int → Int → Option (List Int)
 | 0, _, _, _, _, _, _, _, _, _, _, _ => none
 | k + 1, x5, x6, x7, x8, x9, x17, x18, x19, x103000, x103001, x103002 => if x6 ≥ x103001 then (if 0 ≤ x9 then (if x9 < (x5.length : Int) then (sound_risen.l0 k (x5.set (x9 : Int).toNat 2) x6 x7 2 x17 x18 (wrap64 (x19 + 1)) x103000 x103001 x103002) else (none)) else (none)) else (if x7 ≥ x103001 then (if 0 ≤ x9 then (if x9 < (x5.length : Int) then (sound_risen.l0 k (x5.set (x9 : Int).toNat (mx x8 1)) x6 x7 (mx x8 1) x17 x18 (wrap64 (x19 + 1)) x103000 x103001 x103002) else (none)) else (none)) else (if 0 ≤ x9 then (if x9 < (x5.length : Int) then (sound_risen.l0 k (x5.set (x9 : Int).toNat x8) x6 x7 x8 x17 x18 (wrap64 (x19 + 1)) x103000 x103001 x103002) else (none)) else (none)))
end
def sound_risen.f (k : Nat) (l0_0 : List (S24)) (a1_0 : Int) (a1_1 : Int) (a1_2 : Int) : Option (List Int) := if 0 ≤ (l0_0.length : Int) then (if ((l0_0.length : Int) : Int).toNat ≤ 35184372088832 then (sound_risen.l0 k (List.replicate ((l0_0.length : Int) : Int).toNat 0) 0 0 0 l0_0 (l0_0.length : Int) 0 a1_0 a1_1 a1_2) else (none)) else (none)
theorem sound_risen.mono_l : ∀ k, (∀ y0 y1 y2 y3 y4 y5 y6 y7 y8 y9, LeO (sound_risen.l0 k y0 y1 y2 y3 y4 y5 y6 y7 y8 y9) (sound_risen.l0 (k + 1) y0 y1 y2 y3 y4 y5 y6 y7 y8 y9)) ∧ (∀ y0 y1 y2 y3 y4 y5 y6 y7 y8 y9 y10 y11, LeO (sound_risen.j1 k y0 y1 y2 y3 y4 y5 y6 y7 y8 y9 y10 y11) (sound_risen.j1 (k + 1) y0 y1 y2 y3 y4 y5 y6 y7 y8 y9 y10 y11)) ∧ (∀ y0 y1 y2 y3 y4 y5 y6 y7 y8 y9 y10, LeO (sound_risen.j2 k y0 y1 y2 y3 y4 y5 y6 y7 y8 y9 y10) (sound_risen.j2 (k + 1) y0 y1 y2 y3 y4 y5 y6 y7 y8 y9 y10))
 | 0 => ⟨fun _ _ _ _ _ _ _ _ _ _ r h => by simp [sound_risen.l0] at h, fun _ _ _ _ _ _ _ _ _ _ _ _ r h => by simp [sound_risen.j1] at h, fun _ _ _ _ _ _ _ _ _ _ _ r h => by simp [sound_risen.j2] at h⟩
 | k + 1 => by
  obtain ⟨ih0, ih1, ih2⟩ := sound_risen.mono_l k
  refine ⟨?_, ?_, ?_⟩
  ·intro y0 y1 y2 y3 y4 y5 y6 y7 y8 y9
   unfold sound_risen.l0
   repeat' first
   | (with_reducible exact ih0 _ _ _ _ _ _ _ _ _ _)
   | (with_reducible exact ih1 _ _ _ _ _ _ _ _ _ _ _ _)
   | (with_reducible exact ih2 _ _ _ _ _ _ _ _ _ _ _)
   | (with_reducible exact sound_high.mono _ _ _ _)
   | (with_reducible exact LeO.refl _)
   | (with_reducible exact LeO.none _)
   | (with_reducible refine LeO.ite ?_ ?_)
   | (with_reducible refine LeO.bind ?_ (fun _ => ?_))
   | exact ih0 _ _ _ _ _ _ _ _ _ _
   | exact ih1 _ _ _ _ _ _ _ _ _ _ _ _
   | exact ih2 _ _ _ _ _ _ _ _ _ _ _
   | exact sound_high.mono _ _ _ _
   | exact LeO.none _
   | refine LeO.ite ?_ ?_
   | refine LeO.bind ?_ (fun _ => ?_)
  ·intro y0 y1 y2 y3 y4 y5 y6 y7 y8 y9 y10 y11
   unfold sound_risen.j1
   repeat' first
   | (with_reducible exact ih0 _ _ _ _ _ _ _ _ _ _)
   | (with_reducible exact ih1 _ _ _ _ _ _ _ _ _ _ _ _)
   | (with_reducible exact ih2 _ _ _ _ _ _ _ _ _ _ _)
   | (with_reducible exact sound_high.mono _ _ _ _)
   | (with_reducible exact LeO.refl _)
   | (with_reducible exact LeO.none _)
   | (with_reducible refine LeO.ite ?_ ?_)
   | (with_reducible refine LeO.bind ?_ (fun _ => ?_))
   | exact ih0 _ _ _ _ _ _ _ _ _ _
   | exact ih1 _ _ _ _ _ _ _ _ _ _ _ _
   | exact ih2 _ _ _ _ _ _ _ _ _ _ _
   | exact sound_high.mono _ _ _ _
   | exact LeO.none _
   | refine LeO.ite ?_ ?_
   | refine LeO.bind ?_ (fun _ => ?_)
  intro y0 y1 y2 y3 y4 y5 y6 y7 y8 y9 y10
  unfold sound_risen.j2
  repeat' first
  | (with_reducible exact ih0 _ _ _ _ _ _ _ _ _ _)
  | (with_reducible exact ih1 _ _ _ _ _ _ _ _ _ _ _ _)
  | (with_reducible exact ih2 _ _ _ _ _ _ _ _ _ _ _)
  | (with_reducible exact sound_high.mono _ _ _ _)
  | (with_reducible exact LeO.refl _)
  | (with_reducible exact LeO.none _)
  | (with_reducible refine LeO.ite ?_ ?_)
  | (with_reducible refine LeO.bind ?_ (fun _ => ?_))
  | exact ih0 _ _ _ _ _ _ _ _ _ _
  | exact ih1 _ _ _ _ _ _ _ _ _ _ _ _
  | exact ih2 _ _ _ _ _ _ _ _ _ _ _
  | exact sound_high.mono _ _ _ _
  | exact LeO.none _
  | refine LeO.ite ?_ ?_
  | refine LeO.bind ?_ (fun _ => ?_)
theorem sound_risen.mono : ∀ a0 a1 a2 a3 k, LeO (sound_risen.f k a0 a1 a2 a3) (sound_risen.f (k + 1) a0 a1 a2 a3) := by
 intro a0 a1 a2 a3 k
 obtain ⟨ih0, ih1, ih2⟩ := sound_risen.mono_l k
 unfold sound_risen.f
 repeat' first
   | (with_reducible exact ih0 _ _ _ _ _ _ _ _ _ _)
   | (with_reducible exact ih1 _ _ _ _ _ _ _ _ _ _ _ _)
   | (with_reducible exact ih2 _ _ _ _ _ _ _ _ _ _ _)
   | (with_reducible exact sound_high.mono _ _ _ _)
   | (with_reducible exact LeO.refl _)
   | (with_reducible exact LeO.none _)
   | (with_reducible refine LeO.ite ?_ ?_)
   | (with_reducible refine LeO.bind ?_ (fun _ => ?_))
   | exact ih0 _ _ _ _ _ _ _ _ _ _
   | exact ih1 _ _ _ _ _ _ _ _ _ _ _ _
   | exact ih2 _ _ _ _ _ _ _ _ _ _ _
   | exact sound_high.mono _ _ _ _
   | exact LeO.none _
   | refine LeO.ite ?_ ?_
   | refine LeO.bind ?_ (fun _ => ?_)
set_option maxHeartbeats 8000000 in
set_option maxRecDepth 100000 in
theorem sound_risen.calls (k : Nat) (A0_0 : Option Addr) (c0_0 : Nat) (l0_0 : List (S24)) (a1_0 : Int) (a1_1 : Int) (a1_2 : Int) (r : List Int) (w : World) (hr0_0 : Kd.C k24 w A0_0 l0_0.length l0_0) (hc0_0 : l0_0.length ≤ c0_0) (h : sound_risen.f k l0_0 a1_0 a1_1 a1_2 = some r) :
  Calls Try.prog 106 #[.agg #[.slice A0_0 l0_0.length c0_0], .agg #[.int .i64 a1_0, .int .i64 a1_1, .int .i64 a1_2]] w fun e w' => ∃ v0_ : Value, e = .returned (v0_) ∧ Kd.R (Kd.int .i64) 50 w' w.heap.size (fun _ => True) v0_ r ∧ Below w.heap.size w w' := by
 have hu45 := Try.underlying45
 have hu39 := Try.underlying39
 have hu24 := Try.underlying24
 have HR0_0 := zam hr0_0
 have HC0_0 := zam hc0_0
 clear hr0_0 hc0_0
 have HB := zam (Below.refl w.heap.size w)
 have H : (if 0 ≤ (l0_0.length : Int) then (if ((l0_0.length : Int) : Int).toNat ≤ 35184372088832 then (sound_risen.l0 k (List.replicate ((l0_0.length : Int) : Int).toNat 0) 0 0 0 l0_0 (l0_0.length : Int) 0 a1_0 a1_1 a1_2) else (none)) else (none)) = some r := h
 clear h
 by_cases c3 : 0 ≤ (l0_0.length : Int)
 ·rw [if_pos c3] at H
  have c3b0 := eq_true c3
  have c3b1 : decide (0 ≤ (l0_0.length : Int)) = true := zdt c3
  clear c3
  by_cases c4 : ((l0_0.length : Int) : Int).toNat ≤ 35184372088832
  ·rw [if_pos c4] at H
   have c4b0 := eq_true c4
   have c4b1 : decide (((l0_0.length : Int) : Int).toNat ≤ 35184372088832) = true := zdt c4
   clear c4
   obtain ⟨y103, hy103⟩ : ∃ y_ : List Int, y_ = (List.replicate ((l0_0.length : Int) : Int).toNat 0) := ⟨_, rfl⟩
   replace H : (sound_risen.l0 k y103 0 0 0 l0_0 (l0_0.length : Int) 0 a1_0 a1_1 a1_2) = some r := by first | (rw [hy103]; with_reducible exact H) | (have H2_ := (Option.bind_some _ _).symm.trans H; rw [hy103]; with_reducible exact H2_) | (have H2_ := (Option.bind_some _ _).symm.trans H; with_reducible exact H2_) | with_reducible exact H | (rw [hy103]; exact H) | exact H
   have Ny103 := zam hy103
   clear hy103
   have H' := zam H
   clear H
   go_enter Try.func106, Try.ntmps106
   go_wp2_with (first | ((with_reducible refine zgd (N := 2) rfl ?_); refine box_event ?hg (N := 2) ?hd (cs := #[.slice A0_0 l0_0.length c0_0]) (t := 45) ?hr ?_; (case hd => rfl); (case hg => rfl); (case hr => first | (go_simp; done) | (go_simp; rfl)); intro gb101 hg w5 hbox hb; have n0_ := zam (zbt zq1 hb); have n1_ := zam (hbox); have n2_ := zam ((by rw [hg]; exact (zbz zq1) : w.heap.size ≤ gb101)); have n3_ := zam ((by rw [hg]; exact (zbz zq1) : w.heap.size ≤ gb101)); clear HB; have HB := n0_; have BK101 := n1_; have GW101 := n2_; have GE101 := n3_; clear n0_ n1_ n2_ n3_; clear hb hbox hg) | ((with_reducible refine zgd (N := 3) rfl ?_); refine box_event ?hg (N := 3) ?hd (cs := #[.int .i64 a1_0, .int .i64 a1_1, .int .i64 a1_2]) (t := 39) ?hr ?_; (case hd => rfl); (case hg => rfl); (case hr => first | (go_simp; done) | (go_simp; rfl)); intro gb102 hg w6 hbox hb; have n0_ := zam (zkb (g := gb101) (o := .cells #[.slice A0_0 l0_0.length c0_0] 45 (0, 0)) zq0 hb); have n1_ := zam (zbt zq2 hb); have n2_ := zam (hbox); have n3_ := zam ((by rw [hg]; exact (zbz zq2) : w.heap.size ≤ gb102)); have n4_ := zam ((by rw [hg]; exact (zbz zq2) : w.heap.size ≤ gb102)); have n5_ := zam ((by rw [hg]; exact Nat.ne_of_lt (blk_lt (g := gb101) (o := .cells #[.slice A0_0 l0_0.length c0_0] 45 (0, 0)) zq0) : gb101 ≠ gb102)); have n6_ := zam ((by rw [hg]; exact Nat.ne_of_gt (blk_lt (g := gb101) (o := .cells #[.slice A0_0 l0_0.length c0_0] 45 (0, 0)) zq0) : gb102 ≠ gb101)); clear BK101; clear HB; have BK101 := n0_; have HB := n1_; have BK102 := n2_; have GW102 := n3_; have GE102 := n4_; have NB101_102 := n5_; have NB102_101 := n6_; clear n0_ n1_ n2_ n3_ n4_ n5_ n6_; clear hb hbox hg; have hnb7 := NB101_102.out; have hnc7 := NB102_101.out; have hcz8_0 : w6.cell? ⟨gb101, 0, none⟩ = some (.slice A0_0 l0_0.length c0_0) := (zkc BK101.out 0).trans rfl; have hfz8_0 := zkz BK101.out 0) | ((with_reducible refine zgd (N := 15) rfl ?_); refine Kd.R_make (Kd.int .i64) _ 50 rfl (N := 15) rfl 66 _ _ rfl (l0_0.length : Int) rfl rfl Try.underlying66 (.int .i64 0) 8 info50 rfl (by decide) (by omega) 0 (ok := fun _ => True) (okp := fun _ => True) rfl (fun _ hk => hk) trivial (zod zq9) (Nat.le_trans (Nat.mul_le_mul_right _ (zod zq9 : (l0_0.length : Int).toNat ≤ 35184372088832)) (by omega)) (Below.refl _ _) (Nat.le_refl _) ?_; intro v104 w9 ho10 hb hg_ hnew_; clear hg_ hnew_; (first | rw [← Ny103.out] at ho10 | (simp only [Int.reduceToNat] at ho10; rw [← Ny103.out] at ho10)); have n0_ := zam (Kd.R_lower ho10 (zbz zq11)); have n1_ := zam (zkb (g := gb101) (o := .cells #[.slice A0_0 l0_0.length c0_0] 45 (0, 0)) zq0 hb); have n2_ := zam (zkb (g := gb102) (o := .cells #[.int .i64 a1_0, .int .i64 a1_1, .int .i64 a1_2] 39 (0, 0)) zq4 hb); have n3_ := zam (zbt zq11 hb); clear BK101; clear BK102; clear HB; have HO105 := n0_; have BK101 := n1_; have BK102 := n2_; have HB := n3_; clear n0_ n1_ n2_ n3_; clear hb ho10; have hcz11_0 : w9.cell? ⟨gb101, 0, none⟩ = some (.slice A0_0 l0_0.length c0_0) := (zkc BK101.out 0).trans rfl; have hfz11_0 := zkz BK101.out 0))
   go_loopg [6, 7, 8, 19] k (fun kq v6 v7 v8 v19 w' => ∃ (x5_1 : List Int) (x6_1 : Int) (x7_1 : Int) (x8_1 : Int) (x19_1 : Int), v6 = .int .i64 x6_1 ∧ v7 = .int .i64 x7_1 ∧ v8 = .int .i64 x8_1 ∧ v19 = .int .i64 x19_1 ∧ Aside0 (sound_risen.l0 kq x5_1 x6_1 x7_1 x8_1 l0_0 (l0_0.length : Int) x19_1 a1_0 a1_1 a1_2 = some r) ∧ Aside0 (kq ≤ k) ∧ Aside0 (Kd.R (Kd.int .i64) 50 w' w.heap.size (fun _ => True) v104 x5_1) ∧ Aside0 (w'.heap[gb101]? = some (.cells #[(.slice A0_0 l0_0.length c0_0)] 45 (0, 0))) ∧ Aside0 (w'.heap[gb102]? = some (.cells #[.int .i64 a1_0, .int .i64 a1_1, .int .i64 a1_2] 39 (0, 0))) ∧ Aside0 (Below w.heap.size w w'))
   case atStart => exact ⟨(y103), (0), (0), (0), (0), zq10, zq10, zq10, zq10, H', ⟨Nat.le_refl _⟩, ⟨by (with_reducible repeat (first | apply zRa | apply zRn | apply zRd)); exact HO105.out⟩, ⟨by (with_reducible repeat (first | refine zkn ?_ _ | refine zkd ?_ | refine zka ?_ _)); exact BK101.out⟩, ⟨by (with_reducible repeat (first | refine zkn ?_ _ | refine zkd ?_ | refine zka ?_ _)); exact BK102.out⟩, ⟨by repeat (first | (with_reducible first | exact HB.out | apply zba | apply zbn | apply zb1 | refine zbs ?_ GE101.out | refine zbs ?_ GE102.out) | exact HB.out)⟩⟩
   case round =>
    clear H'
    try clear c1
    try clear p2
    try clear c3
    try clear c3b0
    try clear c3b1
    try clear c4
    try clear c4b0
    try clear c4b1
    try clear c7
    try clear c10
    try clear hcz11_0
    try clear hcz8_0
    try clear hfz11_0
    try clear hfz8_0
    obtain ⟨x5_1, x6_1, x7_1, x8_1, x19_1, rfl, rfl, rfl, rfl, HA, HK1, HO_5, BK101, BK102, HB⟩ := hrel
    cases gk with
    | zero => exact absurd HA.out (by simp [sound_risen.l0])
    | succ k1 =>
     have H := HA.out
     clear HA
     simp only [sound_risen.l0] at H
     by_cases c12 : x19_1 < (l0_0.length : Int)
     ·rw [if_pos c12] at H
      have c12b0 : decide (x19_1 < (l0_0.length : Int)) = true := zdt c12
      clear c12
      by_cases c13 : 0 ≤ x19_1
      ·rw [if_pos c13] at H
       have c13b0 : decide (0 ≤ x19_1) = true := zdt c13
       clear c13
       by_cases c14 : x19_1 < (l0_0.length : Int)
       ·rw [if_pos c14] at H
        have c14b0 : decide (x19_1 < (l0_0.length : Int)) = true := zdt c14
        clear c14
        replace H := Option.bind_eq_some_iff.mp H
        obtain ⟨t108, A150, H⟩ := H
        replace H : (if t108 = 2 then (sound_risen.j1 k1 x5_1 (wrap64 (x6_1 + 1)) (wrap64 (x7_1 + 1)) x8_1 x19_1 t108 l0_0 (l0_0.length : Int) x19_1 a1_0 a1_1 a1_2) else (sound_risen.j1 k1 x5_1 0 (wrap64 (x7_1 + 1)) x8_1 x19_1 t108 l0_0 (l0_0.length : Int) x19_1 a1_0 a1_1 a1_2)) = some r := H
        have A15 := zam A150
        clear A150
        have HC16 := zam H
        clear H
        have p106 : 0 ≤ (x19_1 : Int) := zod zq9
        have q106 : x19_1 < (l0_0.length : Int) := zod zq9
        obtain ⟨ad106, e106, hx106_0, hx106_1⟩ := at_T24 HR0_0.out x19_1 p106 q106
        cases e106
        replace hx106_0 := (HB.out.cell (zwb w _ hx106_0)).trans hx106_0
        replace hx106_1 := (HB.out.cell (zwb w _ hx106_1)).trans hx106_1
        replace p106 := eq_true p106
        replace q106 := eq_true q106
        go_upto_if 33 with (first | ((with_reducible refine zgd (N := 10) rfl ?_); refine box_event ?hg (N := 10) ?hd (cs := #[.int .i64 0, .int .i64 0]) (t := 24) ?hr ?_; (case hd => rfl); (case hg => rfl); (case hr => first | (go_simp; done) | (go_simp; rfl)); intro gb107 hg w17 hbox hb; have n0_ := zam (Kd.R_below (by (with_reducible repeat (first | apply zRa | apply zRn | apply zRd)); exact HO_5.out) hb); have n1_ := zam (zkb (g := gb101) (o := .cells #[.slice (some ad106) l0_0.length c0_0] 45 (0, 0)) zq0 hb); have n2_ := zam (zkb (g := gb102) (o := .cells #[.int .i64 a1_0, .int .i64 a1_1, .int .i64 a1_2] 39 (0, 0)) zq4 hb); have n3_ := zam (zbt zq11 hb); have n4_ := zam (hbox); have n5_ := zam ((by rw [hg]; exact (zbz zq11) : w.heap.size ≤ gb107)); have n6_ := zam ((by rw [hg]; exact (zbz zq11) : w.heap.size ≤ gb107)); have n7_ := zam ((by rw [hg]; exact Nat.ne_of_lt (blk_lt (g := gb101) (o := .cells #[.slice (some ad106) l0_0.length c0_0] 45 (0, 0)) zq0) : gb101 ≠ gb107)); have n8_ := zam ((by rw [hg]; exact Nat.ne_of_gt (blk_lt (g := gb101) (o := .cells #[.slice (some ad106) l0_0.length c0_0] 45 (0, 0)) zq0) : gb107 ≠ gb101)); have n9_ := zam ((by rw [hg]; exact Nat.ne_of_lt (blk_lt (g := gb102) (o := .cells #[.int .i64 a1_0, .int .i64 a1_1, .int .i64 a1_2] 39 (0, 0)) zq4) : gb102 ≠ gb107)); have n10_ := zam ((by rw [hg]; exact Nat.ne_of_gt (blk_lt (g := gb102) (o := .cells #[.int .i64 a1_0, .int .i64 a1_1, .int .i64 a1_2] 39 (0, 0)) zq4) : gb107 ≠ gb102)); clear HO_5; clear BK101; clear BK102; clear HB; have HO_5 := n0_; have BK101 := n1_; have BK102 := n2_; have HB := n3_; have BK107 := n4_; have GW107 := n5_; have GE107 := n6_; have NB101_107 := n7_; have NB107_101 := n8_; have NB102_107 := n9_; have NB107_102 := n10_; clear n0_ n1_ n2_ n3_ n4_ n5_ n6_ n7_ n8_ n9_ n10_; clear hb hbox hg; have hnb18 := NB107_101.out; have hnc18 := NB101_107.out; have hnb19 := NB107_102.out; have hnc19 := NB102_107.out; have hcz20_0 : w17.cell? ⟨gb107, 0, none⟩ = some (.int .i64 0) := (zkc BK107.out 0).trans rfl; have hcz20_1 : w17.cell? ⟨gb107, 1, none⟩ = some (.int .i64 0) := (zkc BK107.out 1).trans rfl; have hfz20_0 := zkz BK107.out 0; have hfz20_1 := zkz BK107.out 1; have hnb21 := NB102_101.out; have hnc21 := NB101_102.out; have hcz22_0 : w17.cell? ⟨gb102, 0, none⟩ = some (.int .i64 a1_0) := (zkc BK102.out 0).trans rfl; have hcz22_1 : w17.cell? ⟨gb102, 1, none⟩ = some (.int .i64 a1_1) := (zkc BK102.out 1).trans rfl; have hcz22_2 : w17.cell? ⟨gb102, 2, none⟩ = some (.int .i64 a1_2) := (zkc BK102.out 2).trans rfl; have hfz22_0 := zkz BK102.out 0; have hfz22_1 := zkz BK102.out 1; have hfz22_2 := zkz BK102.out 2) | ((with_reducible refine zgc (f := 129) rfl ?_); refine goesL_ (some 27) rfl rfl Try.func129 (by kernel_rfl) rfl #[.agg #[.int .i64 ((rd_T24 l0_0 x19_1).f0), .int .i64 ((rd_T24 l0_0 x19_1).f1)], .int .i64 a1_0] rfl zq5 ?_; (with_reducible refine (sound_high.calls k1 ((rd_T24 l0_0 x19_1).f0) ((rd_T24 l0_0 x19_1).f1) a1_0 t108 _ A15.out).mono ?_); rintro e w23 ⟨rfl, hb⟩; refine ⟨_, rfl, ?_⟩; have n0_ := zam (Kd.R_below (by (with_reducible repeat (first | apply zRa | apply zRn | apply zRd)); exact (Kd.R_mono (Kd.R_far (p := ⟨gb107, 1, none⟩) (Kd.R_far (p := ⟨gb107, 0, none⟩) (Kd.R_types HO_5.out BK107.out (by decide)) (fun _ hk => hk.2) (.int .i64 ((rd_T24 l0_0 x19_1).f0))) (fun _ hk => hk.2) (.int .i64 ((rd_T24 l0_0 x19_1).f1))) (fun _ h_ => h_.1))) hb); have n1_ := zam (zkb (g := gb101) (o := .cells #[.slice (some ad106) l0_0.length c0_0] 45 (0, 0)) (by (with_reducible repeat (first | refine zkn ?_ _ | refine zkd ?_ | refine zka ?_ _)); refine zkf ?_ NB101_107.out _; (with_reducible repeat (first | refine zkn ?_ _ | refine zkd ?_ | refine zka ?_ _)); refine zkf ?_ NB101_107.out _; (with_reducible repeat (first | refine zkn ?_ _ | refine zkd ?_ | refine zka ?_ _)); exact BK101.out) hb); have n2_ := zam (zkb (g := gb102) (o := .cells #[.int .i64 a1_0, .int .i64 a1_1, .int .i64 a1_2] 39 (0, 0)) (by (with_reducible repeat (first | refine zkn ?_ _ | refine zkd ?_ | refine zka ?_ _)); refine zkf ?_ NB102_107.out _; (with_reducible repeat (first | refine zkn ?_ _ | refine zkd ?_ | refine zka ?_ _)); refine zkf ?_ NB102_107.out _; (with_reducible repeat (first | refine zkn ?_ _ | refine zkd ?_ | refine zka ?_ _)); exact BK102.out) hb); have n3_ := zam (zkb (g := gb107) (o := .cells #[.int .i64 ((rd_T24 l0_0 x19_1).f0), .int .i64 ((rd_T24 l0_0 x19_1).f1)] 24 (0, 0)) (by (with_reducible repeat (first | refine zkn ?_ _ | refine zkd ?_ | refine zka ?_ _)); refine blk_put (cs := #[.int .i64 ((rd_T24 l0_0 x19_1).f0), .int .i64 0]) ?_ 1 _ rfl; (with_reducible repeat (first | refine zkn ?_ _ | refine zkd ?_ | refine zka ?_ _)); refine blk_put (cs := #[.int .i64 0, .int .i64 0]) ?_ 0 _ rfl; (with_reducible repeat (first | refine zkn ?_ _ | refine zkd ?_ | refine zka ?_ _)); exact BK107.out) hb); have n4_ := zam (zbt (by repeat (first | (with_reducible first | exact HB.out | apply zba | apply zbn | apply zb1 | refine zbs ?_ GE101.out | refine zbs ?_ GE102.out | refine zbs ?_ GE107.out) | exact HB.out)) hb); clear HO_5; clear BK101; clear BK102; clear BK107; clear HB; have HO_5 := n0_; have BK101 := n1_; have BK102 := n2_; have BK107 := n3_; have HB := n4_; clear n0_ n1_ n2_ n3_ n4_; (try clear hb); (try clear hb2); (try clear hk); (try clear hi)))
        (try simp only [Act.put, zsa, zsz, zss])
        go_cut [6] (fun v6 wc => ∃ (kq : Nat) (x6_15 : Int), v6 = .int .i64 x6_15 ∧ Aside0 (sound_risen.j1 kq x5_1 x6_15 (wrap64 (x7_1 + 1)) x8_1 x19_1 t108 l0_0 (l0_0.length : Int) x19_1 a1_0 a1_1 a1_2 = some r) ∧ Aside0 (kq ≤ k1) ∧ Aside0 (Kd.R (Kd.int .i64) 50 wc w.heap.size (fun _ => True) v104 x5_1) ∧ Aside0 (wc.heap[gb101]? = some (.cells #[(.slice (some ad106) l0_0.length c0_0)] 45 (0, 0))) ∧ Aside0 (wc.heap[gb102]? = some (.cells #[.int .i64 a1_0, .int .i64 a1_1, .int .i64 a1_2] 39 (0, 0))) ∧ Aside0 (wc.heap[gb107]? = some (.cells #[.int .i64 ((rd_T24 l0_0 x19_1).f0), .int .i64 ((rd_T24 l0_0 x19_1).f1)] 24 (0, 0))) ∧ Aside0 (Below w.heap.size w wc))
        case first =>
         have H := HC16.out
         clear HC16
         by_cases c24 : t108 = 2
         ·rw [if_pos c24] at H
          have c24b0 : (t108 == 2) = true := beq_iff_eq.mpr c24
          have c24b1 : (t108 != 2) = false := bne_eq_false_iff_eq.mpr c24
          clear c24
          (first | rw [c24b0] | (simp only [i64_w, i32_w]; rw [c24b0]) | skip)
          have H' := zam H
          clear H
          go_wp2
          go_meet
          case rel => exact ⟨_, (wrap64 (x6_1 + 1)), zq10, H', ⟨by have := HK1.out; first | omega | exact Nat.le_refl _⟩, ⟨by (with_reducible repeat (first | apply zRa | apply zRn | apply zRd)); exact HO_5.out⟩, ⟨by (with_reducible repeat (first | refine zkn ?_ _ | refine zkd ?_ | refine zka ?_ _)); exact BK101.out⟩, ⟨by (with_reducible repeat (first | refine zkn ?_ _ | refine zkd ?_ | refine zka ?_ _)); exact BK102.out⟩, ⟨by (with_reducible repeat (first | refine zkn ?_ _ | refine zkd ?_ | refine zka ?_ _)); exact BK107.out⟩, ⟨by repeat (first | (with_reducible first | exact HB.out | apply zba | apply zbn | apply zb1 | refine zbs ?_ GE101.out | refine zbs ?_ GE102.out | refine zbs ?_ GE107.out) | exact HB.out)⟩⟩
         rw [if_neg c24] at H
         have c24b0 : (t108 == 2) = false := beq_eq_false_iff_ne.mpr c24
         have c24b1 : (t108 != 2) = true := bne_iff_ne.mpr c24
         (first | rw [c24b0] | (simp only [i64_w, i32_w]; rw [c24b0]) | skip)
         have H' := zam H
         clear H
         go_wp2
         go_meet
         case rel => exact ⟨_, (0), zq10, H', ⟨by have := HK1.out; first | omega | exact Nat.le_refl _⟩, ⟨by (with_reducible repeat (first | apply zRa | apply zRn | apply zRd)); exact HO_5.out⟩, ⟨by (with_reducible repeat (first | refine zkn ?_ _ | refine zkd ?_ | refine zka ?_ _)); exact BK101.out⟩, ⟨by (with_reducible repeat (first | refine zkn ?_ _ | refine zkd ?_ | refine zka ?_ _)); exact BK102.out⟩, ⟨by (with_reducible repeat (first | refine zkn ?_ _ | refine zkd ?_ | refine zka ?_ _)); exact BK107.out⟩, ⟨by repeat (first | (with_reducible first | exact HB.out | apply zba | apply zbn | apply zb1 | refine zbs ?_ GE101.out | refine zbs ?_ GE102.out | refine zbs ?_ GE107.out) | exact HB.out)⟩⟩
        case rest =>
         clear HC16
         try clear c1
         try clear p1
         try clear q1
         try clear hx1
         try clear c2
         try clear p2
         try clear c3
         try clear c3b0
         try clear c3b1
         try clear c4
         try clear c4b0
         try clear c4b1
         try clear p6
         try clear c7
         try clear c10
         try clear p10
         try clear q10
         try clear hx10
         try clear c12
         try clear c12b0
         try clear c13
         try clear c13b0
         try clear c14
         try clear c14b0
         try clear c18
         try clear c19
         try clear c21
         try clear c24
         try clear c24b0
         try clear c24b1
         try clear hcz11_0
         try clear hcz20_0
         try clear hcz20_1
         try clear hcz22_0
         try clear hcz22_1
         try clear hcz22_2
         try clear hcz8_0
         try clear hfz11_0
         try clear hfz20_0
         try clear hfz20_1
         try clear hfz22_0
         try clear hfz22_1
         try clear hfz22_2
         try clear hfz8_0
         try clear hx106_0
         try clear hx106_1
         try clear p106
         try clear p2
         try clear q106
         obtain ⟨kq, x6_15, rfl, HA, HJ15, HO_5, BK101, BK102, BK107, HB⟩ := hcut
         cases kq with
         | zero => exact absurd HA.out (by simp [sound_risen.j1])
         | succ kj15 =>
          have H := HA.out
          clear HA
          simp only [sound_risen.j1] at H
          have HC25 := zam H
          clear H
          go_upto_if 35 with (fail)
          go_cut [7] (fun v7 wc => ∃ (kq : Nat) (x7_24 : Int), v7 = .int .i64 x7_24 ∧ Aside0 (sound_risen.j2 kq x5_1 x6_15 x7_24 x8_1 x19_1 l0_0 (l0_0.length : Int) x19_1 a1_0 a1_1 a1_2 = some r) ∧ Aside0 (kq ≤ kj15) ∧ Aside0 (Kd.R (Kd.int .i64) 50 wc w.heap.size (fun _ => True) v104 x5_1) ∧ Aside0 (wc.heap[gb101]? = some (.cells #[(.slice (some ad106) l0_0.length c0_0)] 45 (0, 0))) ∧ Aside0 (wc.heap[gb102]? = some (.cells #[.int .i64 a1_0, .int .i64 a1_1, .int .i64 a1_2] 39 (0, 0))) ∧ Aside0 (wc.heap[gb107]? = some (.cells #[.int .i64 ((rd_T24 l0_0 x19_1).f0), .int .i64 ((rd_T24 l0_0 x19_1).f1)] 24 (0, 0))) ∧ Aside0 (Below w.heap.size w wc))
          case first =>
           have H := HC25.out
           clear HC25
           by_cases c26 : t108 = 0
           ·rw [if_pos c26] at H
            have c26b0 : (t108 == 0) = true := beq_iff_eq.mpr c26
            have c26b1 : (t108 != 0) = false := bne_eq_false_iff_eq.mpr c26
            clear c26
            (first | rw [c26b0] | (simp only [i64_w, i32_w]; rw [c26b0]) | skip)
            have H' := zam H
            clear H
            go_wp2
            go_meet
            case rel => exact ⟨_, (0), zq10, H', ⟨by have := HK1.out; have := HJ15.out; first | omega | exact Nat.le_refl _⟩, ⟨by (with_reducible repeat (first | apply zRa | apply zRn | apply zRd)); exact HO_5.out⟩, ⟨by (with_reducible repeat (first | refine zkn ?_ _ | refine zkd ?_ | refine zka ?_ _)); exact BK101.out⟩, ⟨by (with_reducible repeat (first | refine zkn ?_ _ | refine zkd ?_ | refine zka ?_ _)); exact BK102.out⟩, ⟨by (with_reducible repeat (first | refine zkn ?_ _ | refine zkd ?_ | refine zka ?_ _)); exact BK107.out⟩, ⟨by repeat (first | (with_reducible first | exact HB.out | apply zba | apply zbn | apply zb1 | refine zbs ?_ GE101.out | refine zbs ?_ GE102.out | refine zbs ?_ GE107.out) | exact HB.out)⟩⟩
           rw [if_neg c26] at H
           have c26b0 : (t108 == 0) = false := beq_eq_false_iff_ne.mpr c26
           have c26b1 : (t108 != 0) = true := bne_iff_ne.mpr c26
           (first | rw [c26b0] | (simp only [i64_w, i32_w]; rw [c26b0]) | skip)
           have H' := zam H
           clear H
           go_wp2
           go_meet
           case rel => exact ⟨_, ((wrap64 (x7_1 + 1))), zq10, H', ⟨by have := HK1.out; have := HJ15.out; first | omega | exact Nat.le_refl _⟩, ⟨by (with_reducible repeat (first | apply zRa | apply zRn | apply zRd)); exact HO_5.out⟩, ⟨by (with_reducible repeat (first | refine zkn ?_ _ | refine zkd ?_ | refine zka ?_ _)); exact BK101.out⟩, ⟨by (with_reducible repeat (first | refine zkn ?_ _ | refine zkd ?_ | refine zka ?_ _)); exact BK102.out⟩, ⟨by (with_reducible repeat (first | refine zkn ?_ _ | refine zkd ?_ | refine zka ?_ _)); exact BK107.out⟩, ⟨by repeat (first | (with_reducible first | exact HB.out | apply zba | apply zbn | apply zb1 | refine zbs ?_ GE101.out | refine zbs ?_ GE102.out | refine zbs ?_ GE107.out) | exact HB.out)⟩⟩
          case rest =>
           clear HC25
           try clear c1
           try clear p1
           try clear q1
           try clear hx1
           try clear c2
           try clear p2
           try clear c3
           try clear c3b0
           try clear c3b1
           try clear c4
           try clear c4b0
           try clear c4b1
           try clear p6
           try clear c7
           try clear c10
           try clear p10
           try clear q10
           try clear hx10
           try clear c12
           try clear c12b0
           try clear c13
           try clear c13b0
           try clear c14
           try clear c14b0
           try clear c18
           try clear c19
           try clear c21
           try clear c24
           try clear c24b0
           try clear c24b1
           try clear c26
           try clear c26b0
           try clear c26b1
           try clear hcz11_0
           try clear hcz20_0
           try clear hcz20_1
           try clear hcz22_0
           try clear hcz22_1
           try clear hcz22_2
           try clear hcz8_0
           try clear hfz11_0
           try clear hfz20_0
           try clear hfz20_1
           try clear hfz22_0
           try clear hfz22_1
           try clear hfz22_2
           try clear hfz8_0
           try clear hx106_0
           try clear hx106_1
           try clear p1
           try clear p10
           try clear p106
           try clear p2
           try clear p6
           try clear q1
           try clear q10
           try clear q106
           obtain ⟨kq, x7_24, rfl, HA, HJ24, HO_5, BK101, BK102, BK107, HB⟩ := hcut
           cases kq with
           | zero => exact absurd HA.out (by simp [sound_risen.j2])
           | succ kj24 =>
            have H := HA.out
            clear HA
            simp only [sound_risen.j2] at H
            by_cases c27 : x6_15 ≥ a1_1
            ·rw [if_pos c27] at H
             have c27b0 : decide (a1_1 ≤ x6_15) = true := zdt c27
             clear c27
             by_cases c28 : 0 ≤ x19_1
             ·rw [if_pos c28] at H
              have c28b0 : decide (0 ≤ x19_1) = true := zdt c28
              clear c28
              by_cases c29 : x19_1 < (x5_1.length : Int)
              ·rw [if_pos c29] at H
               have c29b0 : decide (x19_1 < (x5_1.length : Int)) = true := zdt c29
               clear c29
               obtain ⟨y109, hy109⟩ : ∃ y_ : List Int, y_ = (x5_1.set (x19_1 : Int).toNat 2) := ⟨_, rfl⟩
               replace H : (sound_risen.l0 kj24 y109 x6_15 x7_24 2 l0_0 (l0_0.length : Int) (wrap64 (x19_1 + 1)) a1_0 a1_1 a1_2) = some r := by first | (rw [hy109]; with_reducible exact H) | (have H2_ := (Option.bind_some _ _).symm.trans H; rw [hy109]; with_reducible exact H2_) | (have H2_ := (Option.bind_some _ _).symm.trans H; with_reducible exact H2_) | with_reducible exact H | (rw [hy109]; exact H) | exact H
               have Ny109 := zam hy109
               clear hy109
               have H' := zam H
               clear H
               have hnb31 := NB102_101.out
               have hnc31 := NB101_102.out
               have hnb32 := NB102_107.out
               have hnc32 := NB107_102.out
               have hcz33_0 : wc.cell? ⟨gb102, 0, none⟩ = some (.int .i64 a1_0) := (zkc BK102.out 0).trans rfl
               have hcz33_1 : wc.cell? ⟨gb102, 1, none⟩ = some (.int .i64 a1_1) := (zkc BK102.out 1).trans rfl
               have hcz33_2 : wc.cell? ⟨gb102, 2, none⟩ = some (.int .i64 a1_2) := (zkc BK102.out 2).trans rfl
               have hfz33_0 := zkz BK102.out 0
               have hfz33_1 := zkz BK102.out 1
               have hfz33_2 := zkz BK102.out 2
               have p30 : 0 ≤ (x19_1 : Int) := zod zq9
               have q30 : (x19_1 : Int) < ((x5_1.length : Int) : Int) := zod zq9
               obtain ⟨go30, co30, eo30, gb30, gl30, cl30, HG30⟩ := Kd.R_form HO_5.out (by omega)
               (first | cases eo30 | (injection eo30 with ea_ en_ ec_; (first | subst ea_ | (injection ea_ with ea_; subst ea_)); subst ec_; clear en_))
               have GB30 := zam gb30
               have GG30 := zam HG30
               clear gb30 gl30 HG30
               obtain ⟨hx30_0, hf30_0⟩ := Kd.R_celln 0 HO_5.out (x19_1 : Int) p30 q30
               replace p30 := eq_true p30
               replace q30 := eq_true q30
               have HP34 := Kd.R_putg HO_5.out (x19_1 : Int) 2
               go_wp2_with (first | ((with_reducible refine gate_store (t := 50) (p := 49) rfl ?_); refine store_event (t := 50) (p := 49) (v := ?vo_w35) (w1 := (wc.setCell ⟨go30, (x19_1 : Int).toNat, none⟩ (.int .i64 2))) ?hg ?ho ?hn ?hr ?_; (case ho => rfl); (case hg => rfl); (case hn => rfl); (case hr => first | (go_simp; done) | (go_simp; rfl)); intro w35 hw; have hg : wc.grownBy w35 (some go30) := (by rw [hw]; exact HP34.2); have hp_ : Kd.R (Kd.int .i64) 50 w35 w.heap.size (fun _ => True) (.slice (some ⟨go30, 0, none⟩) x5_1.length co30) y109 := (by rw [hw, Ny109.out]; exact HP34.1); clear HP34; have n0_ := zam (hp_); have n1_ := zam (zkg (g := gb101) (o := .cells #[.slice (some ad106) l0_0.length c0_0] 45 (0, 0)) zq0 hg (Kd.R_ne HO_5.out BK101.out (by decide))); have n2_ := zam (zkg (g := gb102) (o := .cells #[.int .i64 a1_0, .int .i64 a1_1, .int .i64 a1_2] 39 (0, 0)) zq4 hg (Kd.R_ne HO_5.out BK102.out (by decide))); have n3_ := zam (zkg (g := gb107) (o := .cells #[.int .i64 ((rd_T24 l0_0 x19_1).f0), .int .i64 ((rd_T24 l0_0 x19_1).f1)] 24 (0, 0)) zq20 hg (Kd.R_ne HO_5.out BK107.out (by decide))); have n4_ := zam ((by rw [hw]; exact zbs (HB.out) GB30.out : Below w.heap.size w w35)); clear HO_5; clear BK101; clear BK102; clear BK107; clear HB; have HO_5 := n0_; have BK101 := n1_; have BK102 := n2_; have BK107 := n3_; have HB := n4_; clear n0_ n1_ n2_ n3_ n4_; clear hg hw hp_))
               go_roundg kj24
               case measure => have := HK1.out; have := HJ15.out; have := HJ24.out; omega
               case rel => exact ⟨(y109), (x6_15), (x7_24), (2), (wrap64 (x19_1 + 1)), zq10, zq10, zq10, zq10, H', ⟨by have := HK1.out; have := HJ15.out; have := HJ24.out; omega⟩, ⟨by (with_reducible repeat (first | apply zRa | apply zRn | apply zRd)); exact HO_5.out⟩, ⟨by (with_reducible repeat (first | refine zkn ?_ _ | refine zkd ?_ | refine zka ?_ _)); exact BK101.out⟩, ⟨by (with_reducible repeat (first | refine zkn ?_ _ | refine zkd ?_ | refine zka ?_ _)); exact BK102.out⟩, ⟨by repeat (first | (with_reducible first | exact HB.out | apply zba | apply zbn | apply zb1 | refine zbs ?_ GE101.out | refine zbs ?_ GE102.out | refine zbs ?_ GE107.out) | exact HB.out)⟩⟩
              rw [if_neg c29] at H
              exact absurd H (by simp)
             rw [if_neg c28] at H
             exact absurd H (by simp)
            rw [if_neg c27] at H
            have c27b0 : decide (a1_1 ≤ x6_15) = false := zdf c27
            clear c27
            by_cases c36 : x7_24 ≥ a1_1
            ·rw [if_pos c36] at H
             have c36b0 : decide (a1_1 ≤ x7_24) = true := zdt c36
             clear c36
             obtain ⟨ji37, hji37⟩ : ∃ j_ : Int, (mx x8_1 1) = j_ := ⟨_, rfl⟩
             replace H : (if 0 ≤ x19_1 then (if x19_1 < (x5_1.length : Int) then (sound_risen.l0 kj24 (x5_1.set (x19_1 : Int).toNat (ji37)) x6_15 x7_24 ji37 l0_0 (l0_0.length : Int) (wrap64 (x19_1 + 1)) a1_0 a1_1 a1_2) else (none)) else (none)) = some r := by first | (rw [hji37] at H; exact H) | (simp only [hji37] at H ⊢; exact H)
             have hji37_ : (if x8_1 < 1 then 1 else x8_1) = ji37 := hji37
             by_cases c38 : 0 ≤ x19_1
             ·rw [if_pos c38] at H
              have c38b0 : decide (0 ≤ x19_1) = true := zdt c38
              clear c38
              by_cases c39 : x19_1 < (x5_1.length : Int)
              ·rw [if_pos c39] at H
               have c39b0 : decide (x19_1 < (x5_1.length : Int)) = true := zdt c39
               clear c39
               obtain ⟨y110, hy110⟩ : ∃ y_ : List Int, y_ = (x5_1.set (x19_1 : Int).toNat (ji37)) := ⟨_, rfl⟩
               replace H : (sound_risen.l0 kj24 y110 x6_15 x7_24 ji37 l0_0 (l0_0.length : Int) (wrap64 (x19_1 + 1)) a1_0 a1_1 a1_2) = some r := by first | (rw [hy110]; with_reducible exact H) | (have H2_ := (Option.bind_some _ _).symm.trans H; rw [hy110]; with_reducible exact H2_) | (have H2_ := (Option.bind_some _ _).symm.trans H; with_reducible exact H2_) | with_reducible exact H | (rw [hy110]; exact H) | exact H
               have Ny110 := zam hy110
               clear hy110
               have H' := zam H
               clear H
               have hnb41 := NB102_101.out
               have hnc41 := NB101_102.out
               have hnb42 := NB102_107.out
               have hnc42 := NB107_102.out
               have hcz43_0 : wc.cell? ⟨gb102, 0, none⟩ = some (.int .i64 a1_0) := (zkc BK102.out 0).trans rfl
               have hcz43_1 : wc.cell? ⟨gb102, 1, none⟩ = some (.int .i64 a1_1) := (zkc BK102.out 1).trans rfl
               have hcz43_2 : wc.cell? ⟨gb102, 2, none⟩ = some (.int .i64 a1_2) := (zkc BK102.out 2).trans rfl
               have hfz43_0 := zkz BK102.out 0
               have hfz43_1 := zkz BK102.out 1
               have hfz43_2 := zkz BK102.out 2
               have p40 : 0 ≤ (x19_1 : Int) := zod zq9
               have q40 : (x19_1 : Int) < ((x5_1.length : Int) : Int) := zod zq9
               obtain ⟨go40, co40, eo40, gb40, gl40, cl40, HG40⟩ := Kd.R_form HO_5.out (by omega)
               (first | cases eo40 | (injection eo40 with ea_ en_ ec_; (first | subst ea_ | (injection ea_ with ea_; subst ea_)); subst ec_; clear en_))
               have GB40 := zam gb40
               have GG40 := zam HG40
               clear gb40 gl40 HG40
               obtain ⟨hx40_0, hf40_0⟩ := Kd.R_celln 0 HO_5.out (x19_1 : Int) p40 q40
               replace p40 := eq_true p40
               replace q40 := eq_true q40
               have HP44 := Kd.R_putg HO_5.out (x19_1 : Int) ji37
               go_wp2_with (first | ((with_reducible refine gate_store (t := 50) (p := 49) rfl ?_); refine store_event (t := 50) (p := 49) (v := ?vo_w45) (w1 := (wc.setCell ⟨go40, (x19_1 : Int).toNat, none⟩ (.int .i64 ji37))) ?hg ?ho ?hn ?hr ?_; (case ho => rfl); (case hg => rfl); (case hn => rfl); (case hr => first | (go_simp; done) | (go_simp; rfl)); intro w45 hw; have hg : wc.grownBy w45 (some go40) := (by rw [hw]; exact HP44.2); have hp_ : Kd.R (Kd.int .i64) 50 w45 w.heap.size (fun _ => True) (.slice (some ⟨go40, 0, none⟩) x5_1.length co40) y110 := (by rw [hw, Ny110.out]; exact HP44.1); clear HP44; have n0_ := zam (hp_); have n1_ := zam (zkg (g := gb101) (o := .cells #[.slice (some ad106) l0_0.length c0_0] 45 (0, 0)) zq0 hg (Kd.R_ne HO_5.out BK101.out (by decide))); have n2_ := zam (zkg (g := gb102) (o := .cells #[.int .i64 a1_0, .int .i64 a1_1, .int .i64 a1_2] 39 (0, 0)) zq4 hg (Kd.R_ne HO_5.out BK102.out (by decide))); have n3_ := zam (zkg (g := gb107) (o := .cells #[.int .i64 ((rd_T24 l0_0 x19_1).f0), .int .i64 ((rd_T24 l0_0 x19_1).f1)] 24 (0, 0)) zq20 hg (Kd.R_ne HO_5.out BK107.out (by decide))); have n4_ := zam ((by rw [hw]; exact zbs (HB.out) GB40.out : Below w.heap.size w w45)); clear HO_5; clear BK101; clear BK102; clear BK107; clear HB; have HO_5 := n0_; have BK101 := n1_; have BK102 := n2_; have BK107 := n3_; have HB := n4_; clear n0_ n1_ n2_ n3_ n4_; clear hg hw hp_))
               go_roundg kj24
               case measure => have := HK1.out; have := HJ15.out; have := HJ24.out; omega
               case rel => exact ⟨(y110), (x6_15), (x7_24), (ji37), (wrap64 (x19_1 + 1)), zq10, zq10, (by first | rfl | (simp; done) | (simp only [← hji37] <;> (first | rfl | simp)) | (simp [*]; done)), zq10, H', ⟨by have := HK1.out; have := HJ15.out; have := HJ24.out; omega⟩, ⟨by (with_reducible repeat (first | apply zRa | apply zRn | apply zRd)); exact HO_5.out⟩, ⟨by (with_reducible repeat (first | refine zkn ?_ _ | refine zkd ?_ | refine zka ?_ _)); exact BK101.out⟩, ⟨by (with_reducible repeat (first | refine zkn ?_ _ | refine zkd ?_ | refine zka ?_ _)); exact BK102.out⟩, ⟨by repeat (first | (with_reducible first | exact HB.out | apply zba | apply zbn | apply zb1 | refine zbs ?_ GE101.out | refine zbs ?_ GE102.out | refine zbs ?_ GE107.out) | exact HB.out)⟩⟩
              rw [if_neg c39] at H
              exact absurd H (by simp)
             rw [if_neg c38] at H
             exact absurd H (by simp)
            rw [if_neg c36] at H
            have c36b0 : decide (a1_1 ≤ x7_24) = false := zdf c36
            clear c36
            by_cases c46 : 0 ≤ x19_1
            ·rw [if_pos c46] at H
             have c46b0 : decide (0 ≤ x19_1) = true := zdt c46
             clear c46
             by_cases c47 : x19_1 < (x5_1.length : Int)
             ·rw [if_pos c47] at H
              have c47b0 : decide (x19_1 < (x5_1.length : Int)) = true := zdt c47
              clear c47
              obtain ⟨y111, hy111⟩ : ∃ y_ : List Int, y_ = (x5_1.set (x19_1 : Int).toNat x8_1) := ⟨_, rfl⟩
              replace H : (sound_risen.l0 kj24 y111 x6_15 x7_24 x8_1 l0_0 (l0_0.length : Int) (wrap64 (x19_1 + 1)) a1_0 a1_1 a1_2) = some r := by first | (rw [hy111]; with_reducible exact H) | (have H2_ := (Option.bind_some _ _).symm.trans H; rw [hy111]; with_reducible exact H2_) | (have H2_ := (Option.bind_some _ _).symm.trans H; with_reducible exact H2_) | with_reducible exact H | (rw [hy111]; exact H) | exact H
              have Ny111 := zam hy111
              clear hy111
              have H' := zam H
              clear H
              have hnb49 := NB102_101.out
              have hnc49 := NB101_102.out
              have hnb50 := NB102_107.out
              have hnc50 := NB107_102.out
              have hcz51_0 : wc.cell? ⟨gb102, 0, none⟩ = some (.int .i64 a1_0) := (zkc BK102.out 0).trans rfl
              have hcz51_1 : wc.cell? ⟨gb102, 1, none⟩ = some (.int .i64 a1_1) := (zkc BK102.out 1).trans rfl
              have hcz51_2 : wc.cell? ⟨gb102, 2, none⟩ = some (.int .i64 a1_2) := (zkc BK102.out 2).trans rfl
              have hfz51_0 := zkz BK102.out 0
              have hfz51_1 := zkz BK102.out 1
              have hfz51_2 := zkz BK102.out 2
              have p48 : 0 ≤ (x19_1 : Int) := zod zq9
              have q48 : (x19_1 : Int) < ((x5_1.length : Int) : Int) := zod zq9
              obtain ⟨go48, co48, eo48, gb48, gl48, cl48, HG48⟩ := Kd.R_form HO_5.out (by omega)
              (first | cases eo48 | (injection eo48 with ea_ en_ ec_; (first | subst ea_ | (injection ea_ with ea_; subst ea_)); subst ec_; clear en_))
              have GB48 := zam gb48
              have GG48 := zam HG48
              clear gb48 gl48 HG48
              obtain ⟨hx48_0, hf48_0⟩ := Kd.R_celln 0 HO_5.out (x19_1 : Int) p48 q48
              replace p48 := eq_true p48
              replace q48 := eq_true q48
              have HP52 := Kd.R_putg HO_5.out (x19_1 : Int) x8_1
              go_wp2_with (first | ((with_reducible refine gate_store (t := 50) (p := 49) rfl ?_); refine store_event (t := 50) (p := 49) (v := ?vo_w53) (w1 := (wc.setCell ⟨go48, (x19_1 : Int).toNat, none⟩ (.int .i64 x8_1))) ?hg ?ho ?hn ?hr ?_; (case ho => rfl); (case hg => rfl); (case hn => rfl); (case hr => first | (go_simp; done) | (go_simp; rfl)); intro w53 hw; have hg : wc.grownBy w53 (some go48) := (by rw [hw]; exact HP52.2); have hp_ : Kd.R (Kd.int .i64) 50 w53 w.heap.size (fun _ => True) (.slice (some ⟨go48, 0, none⟩) x5_1.length co48) y111 := (by rw [hw, Ny111.out]; exact HP52.1); clear HP52; have n0_ := zam (hp_); have n1_ := zam (zkg (g := gb101) (o := .cells #[.slice (some ad106) l0_0.length c0_0] 45 (0, 0)) zq0 hg (Kd.R_ne HO_5.out BK101.out (by decide))); have n2_ := zam (zkg (g := gb102) (o := .cells #[.int .i64 a1_0, .int .i64 a1_1, .int .i64 a1_2] 39 (0, 0)) zq4 hg (Kd.R_ne HO_5.out BK102.out (by decide))); have n3_ := zam (zkg (g := gb107) (o := .cells #[.int .i64 ((rd_T24 l0_0 x19_1).f0), .int .i64 ((rd_T24 l0_0 x19_1).f1)] 24 (0, 0)) zq20 hg (Kd.R_ne HO_5.out BK107.out (by decide))); have n4_ := zam ((by rw [hw]; exact zbs (HB.out) GB48.out : Below w.heap.size w w53)); clear HO_5; clear BK101; clear BK102; clear BK107; clear HB; have HO_5 := n0_; have BK101 := n1_; have BK102 := n2_; have BK107 := n3_; have HB := n4_; clear n0_ n1_ n2_ n3_ n4_; clear hg hw hp_))
              go_roundg kj24
              case measure => have := HK1.out; have := HJ15.out; have := HJ24.out; omega
              case rel => exact ⟨(y111), (x6_15), (x7_24), (x8_1), (wrap64 (x19_1 + 1)), zq10, zq10, zq10, zq10, H', ⟨by have := HK1.out; have := HJ15.out; have := HJ24.out; omega⟩, ⟨by (with_reducible repeat (first | apply zRa | apply zRn | apply zRd)); exact HO_5.out⟩, ⟨by (with_reducible repeat (first | refine zkn ?_ _ | refine zkd ?_ | refine zka ?_ _)); exact BK101.out⟩, ⟨by (with_reducible repeat (first | refine zkn ?_ _ | refine zkd ?_ | refine zka ?_ _)); exact BK102.out⟩, ⟨by repeat (first | (with_reducible first | exact HB.out | apply zba | apply zbn | apply zb1 | refine zbs ?_ GE101.out | refine zbs ?_ GE102.out | refine zbs ?_ GE107.out) | exact HB.out)⟩⟩
             rw [if_neg c47] at H
             exact absurd H (by simp)
            rw [if_neg c46] at H
            exact absurd H (by simp)
       rw [if_neg c14] at H
       exact absurd H (by simp)
      rw [if_neg c13] at H
      exact absurd H (by simp)
     rw [if_neg c12] at H
     have c12b0 : decide (x19_1 < (l0_0.length : Int)) = false := zdf c12
     clear c12
     obtain rfl := zsi H
     go_wp2
     go_ret
     exact ⟨_, by first | rfl | (simp [errW_none, errW_some] <;> rfl) | (simp [*, errW_none, errW_some] <;> rfl), by (with_reducible repeat (first | apply zRa | apply zRn | apply zRd)); exact HO_5.out, by repeat (first | (with_reducible first | exact HB.out | apply zba | apply zbn | apply zb1 | refine zbs ?_ GE101.out | refine zbs ?_ GE102.out) | exact HB.out)⟩
  rw [if_neg c4] at H
  exact absurd H (by simp)
 rw [if_neg c3] at H
 exact absurd H (by simp)
mutual
def sound_alarm.l0 : Nat → List (S45) → List (List Int) → List (S45) → Int → Int → Int → Int → Int → Option (List Int)
 | 0, _, _, _, _, _, _, _, _ => none
 | k + 1, x0, x5, x13, x14, x15, x102000, x102001, x102002 => if x15 < x14 then (if 0 ≤ x15 then (if x15 < (x13.length : Int) then ((sound_risen.f k ((rd_T45 x13 x15).f0) x102000 x102001 x102002).bind fun t104 => (if x5.length < 5864062014805 then (sound_alarm.l0 k x0 (x5 ++ [t104]) x13 x14 (wrap64 (x15 + 1)) x102000 x102001 x102002) else (none))) else (none)) else (none)) else (if 0 < (x0.length : Int) then (if 0 ≤ (((rd_T45 x0 0).f0).length : Int) then (if ((((rd_T45 x0 0).f0).length : Int) : Int).toNat ≤ 35184372088832 then ((some (List.replicate ((((rd_T45 x0 0).f0).length : Int) : Int).toNat 0 : List Int)).bind fun y111 => (sound_alarm.l1 k x5 y111 (y111.length : Int) 0 x102000 x102001 x102002)) else (none)) else (none)) else (none))
def sound_alarm.l1 : Nat → List (List Int) → List Int → Int → Int → Int → Int → Int → Option (List Int)
 | 0, _, _, _, _, _, _, _ => none
 | k + 1, x5, x8, x33, x34, x102000, x102001, x102002 => if x34 < x33 then (sound_alarm.l2 k x5 x8 x34 ([] : List Int) x33 x34 x5 (x5.length : Int) 0 x102000 x102001 x102002) else (some x8)
def sound_alarm.l2 : Nat → List (List Int) → List Int → Int → List Int → Int → Int → List (List Int) → Int → Int → Int → Int → Int → Option (List Int)
 | 0, _, _, _, _, _, _, _, _, _, _, _, _ => none
 | k + 1, x5, x8, x9, x10, x33, x34, x37, x38, x39, x102000, x102001, x102002 => if x39 < x38 then (if 0 ≤ x39 then (if x39 < (x37.length : Int) then (if 0 ≤ x9 then (if x9 < ((rd_L4 x37 x39).length : Int) then (if x10.length < 17592186044416 then (sound_alarm.l2 k x5 x8 x9 (x10 ++ [rd (rd_L4 x37 x39) x9]) x33 x34 x37 x38 (wrap64 (x39 + 1)) x102000 x102001 x102002) else (none)) else (none)) else (none)) else (none)) else (none)) else ((sound_enough.f k x102002 x10).bind fun t119 => (if 0 ≤ x9 then (if x9 < (x8.length : Int) then (sound_alarm.l1 k x5 (x8.set (x9 : Int).toNat t119) x33 (wrap64 (x34 + 1)) x102000 x102001 x102002) else (none)) else (none)))
end
def sound_alarm.f (k : Nat) (l0 : List (S45)) (a1_0 : Int) (a1_1 : Int) (a1_2 : Int) : Option (List Int) := sound_alarm.l0 k l0 ([] : List (List Int)) l0 (l0.length : Int) 0 a1_0 a1_1 a1_2
theorem sound_alarm.mono_l : ∀ k, (∀ y0 y1 y2 y3 y4 y5 y6 y7, LeO (sound_alarm.l0 k y0 y1 y2 y3 y4 y5 y6 y7) (sound_alarm.l0 (k + 1) y0 y1 y2 y3 y4 y5 y6 y7)) ∧ (∀ y0 y1 y2 y3 y4 y5 y6, LeO (sound_alarm.l1 k y0 y1 y2 y3 y4 y5 y6) (sound_alarm.l1 (k + 1) y0 y1 y2 y3 y4 y5 y6)) ∧ (∀ y0 y1 y2 y3 y4 y5 y6 y7 y8 y9 y10 y11, LeO (sound_alarm.l2 k y0 y1 y2 y3 y4 y5 y6 y7 y8 y9 y10 y11) (sound_alarm.l2 (k + 1) y0 y1 y2 y3 y4 y5 y6 y7 y8 y9 y10 y11))
 | 0 => ⟨fun _ _ _ _ _ _ _ _ r h => by simp [sound_alarm.l0] at h, fun _ _ _ _ _ _ _ r h => by simp [sound_alarm.l1] at h, fun _ _ _ _ _ _ _ _ _ _ _ _ r h => by simp [sound_alarm.l2] at h⟩
 | k + 1 => by
  obtain ⟨ih0, ih1, ih2⟩ := sound_alarm.mono_l k
  refine ⟨?_, ?_, ?_⟩
  ·intro y0 y1 y2 y3 y4 y5 y6 y7
   unfold sound_alarm.l0
   repeat' first
   | (with_reducible exact ih0 _ _ _ _ _ _ _ _)
   | (with_reducible exact ih1 _ _ _ _ _ _ _)
   | (with_reducible exact ih2 _ _ _ _ _ _ _ _ _ _ _ _)
   | (with_reducible exact sound_enough.mono _ _ _)
   | (with_reducible exact sound_risen.mono _ _ _ _ _)
   | (with_reducible exact LeO.refl _)
   | (with_reducible exact LeO.none _)
   | (with_reducible refine LeO.ite ?_ ?_)
   | (with_reducible refine LeO.bind ?_ (fun _ => ?_))
   | exact ih0 _ _ _ _ _ _ _ _
   | exact ih1 _ _ _ _ _ _ _
   | exact ih2 _ _ _ _ _ _ _ _ _ _ _ _
   | exact sound_enough.mono _ _ _
   | exact sound_risen.mono _ _ _ _ _
   | exact LeO.none _
   | refine LeO.ite ?_ ?_
   | refine LeO.bind ?_ (fun _ => ?_)
  ·intro y0 y1 y2 y3 y4 y5 y6
   unfold sound_alarm.l1
   repeat' first
   | (with_reducible exact ih0 _ _ _ _ _ _ _ _)
   | (with_reducible exact ih1 _ _ _ _ _ _ _)
   | (with_reducible exact ih2 _ _ _ _ _ _ _ _ _ _ _ _)
   | (with_reducible exact sound_enough.mono _ _ _)
   | (with_reducible exact sound_risen.mono _ _ _ _ _)
   | (with_reducible exact LeO.refl _)
   | (with_reducible exact LeO.none _)
   | (with_reducible refine LeO.ite ?_ ?_)
   | (with_reducible refine LeO.bind ?_ (fun _ => ?_))
   | exact ih0 _ _ _ _ _ _ _ _
   | exact ih1 _ _ _ _ _ _ _
   | exact ih2 _ _ _ _ _ _ _ _ _ _ _ _
   | exact sound_enough.mono _ _ _
   | exact sound_risen.mono _ _ _ _ _
   | exact LeO.none _
   | refine LeO.ite ?_ ?_
   | refine LeO.bind ?_ (fun _ => ?_)
  intro y0 y1 y2 y3 y4 y5 y6 y7 y8 y9 y10 y11
  unfold sound_alarm.l2
  repeat' first
  | (with_reducible exact ih0 _ _ _ _ _ _ _ _)
  | (with_reducible exact ih1 _ _ _ _ _ _ _)
  | (with_reducible exact ih2 _ _ _ _ _ _ _ _ _ _ _ _)
  | (with_reducible exact sound_enough.mono _ _ _)
  | (with_reducible exact sound_risen.mono _ _ _ _ _)
  | (with_reducible exact LeO.refl _)
  | (with_reducible exact LeO.none _)
  | (with_reducible refine LeO.ite ?_ ?_)
  | (with_reducible refine LeO.bind ?_ (fun _ => ?_))
  | exact ih0 _ _ _ _ _ _ _ _
  | exact ih1 _ _ _ _ _ _ _
  | exact ih2 _ _ _ _ _ _ _ _ _ _ _ _
  | exact sound_enough.mono _ _ _
  | exact sound_risen.mono _ _ _ _ _
  | exact LeO.none _
  | refine LeO.ite ?_ ?_
  | refine LeO.bind ?_ (fun _ => ?_)
theorem sound_alarm.mono : ∀ a0 a1 a2 a3 k, LeO (sound_alarm.f k a0 a1 a2 a3) (sound_alarm.f (k + 1) a0 a1 a2 a3) := by
 intro a0 a1 a2 a3 k
 obtain ⟨ih0, ih1, ih2⟩ := sound_alarm.mono_l k
 unfold sound_alarm.f
 repeat' first
   | (with_reducible exact ih0 _ _ _ _ _ _ _ _)
   | (with_reducible exact ih1 _ _ _ _ _ _ _)
   | (with_reducible exact ih2 _ _ _ _ _ _ _ _ _ _ _ _)
   | (with_reducible exact sound_enough.mono _ _ _)
   | (with_reducible exact sound_risen.mono _ _ _ _ _)
   | (with_reducible exact LeO.refl _)
   | (with_reducible exact LeO.none _)
   | (with_reducible refine LeO.ite ?_ ?_)
   | (with_reducible refine LeO.bind ?_ (fun _ => ?_))
   | exact ih0 _ _ _ _ _ _ _ _
   | exact ih1 _ _ _ _ _ _ _
   | exact ih2 _ _ _ _ _ _ _ _ _ _ _ _
   | exact sound_enough.mono _ _ _
   | exact sound_risen.mono _ _ _ _ _
   | exact LeO.none _
   | refine LeO.ite ?_ ?_
   | refine LeO.bind ?_ (fun _ => ?_)
set_option maxHeartbeats 8000000 in
set_option maxRecDepth 100000 in
theorem sound_alarm.calls (k : Nat) (A0 : Option Addr) (c0 : Nat) (l0 : List (S45)) (a1_0 : Int) (a1_1 : Int) (a1_2 : Int) (r : List Int) (w : World) (hr0 : Kd.C k45 w A0 l0.length l0) (hc0 : l0.length ≤ c0) (h : sound_alarm.f k l0 a1_0 a1_1 a1_2 = some r) :
  Calls Try.prog 62 #[.slice A0 l0.length c0, .agg #[.int .i64 a1_0, .int .i64 a1_1, .int .i64 a1_2]] w fun e w' => ∃ v0_ : Value, e = .returned (v0_) ∧ Kd.R (Kd.int .i64) 50 w' w.heap.size (fun _ => True) v0_ r ∧ Below w.heap.size w w' := by
 have hu39 := Try.underlying39
 have hu45 := Try.underlying45
 have HR0 := zam hr0
 have HC0 := zam hc0
 clear hr0 hc0
 have HB := zam (Below.refl w.heap.size w)
 have H : (sound_alarm.l0 k l0 ([] : List (List Int)) l0 (l0.length : Int) 0 a1_0 a1_1 a1_2) = some r := h
 clear h
 have H' := zam H
 clear H
 go_enter Try.func62, Try.ntmps62
 go_wp2_with (first | ((with_reducible refine zgd (N := 3) rfl ?_); refine box_event ?hg (N := 3) ?hd (cs := #[.int .i64 a1_0, .int .i64 a1_1, .int .i64 a1_2]) (t := 39) ?hr ?_; (case hd => rfl); (case hg => rfl); (case hr => first | (go_simp; done) | (go_simp; rfl)); intro gb101 hg w3 hbox hb; have n0_ := zam (zbt zq1 hb); have n1_ := zam (hbox); have n2_ := zam ((by rw [hg]; exact (zbz zq1) : w.heap.size ≤ gb101)); have n3_ := zam ((by rw [hg]; exact (zbz zq1) : w.heap.size ≤ gb101)); clear HB; have HB := n0_; have BK101 := n1_; have GW101 := n2_; have GE101 := n3_; clear n0_ n1_ n2_ n3_; clear hb hbox hg))
 go_loopg [5, 15] k (fun kq v5 v15 w' => ∃ (x5_1 : List (List Int)) (x15_1 : Int), v15 = .int .i64 x15_1 ∧ Aside0 (sound_alarm.l0 kq l0 x5_1 l0 (l0.length : Int) x15_1 a1_0 a1_1 a1_2 = some r) ∧ Aside0 (kq ≤ k) ∧ Aside0 (Kd.S (Kd.slice 50 (Kd.int .i64)) 66 w' w.heap.size (fun _ => True) v5 x5_1) ∧ Aside0 (w'.heap[gb101]? = some (.cells #[.int .i64 a1_0, .int .i64 a1_1, .int .i64 a1_2] 39 (0, 0))) ∧ Aside0 (Below w.heap.size w w'))
 case atStart => exact ⟨(([] : List (List Int))), (0), zq10, H', ⟨Nat.le_refl _⟩, ⟨by first | exact Kd.S_nil _ _ _ _ _ | exact Kd.N_nil _ _ _ _ _ | exact Kd.V_nil _ _ _ _ _ | exact Kd.Q_nil _ _ _ _ _ | exact Kd.R_nil _ _ _ _ _⟩, ⟨by (with_reducible repeat (first | refine zkn ?_ _ | refine zkd ?_ | refine zka ?_ _)); exact BK101.out⟩, ⟨by repeat (first | (with_reducible first | exact HB.out | apply zba | apply zbn | apply zb1 | refine zbs ?_ GE101.out) | exact HB.out)⟩⟩
 case round =>
  clear H'
  try clear p2
  obtain ⟨x5_1, x15_1, rfl, HA, HK1, HO_5, BK101, HB⟩ := hrel
  cases gk with
  | zero => exact absurd HA.out (by simp [sound_alarm.l0])
  | succ k1 =>
   have H := HA.out
   clear HA
   simp only [sound_alarm.l0] at H
   by_cases c4 : x15_1 < (l0.length : Int)
   ·rw [if_pos c4] at H
    have c4b0 : decide (x15_1 < (l0.length : Int)) = true := zdt c4
    clear c4
    by_cases c5 : 0 ≤ x15_1
    ·rw [if_pos c5] at H
     have c5b0 : decide (0 ≤ x15_1) = true := zdt c5
     clear c5
     by_cases c6 : x15_1 < (l0.length : Int)
     ·rw [if_pos c6] at H
      have c6b0 : decide (x15_1 < (l0.length : Int)) = true := zdt c6
      clear c6
      replace H := Option.bind_eq_some_iff.mp H
      obtain ⟨t104, A70, H⟩ := H
      replace H : (if x5_1.length < 5864062014805 then (sound_alarm.l0 k1 l0 (x5_1 ++ [t104]) l0 (l0.length : Int) (wrap64 (x15_1 + 1)) a1_0 a1_1 a1_2) else (none)) = some r := H
      have A7 := zam A70
      clear A70
      by_cases c8 : x5_1.length < 5864062014805
      ·rw [if_pos c8] at H
       have LMc8 := zam c8
       clear c8
       obtain ⟨y107, hy107⟩ : ∃ y_ : List (List Int), y_ = (x5_1 ++ [t104]) := ⟨_, rfl⟩
       replace H : (sound_alarm.l0 k1 l0 y107 l0 (l0.length : Int) (wrap64 (x15_1 + 1)) a1_0 a1_1 a1_2) = some r := by first | (rw [hy107]; with_reducible exact H) | (have H2_ := (Option.bind_some _ _).symm.trans H; rw [hy107]; with_reducible exact H2_) | (have H2_ := (Option.bind_some _ _).symm.trans H; with_reducible exact H2_) | with_reducible exact H | (rw [hy107]; exact H) | exact H
       have Ny107 := zam hy107
       clear hy107
       have H' := zam H
       clear H
       have p102 : 0 ≤ (x15_1 : Int) := zod zq9
       have q102 : x15_1 < (l0.length : Int) := zod zq9
       obtain ⟨ad102, A102_0, c102_0, e102, hx102_0, hl102_0, hi102_0⟩ := at_T45 HR0.out x15_1 p102 q102
       cases e102
       replace hx102_0 := (HB.out.cell (zwb w _ hx102_0)).trans hx102_0
       have HR102_0 := zam hi102_0
       have HC102_0 := zam hl102_0
       clear hi102_0 hl102_0
       replace p102 := eq_true p102
       replace q102 := eq_true q102
       go_wp2_with (first | ((with_reducible refine zgd (N := 7) rfl ?_); refine box_event ?hg (N := 7) ?hd (cs := #[.slice none 0 0]) (t := 45) ?hr ?_; (case hd => rfl); (case hg => rfl); (case hr => first | (go_simp; done) | (go_simp; rfl)); intro gb103 hg w9 hbox hb; have n0_ := zam (Kd.S_below (by (with_reducible repeat (first | apply Kd.S_alloc | apply Kd.S_drewN | apply Kd.S_drew)); exact HO_5.out) hb); have n1_ := zam (zkb (g := gb101) (o := .cells #[.int .i64 a1_0, .int .i64 a1_1, .int .i64 a1_2] 39 (0, 0)) zq0 hb); have n2_ := zam (zbt zq2 hb); have n3_ := zam (hbox); have n4_ := zam ((by rw [hg]; exact (zbz zq2) : w.heap.size ≤ gb103)); have n5_ := zam ((by rw [hg]; exact (zbz zq2) : w.heap.size ≤ gb103)); have n6_ := zam ((by rw [hg]; exact Nat.ne_of_lt (blk_lt (g := gb101) (o := .cells #[.int .i64 a1_0, .int .i64 a1_1, .int .i64 a1_2] 39 (0, 0)) zq0) : gb101 ≠ gb103)); have n7_ := zam ((by rw [hg]; exact Nat.ne_of_gt (blk_lt (g := gb101) (o := .cells #[.int .i64 a1_0, .int .i64 a1_1, .int .i64 a1_2] 39 (0, 0)) zq0) : gb103 ≠ gb101)); clear HO_5; clear BK101; clear HB; have HO_5 := n0_; have BK101 := n1_; have HB := n2_; have BK103 := n3_; have GW103 := n4_; have GE103 := n5_; have NB101_103 := n6_; have NB103_101 := n7_; clear n0_ n1_ n2_ n3_ n4_ n5_ n6_ n7_; clear hb hbox hg; have hnb10 := NB103_101.out; have hnc10 := NB101_103.out; have hcz11_0 : w9.cell? ⟨gb103, 0, none⟩ = some (.slice none 0 0) := (zkc BK103.out 0).trans rfl; have hfz11_0 := zkz BK103.out 0; have hcz12_0 : w9.cell? ⟨gb101, 0, none⟩ = some (.int .i64 a1_0) := (zkc BK101.out 0).trans rfl; have hcz12_1 : w9.cell? ⟨gb101, 1, none⟩ = some (.int .i64 a1_1) := (zkc BK101.out 1).trans rfl; have hcz12_2 : w9.cell? ⟨gb101, 2, none⟩ = some (.int .i64 a1_2) := (zkc BK101.out 2).trans rfl; have hfz12_0 := zkz BK101.out 0; have hfz12_1 := zkz BK101.out 1; have hfz12_2 := zkz BK101.out 2) | ((with_reducible refine zgc (f := 106) rfl ?_); refine goesL_ (some 22) rfl rfl Try.func106 (by kernel_rfl) rfl #[.agg #[.slice A102_0 ((rd_T45 l0 x15_1).f0).length c102_0], .agg #[.int .i64 a1_0, .int .i64 a1_1, .int .i64 a1_2]] rfl zq5 ?_; (with_reducible refine (sound_risen.calls k1 _ _ ((rd_T45 l0 x15_1).f0) a1_0 a1_1 a1_2 t104 _ ?side1 ?side2 A7.out).mono ?_); (case side1 => exact Kd.C_below HR102_0.out zq24); (case side2 => exact HC102_0.out); rintro e w13 ⟨v105, rfl, ho0, hb⟩; refine ⟨_, rfl, ?_⟩; have n0_ := zam (Kd.S_elder' (by (with_reducible repeat (first | apply Kd.S_alloc | apply Kd.S_drewN | apply Kd.S_drew)); exact (Kd.S_mono (Kd.S_far (p := ⟨gb103, 0, none⟩) (Kd.S_types HO_5.out BK103.out (by decide)) (fun _ hk => hk.2) (.slice A102_0 ((rd_T45 l0 x15_1).f0).length c102_0)) (fun _ h_ => h_.1))) (Kd.R_base ho0) hb); have n1_ := zam (Kd.R_lower ho0 (zbz zq24)); have n2_ := zam (zkb (g := gb101) (o := .cells #[.int .i64 a1_0, .int .i64 a1_1, .int .i64 a1_2] 39 (0, 0)) (by (with_reducible repeat (first | refine zkn ?_ _ | refine zkd ?_ | refine zka ?_ _)); refine zkf ?_ NB101_103.out _; (with_reducible repeat (first | refine zkn ?_ _ | refine zkd ?_ | refine zka ?_ _)); exact BK101.out) hb); have n3_ := zam (zkb (g := gb103) (o := .cells #[.slice A102_0 ((rd_T45 l0 x15_1).f0).length c102_0] 45 (0, 0)) (by (with_reducible repeat (first | refine zkn ?_ _ | refine zkd ?_ | refine zka ?_ _)); refine blk_put (cs := #[.slice none 0 0]) ?_ 0 _ rfl; (with_reducible repeat (first | refine zkn ?_ _ | refine zkd ?_ | refine zka ?_ _)); exact BK103.out) hb); have n4_ := zam (zbt zq24 hb); clear HO_5; clear BK101; clear BK103; clear HB; have HO_5 := n0_; have HO106 := n1_; have BK101 := n2_; have BK103 := n3_; have HB := n4_; clear n0_ n1_ n2_ n3_ n4_; (try clear hb); (try clear hb2); (try clear hk); (try clear hi); (try clear ho0); obtain ⟨Ao15, co15, eo15⟩ := Kd.R_slice HO106.out; subst eo15) | ((with_reducible refine gate_builtin (b := .append) (xs := #[.tmp 19, .tmp 23]) rfl ?_); at_builtin; refine Kd.S_append (Kd.slice 50 (Kd.int .i64)) (w0 := w) w.heap.size rfl (.tmp 19) (.tmp 23) 143 66 (.slice none 0 0) 24 rfl Try.underlying143 info66 rfl (by decide) (by omega) u5 x5_1 t104 [.slice Ao15 t104.length co15] (fun _ => True) (fun k_ => some k_ = (.slice Ao15 t104.length co15 : Value).ownBlock) rfl rfl ?aP (fun k_ hk_ => ((Kd.R_mono (ok' := fun k_ => ((fun _ => True)) k_ ∧ some k_ ≠ (u5 : Value).ownBlock) (Kd.R_apart' (HO106.out) (Kd.S_typed HO_5.out) (by decide)) (fun k_ hk => ⟨trivial, hk.2⟩))).1 k_ hk_.symm) ?aF ?aO ?aB ?aS ?aL ?_; (case aP => exact Kd.M_row (Kd.R_mono (Kd.R_tight rfl (Kd.R_mono (ok' := fun k_ => ((fun _ => True)) k_ ∧ some k_ ≠ (u5 : Value).ownBlock) (Kd.R_apart' (HO106.out) (Kd.S_typed HO_5.out) (by decide)) (fun k_ hk => ⟨trivial, hk.2⟩))) (fun _ h_ => h_))); (case aB => exact zq24); (case aF => exact (fun _ _ => trivial)); (case aO => exact (by (with_reducible repeat (first | apply Kd.S_alloc | apply Kd.S_drewN | apply Kd.S_drew)); exact Kd.S_mono HO_5.out (fun k_ hk => ⟨trivial, fun e_ => hk.2 e_⟩))); (case aS => exact (zbz zq24)); (case aL => have := LMc8.out; omega); intro v108 w14 ho hb hg hat; rw [← Ny107.out] at ho; have n0_ := zam (zkg (g := gb101) (o := .cells #[.int .i64 a1_0, .int .i64 a1_1, .int .i64 a1_2] 39 (0, 0)) zq0 hg (Kd.S_ne HO_5.out BK101.out (by decide))); have n1_ := zam (zkg (g := gb103) (o := .cells #[.slice A102_0 ((rd_T45 l0 x15_1).f0).length c102_0] 45 (0, 0)) zq6 hg (Kd.S_ne HO_5.out BK103.out (by decide))); have n2_ := zam (hb); have n3_ := zam (ho); clear BK101; clear BK103; clear HB; clear HO_5; clear HO106; have BK101 := n0_; have BK103 := n1_; have HB := n2_; have HO109 := n3_; clear n0_ n1_ n2_ n3_; clear ho hb hg hat))
       go_roundg k1
       case measure => have := HK1.out; omega
       case rel => exact ⟨(y107), (wrap64 (x15_1 + 1)), zq10, H', ⟨by have := HK1.out; omega⟩, ⟨by (with_reducible repeat (first | apply Kd.S_alloc | apply Kd.S_drewN | apply Kd.S_drew)); exact HO109.out⟩, ⟨by (with_reducible repeat (first | refine zkn ?_ _ | refine zkd ?_ | refine zka ?_ _)); exact BK101.out⟩, ⟨by repeat (first | (with_reducible first | exact HB.out | apply zba | apply zbn | apply zb1 | refine zbs ?_ GE101.out | refine zbs ?_ GE103.out) | exact HB.out)⟩⟩
      rw [if_neg c8] at H
      exact absurd H (by simp)
     rw [if_neg c6] at H
     exact absurd H (by simp)
    rw [if_neg c5] at H
    exact absurd H (by simp)
   rw [if_neg c4] at H
   have c4b0 : decide (x15_1 < (l0.length : Int)) = false := zdf c4
   clear c4
   by_cases c16 : 0 < (l0.length : Int)
   ·rw [if_pos c16] at H
    have c16b0 : decide (0 < (l0.length : Int)) = true := zdt c16
    have c16b1 : decide (0 < l0.length) = true := zdt (by omega)
    clear c16
    by_cases c17 : 0 ≤ (((rd_T45 l0 0).f0).length : Int)
    ·rw [if_pos c17] at H
     have c17b0 := eq_true c17
     have c17b1 : decide (0 ≤ (((rd_T45 l0 0).f0).length : Int)) = true := zdt c17
     clear c17
     by_cases c18 : ((((rd_T45 l0 0).f0).length : Int) : Int).toNat ≤ 35184372088832
     ·rw [if_pos c18] at H
      have c18b0 := eq_true c18
      have c18b1 : decide (((((rd_T45 l0 0).f0).length : Int) : Int).toNat ≤ 35184372088832) = true := zdt c18
      clear c18
      obtain ⟨y111, hy111⟩ : ∃ y_ : List Int, y_ = (List.replicate ((((rd_T45 l0 0).f0).length : Int) : Int).toNat 0) := ⟨_, rfl⟩
      replace H : (sound_alarm.l1 k1 x5_1 y111 (y111.length : Int) 0 a1_0 a1_1 a1_2) = some r := by first | (rw [hy111]; with_reducible exact H) | (have H2_ := (Option.bind_some _ _).symm.trans H; rw [hy111]; with_reducible exact H2_) | (have H2_ := (Option.bind_some _ _).symm.trans H; with_reducible exact H2_) | with_reducible exact H | (rw [hy111]; exact H) | exact H
      have Ny111 := zam hy111
      clear hy111
      have H' := zam H
      clear H
      have p110 : 0 ≤ (0 : Int) := (by omega)
      have q110 : 0 < (l0.length : Int) := zod zq9
      obtain ⟨ad110, A110_0, c110_0, e110, hx110_0, hl110_0, hi110_0⟩ := at_T45 HR0.out 0 p110 q110
      cases e110
      have qi110 : (0 < l0.length) = True := eq_true (by omega)
      (try rw [show ((0 : Int)).toNat = 0 from rfl] at hx110_0)
      (try rw [Addr.add_zero'] at hx110_0)
      replace hx110_0 := (HB.out.cell (zwb w _ hx110_0)).trans hx110_0
      have HR110_0 := zam hi110_0
      have HC110_0 := zam hl110_0
      clear hi110_0 hl110_0
      replace p110 := eq_true p110
      replace q110 := eq_true q110
      go_wp2_with (first | ((with_reducible refine zgd (N := 31) rfl ?_); refine Kd.R_make (Kd.int .i64) _ 50 rfl (N := 31) rfl 66 _ _ rfl (((rd_T45 l0 0).f0).length : Int) rfl rfl Try.underlying66 (.int .i64 0) 8 info50 rfl (by decide) (by omega) 0 (ok := fun _ => True) (okp := fun _ => True) rfl (fun _ hk => hk) trivial (zod zq9) (Nat.le_trans (Nat.mul_le_mul_right _ (zod zq9 : (((rd_T45 l0 0).f0).length : Int).toNat ≤ 35184372088832)) (by omega)) (Below.refl _ _) (Nat.le_refl _) ?_; intro v112 w19 ho20 hb hg_ hnew_; clear hg_ hnew_; (first | rw [← Ny111.out] at ho20 | (simp only [Int.reduceToNat] at ho20; rw [← Ny111.out] at ho20)); have n0_ := zam (Kd.S_elder' (by (with_reducible repeat (first | apply Kd.S_alloc | apply Kd.S_drewN | apply Kd.S_drew)); exact HO_5.out) (Kd.R_base ho20) hb); have n1_ := zam (Kd.R_lower ho20 (zbz zq2)); have n2_ := zam (zkb (g := gb101) (o := .cells #[.int .i64 a1_0, .int .i64 a1_1, .int .i64 a1_2] 39 (0, 0)) zq0 hb); have n3_ := zam (zbt zq2 hb); clear HO_5; clear BK101; clear HB; have HO_5 := n0_; have HO113 := n1_; have BK101 := n2_; have HB := n3_; clear n0_ n1_ n2_ n3_; clear hb ho20; obtain ⟨Ao21, co21, eo21⟩ := Kd.R_slice HO113.out; subst eo21))
      go_loopg [34] k1 (fun kq v34 w' => ∃ (x8_2 : List Int) (x34_2 : Int), v34 = .int .i64 x34_2 ∧ Aside0 (sound_alarm.l1 kq x5_1 x8_2 (y111.length : Int) x34_2 a1_0 a1_1 a1_2 = some r) ∧ Aside0 (kq ≤ k1) ∧ Aside0 (Kd.S (Kd.slice 50 (Kd.int .i64)) 66 w' w.heap.size (fun k_ => some k_ ≠ ((.slice Ao21 y111.length co21) : Value).ownBlock) u5 x5_1) ∧ Aside0 (Kd.R (Kd.int .i64) 50 w' w.heap.size (fun _ => True) (.slice Ao21 y111.length co21) x8_2) ∧ Aside0 (w'.heap[gb101]? = some (.cells #[.int .i64 a1_0, .int .i64 a1_1, .int .i64 a1_2] 39 (0, 0))) ∧ Aside0 (Below w.heap.size w w'))
      case atStart => exact ⟨(y111), (0), zq10, H', ⟨Nat.le_refl _⟩, ⟨by (with_reducible repeat (first | apply Kd.S_alloc | apply Kd.S_drewN | apply Kd.S_drew)); exact Kd.S_mono HO_5.out (fun _ hk => hk.2)⟩, ⟨by (with_reducible repeat (first | apply zRa | apply zRn | apply zRd)); exact HO113.out⟩, ⟨by (with_reducible repeat (first | refine zkn ?_ _ | refine zkd ?_ | refine zka ?_ _)); exact BK101.out⟩, ⟨by repeat (first | (with_reducible first | exact HB.out | apply zba | apply zbn | apply zb1 | refine zbs ?_ GE101.out) | exact HB.out)⟩⟩
      case round =>
       clear H'
       try clear c1
       try clear p1
       try clear q1
       try clear hx1
       try clear qi1
       try clear p2
       try clear c4
       try clear c4b0
       try clear c5
       try clear c5b0
       try clear c6
       try clear c6b0
       try clear p6
       try clear c8
       try clear c10
       try clear p10
       try clear q10
       try clear hx10
       try clear c11
       try clear p11
       try clear q11
       try clear hx11
       try clear qi11
       try clear c16
       try clear c16b0
       try clear c16b1
       try clear c17
       try clear c17b0
       try clear c17b1
       try clear c18
       try clear c18b0
       try clear c18b1
       try clear hcz11_0
       try clear hcz12_0
       try clear hcz12_1
       try clear hcz12_2
       try clear hfz11_0
       try clear hfz12_0
       try clear hfz12_1
       try clear hfz12_2
       try clear hx102_0
       try clear hx110_0
       try clear p102
       try clear p110
       try clear p2
       try clear q102
       try clear q110
       obtain ⟨x8_2, x34_2, rfl, HA, HK2, HO_5, HO_8, BK101, HB⟩ := hrel
       have hl8_2 := (Kd.R_reads' HO_8.out).1
       rw [hl8_2] at HO_8
       (try simp only [hl8_2])
       (try simp only [hl8_2] at BK101)
       (try simp only [hl8_2] at HO_5)
       cases gk with
       | zero => exact absurd HA.out (by simp [sound_alarm.l1])
       | succ k2 =>
        have H := HA.out
        clear HA
        simp only [sound_alarm.l1] at H
        by_cases c22 : x34_2 < (y111.length : Int)
        ·rw [if_pos c22] at H
         have c22b0 : decide (x34_2 < (y111.length : Int)) = true := zdt c22
         (try (have c22b0y := c22b0; rw [hl8_2] at c22b0y))
         clear c22
         have H' := zam H
         clear H
         obtain ⟨Ao23, co23, eo23⟩ := Kd.S_slice HO_5.out
         subst eo23
         go_wp2
         go_loopg [10, 39] k2 (fun kq v10 v39 w' => ∃ (x10_3 : List Int) (x39_3 : Int), v39 = .int .i64 x39_3 ∧ Aside0 (sound_alarm.l2 kq x5_1 x8_2 x34_2 x10_3 (y111.length : Int) x34_2 x5_1 (x5_1.length : Int) x39_3 a1_0 a1_1 a1_2 = some r) ∧ Aside0 (kq ≤ k2) ∧ Aside0 (Kd.S (Kd.slice 50 (Kd.int .i64)) 66 w' w.heap.size (fun k_ => some k_ ≠ ((.slice Ao21 x8_2.length co21) : Value).ownBlock ∧ some k_ ≠ (v10 : Value).ownBlock) (.slice Ao23 x5_1.length co23) x5_1) ∧ Aside0 (Kd.R (Kd.int .i64) 50 w' w.heap.size (fun k_ => some k_ ≠ (v10 : Value).ownBlock) (.slice Ao21 x8_2.length co21) x8_2) ∧ Aside0 (Kd.R (Kd.int .i64) 50 w' w.heap.size (fun k_ => some k_ ≠ ((.slice Ao21 x8_2.length co21) : Value).ownBlock) v10 x10_3) ∧ Aside0 (Kd.S (Kd.slice 50 (Kd.int .i64)) 66 w' w.heap.size (fun k_ => some k_ ≠ ((.slice Ao21 x8_2.length co21) : Value).ownBlock ∧ some k_ ≠ (v10 : Value).ownBlock) (.slice Ao23 x5_1.length co23) x5_1) ∧ Aside0 (w'.heap[gb101]? = some (.cells #[.int .i64 a1_0, .int .i64 a1_1, .int .i64 a1_2] 39 (0, 0))) ∧ Aside0 (Below w.heap.size w w'))
         case atStart => exact ⟨(([] : List Int)), (0), zq10, H', ⟨Nat.le_refl _⟩, ⟨by (try simp only [hl8_2]); (with_reducible repeat (first | apply Kd.S_alloc | apply Kd.S_drewN | apply Kd.S_drew)); exact Kd.S_mono HO_5.out (fun _ hk => ⟨hk, (by simp [Value.ownBlock])⟩)⟩, ⟨by (try simp only [hl8_2]); (with_reducible repeat (first | apply zRa | apply zRn | apply zRd)); exact Kd.R_mono HO_8.out (fun _ hk => (by simp [Value.ownBlock]))⟩, ⟨by (try simp only [hl8_2]); first | exact Kd.R_nil _ _ _ _ _ | exact Kd.N_nil _ _ _ _ _ | exact Kd.V_nil _ _ _ _ _ | exact Kd.Q_nil _ _ _ _ _ | exact Kd.S_nil _ _ _ _ _⟩, ⟨by (try simp only [hl8_2]); (with_reducible repeat (first | apply Kd.S_alloc | apply Kd.S_drewN | apply Kd.S_drew)); exact Kd.S_mono HO_5.out (fun _ hk => ⟨hk, (by simp [Value.ownBlock])⟩)⟩, ⟨by (try simp only [hl8_2]); (with_reducible repeat (first | refine zkn ?_ _ | refine zkd ?_ | refine zka ?_ _)); exact BK101.out⟩, ⟨by repeat (first | (with_reducible first | exact HB.out | apply zba | apply zbn | apply zb1 | refine zbs ?_ GE101.out) | exact HB.out)⟩⟩
         case round =>
          clear H'
          try clear c1
          try clear p1
          try clear q1
          try clear hx1
          try clear qi1
          try clear c2
          try clear p2
          try clear c4
          try clear c4b0
          try clear c5
          try clear c5b0
          try clear c6
          try clear c6b0
          try clear p6
          try clear c8
          try clear c10
          try clear p10
          try clear q10
          try clear hx10
          try clear c11
          try clear p11
          try clear q11
          try clear hx11
          try clear qi11
          try clear c16
          try clear c16b0
          try clear c16b1
          try clear c17
          try clear c17b0
          try clear c17b1
          try clear c18
          try clear c18b0
          try clear c18b1
          try clear c22
          try clear c22b0
          try clear hcz11_0
          try clear hcz12_0
          try clear hcz12_1
          try clear hcz12_2
          try clear hfz11_0
          try clear hfz12_0
          try clear hfz12_1
          try clear hfz12_2
          try clear hx102_0
          try clear hx110_0
          try clear p1
          try clear p10
          try clear p102
          try clear p11
          try clear p110
          try clear p2
          try clear p6
          try clear q1
          try clear q10
          try clear q102
          try clear q11
          try clear q110
          obtain ⟨x10_3, x39_3, rfl, HA, HK3, HO_5, HO_8, HO_10, HO_37, BK101, HB⟩ := hrel
          cases gk with
          | zero => exact absurd HA.out (by simp [sound_alarm.l2])
          | succ k3 =>
           have H := HA.out
           clear HA
           simp only [sound_alarm.l2] at H
           by_cases c24 : x39_3 < (x5_1.length : Int)
           ·rw [if_pos c24] at H
            have c24b0 : decide (x39_3 < (x5_1.length : Int)) = true := zdt c24
            (try (have c24b0y := c24b0; rw [hl8_2] at c24b0y))
            clear c24
            by_cases c25 : 0 ≤ x39_3
            ·rw [if_pos c25] at H
             have c25b0 : decide (0 ≤ x39_3) = true := zdt c25
             (try (have c25b0y := c25b0; rw [hl8_2] at c25b0y))
             clear c25
             by_cases c26 : x39_3 < (x5_1.length : Int)
             ·rw [if_pos c26] at H
              have c26b0 : decide (x39_3 < (x5_1.length : Int)) = true := zdt c26
              (try (have c26b0y := c26b0; rw [hl8_2] at c26b0y))
              clear c26
              by_cases c27 : 0 ≤ x34_2
              ·rw [if_pos c27] at H
               have c27b0 : decide (0 ≤ x34_2) = true := zdt c27
               (try (have c27b0y := c27b0; rw [hl8_2] at c27b0y))
               clear c27
               by_cases c28 : x34_2 < ((rd_L4 x5_1 x39_3).length : Int)
               ·rw [if_pos c28] at H
                have c28b0 : decide (x34_2 < ((rd_L4 x5_1 x39_3).length : Int)) = true := zdt c28
                (try (have c28b0y := c28b0; rw [hl8_2] at c28b0y))
                clear c28
                by_cases c29 : x10_3.length < 17592186044416
                ·rw [if_pos c29] at H
                 have LMc29 := zam c29
                 clear c29
                 obtain ⟨y116, hy116⟩ : ∃ y_ : List Int, y_ = (x10_3 ++ [rd (rd_L4 x5_1 x39_3) x34_2]) := ⟨_, rfl⟩
                 replace H : (sound_alarm.l2 k3 x5_1 x8_2 x34_2 y116 (y111.length : Int) x34_2 x5_1 (x5_1.length : Int) (wrap64 (x39_3 + 1)) a1_0 a1_1 a1_2) = some r := by first | (rw [hy116]; with_reducible exact H) | (have H2_ := (Option.bind_some _ _).symm.trans H; rw [hy116]; with_reducible exact H2_) | (have H2_ := (Option.bind_some _ _).symm.trans H; with_reducible exact H2_) | with_reducible exact H | (rw [hy116]; exact H) | exact H
                 have Ny116 := zam hy116
                 clear hy116
                 have H' := zam H
                 clear H
                 have p114 : 0 ≤ (x39_3 : Int) := zod zq9
                 have q114 : x39_3 < (x5_1.length : Int) := zod zq9
                 obtain ⟨ad114, A114_0, c114_0, e114, hx114_0, hl114_0, hi114_0⟩ := at_L4 (Kd.S_reads' HO_37.out).2.2 x39_3 p114 q114
                 cases e114
                 obtain ⟨ce114, hce114, hMe114, hcc114⟩ := Kd.S_get HO_37.out [] x39_3 p114 (by first | exact q114 | exact zod zq9 | (have e_ := (Kd.S_reads' HO_37.out).1; omega))
                 obtain ⟨ve114_0, rfl, ge114_0⟩ := hMe114
                 have hv114_0 := hcc114 0 _ rfl
                 rw [Nat.add_zero, show ((Kd.slice 50 (Kd.int .i64))).sz = 1 from rfl, Nat.mul_one] at hv114_0
                 replace hv114_0 := zsi (hv114_0.symm.trans hx114_0)
                 rw [hv114_0] at ge114_0
                 have HL114_0 := zam (show Kd.R (Kd.int .i64) 50 _ _ _ _ (rd_L4 x5_1 x39_3) from ge114_0)
                 clear hv114_0 ge114_0
                 clear hcc114 hce114
                 have HR114_0 := zam hi114_0
                 have HC114_0 := zam hl114_0
                 clear hi114_0 hl114_0
                 replace p114 := eq_true p114
                 replace q114 := eq_true q114
                 have p115 : 0 ≤ (x34_2 : Int) := zod zq9
                 have q115 : x34_2 < ((rd_L4 x5_1 x39_3).length : Int) := zod zq9
                 obtain ⟨ad115, e115, hx115_0⟩ := Kd.at_int (by repeat (first | (with_reducible exact HR114_0.out) | (with_reducible refine Kd.C_alloc ?_ _) | (with_reducible refine Kd.C_drewN ?_ _) | (with_reducible refine Kd.C_drew ?_) | exact HR114_0.out)) x34_2 p115 q115
                 cases e115
                 replace p115 := eq_true p115
                 replace q115 := eq_true q115
                 go_wp2_with (first | ((with_reducible refine gate_builtin (b := .append) (xs := #[.tmp 43, .tmp 48]) rfl ?_); at_builtin; refine Kd.R_append (Kd.int .i64) (w0 := w) w.heap.size rfl (.tmp 43) (.tmp 48) 66 50 (.int .i64 0) 8 rfl Try.underlying66 info50 rfl (by decide) (by omega) u10 x10_3 (rd (rd_L4 x5_1 x39_3) x34_2) [.int .i64 (rd (rd_L4 x5_1 x39_3) x34_2)] (fun k_ => some k_ ≠ (.slice Ao21 x8_2.length co21 : Value).ownBlock) (fun _ => False) rfl rfl ?aP (fun _ hk => hk.elim) ?aF ?aO ?aB ?aS ?aL ?_; (case aP => exact rfl); (case aB => exact zq2); (case aF => exact (fun k_ hk => Kd.fresh' (Kd.R_lt (by (with_reducible repeat (first | apply zRa | apply zRn | apply zRd)); exact HO_8.out)) k_ hk)); (case aO => exact (by (with_reducible repeat (first | apply zRa | apply zRn | apply zRd)); exact HO_10.out)); (case aS => exact (zbz zq2)); (case aL => have := LMc29.out; omega); intro v117 w30 ho hb hg hat; rw [← Ny116.out] at ho; have n0_ := zam (Kd.S_after (ok := (fun k_ => some k_ ≠ (.slice Ao21 x8_2.length co21 : Value).ownBlock)) (by (with_reducible repeat (first | apply Kd.S_alloc | apply Kd.S_drewN | apply Kd.S_drew)); exact HO_5.out) hg hat); have n1_ := zam (Kd.R_after (ok := (fun _ => True)) (by (with_reducible repeat (first | apply zRa | apply zRn | apply zRd)); exact Kd.R_mono HO_8.out (fun _ hk => ⟨trivial, hk⟩)) hg hat); have n2_ := zam (Kd.S_after (ok := (fun k_ => some k_ ≠ (.slice Ao21 x8_2.length co21 : Value).ownBlock)) (by (with_reducible repeat (first | apply Kd.S_alloc | apply Kd.S_drewN | apply Kd.S_drew)); exact HO_37.out) hg hat); have n3_ := zam (zkg (g := gb101) (o := .cells #[.int .i64 a1_0, .int .i64 a1_1, .int .i64 a1_2] 39 (0, 0)) zq0 hg (Kd.R_ne HO_10.out BK101.out (by decide))); have n4_ := zam (Kd.R_after (ok := (fun k_ => some k_ ≠ (.slice Ao21 x8_2.length co21 : Value).ownBlock ∧ some k_ ≠ (.slice (some ad114) x5_1.length co23 : Value).ownBlock)) (by (with_reducible repeat (first | apply zRa | apply zRn | apply zRd)); exact Kd.R_mono HL114_0.out (fun _ hk => ⟨⟨hk.1.1, hk.2⟩, hk.1.2⟩)) hg hat); have n5_ := zam (hb); have n6_ := zam (ho); clear HO_5; clear HO_8; clear HO_37; clear BK101; clear HL114_0; clear HB; clear HO_10; have HO_5 := n0_; have HO_8 := n1_; have HO_37 := n2_; have BK101 := n3_; have HL114_0 := n4_; have HB := n5_; have HO118 := n6_; clear n0_ n1_ n2_ n3_ n4_ n5_ n6_; clear ho hb hg hat))
                 go_roundg k3
                 case measure => have := HK1.out; have := HK2.out; have := HK3.out; omega
                 case rel => exact ⟨(y116), (wrap64 (x39_3 + 1)), zq10, H', ⟨by have := HK1.out; have := HK2.out; have := HK3.out; omega⟩, ⟨by (try simp only [hl8_2]); (with_reducible repeat (first | apply Kd.S_alloc | apply Kd.S_drewN | apply Kd.S_drew)); exact HO_5.out⟩, ⟨by (try simp only [hl8_2]); (with_reducible repeat (first | apply zRa | apply zRn | apply zRd)); exact Kd.R_mono HO_8.out (fun _ hk => hk.2)⟩, ⟨by (try simp only [hl8_2]); (with_reducible repeat (first | apply zRa | apply zRn | apply zRd)); exact HO118.out⟩, ⟨by (try simp only [hl8_2]); (with_reducible repeat (first | apply Kd.S_alloc | apply Kd.S_drewN | apply Kd.S_drew)); exact HO_37.out⟩, ⟨by (try simp only [hl8_2]); (with_reducible repeat (first | refine zkn ?_ _ | refine zkd ?_ | refine zka ?_ _)); exact BK101.out⟩, ⟨by repeat (first | (with_reducible first | exact HB.out | apply zba | apply zbn | apply zb1 | refine zbs ?_ GE101.out) | exact HB.out)⟩⟩
                rw [if_neg c29] at H
                exact absurd H (by simp)
               rw [if_neg c28] at H
               exact absurd H (by simp)
              rw [if_neg c27] at H
              exact absurd H (by simp)
             rw [if_neg c26] at H
             exact absurd H (by simp)
            rw [if_neg c25] at H
            exact absurd H (by simp)
           rw [if_neg c24] at H
           have c24b0 : decide (x39_3 < (x5_1.length : Int)) = false := zdf c24
           (try (have c24b0y := c24b0; rw [hl8_2] at c24b0y))
           clear c24
           replace H := Option.bind_eq_some_iff.mp H
           obtain ⟨t119, A310, H⟩ := H
           replace H : (if 0 ≤ x34_2 then (if x34_2 < (x8_2.length : Int) then (sound_alarm.l1 k3 x5_1 (x8_2.set (x34_2 : Int).toNat t119) (y111.length : Int) (wrap64 (x34_2 + 1)) a1_0 a1_1 a1_2) else (none)) else (none)) = some r := H
           have A31 := zam A310
           clear A310
           by_cases c32 : 0 ≤ x34_2
           ·rw [if_pos c32] at H
            have c32b0 : decide (0 ≤ x34_2) = true := zdt c32
            (try (have c32b0y := c32b0; rw [hl8_2] at c32b0y))
            clear c32
            by_cases c33 : x34_2 < (x8_2.length : Int)
            ·rw [if_pos c33] at H
             have c33b0 : decide (x34_2 < (x8_2.length : Int)) = true := zdt c33
             (try (have c33b0y := c33b0; rw [hl8_2] at c33b0y))
             clear c33
             obtain ⟨y120, hy120⟩ : ∃ y_ : List Int, y_ = (x8_2.set (x34_2 : Int).toNat t119) := ⟨_, rfl⟩
             replace H : (sound_alarm.l1 k3 x5_1 y120 (y111.length : Int) (wrap64 (x34_2 + 1)) a1_0 a1_1 a1_2) = some r := by first | (rw [hy120]; with_reducible exact H) | (have H2_ := (Option.bind_some _ _).symm.trans H; rw [hy120]; with_reducible exact H2_) | (have H2_ := (Option.bind_some _ _).symm.trans H; with_reducible exact H2_) | with_reducible exact H | (rw [hy120]; exact H) | exact H
             have Ny120 := zam hy120
             clear hy120
             have H' := zam H
             clear H
             have hcz35_0 : wr.cell? ⟨gb101, 0, none⟩ = some (.int .i64 a1_0) := (zkc BK101.out 0).trans rfl
             have hcz35_1 : wr.cell? ⟨gb101, 1, none⟩ = some (.int .i64 a1_1) := (zkc BK101.out 1).trans rfl
             have hcz35_2 : wr.cell? ⟨gb101, 2, none⟩ = some (.int .i64 a1_2) := (zkc BK101.out 2).trans rfl
             have hfz35_0 := zkz BK101.out 0
             have hfz35_1 := zkz BK101.out 1
             have hfz35_2 := zkz BK101.out 2
             obtain ⟨Ao36, co36, eo36⟩ := Kd.R_slice HO_10.out
             subst eo36
             go_wp2_with (first | ((with_reducible refine zgc (f := 107) rfl ?_); refine goesL_ (some 56) rfl rfl Try.func107 (by kernel_rfl) rfl #[.int .i64 a1_2, .slice Ao36 x10_3.length co36] rfl zq5 ?_; (with_reducible refine (sound_enough.calls k3 a1_2 _ _ x10_3 t119 _ ?side1 ?side2 A31.out).mono ?_); (case side1 => repeat (first | exact (Kd.R_reads' HO_10.out).2.2 | (with_reducible refine Kd.C_alloc ?_ _) | (with_reducible refine Kd.C_drewN ?_ _) | (with_reducible refine Kd.C_drew ?_))); (case side2 => exact (Kd.R_reads' HO_10.out).2.1); rintro e w' ⟨rfl, ⟨nd, rfl⟩⟩; refine ⟨_, rfl, ?_⟩; (try (rw [drewN_self wr]; generalize hq_ : World.drewN wr _ = wr; have n0_ : Aside0 (Kd.R (Kd.int .i64) 50 wr w.heap.size (fun k_ => some k_ ≠ (.slice Ao21 x8_2.length co21 : Value).ownBlock) (.slice Ao36 x10_3.length co36) x10_3) := ⟨by rw [← hq_]; exact (by (with_reducible repeat (first | apply zRa | apply zRn | apply zRd)); exact HO_10.out)⟩; have n1_ : Aside0 (Kd.S (Kd.slice 50 (Kd.int .i64)) 66 wr w.heap.size (fun k_ => some k_ ≠ (.slice Ao36 x10_3.length co36 : Value).ownBlock ∧ some k_ ≠ (.slice Ao21 x8_2.length co21 : Value).ownBlock) (.slice Ao23 x5_1.length co23) x5_1) := ⟨by rw [← hq_]; exact (by (with_reducible repeat (first | apply Kd.S_alloc | apply Kd.S_drewN | apply Kd.S_drew)); exact Kd.S_mono HO_37.out (fun _ hk => by first | exact ⟨hk.2, hk.1⟩ | exact ⟨hk.1, hk.2⟩))⟩; have n2_ : Aside0 (Kd.S (Kd.slice 50 (Kd.int .i64)) 66 wr w.heap.size (fun k_ => some k_ ≠ (.slice Ao36 x10_3.length co36 : Value).ownBlock ∧ some k_ ≠ (.slice Ao21 x8_2.length co21 : Value).ownBlock) (.slice Ao23 x5_1.length co23) x5_1) := ⟨by rw [← hq_]; exact (by (with_reducible repeat (first | apply Kd.S_alloc | apply Kd.S_drewN | apply Kd.S_drew)); exact Kd.S_mono HO_5.out (fun _ hk => by first | exact ⟨hk.2, hk.1⟩ | exact ⟨hk.1, hk.2⟩))⟩; have n3_ : Aside0 (Kd.R (Kd.int .i64) 50 wr w.heap.size (fun k_ => some k_ ≠ (.slice Ao36 x10_3.length co36 : Value).ownBlock) (.slice Ao21 x8_2.length co21) x8_2) := ⟨by rw [← hq_]; exact (by (with_reducible repeat (first | apply zRa | apply zRn | apply zRd)); exact HO_8.out)⟩; have n4_ : Aside0 (wr.heap[gb101]? = some (.cells #[.int .i64 a1_0, .int .i64 a1_1, .int .i64 a1_2] 39 (0, 0))) := ⟨by rw [← hq_]; exact zq0⟩; have n5_ : Aside0 (Below w.heap.size w wr) := ⟨by rw [← hq_]; exact zq2⟩; clear HO_10 HO_37 HO_5 HO_8 BK101 HB hq_; have HO_10 := n0_; have HO_37 := n1_; have HO_5 := n2_; have HO_8 := n3_; have BK101 := n4_; have HB := n5_; clear n0_ n1_ n2_ n3_ n4_ n5_)); have p34 : 0 ≤ (x34_2 : Int) := zod zq9; have q34 : (x34_2 : Int) < ((x8_2.length : Int) : Int) := zod zq9; obtain ⟨go34, co34, eo34, gb34, gl34, cl34, HG34⟩ := Kd.R_form HO_8.out (by omega); (first | cases eo34 | (injection eo34 with ea_ en_ ec_; (first | subst ea_ | (injection ea_ with ea_; subst ea_)); subst ec_; clear en_)); have GB34 := zam gb34; have GG34 := zam HG34; clear gb34 gl34 HG34; obtain ⟨hx34_0, hf34_0⟩ := Kd.R_celln 0 HO_8.out (x34_2 : Int) p34 q34; replace p34 := eq_true p34; replace q34 := eq_true q34; obtain ⟨hy37_, hz37_⟩ := Kd.R_celln 0 HO_8.out (x34_2 : Int) (zod zq9) (zod zq9); have HP37 := Kd.R_putg HO_8.out (x34_2 : Int) t119) | ((with_reducible refine gate_store (t := 50) (p := 57) rfl ?_); refine store_event (t := 50) (p := 57) (v := ?vo_w38) (w1 := (wr.setCell ⟨go34, (x34_2 : Int).toNat, none⟩ (.int .i64 t119))) ?hg ?ho ?hn ?hr ?_; (case ho => rfl); (case hg => rfl); (case hn => rfl); (case hr => first | (go_simp; done) | (go_simp; rfl)); intro w38 hw; have hg : wr.grownBy w38 (some go34) := (by rw [hw]; exact HP37.2); have hp_ : Kd.R (Kd.int .i64) 50 w38 w.heap.size (fun k_ => some k_ ≠ (.slice Ao36 x10_3.length co36 : Value).ownBlock) (.slice (some ⟨go34, 0, none⟩) x8_2.length co21) y120 := (by rw [hw, Ny120.out]; exact HP37.1); clear HP37; have n0_ := zam (Kd.S_after (v := (.slice (some ⟨go34, 0, none⟩) x8_2.length co21)) (v1 := (.slice (some ⟨go34, 0, none⟩) x8_2.length co21)) (ok := (fun k_ => some k_ ≠ (.slice Ao36 x10_3.length co36 : Value).ownBlock)) (by (with_reducible repeat (first | apply Kd.S_alloc | apply Kd.S_drewN | apply Kd.S_drew)); exact Kd.S_mono HO_5.out (fun _ hk => by first | exact ⟨hk.2, hk.1⟩ | exact ⟨hk.1, hk.2⟩)) hg (.inl rfl)); have n1_ := zam (hp_); have n2_ := zam (Kd.R_after (v := (.slice (some ⟨go34, 0, none⟩) x8_2.length co21)) (v1 := (.slice (some ⟨go34, 0, none⟩) x8_2.length co21)) (ok := (fun _ => True)) (by (with_reducible repeat (first | apply zRa | apply zRn | apply zRd)); exact Kd.R_mono HO_10.out (fun _ hk => ⟨trivial, hk⟩)) hg (.inl rfl)); have n3_ := zam (Kd.S_after (v := (.slice (some ⟨go34, 0, none⟩) x8_2.length co21)) (v1 := (.slice (some ⟨go34, 0, none⟩) x8_2.length co21)) (ok := (fun k_ => some k_ ≠ (.slice Ao36 x10_3.length co36 : Value).ownBlock)) (by (with_reducible repeat (first | apply Kd.S_alloc | apply Kd.S_drewN | apply Kd.S_drew)); exact Kd.S_mono HO_37.out (fun _ hk => by first | exact ⟨hk.2, hk.1⟩ | exact ⟨hk.1, hk.2⟩)) hg (.inl rfl)); have n4_ := zam (zkg (g := gb101) (o := .cells #[.int .i64 a1_0, .int .i64 a1_1, .int .i64 a1_2] 39 (0, 0)) zq0 hg (Kd.R_ne HO_8.out BK101.out (by decide))); have n5_ := zam ((by rw [hw]; exact zbs (HB.out) GB34.out : Below w.heap.size w w38)); clear HO_5; clear HO_8; clear HO_10; clear HO_37; clear BK101; clear HB; have HO_5 := n0_; have HO_8 := n1_; have HO_10 := n2_; have HO_37 := n3_; have BK101 := n4_; have HB := n5_; clear n0_ n1_ n2_ n3_ n4_ n5_; clear hg hw hp_))
             (try simp only [← hl8_2])
             go_roundg k3
             case measure => have := HK1.out; have := HK2.out; have := HK3.out; omega
             case rel => exact ⟨(y120), (wrap64 (x34_2 + 1)), zq10, H', ⟨by have := HK1.out; have := HK2.out; have := HK3.out; omega⟩, ⟨by (try simp only [hl8_2]); (with_reducible repeat (first | apply Kd.S_alloc | apply Kd.S_drewN | apply Kd.S_drew)); exact Kd.S_mono HO_5.out (fun _ hk => hk.2)⟩, ⟨by (try simp only [hl8_2]); (with_reducible repeat (first | apply zRa | apply zRn | apply zRd)); exact Kd.R_mono HO_8.out (fun _ hk => trivial)⟩, ⟨by (try simp only [hl8_2]); (with_reducible repeat (first | refine zkn ?_ _ | refine zkd ?_ | refine zka ?_ _)); exact BK101.out⟩, ⟨by repeat (first | (with_reducible first | exact HB.out | apply zba | apply zbn | apply zb1 | refine zbs ?_ GE101.out) | exact HB.out)⟩⟩
            rw [if_neg c33] at H
            exact absurd H (by simp)
           rw [if_neg c32] at H
           exact absurd H (by simp)
        rw [if_neg c22] at H
        have c22b0 : decide (x34_2 < (y111.length : Int)) = false := zdf c22
        (try (have c22b0y := c22b0; rw [hl8_2] at c22b0y))
        clear c22
        obtain rfl := zsi H
        go_wp2
        go_ret
        exact ⟨_, by first | rfl | (simp [errW_none, errW_some] <;> rfl) | (simp [*, errW_none, errW_some] <;> rfl), by (with_reducible repeat (first | apply zRa | apply zRn | apply zRd)); exact HO_8.out, by repeat (first | (with_reducible first | exact HB.out | apply zba | apply zbn | apply zb1 | refine zbs ?_ GE101.out) | exact HB.out)⟩
     rw [if_neg c18] at H
     exact absurd H (by simp)
    rw [if_neg c17] at H
    exact absurd H (by simp)
   rw [if_neg c16] at H
   exact absurd H (by simp)
def sound_checkGauges_1.f (l0_0 : List (S24)) : Option (Bool) := some (decide ((l0_0.length : Int) > 256))
set_option maxHeartbeats 8000000 in
set_option maxRecDepth 100000 in
theorem sound_checkGauges_1.calls (A0_0 : Option Addr) (c0_0 : Nat) (l0_0 : List (S24)) (r : Bool) (w : World) (hr0_0 : Kd.C k24 w A0_0 l0_0.length l0_0) (hc0_0 : l0_0.length ≤ c0_0) (h : sound_checkGauges_1.f l0_0 = some r) :
  Calls Try.prog 103 #[.agg #[.slice A0_0 l0_0.length c0_0]] w fun e w' => e = .returned (.bool r) ∧ Below w.heap.size w w' := by
 have hu45 := Try.underlying45
 have HR0_0 := zam hr0_0
 have HC0_0 := zam hc0_0
 clear hr0_0 hc0_0
 have HB := zam (Below.refl w.heap.size w)
 have H : (some (decide ((l0_0.length : Int) > 256))) = some r := h
 clear h
 obtain rfl := zsi H
 go_enter Try.func103, Try.ntmps103
 go_wp2_with (first | ((with_reducible refine zgd (N := 1) rfl ?_); refine box_event ?hg (N := 1) ?hd (cs := #[.slice A0_0 l0_0.length c0_0]) (t := 45) ?hr ?_; (case hd => rfl); (case hg => rfl); (case hr => first | (go_simp; done) | (go_simp; rfl)); intro gb101 hg w2 hbox hb; have n0_ := zam (zbt zq1 hb); have n1_ := zam (hbox); have n2_ := zam ((by rw [hg]; exact (zbz zq1) : w.heap.size ≤ gb101)); have n3_ := zam ((by rw [hg]; exact (zbz zq1) : w.heap.size ≤ gb101)); clear HB; have HB := n0_; have BK101 := n1_; have GW101 := n2_; have GE101 := n3_; clear n0_ n1_ n2_ n3_; clear hb hbox hg; have hcz3_0 : w2.cell? ⟨gb101, 0, none⟩ = some (.slice A0_0 l0_0.length c0_0) := (zkc BK101.out 0).trans rfl; have hfz3_0 := zkz BK101.out 0))
 go_ret
 exact ⟨by first | rfl | (simp [errW_none, errW_some] <;> rfl) | (simp [*, errW_none, errW_some] <;> rfl), by repeat (first | (with_reducible first | exact HB.out | apply zba | apply zbn | apply zb1 | refine zbs ?_ GE101.out) | exact HB.out)⟩
def slices_IndexFunc_Gauge_sound_checkGauges_1.l0 : Nat → List (S45) → Int → Int → Option (Int)
 | 0, _, _, _ => none
 | k + 1, x0, x7, x8 => if x8 < x7 then (if 0 ≤ x8 then (if x8 < (x0.length : Int) then ((sound_checkGauges_1.f ((rd_T45 x0 x8).f0)).bind fun t102 => (if t102 = true then (some x8) else (slices_IndexFunc_Gauge_sound_checkGauges_1.l0 k x0 x7 (wrap64 (x8 + 1))))) else (none)) else (none)) else (some (-1))
def slices_IndexFunc_Gauge_sound_checkGauges_1.f (k : Nat) (l0 : List (S45))  : Option (Int) := slices_IndexFunc_Gauge_sound_checkGauges_1.l0 k l0 (l0.length : Int) 0
theorem slices_IndexFunc_Gauge_sound_checkGauges_1.mono_l : ∀ k, (∀ y0 y1 y2, LeO (slices_IndexFunc_Gauge_sound_checkGauges_1.l0 k y0 y1 y2) (slices_IndexFunc_Gauge_sound_checkGauges_1.l0 (k + 1) y0 y1 y2))
 | 0 => fun _ _ _ r h => by simp [slices_IndexFunc_Gauge_sound_checkGauges_1.l0] at h
 | k + 1 => by
  have ih0 := slices_IndexFunc_Gauge_sound_checkGauges_1.mono_l k
  intro y0 y1 y2
  unfold slices_IndexFunc_Gauge_sound_checkGauges_1.l0
  repeat' first
  | (with_reducible exact ih0 _ _ _)
  | (with_reducible exact LeO.refl _)
  | (with_reducible exact LeO.none _)
  | (with_reducible refine LeO.ite ?_ ?_)
  | (with_reducible refine LeO.bind ?_ (fun _ => ?_))
  | exact ih0 _ _ _
  | exact LeO.none _
  | refine LeO.ite ?_ ?_
  | refine LeO.bind ?_ (fun _ => ?_)
theorem slices_IndexFunc_Gauge_sound_checkGauges_1.mono : ∀ a0 k, LeO (slices_IndexFunc_Gauge_sound_checkGauges_1.f k a0) (slices_IndexFunc_Gauge_sound_checkGauges_1.f (k + 1) a0) := by
 intro a0 k
 have ih0 := slices_IndexFunc_Gauge_sound_checkGauges_1.mono_l k
 unfold slices_IndexFunc_Gauge_sound_checkGauges_1.f
 repeat' first
   | (with_reducible exact ih0 _ _ _)
   | (with_reducible exact LeO.refl _)
   | (with_reducible exact LeO.none _)
   | (with_reducible refine LeO.ite ?_ ?_)
   | (with_reducible refine LeO.bind ?_ (fun _ => ?_))
   | exact ih0 _ _ _
   | exact LeO.none _
   | refine LeO.ite ?_ ?_
   | refine LeO.bind ?_ (fun _ => ?_)
set_option maxHeartbeats 8000000 in
set_option maxRecDepth 100000 in
theorem slices_IndexFunc_Gauge_sound_checkGauges_1.calls (k : Nat) (A0 : Option Addr) (c0 : Nat) (l0 : List (S45))  (r : Int) (w : World) (hr0 : Kd.C k45 w A0 l0.length l0) (hc0 : l0.length ≤ c0) (h : slices_IndexFunc_Gauge_sound_checkGauges_1.f k l0 = some r) :
  Calls Try.prog 128 #[.slice A0 l0.length c0, .func (.func 103) #[] #[]] w fun e w' => e = .returned (.int .i64 r) ∧ Below w.heap.size w w' := by
 have hu45 := Try.underlying45
 have HR0 := zam hr0
 have HC0 := zam hc0
 clear hr0 hc0
 have HB := zam (Below.refl w.heap.size w)
 have H : (slices_IndexFunc_Gauge_sound_checkGauges_1.l0 k l0 (l0.length : Int) 0) = some r := h
 clear h
 have H' := zam H
 clear H
 go_enter Try.func128, Try.ntmps128
 go_wp2
 go_loopg [8] k (fun kq v8 w' => ∃ (x8_1 : Int), v8 = .int .i64 x8_1 ∧ Aside0 (slices_IndexFunc_Gauge_sound_checkGauges_1.l0 kq l0 (l0.length : Int) x8_1 = some r) ∧ Aside0 (kq ≤ k) ∧ Aside0 (Below w.heap.size w w'))
 case atStart => exact ⟨(0), zq10, H', ⟨Nat.le_refl _⟩, ⟨by repeat (first | (with_reducible first | exact HB.out | apply zba | apply zbn | apply zb1) | exact HB.out)⟩⟩
 case round =>
  clear H'
  try clear p2
  obtain ⟨x8_1, rfl, HA, HK1, HB⟩ := hrel
  cases gk with
  | zero => exact absurd HA.out (by simp [slices_IndexFunc_Gauge_sound_checkGauges_1.l0])
  | succ k1 =>
   have H := HA.out
   clear HA
   simp only [slices_IndexFunc_Gauge_sound_checkGauges_1.l0] at H
   by_cases c3 : x8_1 < (l0.length : Int)
   ·rw [if_pos c3] at H
    have c3b0 : decide (x8_1 < (l0.length : Int)) = true := zdt c3
    clear c3
    by_cases c4 : 0 ≤ x8_1
    ·rw [if_pos c4] at H
     have c4b0 : decide (0 ≤ x8_1) = true := zdt c4
     clear c4
     by_cases c5 : x8_1 < (l0.length : Int)
     ·rw [if_pos c5] at H
      have c5b0 : decide (x8_1 < (l0.length : Int)) = true := zdt c5
      clear c5
      replace H := Option.bind_eq_some_iff.mp H
      obtain ⟨t102, A60, H⟩ := H
      replace H : (if t102 = true then (some x8_1) else (slices_IndexFunc_Gauge_sound_checkGauges_1.l0 k1 l0 (l0.length : Int) (wrap64 (x8_1 + 1)))) = some r := H
      have A6 := zam A60
      clear A60
      by_cases c7 : t102 = true
      ·subst c7
       have H1 : (some x8_1) = some r := by rw [if_pos rfl] at H; exact H
       clear H
       have H := H1
       clear H1
       obtain rfl := zsi H
       have p101 : 0 ≤ (x8_1 : Int) := zod zq9
       have q101 : x8_1 < (l0.length : Int) := zod zq9
       obtain ⟨ad101, A101_0, c101_0, e101, hx101_0, hl101_0, hi101_0⟩ := at_T45 HR0.out x8_1 p101 q101
       cases e101
       replace hx101_0 := (HB.out.cell (zwb w _ hx101_0)).trans hx101_0
       have HR101_0 := zam hi101_0
       have HC101_0 := zam hl101_0
       clear hi101_0 hl101_0
       replace p101 := eq_true p101
       replace q101 := eq_true q101
       go_wp2_with (first | (go_at_call 103; (with_reducible refine (sound_checkGauges_1.calls _ _ ((rd_T45 l0 x8_1).f0) true _ ?side1 ?side2 A6.out).mono ?_); (case side1 => repeat (first | exact (Kd.C_below HR101_0.out HB.out) | (with_reducible refine Kd.C_alloc ?_ _) | (with_reducible refine Kd.C_drewN ?_ _) | (with_reducible refine Kd.C_drew ?_))); (case side2 => exact HC101_0.out); rintro e w8 ⟨rfl, hb⟩; have n0_ := zam (zbt zq1 hb); clear HB; have HB := n0_; clear n0_; (try clear hb); (try clear hb2); (try clear hk); (try clear hi)))
       go_ret
       exact ⟨by first | rfl | (simp [errW_none, errW_some] <;> rfl) | (simp [*, errW_none, errW_some] <;> rfl), by repeat (first | (with_reducible first | exact HB.out | apply zba | apply zbn | apply zb1) | exact HB.out)⟩
      replace c7 := Bool.eq_false_iff.mpr c7
      subst c7
      have H1 : (slices_IndexFunc_Gauge_sound_checkGauges_1.l0 k1 l0 (l0.length : Int) (wrap64 (x8_1 + 1))) = some r := by rw [if_neg (show ¬ (false = true) by decide)] at H; exact H
      clear H
      have H := H1
      clear H1
      have H' := zam H
      clear H
      have p101 : 0 ≤ (x8_1 : Int) := zod zq9
      have q101 : x8_1 < (l0.length : Int) := zod zq9
      obtain ⟨ad101, A101_0, c101_0, e101, hx101_0, hl101_0, hi101_0⟩ := at_T45 HR0.out x8_1 p101 q101
      cases e101
      replace hx101_0 := (HB.out.cell (zwb w _ hx101_0)).trans hx101_0
      have HR101_0 := zam hi101_0
      have HC101_0 := zam hl101_0
      clear hi101_0 hl101_0
      replace p101 := eq_true p101
      replace q101 := eq_true q101
      go_wp2_with (first | (go_at_call 103; (with_reducible refine (sound_checkGauges_1.calls _ _ ((rd_T45 l0 x8_1).f0) false _ ?side1 ?side2 A6.out).mono ?_); (case side1 => repeat (first | exact (Kd.C_below HR101_0.out HB.out) | (with_reducible refine Kd.C_alloc ?_ _) | (with_reducible refine Kd.C_drewN ?_ _) | (with_reducible refine Kd.C_drew ?_))); (case side2 => exact HC101_0.out); rintro e w9 ⟨rfl, hb⟩; have n0_ := zam (zbt zq1 hb); clear HB; have HB := n0_; clear n0_; (try clear hb); (try clear hb2); (try clear hk); (try clear hi)))
      go_roundg k1
      case measure => have := HK1.out; omega
      case rel => exact ⟨(wrap64 (x8_1 + 1)), zq10, H', ⟨by have := HK1.out; omega⟩, ⟨by repeat (first | (with_reducible first | exact HB.out | apply zba | apply zbn | apply zb1) | exact HB.out)⟩⟩
     rw [if_neg c5] at H
     exact absurd H (by simp)
    rw [if_neg c4] at H
    exact absurd H (by simp)
   rw [if_neg c3] at H
   have c3b0 : decide (x8_1 < (l0.length : Int)) = false := zdf c3
   clear c3
   obtain rfl := zsi H
   go_wp2
   go_ret
   exact ⟨by first | rfl | (simp [errW_none, errW_some] <;> rfl) | (simp [*, errW_none, errW_some] <;> rfl), by repeat (first | (with_reducible first | exact HB.out | apply zba | apply zbn | apply zb1) | exact HB.out)⟩
def slices_ContainsFunc_Gauge_sound_checkGauges_1.f (k : Nat) (l0 : List (S45))  : Option (Bool) := (slices_IndexFunc_Gauge_sound_checkGauges_1.f k l0).bind fun t101 => (some (decide (t101 ≥ 0)))
theorem slices_ContainsFunc_Gauge_sound_checkGauges_1.mono : ∀ a0 k, LeO (slices_ContainsFunc_Gauge_sound_checkGauges_1.f k a0) (slices_ContainsFunc_Gauge_sound_checkGauges_1.f (k + 1) a0) := by
 intro a0 k
 unfold slices_ContainsFunc_Gauge_sound_checkGauges_1.f
 repeat' first
   | (with_reducible exact slices_IndexFunc_Gauge_sound_checkGauges_1.mono _ _)
   | (with_reducible exact LeO.refl _)
   | (with_reducible exact LeO.none _)
   | (with_reducible refine LeO.ite ?_ ?_)
   | (with_reducible refine LeO.bind ?_ (fun _ => ?_))
   | exact slices_IndexFunc_Gauge_sound_checkGauges_1.mono _ _
   | exact LeO.none _
   | refine LeO.ite ?_ ?_
   | refine LeO.bind ?_ (fun _ => ?_)
set_option maxHeartbeats 8000000 in
set_option maxRecDepth 100000 in
theorem slices_ContainsFunc_Gauge_sound_checkGauges_1.calls (k : Nat) (A0 : Option Addr) (c0 : Nat) (l0 : List (S45))  (r : Bool) (w : World) (hr0 : Kd.C k45 w A0 l0.length l0) (hc0 : l0.length ≤ c0) (h : slices_ContainsFunc_Gauge_sound_checkGauges_1.f k l0 = some r) :
  Calls Try.prog 102 #[.slice A0 l0.length c0, .func (.func 103) #[] #[]] w fun e w' => e = .returned (.bool r) ∧ Below w.heap.size w w' := by
 have HR0 := zam hr0
 have HC0 := zam hc0
 clear hr0 hc0
 have HB := zam (Below.refl w.heap.size w)
 have H : ((slices_IndexFunc_Gauge_sound_checkGauges_1.f k l0).bind fun t101 => (some (decide (t101 ≥ 0)))) = some r := h
 clear h
 replace H := Option.bind_eq_some_iff.mp H
 obtain ⟨t101, A30, H⟩ := H
 replace H : (some (decide (t101 ≥ 0))) = some r := H
 have A3 := zam A30
 clear A30
 obtain rfl := zsi H
 go_enter Try.func102, Try.ntmps102
 go_wp2_with (first | ((with_reducible refine zgc (f := 128) rfl ?_); refine goesL_ (some 7) rfl rfl Try.func128 (by kernel_rfl) rfl #[.slice A0 l0.length c0, .func (.func 103) #[] #[]] rfl zq5 ?_; (with_reducible refine (slices_IndexFunc_Gauge_sound_checkGauges_1.calls k _ _ l0  t101 _ ?side1 ?side2 A3.out).mono ?_); (case side1 => repeat (first | exact HR0.out | (with_reducible refine Kd.C_alloc ?_ _) | (with_reducible refine Kd.C_drewN ?_ _) | (with_reducible refine Kd.C_drew ?_))); (case side2 => exact HC0.out); rintro e w4 ⟨rfl, hb⟩; refine ⟨_, rfl, ?_⟩; have n0_ := zam (zbt zq1 hb); clear HB; have HB := n0_; clear n0_; (try clear hb); (try clear hb2); (try clear hk); (try clear hi)))
 go_ret
 exact ⟨by first | rfl | (simp [errW_none, errW_some] <;> rfl) | (simp [*, errW_none, errW_some] <;> rfl), by repeat (first | (with_reducible first | exact HB.out | apply zba | apply zbn | apply zb1) | exact HB.out)⟩
def sound_checkGauges_3.f (k : Nat) (l0_0 : List (S24)) : Option (Bool) := (sound_checkTrack.f k l0_0).bind fun t102 => (some (t102 != 0))
theorem sound_checkGauges_3.mono : ∀ a0 k, LeO (sound_checkGauges_3.f k a0) (sound_checkGauges_3.f (k + 1) a0) := by
 intro a0 k
 unfold sound_checkGauges_3.f
 repeat' first
   | (with_reducible exact sound_checkTrack.mono _ _)
   | (with_reducible exact LeO.refl _)
   | (with_reducible exact LeO.none _)
   | (with_reducible refine LeO.ite ?_ ?_)
   | (with_reducible refine LeO.bind ?_ (fun _ => ?_))
   | exact sound_checkTrack.mono _ _
   | exact LeO.none _
   | refine LeO.ite ?_ ?_
   | refine LeO.bind ?_ (fun _ => ?_)
set_option maxHeartbeats 8000000 in
set_option maxRecDepth 100000 in
theorem sound_checkGauges_3.calls (k : Nat) (A0_0 : Option Addr) (c0_0 : Nat) (l0_0 : List (S24)) (r : Bool) (w : World) (hr0_0 : Kd.C k24 w A0_0 l0_0.length l0_0) (hc0_0 : l0_0.length ≤ c0_0) (h : sound_checkGauges_3.f k l0_0 = some r) :
  Calls Try.prog 105 #[.agg #[.slice A0_0 l0_0.length c0_0]] w fun e w' => e = .returned (.bool r) ∧ Below w.heap.size w w' := by
 have hu45 := Try.underlying45
 have HR0_0 := zam hr0_0
 have HC0_0 := zam hc0_0
 clear hr0_0 hc0_0
 have HB := zam (Below.refl w.heap.size w)
 have H : ((sound_checkTrack.f k l0_0).bind fun t102 => (some (t102 != 0))) = some r := h
 clear h
 replace H := Option.bind_eq_some_iff.mp H
 obtain ⟨t102, A20, H⟩ := H
 replace H : (some (t102 != 0)) = some r := H
 have A2 := zam A20
 clear A20
 obtain rfl := zsi H
 go_enter Try.func105, Try.ntmps105
 go_wp2_with (first | ((with_reducible refine zgd (N := 1) rfl ?_); refine box_event ?hg (N := 1) ?hd (cs := #[.slice A0_0 l0_0.length c0_0]) (t := 45) ?hr ?_; (case hd => rfl); (case hg => rfl); (case hr => first | (go_simp; done) | (go_simp; rfl)); intro gb101 hg w3 hbox hb; have n0_ := zam (zbt zq1 hb); have n1_ := zam (hbox); have n2_ := zam ((by rw [hg]; exact (zbz zq1) : w.heap.size ≤ gb101)); have n3_ := zam ((by rw [hg]; exact (zbz zq1) : w.heap.size ≤ gb101)); clear HB; have HB := n0_; have BK101 := n1_; have GW101 := n2_; have GE101 := n3_; clear n0_ n1_ n2_ n3_; clear hb hbox hg; have hcz4_0 : w3.cell? ⟨gb101, 0, none⟩ = some (.slice A0_0 l0_0.length c0_0) := (zkc BK101.out 0).trans rfl; have hfz4_0 := zkz BK101.out 0) | ((with_reducible refine zgc (f := 71) rfl ?_); refine goesL_ (some 5) rfl rfl Try.func71 (by kernel_rfl) rfl #[.slice A0_0 l0_0.length c0_0] rfl zq5 ?_; (with_reducible refine (sound_checkTrack.calls k _ _ l0_0 t102 _ ?side1 ?side2 A2.out).mono ?_); (case side1 => repeat (first | exact (Kd.C_below HR0_0.out HB.out) | (with_reducible refine Kd.C_alloc ?_ _) | (with_reducible refine Kd.C_drewN ?_ _) | (with_reducible refine Kd.C_drew ?_))); (case side2 => exact HC0_0.out); rintro e w5 ⟨rfl, hb⟩; refine ⟨_, rfl, ?_⟩; have n0_ := zam (zkb (g := gb101) (o := .cells #[.slice A0_0 l0_0.length c0_0] 45 (0, 0)) zq0 hb); have n1_ := zam (zbt zq2 hb); clear BK101; clear HB; have BK101 := n0_; have HB := n1_; clear n0_ n1_; (try clear hb); (try clear hb2); (try clear hk); (try clear hi)))
 go_ret
 exact ⟨by first | rfl | (simp [errW_none, errW_some] <;> rfl) | (simp [*, errW_none, errW_some] <;> rfl), by repeat (first | (with_reducible first | exact HB.out | apply zba | apply zbn | apply zb1 | refine zbs ?_ GE101.out) | exact HB.out)⟩
def slices_IndexFunc_Gauge_sound_checkGauges_3.l0 : Nat → List (S45) → Int → Int → Option (Int)
 | 0, _, _, _ => none
 | k + 1, x0, x7, x8 => if x8 < x7 then (if 0 ≤ x8 then (if x8 < (x0.length : Int) then ((sound_checkGauges_3.f k ((rd_T45 x0 x8).f0)).bind fun t102 => (if t102 = true then (some x8) else (slices_IndexFunc_Gauge_sound_checkGauges_3.l0 k x0 x7 (wrap64 (x8 + 1))))) else (none)) else (none)) else (some (-1))
def slices_IndexFunc_Gauge_sound_checkGauges_3.f (k : Nat) (l0 : List (S45))  : Option (Int) := slices_IndexFunc_Gauge_sound_checkGauges_3.l0 k l0 (l0.length : Int) 0
theorem slices_IndexFunc_Gauge_sound_checkGauges_3.mono_l : ∀ k, (∀ y0 y1 y2, LeO (slices_IndexFunc_Gauge_sound_checkGauges_3.l0 k y0 y1 y2) (slices_IndexFunc_Gauge_sound_checkGauges_3.l0 (k + 1) y0 y1 y2))
 | 0 => fun _ _ _ r h => by simp [slices_IndexFunc_Gauge_sound_checkGauges_3.l0] at h
 | k + 1 => by
  have ih0 := slices_IndexFunc_Gauge_sound_checkGauges_3.mono_l k
  intro y0 y1 y2
  unfold slices_IndexFunc_Gauge_sound_checkGauges_3.l0
  repeat' first
  | (with_reducible exact ih0 _ _ _)
  | (with_reducible exact sound_checkGauges_3.mono _ _)
  | (with_reducible exact LeO.refl _)
  | (with_reducible exact LeO.none _)
  | (with_reducible refine LeO.ite ?_ ?_)
  | (with_reducible refine LeO.bind ?_ (fun _ => ?_))
  | exact ih0 _ _ _
  | exact sound_checkGauges_3.mono _ _
  | exact LeO.none _
  | refine LeO.ite ?_ ?_
  | refine LeO.bind ?_ (fun _ => ?_)
theorem slices_IndexFunc_Gauge_sound_checkGauges_3.mono : ∀ a0 k, LeO (slices_IndexFunc_Gauge_sound_checkGauges_3.f k a0) (slices_IndexFunc_Gauge_sound_checkGauges_3.f (k + 1) a0) := by
 intro a0 k
 have ih0 := slices_IndexFunc_Gauge_sound_checkGauges_3.mono_l k
 unfold slices_IndexFunc_Gauge_sound_checkGauges_3.f
 repeat' first
   | (with_reducible exact ih0 _ _ _)
   | (with_reducible exact sound_checkGauges_3.mono _ _)
   | (with_reducible exact LeO.refl _)
   | (with_reducible exact LeO.none _)
   | (with_reducible refine LeO.ite ?_ ?_)
   | (with_reducible refine LeO.bind ?_ (fun _ => ?_))
   | exact ih0 _ _ _
   | exact sound_checkGauges_3.mono _ _
   | exact LeO.none _
   | refine LeO.ite ?_ ?_
   | refine LeO.bind ?_ (fun _ => ?_)
set_option maxHeartbeats 8000000 in
set_option maxRecDepth 100000 in
theorem slices_IndexFunc_Gauge_sound_checkGauges_3.calls (k : Nat) (A0 : Option Addr) (c0 : Nat) (l0 : List (S45))  (r : Int) (w : World) (hr0 : Kd.C k45 w A0 l0.length l0) (hc0 : l0.length ≤ c0) (h : slices_IndexFunc_Gauge_sound_checkGauges_3.f k l0 = some r) :
  Calls Try.prog 128 #[.slice A0 l0.length c0, .func (.func 105) #[] #[]] w fun e w' => e = .returned (.int .i64 r) ∧ Below w.heap.size w w' := by
 have hu45 := Try.underlying45
 have HR0 := zam hr0
 have HC0 := zam hc0
 clear hr0 hc0
 have HB := zam (Below.refl w.heap.size w)
 have H : (slices_IndexFunc_Gauge_sound_checkGauges_3.l0 k l0 (l0.length : Int) 0) = some r := h
 clear h
 have H' := zam H
 clear H
 go_enter Try.func128, Try.ntmps128
 go_wp2
 go_loopg [8] k (fun kq v8 w' => ∃ (x8_1 : Int), v8 = .int .i64 x8_1 ∧ Aside0 (slices_IndexFunc_Gauge_sound_checkGauges_3.l0 kq l0 (l0.length : Int) x8_1 = some r) ∧ Aside0 (kq ≤ k) ∧ Aside0 (Below w.heap.size w w'))
 case atStart => exact ⟨(0), zq10, H', ⟨Nat.le_refl _⟩, ⟨by repeat (first | (with_reducible first | exact HB.out | apply zba | apply zbn | apply zb1) | exact HB.out)⟩⟩
 case round =>
  clear H'
  try clear p2
  obtain ⟨x8_1, rfl, HA, HK1, HB⟩ := hrel
  cases gk with
  | zero => exact absurd HA.out (by simp [slices_IndexFunc_Gauge_sound_checkGauges_3.l0])
  | succ k1 =>
   have H := HA.out
   clear HA
   simp only [slices_IndexFunc_Gauge_sound_checkGauges_3.l0] at H
   by_cases c3 : x8_1 < (l0.length : Int)
   ·rw [if_pos c3] at H
    have c3b0 : decide (x8_1 < (l0.length : Int)) = true := zdt c3
    clear c3
    by_cases c4 : 0 ≤ x8_1
    ·rw [if_pos c4] at H
     have c4b0 : decide (0 ≤ x8_1) = true := zdt c4
     clear c4
     by_cases c5 : x8_1 < (l0.length : Int)
     ·rw [if_pos c5] at H
      have c5b0 : decide (x8_1 < (l0.length : Int)) = true := zdt c5
      clear c5
      replace H := Option.bind_eq_some_iff.mp H
      obtain ⟨t102, A60, H⟩ := H
      replace H : (if t102 = true then (some x8_1) else (slices_IndexFunc_Gauge_sound_checkGauges_3.l0 k1 l0 (l0.length : Int) (wrap64 (x8_1 + 1)))) = some r := H
      have A6 := zam A60
      clear A60
      by_cases c7 : t102 = true
      ·subst c7
       have H1 : (some x8_1) = some r := by rw [if_pos rfl] at H; exact H
       clear H
       have H := H1
       clear H1
       obtain rfl := zsi H
       have p101 : 0 ≤ (x8_1 : Int) := zod zq9
       have q101 : x8_1 < (l0.length : Int) := zod zq9
       obtain ⟨ad101, A101_0, c101_0, e101, hx101_0, hl101_0, hi101_0⟩ := at_T45 HR0.out x8_1 p101 q101
       cases e101
       replace hx101_0 := (HB.out.cell (zwb w _ hx101_0)).trans hx101_0
       have HR101_0 := zam hi101_0
       have HC101_0 := zam hl101_0
       clear hi101_0 hl101_0
       replace p101 := eq_true p101
       replace q101 := eq_true q101
       go_wp2_with (first | (go_at_call 105; (with_reducible refine (sound_checkGauges_3.calls k1 _ _ ((rd_T45 l0 x8_1).f0) true _ ?side1 ?side2 A6.out).mono ?_); (case side1 => repeat (first | exact (Kd.C_below HR101_0.out HB.out) | (with_reducible refine Kd.C_alloc ?_ _) | (with_reducible refine Kd.C_drewN ?_ _) | (with_reducible refine Kd.C_drew ?_))); (case side2 => exact HC101_0.out); rintro e w8 ⟨rfl, hb⟩; have n0_ := zam (zbt zq1 hb); clear HB; have HB := n0_; clear n0_; (try clear hb); (try clear hb2); (try clear hk); (try clear hi)))
       go_ret
       exact ⟨by first | rfl | (simp [errW_none, errW_some] <;> rfl) | (simp [*, errW_none, errW_some] <;> rfl), by repeat (first | (with_reducible first | exact HB.out | apply zba | apply zbn | apply zb1) | exact HB.out)⟩
      replace c7 := Bool.eq_false_iff.mpr c7
      subst c7
      have H1 : (slices_IndexFunc_Gauge_sound_checkGauges_3.l0 k1 l0 (l0.length : Int) (wrap64 (x8_1 + 1))) = some r := by rw [if_neg (show ¬ (false = true) by decide)] at H; exact H
      clear H
      have H := H1
      clear H1
      have H' := zam H
      clear H
      have p101 : 0 ≤ (x8_1 : Int) := zod zq9
      have q101 : x8_1 < (l0.length : Int) := zod zq9
      obtain ⟨ad101, A101_0, c101_0, e101, hx101_0, hl101_0, hi101_0⟩ := at_T45 HR0.out x8_1 p101 q101
      cases e101
      replace hx101_0 := (HB.out.cell (zwb w _ hx101_0)).trans hx101_0
      have HR101_0 := zam hi101_0
      have HC101_0 := zam hl101_0
      clear hi101_0 hl101_0
      replace p101 := eq_true p101
      replace q101 := eq_true q101
      go_wp2_with (first | (go_at_call 105; (with_reducible refine (sound_checkGauges_3.calls k1 _ _ ((rd_T45 l0 x8_1).f0) false _ ?side1 ?side2 A6.out).mono ?_); (case side1 => repeat (first | exact (Kd.C_below HR101_0.out HB.out) | (with_reducible refine Kd.C_alloc ?_ _) | (with_reducible refine Kd.C_drewN ?_ _) | (with_reducible refine Kd.C_drew ?_))); (case side2 => exact HC101_0.out); rintro e w9 ⟨rfl, hb⟩; have n0_ := zam (zbt zq1 hb); clear HB; have HB := n0_; clear n0_; (try clear hb); (try clear hb2); (try clear hk); (try clear hi)))
      go_roundg k1
      case measure => have := HK1.out; omega
      case rel => exact ⟨(wrap64 (x8_1 + 1)), zq10, H', ⟨by have := HK1.out; omega⟩, ⟨by repeat (first | (with_reducible first | exact HB.out | apply zba | apply zbn | apply zb1) | exact HB.out)⟩⟩
     rw [if_neg c5] at H
     exact absurd H (by simp)
    rw [if_neg c4] at H
    exact absurd H (by simp)
   rw [if_neg c3] at H
   have c3b0 : decide (x8_1 < (l0.length : Int)) = false := zdf c3
   clear c3
   obtain rfl := zsi H
   go_wp2
   go_ret
   exact ⟨by first | rfl | (simp [errW_none, errW_some] <;> rfl) | (simp [*, errW_none, errW_some] <;> rfl), by repeat (first | (with_reducible first | exact HB.out | apply zba | apply zbn | apply zb1) | exact HB.out)⟩
def slices_ContainsFunc_Gauge_sound_checkGauges_3.f (k : Nat) (l0 : List (S45))  : Option (Bool) := (slices_IndexFunc_Gauge_sound_checkGauges_3.f k l0).bind fun t101 => (some (decide (t101 ≥ 0)))
theorem slices_ContainsFunc_Gauge_sound_checkGauges_3.mono : ∀ a0 k, LeO (slices_ContainsFunc_Gauge_sound_checkGauges_3.f k a0) (slices_ContainsFunc_Gauge_sound_checkGauges_3.f (k + 1) a0) := by
 intro a0 k
 unfold slices_ContainsFunc_Gauge_sound_checkGauges_3.f
 repeat' first
   | (with_reducible exact slices_IndexFunc_Gauge_sound_checkGauges_3.mono _ _)
   | (with_reducible exact LeO.refl _)
   | (with_reducible exact LeO.none _)
   | (with_reducible refine LeO.ite ?_ ?_)
   | (with_reducible refine LeO.bind ?_ (fun _ => ?_))
   | exact slices_IndexFunc_Gauge_sound_checkGauges_3.mono _ _
   | exact LeO.none _
   | refine LeO.ite ?_ ?_
   | refine LeO.bind ?_ (fun _ => ?_)
set_option maxHeartbeats 8000000 in
set_option maxRecDepth 100000 in
theorem slices_ContainsFunc_Gauge_sound_checkGauges_3.calls (k : Nat) (A0 : Option Addr) (c0 : Nat) (l0 : List (S45))  (r : Bool) (w : World) (hr0 : Kd.C k45 w A0 l0.length l0) (hc0 : l0.length ≤ c0) (h : slices_ContainsFunc_Gauge_sound_checkGauges_3.f k l0 = some r) :
  Calls Try.prog 102 #[.slice A0 l0.length c0, .func (.func 105) #[] #[]] w fun e w' => e = .returned (.bool r) ∧ Below w.heap.size w w' := by
 have HR0 := zam hr0
 have HC0 := zam hc0
 clear hr0 hc0
 have HB := zam (Below.refl w.heap.size w)
 have H : ((slices_IndexFunc_Gauge_sound_checkGauges_3.f k l0).bind fun t101 => (some (decide (t101 ≥ 0)))) = some r := h
 clear h
 replace H := Option.bind_eq_some_iff.mp H
 obtain ⟨t101, A30, H⟩ := H
 replace H : (some (decide (t101 ≥ 0))) = some r := H
 have A3 := zam A30
 clear A30
 obtain rfl := zsi H
 go_enter Try.func102, Try.ntmps102
 go_wp2_with (first | ((with_reducible refine zgc (f := 128) rfl ?_); refine goesL_ (some 7) rfl rfl Try.func128 (by kernel_rfl) rfl #[.slice A0 l0.length c0, .func (.func 105) #[] #[]] rfl zq5 ?_; (with_reducible refine (slices_IndexFunc_Gauge_sound_checkGauges_3.calls k _ _ l0  t101 _ ?side1 ?side2 A3.out).mono ?_); (case side1 => repeat (first | exact HR0.out | (with_reducible refine Kd.C_alloc ?_ _) | (with_reducible refine Kd.C_drewN ?_ _) | (with_reducible refine Kd.C_drew ?_))); (case side2 => exact HC0.out); rintro e w4 ⟨rfl, hb⟩; refine ⟨_, rfl, ?_⟩; have n0_ := zam (zbt zq1 hb); clear HB; have HB := n0_; clear n0_; (try clear hb); (try clear hb2); (try clear hk); (try clear hi)))
 go_ret
 exact ⟨by first | rfl | (simp [errW_none, errW_some] <;> rfl) | (simp [*, errW_none, errW_some] <;> rfl), by repeat (first | (with_reducible first | exact HB.out | apply zba | apply zbn | apply zb1) | exact HB.out)⟩
def Sd.idx {α : Type} (q : α → Bool) (l : List α) : Int := if l.any q = true then (l.findIdx q : Int) else -1
theorem Sd.idx_at {α : Type} {q : α → Bool} {l : List α} {i : Nat} (hi : i < l.length) (h : q l[i] = true) (hb : ∀ s ∈ l.take i, q s = false) : Sd.idx q l = (i : Int) := by
 unfold Sd.idx
 rw [if_pos (List.any_eq_true.2 ⟨_, List.getElem_mem hi, h⟩)]
 congr 1
 refine (List.findIdx_eq hi).2 ⟨h, fun j hj => ?_⟩
 refine hb _ ?_
 rw [List.mem_take_iff_getElem]
 exact ⟨j, by omega, rfl⟩
theorem Sd.idx_none {α : Type} {q : α → Bool} {l : List α} (hb : ∀ s ∈ l, q s = false) : Sd.idx q l = -1 := by
 unfold Sd.idx
 rw [if_neg]
 rw [List.any_eq_true]
 rintro ⟨s, hs, h⟩
 rw [hb s hs] at h
 cases h
def Sd.diff (xs : List S45) (s : S45) : Bool := (s.f0.length : Int) != ((rd_T45 xs 0).f0.length : Int)
set_option maxRecDepth 100000 in
set_option maxHeartbeats 4000000 in
theorem sound_checkGauges_2.calls (p : Nat) (A : Option Addr) (c : Nat) (xs : List S45) (A1 : Option Addr) (c1 : Nat) (s : S45) (w : World) (hxs : 0 < xs.length) (kp : w.heap[p]? = some (.cells #[.slice A xs.length c] 37 (0, 0))) (kc : Kd.C k45 w A xs.length xs) :
  Calls Try.prog 104 #[.agg #[.slice A1 s.f0.length c1], .pointer (some ⟨p, 0, none⟩)] w fun e w' => e = .returned (.bool (Sd.diff xs s)) ∧ Below w.heap.size w w' := by
 have hu45 := Try.underlying45
 obtain ⟨ad, A2, c2, ead, hx, -, -⟩ := at_T45 kc 0 (by decide) (by omega)
 subst ead
 rw [show ((0 : Int)).toNat = 0 from rfl, Addr.add_zero'] at hx
 have hp : w.cell? ⟨p, 0, none⟩ = some (.slice (some ad) xs.length c) := (zkc kp 0).trans rfl
 have g0 : ((0 : Int) < (xs.length : Int)) = True := eq_true (by omega)
 have g1 : (0 < xs.length) = True := eq_true hxs
 unfold Sd.diff
 obtain ⟨m, hm⟩ : ∃ m, (rd_T45 xs 0).f0.length = m := ⟨_, rfl⟩
 obtain ⟨n, hn⟩ : ∃ n, s.f0.length = n := ⟨_, rfl⟩
 rw [hm] at hx ⊢
 rw [hn]
 have HX := zam hx
 have HP := zam hp
 clear hm hn hx hp kc kp hxs
 by_cases q : n = m
 ·subst q
  go_enter Try.func104, Try.ntmps104
  go_wp2_with ((with_reducible refine zgd (N := 2) rfl ?_); refine box_event ?hg (N := 2) ?hd (cs := #[.slice A1 n c1]) (t := 45) ?hr ?_; (case hd => rfl); (case hg => rfl); (case hr => first | (go_simp; done) | (go_simp; rfl)); intro gg hgg w2 hbk hb0; have HB := zam hb0; have hz := (zkc hbk 0).trans rfl; have hx2 := (hb0.cell (zwb w _ HX.out)).trans HX.out; have hp2 := (hb0.cell (zwb w _ HP.out)).trans HP.out; clear hgg hbk hb0)
  go_region
  go_wp2
  go_ret
  exact ⟨by simp, zb1 HB.out⟩
 have q1 : (n == m) = false := beq_eq_false_iff_ne.mpr q
 have q2 : (n != m) = true := bne_iff_ne.mpr q
 have q3 : ((n : Int) == (m : Int)) = false := beq_eq_false_iff_ne.mpr (by omega)
 have q4 : ((n : Int) != (m : Int)) = true := bne_iff_ne.mpr (by omega)
 clear q
 go_enter Try.func104, Try.ntmps104
 go_wp2_with ((with_reducible refine zgd (N := 2) rfl ?_); refine box_event ?hg (N := 2) ?hd (cs := #[.slice A1 n c1]) (t := 45) ?hr ?_; (case hd => rfl); (case hg => rfl); (case hr => first | (go_simp; done) | (go_simp; rfl)); intro gg hgg w2 hbk hb0; have HB := zam hb0; have hz := (zkc hbk 0).trans rfl; have hx2 := (hb0.cell (zwb w _ HX.out)).trans HX.out; have hp2 := (hb0.cell (zwb w _ HP.out)).trans HP.out; clear hgg hbk hb0)
 go_region
 go_wp2
 go_ret
 exact ⟨by rw [q4]; rfl, zb1 HB.out⟩
set_option maxRecDepth 100000 in
set_option maxHeartbeats 4000000 in
theorem index_gauge (p : Nat) (A : Option Addr) (c : Nat) (xs : List S45) (w : World) (hxl : xs.length ≤ 1000000) (hxs : 0 < xs.length) (kp : w.heap[p]? = some (.cells #[.slice A xs.length c] 37 (0, 0))) (kc : Kd.C k45 w A xs.length xs) :
  Calls Try.prog 128 #[.slice A xs.length c, .func (.func 104) #[] #[.pointer (some ⟨p, 0, none⟩)]] w fun e w' => e = .returned (.int .i64 (Sd.idx (Sd.diff xs) xs)) ∧ Below w.heap.size w w' := by
 have hu45 := Try.underlying45
 have KC := zam kc
 have KX := zam kp
 have HL := zam hxl
 have HP := zam hxs
 clear kc kp hxl hxs
 go_enter Try.func128, Try.ntmps128
 go_wp2
 go_loopw [8] (fun v wr => ∃ i : Nat, i ≤ xs.length ∧ v = .int .i64 (i : Int) ∧ Aside0 (∀ s ∈ xs.take i, Sd.diff xs s = false) ∧ Aside0 (Below w.heap.size w wr)) (fun v _ => xs.length - (intOf v).toNat)
 case atStart => exact ⟨0, Nat.zero_le _, rfl, ⟨by simp⟩, ⟨Below.refl _ _⟩⟩
 case round =>
  obtain ⟨i, hi, rfl, HN, HB⟩ := hrel
  by_cases hlt : i < xs.length
  ·have d1 : decide ((i : Int) < (xs.length : Int)) = true := zdt (by omega)
   have d2 : decide (i < xs.length) = true := zdt hlt
   obtain ⟨ad, A2, c2, ead, hx0, hl2, hk2⟩ := at_T45 (Kd.C_below KC.out HB.out) (i : Int) (Int.natCast_nonneg _) (by omega)
   subst ead
   have e1 : rd_T45 xs (i : Int) = xs[i] := by
    unfold rd_T45
    rw [Int.toNat_natCast]
    simp [List.getD, hlt]
   rw [e1, Int.toNat_natCast] at hx0
   have g0 : ((0 : Int) ≤ (i : Int)) = True := eq_true (by omega)
   have g1 : ((i : Int) < (xs.length : Int)) = True := eq_true (by omega)
   have wi : IntKind.i64.wrap ((i : Int) + 1) = ((i + 1 : Nat) : Int) := by
    have := HL.out
    rw [i64_w, wrap_id (by omega) (by omega)]
    omega
   have LT := zam hlt
   have KX2 := zam (zkb KX.out HB.out)
   have KC2 := zam (Kd.C_below KC.out HB.out)
   obtain ⟨s, hs⟩ : ∃ s, xs[i] = s := ⟨_, rfl⟩
   rw [hs] at hx0
   have HS : Aside0 (xs[i]'LT.out = s) := ⟨hs⟩
   clear hs e1 hlt hl2 hk2
   by_cases q : Sd.diff xs s = true
   ·have HR := zam (Sd.idx_at LT.out (by rw [HS.out]; exact q) HN.out)
    go_wp2_with (go_at_call 104; (refine (sound_checkGauges_2.calls p (some ad) c xs _ _ s _ HP.out KX2.out KC2.out).mono ?_); rintro e w2 ⟨rfl, hb⟩; have n0 := zam (zbt HB.out hb); clear HB hb; have HB := n0; clear n0)
    go_ret
    exact ⟨by rw [HR.out]; rfl, HB.out⟩
   have q := Bool.eq_false_iff.2 q
   have HN2 : Aside0 (∀ s ∈ xs.take (i + 1), Sd.diff xs s = false) := ⟨by
    rw [take_snoc LT.out]
    intro t ht
    rcases List.mem_append.1 ht with ht | ht
    ·exact HN.out t ht
    rw [List.mem_singleton.1 ht, HS.out]
    exact q⟩
   go_wp2_with (go_at_call 104; (refine (sound_checkGauges_2.calls p (some ad) c xs _ _ s _ HP.out KX2.out KC2.out).mono ?_); rintro e w2 ⟨rfl, hb⟩; have n0 := zam (zbt HB.out hb); clear HB hb; have HB := n0; clear n0)
   go_roundw
   case rel => exact ⟨i + 1, LT.out, rfl, HN2, HB⟩
   case measure => (have := LT.out; simp only [intOf]; omega)
  have d1 : decide ((i : Int) < (xs.length : Int)) = false := zdf (by omega)
  have d2 : decide (i < xs.length) = false := zdf hlt
  have HR : Aside0 (Sd.idx (Sd.diff xs) xs = -1) := ⟨Sd.idx_none (by have := HN.out; rwa [List.take_of_length_le (by omega)] at this)⟩
  clear hlt
  go_wp2
  go_ret
  exact ⟨by rw [HR.out]; rfl, HB.out⟩
set_option maxRecDepth 100000 in
set_option maxHeartbeats 4000000 in
theorem contains_gauge (p : Nat) (A : Option Addr) (c : Nat) (xs : List S45) (w : World) (hxl : xs.length ≤ 1000000) (hxs : 0 < xs.length) (kp : w.heap[p]? = some (.cells #[.slice A xs.length c] 37 (0, 0))) (kc : Kd.C k45 w A xs.length xs) :
  Calls Try.prog 102 #[.slice A xs.length c, .func (.func 104) #[] #[.pointer (some ⟨p, 0, none⟩)]] w fun e w' => e = .returned (.bool (xs.any (Sd.diff xs))) ∧ Below w.heap.size w w' := by
 have KC := zam kc
 have KX := zam kp
 have HL := zam hxl
 have HP := zam hxs
 clear kc kp hxl hxs
 have hI : decide (0 ≤ Sd.idx (Sd.diff xs) xs) = xs.any (Sd.diff xs) := by
  unfold Sd.idx
  by_cases q : xs.any (Sd.diff xs) = true
  ·rw [if_pos q, q]
   exact zdt (by omega)
  rw [if_neg q, Bool.eq_false_iff.2 q]
  rfl
 have HI := zam hI
 clear hI
 go_enter Try.func102, Try.ntmps102
 go_wp2_with (go_at_call 128; (refine (index_gauge p A c xs _ HL.out HP.out KX.out KC.out).mono ?_); rintro e w2 ⟨rfl, hb⟩; have HB := zam hb; clear hb)
 go_ret
 exact ⟨by rw [HI.out]; rfl, HB.out⟩
def sound_checkGauges.f (k : Nat) (l0 : List (S45)) (a1_0 : Int) (a1_1 : Int) (a1_2 : Int) : Option Int :=
 if l0.length = 0 then some 6 else if 16 < l0.length then some 6 else
 (slices_ContainsFunc_Gauge_sound_checkGauges_1.f k l0).bind fun a => if a = true then some 6 else if l0.any (Sd.diff l0) = true then some 17 else
 (slices_ContainsFunc_Gauge_sound_checkGauges_3.f k l0).bind fun b => if b = true then some 2 else
 (sound_between.f a1_0 1 1073741824).bind fun z => if z = true then (if a1_1 < 1 then some 2 else if 256 < a1_1 then some 2 else if a1_2 < 1 then some 2 else if 16 < a1_2 then some 2 else some 0) else some 2
theorem sound_checkGauges.mono : ∀ a0 a1 a2 a3 k, LeO (sound_checkGauges.f k a0 a1 a2 a3) (sound_checkGauges.f (k + 1) a0 a1 a2 a3) := by
 intro a0 a1 a2 a3 k
 unfold sound_checkGauges.f
 refine LeO.ite (LeO.refl _) (LeO.ite (LeO.refl _) (LeO.bind (slices_ContainsFunc_Gauge_sound_checkGauges_1.mono _ _) (fun a => LeO.ite (LeO.refl _) (LeO.ite (LeO.refl _) (LeO.bind (slices_ContainsFunc_Gauge_sound_checkGauges_3.mono _ _) (fun b => LeO.ite (LeO.refl _) (LeO.refl _)))))))
set_option maxHeartbeats 16000000 in
set_option maxRecDepth 100000 in
theorem sound_checkGauges.calls (k : Nat) (A0 : Option Addr) (c0 : Nat) (l0 : List (S45)) (a1_0 : Int) (a1_1 : Int) (a1_2 : Int) (r : Int) (w : World) (hr0 : Kd.C k45 w A0 l0.length l0) (hc0 : l0.length ≤ c0) (h : sound_checkGauges.f k l0 a1_0 a1_1 a1_2 = some r) :
  Calls Try.prog 61 #[.slice A0 l0.length c0, .agg #[.int .i64 a1_0, .int .i64 a1_1, .int .i64 a1_2]] w fun e w' => e = .returned (.int .i64 r) ∧ Below w.heap.size w w' := by
 have hu39 := Try.underlying39
 have hu45 := Try.underlying45
 have C1 := zam (fun (x : Bool) (w1 : World) (hb1 : Below w.heap.size w w1) (hs : slices_ContainsFunc_Gauge_sound_checkGauges_1.f k l0 = some x) => slices_ContainsFunc_Gauge_sound_checkGauges_1.calls k A0 c0 l0 x w1 (Kd.C_below hr0 hb1) hc0 hs)
 have C3 := zam (fun (x : Bool) (w1 : World) (hb1 : Below w.heap.size w w1) (hs : slices_ContainsFunc_Gauge_sound_checkGauges_3.f k l0 = some x) => slices_ContainsFunc_Gauge_sound_checkGauges_3.calls k A0 c0 l0 x w1 (Kd.C_below hr0 hb1) hc0 hs)
 have HR := zam hr0
 clear hr0
 unfold sound_checkGauges.f at h
 by_cases x0 : l0.length = 0
 ·rw [if_pos x0, Option.some.injEq] at h
  subst h
  have x0b : decide ((l0.length : Int) < 1) = true := zdt (by omega)
  have x0c : decide (1 > (l0.length : Int)) = true := zdt (by omega)
  have x0nb : decide (l0.length < 1) = true := zdt (by omega)
  have x0nc : decide (1 > l0.length) = true := zdt (by omega)
  have x0z : decide (l0.length = 0) = true := zdt x0
  clear x0
  go_enter Try.func61, Try.ntmps61
  go_wp2_with (first | ((with_reducible refine zgd (N := 2) rfl ?_); refine box_event ?hg (N := 2) ?hd (cs := #[.slice A0 l0.length c0]) (t := 37) ?hr ?_; (case hd => rfl); (case hg => rfl); (case hr => first | (go_simp; done) | (go_simp; rfl)); intro gl hgn_ wqgl hbk hb0; have HB := zam hb0; have Ggl : Aside0 (w.heap.size ≤ gl) := ⟨by rw [hgn_]; exact Nat.le_refl _⟩; have Bgl := zam hbk; clear hgn_ hbk hb0) | ((with_reducible refine zgd (N := 3) rfl ?_); refine box_event ?hg (N := 3) ?hd (cs := #[.int .i64 a1_0, .int .i64 a1_1, .int .i64 a1_2]) (t := 39) ?hr ?_; (case hd => rfl); (case hg => rfl); (case hr => first | (go_simp; done) | (go_simp; rfl)); intro gu hgn_ wqgu hbk hb0; have m0_ := zam (zkb Bgl.out hb0); have Ggu : Aside0 (w.heap.size ≤ gu) := ⟨by rw [hgn_]; exact HB.out.size⟩; have mb_ := zam (zbt HB.out hb0); clear HB; have HB := mb_; clear mb_; have Bgu := zam hbk; clear hgn_ hbk hb0 Bgl; have Bgl := m0_; clear m0_; have hz0 := (zkc Bgl.out 0).trans rfl; have hy0 := (zkc Bgu.out 0).trans rfl; have hy1 := (zkc Bgu.out 1).trans rfl; have hy2 := (zkc Bgu.out 2).trans rfl))
  go_ret
  exact ⟨rfl, HB.out⟩
 rw [if_neg x0] at h
 have x0b : decide ((l0.length : Int) < 1) = false := zdf (by omega)
 have x0c : decide (1 > (l0.length : Int)) = false := zdf (by omega)
 have x0nb : decide (l0.length < 1) = false := zdf (by omega)
 have x0nc : decide (1 > l0.length) = false := zdf (by omega)
 have x0z : decide (l0.length = 0) = false := zdf x0
 have HP : Aside0 (0 < l0.length) := ⟨by omega⟩
 by_cases x1 : 16 < l0.length
 ·rw [if_pos x1, Option.some.injEq] at h
  subst h
  have x1b : decide (16 < (l0.length : Int)) = true := zdt (by omega)
  have x1c : decide ((l0.length : Int) > 16) = true := zdt (by omega)
  have x1nb : decide (16 < l0.length) = true := zdt (by omega)
  have x1nc : decide (l0.length > 16) = true := zdt (by omega)
  clear x1
  go_enter Try.func61, Try.ntmps61
  go_wp2_with (first | ((with_reducible refine zgd (N := 2) rfl ?_); refine box_event ?hg (N := 2) ?hd (cs := #[.slice A0 l0.length c0]) (t := 37) ?hr ?_; (case hd => rfl); (case hg => rfl); (case hr => first | (go_simp; done) | (go_simp; rfl)); intro gl hgn_ wqgl hbk hb0; have HB := zam hb0; have Ggl : Aside0 (w.heap.size ≤ gl) := ⟨by rw [hgn_]; exact Nat.le_refl _⟩; have Bgl := zam hbk; clear hgn_ hbk hb0) | ((with_reducible refine zgd (N := 3) rfl ?_); refine box_event ?hg (N := 3) ?hd (cs := #[.int .i64 a1_0, .int .i64 a1_1, .int .i64 a1_2]) (t := 39) ?hr ?_; (case hd => rfl); (case hg => rfl); (case hr => first | (go_simp; done) | (go_simp; rfl)); intro gu hgn_ wqgu hbk hb0; have m0_ := zam (zkb Bgl.out hb0); have Ggu : Aside0 (w.heap.size ≤ gu) := ⟨by rw [hgn_]; exact HB.out.size⟩; have mb_ := zam (zbt HB.out hb0); clear HB; have HB := mb_; clear mb_; have Bgu := zam hbk; clear hgn_ hbk hb0 Bgl; have Bgl := m0_; clear m0_; have hz0 := (zkc Bgl.out 0).trans rfl; have hy0 := (zkc Bgu.out 0).trans rfl; have hy1 := (zkc Bgu.out 1).trans rfl; have hy2 := (zkc Bgu.out 2).trans rfl))
  go_ret
  exact ⟨rfl, HB.out⟩
 rw [if_neg x1] at h
 have x1b : decide (16 < (l0.length : Int)) = false := zdf (by omega)
 have x1c : decide ((l0.length : Int) > 16) = false := zdf (by omega)
 have x1nb : decide (16 < l0.length) = false := zdf (by omega)
 have x1nc : decide (l0.length > 16) = false := zdf (by omega)
 have HL : Aside0 (l0.length ≤ 1000000) := ⟨by omega⟩
 clear x0 x1
 obtain ⟨a, ha, h⟩ := Option.bind_eq_some_iff.mp h
 have CA := zam ha
 clear ha
 cases a
 case true =>
  simp only [if_true, Option.some.injEq] at h
  subst h
  go_enter Try.func61, Try.ntmps61
  go_wp2_with (first | ((with_reducible refine zgd (N := 2) rfl ?_); refine box_event ?hg (N := 2) ?hd (cs := #[.slice A0 l0.length c0]) (t := 37) ?hr ?_; (case hd => rfl); (case hg => rfl); (case hr => first | (go_simp; done) | (go_simp; rfl)); intro gl hgn_ wqgl hbk hb0; have HB := zam hb0; have Ggl : Aside0 (w.heap.size ≤ gl) := ⟨by rw [hgn_]; exact Nat.le_refl _⟩; have Bgl := zam hbk; clear hgn_ hbk hb0) | ((with_reducible refine zgd (N := 3) rfl ?_); refine box_event ?hg (N := 3) ?hd (cs := #[.int .i64 a1_0, .int .i64 a1_1, .int .i64 a1_2]) (t := 39) ?hr ?_; (case hd => rfl); (case hg => rfl); (case hr => first | (go_simp; done) | (go_simp; rfl)); intro gu hgn_ wqgu hbk hb0; have m0_ := zam (zkb Bgl.out hb0); have Ggu : Aside0 (w.heap.size ≤ gu) := ⟨by rw [hgn_]; exact HB.out.size⟩; have mb_ := zam (zbt HB.out hb0); clear HB; have HB := mb_; clear mb_; have Bgu := zam hbk; clear hgn_ hbk hb0 Bgl; have Bgl := m0_; clear m0_; have hz0 := (zkc Bgl.out 0).trans rfl; have hy0 := (zkc Bgu.out 0).trans rfl; have hy1 := (zkc Bgu.out 1).trans rfl; have hy2 := (zkc Bgu.out 2).trans rfl) | (go_at_call 102; (first | (with_reducible refine (C1.out true _ HB.out CA.out).mono ?_)); rintro e w3 ⟨rfl, hb1⟩; have m0_ := zam (zkb Bgl.out hb1); have m1_ := zam (zkb Bgu.out hb1); have mb_ := zam (zbt HB.out hb1); clear Bgl Bgu HB hb1 hz0 hy0 hy1 hy2; have Bgl := m0_; have Bgu := m1_; have HB := mb_; clear m0_ m1_ mb_; have hz0 := (zkc Bgl.out 0).trans rfl; have hy0 := (zkc Bgu.out 0).trans rfl; have hy1 := (zkc Bgu.out 1).trans rfl; have hy2 := (zkc Bgu.out 2).trans rfl; skip))
  go_ret
  exact ⟨rfl, HB.out⟩
 case false =>
  simp only [Bool.false_eq_true, if_false] at h
  by_cases x2 : l0.any (Sd.diff l0) = true
  ·rw [if_pos x2, Option.some.injEq] at h
   subst h
   have HD := zam x2
   clear x2
   go_enter Try.func61, Try.ntmps61
   go_wp2_with (first | ((with_reducible refine zgd (N := 2) rfl ?_); refine box_event ?hg (N := 2) ?hd (cs := #[.slice A0 l0.length c0]) (t := 37) ?hr ?_; (case hd => rfl); (case hg => rfl); (case hr => first | (go_simp; done) | (go_simp; rfl)); intro gl hgn_ wqgl hbk hb0; have HB := zam hb0; have Ggl : Aside0 (w.heap.size ≤ gl) := ⟨by rw [hgn_]; exact Nat.le_refl _⟩; have Bgl := zam hbk; clear hgn_ hbk hb0) | ((with_reducible refine zgd (N := 3) rfl ?_); refine box_event ?hg (N := 3) ?hd (cs := #[.int .i64 a1_0, .int .i64 a1_1, .int .i64 a1_2]) (t := 39) ?hr ?_; (case hd => rfl); (case hg => rfl); (case hr => first | (go_simp; done) | (go_simp; rfl)); intro gu hgn_ wqgu hbk hb0; have m0_ := zam (zkb Bgl.out hb0); have Ggu : Aside0 (w.heap.size ≤ gu) := ⟨by rw [hgn_]; exact HB.out.size⟩; have mb_ := zam (zbt HB.out hb0); clear HB; have HB := mb_; clear mb_; have Bgu := zam hbk; clear hgn_ hbk hb0 Bgl; have Bgl := m0_; clear m0_; have hz0 := (zkc Bgl.out 0).trans rfl; have hy0 := (zkc Bgu.out 0).trans rfl; have hy1 := (zkc Bgu.out 1).trans rfl; have hy2 := (zkc Bgu.out 2).trans rfl) | (go_at_call 102; (first | (with_reducible refine (C1.out false _ HB.out CA.out).mono ?_) | (with_reducible refine (contains_gauge gl A0 c0 l0 _ HL.out HP.out Bgl.out (Kd.C_below HR.out HB.out)).mono ?_)); rintro e w3 ⟨rfl, hb1⟩; have m0_ := zam (zkb Bgl.out hb1); have m1_ := zam (zkb Bgu.out hb1); have mb_ := zam (zbt HB.out hb1); clear Bgl Bgu HB hb1 hz0 hy0 hy1 hy2; have Bgl := m0_; have Bgu := m1_; have HB := mb_; clear m0_ m1_ mb_; have hz0 := (zkc Bgl.out 0).trans rfl; have hy0 := (zkc Bgu.out 0).trans rfl; have hy1 := (zkc Bgu.out 1).trans rfl; have hy2 := (zkc Bgu.out 2).trans rfl; skip; (try rw [HD.out])))
   go_ret
   exact ⟨rfl, HB.out⟩
  rw [if_neg x2] at h
  have HD := zam (Bool.eq_false_iff.2 x2)
  clear x2
  obtain ⟨b, hb, h⟩ := Option.bind_eq_some_iff.mp h
  have CB := zam hb
  clear hb
  cases b
  case true =>
   simp only [if_true, Option.some.injEq] at h
   subst h
   go_enter Try.func61, Try.ntmps61
   go_wp2_with (first | ((with_reducible refine zgd (N := 2) rfl ?_); refine box_event ?hg (N := 2) ?hd (cs := #[.slice A0 l0.length c0]) (t := 37) ?hr ?_; (case hd => rfl); (case hg => rfl); (case hr => first | (go_simp; done) | (go_simp; rfl)); intro gl hgn_ wqgl hbk hb0; have HB := zam hb0; have Ggl : Aside0 (w.heap.size ≤ gl) := ⟨by rw [hgn_]; exact Nat.le_refl _⟩; have Bgl := zam hbk; clear hgn_ hbk hb0) | ((with_reducible refine zgd (N := 3) rfl ?_); refine box_event ?hg (N := 3) ?hd (cs := #[.int .i64 a1_0, .int .i64 a1_1, .int .i64 a1_2]) (t := 39) ?hr ?_; (case hd => rfl); (case hg => rfl); (case hr => first | (go_simp; done) | (go_simp; rfl)); intro gu hgn_ wqgu hbk hb0; have m0_ := zam (zkb Bgl.out hb0); have Ggu : Aside0 (w.heap.size ≤ gu) := ⟨by rw [hgn_]; exact HB.out.size⟩; have mb_ := zam (zbt HB.out hb0); clear HB; have HB := mb_; clear mb_; have Bgu := zam hbk; clear hgn_ hbk hb0 Bgl; have Bgl := m0_; clear m0_; have hz0 := (zkc Bgl.out 0).trans rfl; have hy0 := (zkc Bgu.out 0).trans rfl; have hy1 := (zkc Bgu.out 1).trans rfl; have hy2 := (zkc Bgu.out 2).trans rfl) | (go_at_call 102; (first | (with_reducible refine (C1.out false _ HB.out CA.out).mono ?_) | (with_reducible refine (C3.out true _ HB.out CB.out).mono ?_) | (with_reducible refine (contains_gauge gl A0 c0 l0 _ HL.out HP.out Bgl.out (Kd.C_below HR.out HB.out)).mono ?_)); rintro e w3 ⟨rfl, hb1⟩; have m0_ := zam (zkb Bgl.out hb1); have m1_ := zam (zkb Bgu.out hb1); have mb_ := zam (zbt HB.out hb1); clear Bgl Bgu HB hb1 hz0 hy0 hy1 hy2; have Bgl := m0_; have Bgu := m1_; have HB := mb_; clear m0_ m1_ mb_; have hz0 := (zkc Bgl.out 0).trans rfl; have hy0 := (zkc Bgu.out 0).trans rfl; have hy1 := (zkc Bgu.out 1).trans rfl; have hy2 := (zkc Bgu.out 2).trans rfl; skip; (try rw [HD.out])))
   go_ret
   exact ⟨rfl, HB.out⟩
  case false =>
   simp only [Bool.false_eq_true, if_false] at h
   obtain ⟨z, hz, h⟩ := Option.bind_eq_some_iff.mp h
   have CZ := zam hz
   clear hz
   cases z
   case false =>
    simp only [Bool.false_eq_true, if_false, Option.some.injEq] at h
    subst h
    go_enter Try.func61, Try.ntmps61
    go_wp2_with (first | ((with_reducible refine zgd (N := 2) rfl ?_); refine box_event ?hg (N := 2) ?hd (cs := #[.slice A0 l0.length c0]) (t := 37) ?hr ?_; (case hd => rfl); (case hg => rfl); (case hr => first | (go_simp; done) | (go_simp; rfl)); intro gl hgn_ wqgl hbk hb0; have HB := zam hb0; have Ggl : Aside0 (w.heap.size ≤ gl) := ⟨by rw [hgn_]; exact Nat.le_refl _⟩; have Bgl := zam hbk; clear hgn_ hbk hb0) | ((with_reducible refine zgd (N := 3) rfl ?_); refine box_event ?hg (N := 3) ?hd (cs := #[.int .i64 a1_0, .int .i64 a1_1, .int .i64 a1_2]) (t := 39) ?hr ?_; (case hd => rfl); (case hg => rfl); (case hr => first | (go_simp; done) | (go_simp; rfl)); intro gu hgn_ wqgu hbk hb0; have m0_ := zam (zkb Bgl.out hb0); have Ggu : Aside0 (w.heap.size ≤ gu) := ⟨by rw [hgn_]; exact HB.out.size⟩; have mb_ := zam (zbt HB.out hb0); clear HB; have HB := mb_; clear mb_; have Bgu := zam hbk; clear hgn_ hbk hb0 Bgl; have Bgl := m0_; clear m0_; have hz0 := (zkc Bgl.out 0).trans rfl; have hy0 := (zkc Bgu.out 0).trans rfl; have hy1 := (zkc Bgu.out 1).trans rfl; have hy2 := (zkc Bgu.out 2).trans rfl) | (go_at_call 102; (first | (with_reducible refine (C1.out false _ HB.out CA.out).mono ?_) | (with_reducible refine (C3.out false _ HB.out CB.out).mono ?_) | (with_reducible refine (contains_gauge gl A0 c0 l0 _ HL.out HP.out Bgl.out (Kd.C_below HR.out HB.out)).mono ?_)); rintro e w3 ⟨rfl, hb1⟩; have m0_ := zam (zkb Bgl.out hb1); have m1_ := zam (zkb Bgu.out hb1); have mb_ := zam (zbt HB.out hb1); clear Bgl Bgu HB hb1 hz0 hy0 hy1 hy2; have Bgl := m0_; have Bgu := m1_; have HB := mb_; clear m0_ m1_ mb_; have hz0 := (zkc Bgl.out 0).trans rfl; have hy0 := (zkc Bgu.out 0).trans rfl; have hy1 := (zkc Bgu.out 1).trans rfl; have hy2 := (zkc Bgu.out 2).trans rfl; skip; (try rw [HD.out])) | (go_at_call 72; (with_reducible refine (sound_between.calls a1_0 1 1073741824 false _ CZ.out).mono ?_); rintro e w3 ⟨rfl, ⟨nz, rfl⟩⟩; have m0_ := zam (zkn Bgl.out nz); have m1_ := zam (zkn Bgu.out nz); have mb_ := zam (zbn HB.out nz); clear Bgl Bgu HB hz0 hy0 hy1 hy2; have Bgl := m0_; have Bgu := m1_; have HB := mb_; clear m0_ m1_ mb_; have hz0 := (zkc Bgl.out 0).trans rfl; have hy0 := (zkc Bgu.out 0).trans rfl; have hy1 := (zkc Bgu.out 1).trans rfl; have hy2 := (zkc Bgu.out 2).trans rfl; skip))
    go_ret
    exact ⟨rfl, HB.out⟩
   case true =>
    simp only [if_true] at h
    by_cases y0 : a1_1 < 1
    ·rw [if_pos y0, Option.some.injEq] at h
     subst h
     have y0b : decide (a1_1 < 1) = true := zdt (by omega)
     have y0c : decide (1 > a1_1) = true := zdt (by omega)
     clear y0
     go_enter Try.func61, Try.ntmps61
     go_wp2_with (first | ((with_reducible refine zgd (N := 2) rfl ?_); refine box_event ?hg (N := 2) ?hd (cs := #[.slice A0 l0.length c0]) (t := 37) ?hr ?_; (case hd => rfl); (case hg => rfl); (case hr => first | (go_simp; done) | (go_simp; rfl)); intro gl hgn_ wqgl hbk hb0; have HB := zam hb0; have Ggl : Aside0 (w.heap.size ≤ gl) := ⟨by rw [hgn_]; exact Nat.le_refl _⟩; have Bgl := zam hbk; clear hgn_ hbk hb0) | ((with_reducible refine zgd (N := 3) rfl ?_); refine box_event ?hg (N := 3) ?hd (cs := #[.int .i64 a1_0, .int .i64 a1_1, .int .i64 a1_2]) (t := 39) ?hr ?_; (case hd => rfl); (case hg => rfl); (case hr => first | (go_simp; done) | (go_simp; rfl)); intro gu hgn_ wqgu hbk hb0; have m0_ := zam (zkb Bgl.out hb0); have Ggu : Aside0 (w.heap.size ≤ gu) := ⟨by rw [hgn_]; exact HB.out.size⟩; have mb_ := zam (zbt HB.out hb0); clear HB; have HB := mb_; clear mb_; have Bgu := zam hbk; clear hgn_ hbk hb0 Bgl; have Bgl := m0_; clear m0_; have hz0 := (zkc Bgl.out 0).trans rfl; have hy0 := (zkc Bgu.out 0).trans rfl; have hy1 := (zkc Bgu.out 1).trans rfl; have hy2 := (zkc Bgu.out 2).trans rfl) | (go_at_call 102; (first | (with_reducible refine (C1.out false _ HB.out CA.out).mono ?_) | (with_reducible refine (C3.out false _ HB.out CB.out).mono ?_) | (with_reducible refine (contains_gauge gl A0 c0 l0 _ HL.out HP.out Bgl.out (Kd.C_below HR.out HB.out)).mono ?_)); rintro e w3 ⟨rfl, hb1⟩; have m0_ := zam (zkb Bgl.out hb1); have m1_ := zam (zkb Bgu.out hb1); have mb_ := zam (zbt HB.out hb1); clear Bgl Bgu HB hb1 hz0 hy0 hy1 hy2; have Bgl := m0_; have Bgu := m1_; have HB := mb_; clear m0_ m1_ mb_; have hz0 := (zkc Bgl.out 0).trans rfl; have hy0 := (zkc Bgu.out 0).trans rfl; have hy1 := (zkc Bgu.out 1).trans rfl; have hy2 := (zkc Bgu.out 2).trans rfl; skip; (try rw [HD.out])) | (go_at_call 72; (with_reducible refine (sound_between.calls a1_0 1 1073741824 true _ CZ.out).mono ?_); rintro e w3 ⟨rfl, ⟨nz, rfl⟩⟩; have m0_ := zam (zkn Bgl.out nz); have m1_ := zam (zkn Bgu.out nz); have mb_ := zam (zbn HB.out nz); clear Bgl Bgu HB hz0 hy0 hy1 hy2; have Bgl := m0_; have Bgu := m1_; have HB := mb_; clear m0_ m1_ mb_; have hz0 := (zkc Bgl.out 0).trans rfl; have hy0 := (zkc Bgu.out 0).trans rfl; have hy1 := (zkc Bgu.out 1).trans rfl; have hy2 := (zkc Bgu.out 2).trans rfl; skip))
     go_ret
     exact ⟨rfl, HB.out⟩
    rw [if_neg y0] at h
    have y0b : decide (a1_1 < 1) = false := zdf (by omega)
    have y0c : decide (1 > a1_1) = false := zdf (by omega)
    clear y0
    by_cases y1 : 256 < a1_1
    ·rw [if_pos y1, Option.some.injEq] at h
     subst h
     have y1b : decide (256 < a1_1) = true := zdt (by omega)
     have y1c : decide (a1_1 > 256) = true := zdt (by omega)
     clear y1
     go_enter Try.func61, Try.ntmps61
     go_wp2_with (first | ((with_reducible refine zgd (N := 2) rfl ?_); refine box_event ?hg (N := 2) ?hd (cs := #[.slice A0 l0.length c0]) (t := 37) ?hr ?_; (case hd => rfl); (case hg => rfl); (case hr => first | (go_simp; done) | (go_simp; rfl)); intro gl hgn_ wqgl hbk hb0; have HB := zam hb0; have Ggl : Aside0 (w.heap.size ≤ gl) := ⟨by rw [hgn_]; exact Nat.le_refl _⟩; have Bgl := zam hbk; clear hgn_ hbk hb0) | ((with_reducible refine zgd (N := 3) rfl ?_); refine box_event ?hg (N := 3) ?hd (cs := #[.int .i64 a1_0, .int .i64 a1_1, .int .i64 a1_2]) (t := 39) ?hr ?_; (case hd => rfl); (case hg => rfl); (case hr => first | (go_simp; done) | (go_simp; rfl)); intro gu hgn_ wqgu hbk hb0; have m0_ := zam (zkb Bgl.out hb0); have Ggu : Aside0 (w.heap.size ≤ gu) := ⟨by rw [hgn_]; exact HB.out.size⟩; have mb_ := zam (zbt HB.out hb0); clear HB; have HB := mb_; clear mb_; have Bgu := zam hbk; clear hgn_ hbk hb0 Bgl; have Bgl := m0_; clear m0_; have hz0 := (zkc Bgl.out 0).trans rfl; have hy0 := (zkc Bgu.out 0).trans rfl; have hy1 := (zkc Bgu.out 1).trans rfl; have hy2 := (zkc Bgu.out 2).trans rfl) | (go_at_call 102; (first | (with_reducible refine (C1.out false _ HB.out CA.out).mono ?_) | (with_reducible refine (C3.out false _ HB.out CB.out).mono ?_) | (with_reducible refine (contains_gauge gl A0 c0 l0 _ HL.out HP.out Bgl.out (Kd.C_below HR.out HB.out)).mono ?_)); rintro e w3 ⟨rfl, hb1⟩; have m0_ := zam (zkb Bgl.out hb1); have m1_ := zam (zkb Bgu.out hb1); have mb_ := zam (zbt HB.out hb1); clear Bgl Bgu HB hb1 hz0 hy0 hy1 hy2; have Bgl := m0_; have Bgu := m1_; have HB := mb_; clear m0_ m1_ mb_; have hz0 := (zkc Bgl.out 0).trans rfl; have hy0 := (zkc Bgu.out 0).trans rfl; have hy1 := (zkc Bgu.out 1).trans rfl; have hy2 := (zkc Bgu.out 2).trans rfl; skip; (try rw [HD.out])) | (go_at_call 72; (with_reducible refine (sound_between.calls a1_0 1 1073741824 true _ CZ.out).mono ?_); rintro e w3 ⟨rfl, ⟨nz, rfl⟩⟩; have m0_ := zam (zkn Bgl.out nz); have m1_ := zam (zkn Bgu.out nz); have mb_ := zam (zbn HB.out nz); clear Bgl Bgu HB hz0 hy0 hy1 hy2; have Bgl := m0_; have Bgu := m1_; have HB := mb_; clear m0_ m1_ mb_; have hz0 := (zkc Bgl.out 0).trans rfl; have hy0 := (zkc Bgu.out 0).trans rfl; have hy1 := (zkc Bgu.out 1).trans rfl; have hy2 := (zkc Bgu.out 2).trans rfl; skip))
     go_ret
     exact ⟨rfl, HB.out⟩
    rw [if_neg y1] at h
    have y1b : decide (256 < a1_1) = false := zdf (by omega)
    have y1c : decide (a1_1 > 256) = false := zdf (by omega)
    clear y1
    by_cases y2 : a1_2 < 1
    ·rw [if_pos y2, Option.some.injEq] at h
     subst h
     have y2b : decide (a1_2 < 1) = true := zdt (by omega)
     have y2c : decide (1 > a1_2) = true := zdt (by omega)
     clear y2
     go_enter Try.func61, Try.ntmps61
     go_wp2_with (first | ((with_reducible refine zgd (N := 2) rfl ?_); refine box_event ?hg (N := 2) ?hd (cs := #[.slice A0 l0.length c0]) (t := 37) ?hr ?_; (case hd => rfl); (case hg => rfl); (case hr => first | (go_simp; done) | (go_simp; rfl)); intro gl hgn_ wqgl hbk hb0; have HB := zam hb0; have Ggl : Aside0 (w.heap.size ≤ gl) := ⟨by rw [hgn_]; exact Nat.le_refl _⟩; have Bgl := zam hbk; clear hgn_ hbk hb0) | ((with_reducible refine zgd (N := 3) rfl ?_); refine box_event ?hg (N := 3) ?hd (cs := #[.int .i64 a1_0, .int .i64 a1_1, .int .i64 a1_2]) (t := 39) ?hr ?_; (case hd => rfl); (case hg => rfl); (case hr => first | (go_simp; done) | (go_simp; rfl)); intro gu hgn_ wqgu hbk hb0; have m0_ := zam (zkb Bgl.out hb0); have Ggu : Aside0 (w.heap.size ≤ gu) := ⟨by rw [hgn_]; exact HB.out.size⟩; have mb_ := zam (zbt HB.out hb0); clear HB; have HB := mb_; clear mb_; have Bgu := zam hbk; clear hgn_ hbk hb0 Bgl; have Bgl := m0_; clear m0_; have hz0 := (zkc Bgl.out 0).trans rfl; have hy0 := (zkc Bgu.out 0).trans rfl; have hy1 := (zkc Bgu.out 1).trans rfl; have hy2 := (zkc Bgu.out 2).trans rfl) | (go_at_call 102; (first | (with_reducible refine (C1.out false _ HB.out CA.out).mono ?_) | (with_reducible refine (C3.out false _ HB.out CB.out).mono ?_) | (with_reducible refine (contains_gauge gl A0 c0 l0 _ HL.out HP.out Bgl.out (Kd.C_below HR.out HB.out)).mono ?_)); rintro e w3 ⟨rfl, hb1⟩; have m0_ := zam (zkb Bgl.out hb1); have m1_ := zam (zkb Bgu.out hb1); have mb_ := zam (zbt HB.out hb1); clear Bgl Bgu HB hb1 hz0 hy0 hy1 hy2; have Bgl := m0_; have Bgu := m1_; have HB := mb_; clear m0_ m1_ mb_; have hz0 := (zkc Bgl.out 0).trans rfl; have hy0 := (zkc Bgu.out 0).trans rfl; have hy1 := (zkc Bgu.out 1).trans rfl; have hy2 := (zkc Bgu.out 2).trans rfl; skip; (try rw [HD.out])) | (go_at_call 72; (with_reducible refine (sound_between.calls a1_0 1 1073741824 true _ CZ.out).mono ?_); rintro e w3 ⟨rfl, ⟨nz, rfl⟩⟩; have m0_ := zam (zkn Bgl.out nz); have m1_ := zam (zkn Bgu.out nz); have mb_ := zam (zbn HB.out nz); clear Bgl Bgu HB hz0 hy0 hy1 hy2; have Bgl := m0_; have Bgu := m1_; have HB := mb_; clear m0_ m1_ mb_; have hz0 := (zkc Bgl.out 0).trans rfl; have hy0 := (zkc Bgu.out 0).trans rfl; have hy1 := (zkc Bgu.out 1).trans rfl; have hy2 := (zkc Bgu.out 2).trans rfl; skip))
     go_ret
     exact ⟨rfl, HB.out⟩
    rw [if_neg y2] at h
    have y2b : decide (a1_2 < 1) = false := zdf (by omega)
    have y2c : decide (1 > a1_2) = false := zdf (by omega)
    clear y2
    by_cases y3 : 16 < a1_2
    ·rw [if_pos y3, Option.some.injEq] at h
     subst h
     have y3b : decide (16 < a1_2) = true := zdt (by omega)
     have y3c : decide (a1_2 > 16) = true := zdt (by omega)
     clear y3
     go_enter Try.func61, Try.ntmps61
     go_wp2_with (first | ((with_reducible refine zgd (N := 2) rfl ?_); refine box_event ?hg (N := 2) ?hd (cs := #[.slice A0 l0.length c0]) (t := 37) ?hr ?_; (case hd => rfl); (case hg => rfl); (case hr => first | (go_simp; done) | (go_simp; rfl)); intro gl hgn_ wqgl hbk hb0; have HB := zam hb0; have Ggl : Aside0 (w.heap.size ≤ gl) := ⟨by rw [hgn_]; exact Nat.le_refl _⟩; have Bgl := zam hbk; clear hgn_ hbk hb0) | ((with_reducible refine zgd (N := 3) rfl ?_); refine box_event ?hg (N := 3) ?hd (cs := #[.int .i64 a1_0, .int .i64 a1_1, .int .i64 a1_2]) (t := 39) ?hr ?_; (case hd => rfl); (case hg => rfl); (case hr => first | (go_simp; done) | (go_simp; rfl)); intro gu hgn_ wqgu hbk hb0; have m0_ := zam (zkb Bgl.out hb0); have Ggu : Aside0 (w.heap.size ≤ gu) := ⟨by rw [hgn_]; exact HB.out.size⟩; have mb_ := zam (zbt HB.out hb0); clear HB; have HB := mb_; clear mb_; have Bgu := zam hbk; clear hgn_ hbk hb0 Bgl; have Bgl := m0_; clear m0_; have hz0 := (zkc Bgl.out 0).trans rfl; have hy0 := (zkc Bgu.out 0).trans rfl; have hy1 := (zkc Bgu.out 1).trans rfl; have hy2 := (zkc Bgu.out 2).trans rfl) | (go_at_call 102; (first | (with_reducible refine (C1.out false _ HB.out CA.out).mono ?_) | (with_reducible refine (C3.out false _ HB.out CB.out).mono ?_) | (with_reducible refine (contains_gauge gl A0 c0 l0 _ HL.out HP.out Bgl.out (Kd.C_below HR.out HB.out)).mono ?_)); rintro e w3 ⟨rfl, hb1⟩; have m0_ := zam (zkb Bgl.out hb1); have m1_ := zam (zkb Bgu.out hb1); have mb_ := zam (zbt HB.out hb1); clear Bgl Bgu HB hb1 hz0 hy0 hy1 hy2; have Bgl := m0_; have Bgu := m1_; have HB := mb_; clear m0_ m1_ mb_; have hz0 := (zkc Bgl.out 0).trans rfl; have hy0 := (zkc Bgu.out 0).trans rfl; have hy1 := (zkc Bgu.out 1).trans rfl; have hy2 := (zkc Bgu.out 2).trans rfl; skip; (try rw [HD.out])) | (go_at_call 72; (with_reducible refine (sound_between.calls a1_0 1 1073741824 true _ CZ.out).mono ?_); rintro e w3 ⟨rfl, ⟨nz, rfl⟩⟩; have m0_ := zam (zkn Bgl.out nz); have m1_ := zam (zkn Bgu.out nz); have mb_ := zam (zbn HB.out nz); clear Bgl Bgu HB hz0 hy0 hy1 hy2; have Bgl := m0_; have Bgu := m1_; have HB := mb_; clear m0_ m1_ mb_; have hz0 := (zkc Bgl.out 0).trans rfl; have hy0 := (zkc Bgu.out 0).trans rfl; have hy1 := (zkc Bgu.out 1).trans rfl; have hy2 := (zkc Bgu.out 2).trans rfl; skip))
     go_ret
     exact ⟨rfl, HB.out⟩
    rw [if_neg y3] at h
    have y3b : decide (16 < a1_2) = false := zdf (by omega)
    have y3c : decide (a1_2 > 16) = false := zdf (by omega)
    clear y3
    rw [Option.some.injEq] at h
    subst h
    go_enter Try.func61, Try.ntmps61
    go_wp2_with (first | ((with_reducible refine zgd (N := 2) rfl ?_); refine box_event ?hg (N := 2) ?hd (cs := #[.slice A0 l0.length c0]) (t := 37) ?hr ?_; (case hd => rfl); (case hg => rfl); (case hr => first | (go_simp; done) | (go_simp; rfl)); intro gl hgn_ wqgl hbk hb0; have HB := zam hb0; have Ggl : Aside0 (w.heap.size ≤ gl) := ⟨by rw [hgn_]; exact Nat.le_refl _⟩; have Bgl := zam hbk; clear hgn_ hbk hb0) | ((with_reducible refine zgd (N := 3) rfl ?_); refine box_event ?hg (N := 3) ?hd (cs := #[.int .i64 a1_0, .int .i64 a1_1, .int .i64 a1_2]) (t := 39) ?hr ?_; (case hd => rfl); (case hg => rfl); (case hr => first | (go_simp; done) | (go_simp; rfl)); intro gu hgn_ wqgu hbk hb0; have m0_ := zam (zkb Bgl.out hb0); have Ggu : Aside0 (w.heap.size ≤ gu) := ⟨by rw [hgn_]; exact HB.out.size⟩; have mb_ := zam (zbt HB.out hb0); clear HB; have HB := mb_; clear mb_; have Bgu := zam hbk; clear hgn_ hbk hb0 Bgl; have Bgl := m0_; clear m0_; have hz0 := (zkc Bgl.out 0).trans rfl; have hy0 := (zkc Bgu.out 0).trans rfl; have hy1 := (zkc Bgu.out 1).trans rfl; have hy2 := (zkc Bgu.out 2).trans rfl) | (go_at_call 102; (first | (with_reducible refine (C1.out false _ HB.out CA.out).mono ?_) | (with_reducible refine (C3.out false _ HB.out CB.out).mono ?_) | (with_reducible refine (contains_gauge gl A0 c0 l0 _ HL.out HP.out Bgl.out (Kd.C_below HR.out HB.out)).mono ?_)); rintro e w3 ⟨rfl, hb1⟩; have m0_ := zam (zkb Bgl.out hb1); have m1_ := zam (zkb Bgu.out hb1); have mb_ := zam (zbt HB.out hb1); clear Bgl Bgu HB hb1 hz0 hy0 hy1 hy2; have Bgl := m0_; have Bgu := m1_; have HB := mb_; clear m0_ m1_ mb_; have hz0 := (zkc Bgl.out 0).trans rfl; have hy0 := (zkc Bgu.out 0).trans rfl; have hy1 := (zkc Bgu.out 1).trans rfl; have hy2 := (zkc Bgu.out 2).trans rfl; skip; (try rw [HD.out])) | (go_at_call 72; (with_reducible refine (sound_between.calls a1_0 1 1073741824 true _ CZ.out).mono ?_); rintro e w3 ⟨rfl, ⟨nz, rfl⟩⟩; have m0_ := zam (zkn Bgl.out nz); have m1_ := zam (zkn Bgu.out nz); have mb_ := zam (zbn HB.out nz); clear Bgl Bgu HB hz0 hy0 hy1 hy2; have Bgl := m0_; have Bgu := m1_; have HB := mb_; clear m0_ m1_ mb_; have hz0 := (zkc Bgl.out 0).trans rfl; have hy0 := (zkc Bgu.out 0).trans rfl; have hy1 := (zkc Bgu.out 1).trans rfl; have hy2 := (zkc Bgu.out 2).trans rfl; skip))
    go_ret
    exact ⟨rfl, HB.out⟩
def sound_First.f (k : Nat) (l0 : List (S45)) (a1_0 : Int) (a1_1 : Int) (a1_2 : Int) : Option (Int × Int × Int) := (sound_checkGauges.f k l0 a1_0 a1_1 a1_2).bind fun t102 => (if t102 = 0 then ((sound_alarm.f k l0 a1_0 a1_1 a1_2).bind fun t103 => ((api_Answer_63.f k t103 2).bind fun t106 => (if t106 < 0 then (some (0, 0, 5)) else ((slices_IndexFunc_Answer_sound_First_1.f k t103).bind fun t107 => (some (t106, t107, 0)))))) else (some (0, 0, t102)))
theorem sound_First.mono : ∀ a0 a1 a2 a3 k, LeO (sound_First.f k a0 a1 a2 a3) (sound_First.f (k + 1) a0 a1 a2 a3) := by
 intro a0 a1 a2 a3 k
 unfold sound_First.f
 repeat' first
   | (with_reducible exact api_Answer_63.mono _ _ _)
   | (with_reducible exact slices_IndexFunc_Answer_sound_First_1.mono _ _)
   | (with_reducible exact sound_alarm.mono _ _ _ _ _)
   | (with_reducible exact sound_checkGauges.mono _ _ _ _ _)
   | (with_reducible exact LeO.refl _)
   | (with_reducible exact LeO.none _)
   | (with_reducible refine LeO.ite ?_ ?_)
   | (with_reducible refine LeO.bind ?_ (fun _ => ?_))
   | exact api_Answer_63.mono _ _ _
   | exact slices_IndexFunc_Answer_sound_First_1.mono _ _
   | exact sound_alarm.mono _ _ _ _ _
   | exact sound_checkGauges.mono _ _ _ _ _
   | exact LeO.none _
   | refine LeO.ite ?_ ?_
   | refine LeO.bind ?_ (fun _ => ?_)
set_option maxHeartbeats 8000000 in
set_option maxRecDepth 100000 in
theorem sound_First.calls (k : Nat) (A0 : Option Addr) (c0 : Nat) (l0 : List (S45)) (a1_0 : Int) (a1_1 : Int) (a1_2 : Int) (r1 : Int) (r2 : Int) (r3 : Int) (w : World) (hr0 : Kd.C k45 w A0 l0.length l0) (hc0 : l0.length ≤ c0) (h : sound_First.f k l0 a1_0 a1_1 a1_2 = some (r1, r2, r3)) :
  Calls Try.prog 23 #[.slice A0 l0.length c0, .agg #[.int .i64 a1_0, .int .i64 a1_1, .int .i64 a1_2]] w fun e w' => e = .returned (.tuple #[.int .i64 r1, .int .i64 r2, .int .i64 r3]) ∧ Below w.heap.size w w' := by
 have hu39 := Try.underlying39
 have HR0 := zam hr0
 have HC0 := zam hc0
 clear hr0 hc0
 have HB := zam (Below.refl w.heap.size w)
 have H : ((sound_checkGauges.f k l0 a1_0 a1_1 a1_2).bind fun t102 => (if t102 = 0 then ((sound_alarm.f k l0 a1_0 a1_1 a1_2).bind fun t103 => ((api_Answer_63.f k t103 2).bind fun t106 => (if t106 < 0 then (some (0, 0, 5)) else ((slices_IndexFunc_Answer_sound_First_1.f k t103).bind fun t107 => (some (t106, t107, 0)))))) else (some (0, 0, t102)))) = some (r1, r2, r3) := h
 clear h
 replace H := Option.bind_eq_some_iff.mp H
 obtain ⟨t102, A30, H⟩ := H
 replace H : (if t102 = 0 then ((sound_alarm.f k l0 a1_0 a1_1 a1_2).bind fun t103 => ((api_Answer_63.f k t103 2).bind fun t106 => (if t106 < 0 then (some (0, 0, 5)) else ((slices_IndexFunc_Answer_sound_First_1.f k t103).bind fun t107 => (some (t106, t107, 0)))))) else (some (0, 0, t102))) = some (r1, r2, r3) := H
 have A3 := zam A30
 clear A30
 by_cases c4 : t102 = 0
 ·rw [if_pos c4] at H
  have c4b0 : (t102 == 0) = true := beq_iff_eq.mpr c4
  have c4b1 : (t102 != 0) = false := bne_eq_false_iff_eq.mpr c4
  clear c4
  replace H := Option.bind_eq_some_iff.mp H
  obtain ⟨t103, A50, H⟩ := H
  replace H : ((api_Answer_63.f k t103 2).bind fun t106 => (if t106 < 0 then (some (0, 0, 5)) else ((slices_IndexFunc_Answer_sound_First_1.f k t103).bind fun t107 => (some (t106, t107, 0))))) = some (r1, r2, r3) := H
  have A5 := zam A50
  clear A50
  replace H := Option.bind_eq_some_iff.mp H
  obtain ⟨t106, A60, H⟩ := H
  replace H : (if t106 < 0 then (some (0, 0, 5)) else ((slices_IndexFunc_Answer_sound_First_1.f k t103).bind fun t107 => (some (t106, t107, 0)))) = some (r1, r2, r3) := H
  have A6 := zam A60
  clear A60
  by_cases c7 : t106 < 0
  ·rw [if_pos c7] at H
   have c7b0 : decide (t106 < 0) = true := zdt c7
   clear c7
   simp only [Option.some.injEq, Prod.mk.injEq] at H
   obtain ⟨rfl, rfl, rfl⟩ := H
   go_enter Try.func23, Try.ntmps23
   go_wp2_with (first | ((with_reducible refine zgd (N := 3) rfl ?_); refine box_event ?hg (N := 3) ?hd (cs := #[.int .i64 a1_0, .int .i64 a1_1, .int .i64 a1_2]) (t := 39) ?hr ?_; (case hd => rfl); (case hg => rfl); (case hr => first | (go_simp; done) | (go_simp; rfl)); intro gb101 hg w8 hbox hb; have n0_ := zam (zbt zq1 hb); have n1_ := zam (hbox); have n2_ := zam ((by rw [hg]; exact (zbz zq1) : w.heap.size ≤ gb101)); have n3_ := zam ((by rw [hg]; exact (zbz zq1) : w.heap.size ≤ gb101)); clear HB; have HB := n0_; have BK101 := n1_; have GW101 := n2_; have GE101 := n3_; clear n0_ n1_ n2_ n3_; clear hb hbox hg; have hcz9_0 : w8.cell? ⟨gb101, 0, none⟩ = some (.int .i64 a1_0) := (zkc BK101.out 0).trans rfl; have hcz9_1 : w8.cell? ⟨gb101, 1, none⟩ = some (.int .i64 a1_1) := (zkc BK101.out 1).trans rfl; have hcz9_2 : w8.cell? ⟨gb101, 2, none⟩ = some (.int .i64 a1_2) := (zkc BK101.out 2).trans rfl; have hfz9_0 := zkz BK101.out 0; have hfz9_1 := zkz BK101.out 1; have hfz9_2 := zkz BK101.out 2) | ((with_reducible refine zgc (f := 61) rfl ?_); refine goesL_ (some 12) rfl rfl Try.func61 (by kernel_rfl) rfl #[.slice A0 l0.length c0, .agg #[.int .i64 a1_0, .int .i64 a1_1, .int .i64 a1_2]] rfl zq5 ?_; (with_reducible refine (sound_checkGauges.calls k _ _ l0 a1_0 a1_1 a1_2 t102 _ ?side1 ?side2 A3.out).mono ?_); (case side1 => repeat (first | exact (Kd.C_below HR0.out HB.out) | (with_reducible refine Kd.C_alloc ?_ _) | (with_reducible refine Kd.C_drewN ?_ _) | (with_reducible refine Kd.C_drew ?_))); (case side2 => exact HC0.out); rintro e w10 ⟨rfl, hb⟩; refine ⟨_, rfl, ?_⟩; have n0_ := zam (zkb (g := gb101) (o := .cells #[.int .i64 a1_0, .int .i64 a1_1, .int .i64 a1_2] 39 (0, 0)) zq0 hb); have n1_ := zam (zbt zq2 hb); clear BK101; clear HB; have BK101 := n0_; have HB := n1_; clear n0_ n1_; (try clear hb); (try clear hb2); (try clear hk); (try clear hi); have hcz11_0 : w10.cell? ⟨gb101, 0, none⟩ = some (.int .i64 a1_0) := (zkc BK101.out 0).trans rfl; have hcz11_1 : w10.cell? ⟨gb101, 1, none⟩ = some (.int .i64 a1_1) := (zkc BK101.out 1).trans rfl; have hcz11_2 : w10.cell? ⟨gb101, 2, none⟩ = some (.int .i64 a1_2) := (zkc BK101.out 2).trans rfl; have hfz11_0 := zkz BK101.out 0; have hfz11_1 := zkz BK101.out 1; have hfz11_2 := zkz BK101.out 2) | ((with_reducible refine zgc (f := 62) rfl ?_); refine goesL_ (some 18) rfl rfl Try.func62 (by kernel_rfl) rfl #[.slice A0 l0.length c0, .agg #[.int .i64 a1_0, .int .i64 a1_1, .int .i64 a1_2]] rfl zq5 ?_; (with_reducible refine (sound_alarm.calls k _ _ l0 a1_0 a1_1 a1_2 t103 _ ?side1 ?side2 A5.out).mono ?_); (case side1 => repeat (first | exact (Kd.C_below HR0.out HB.out) | (with_reducible refine Kd.C_alloc ?_ _) | (with_reducible refine Kd.C_drewN ?_ _) | (with_reducible refine Kd.C_drew ?_))); (case side2 => exact HC0.out); rintro e w12 ⟨v104, rfl, ho0, hb⟩; refine ⟨_, rfl, ?_⟩; have n0_ := zam (Kd.R_lower ho0 (zbz zq2)); have n1_ := zam (zkb (g := gb101) (o := .cells #[.int .i64 a1_0, .int .i64 a1_1, .int .i64 a1_2] 39 (0, 0)) zq0 hb); have n2_ := zam (zbt zq2 hb); clear BK101; clear HB; have HO105 := n0_; have BK101 := n1_; have HB := n2_; clear n0_ n1_ n2_; (try clear hb); (try clear hb2); (try clear hk); (try clear hi); (try clear ho0); obtain ⟨Ao13, co13, eo13⟩ := Kd.R_slice HO105.out; subst eo13) | ((with_reducible refine zgc (f := 63) rfl ?_); refine goesL_ (some 20) rfl rfl Try.func63 (by kernel_rfl) rfl #[.slice Ao13 t103.length co13, .int .i64 2] rfl zq5 ?_; (with_reducible refine (api_Answer_63.calls k _ _ t103 2 t106 _ ?side1 ?side2 A6.out).mono ?_); (case side1 => repeat (first | exact (Kd.R_reads' HO105.out).2.2 | (with_reducible refine Kd.C_alloc ?_ _) | (with_reducible refine Kd.C_drewN ?_ _) | (with_reducible refine Kd.C_drew ?_))); (case side2 => exact (Kd.R_reads' HO105.out).2.1); rintro e w' ⟨rfl, ⟨nd, rfl⟩⟩; refine ⟨_, rfl, ?_⟩))
   go_ret3
   exact ⟨by first | rfl | (simp [errW_none, errW_some] <;> rfl) | (simp [*, errW_none, errW_some] <;> rfl), by repeat (first | (with_reducible first | exact HB.out | apply zba | apply zbn | apply zb1 | refine zbs ?_ GE101.out) | exact HB.out)⟩
  rw [if_neg c7] at H
  have c7b0 : decide (t106 < 0) = false := zdf c7
  clear c7
  replace H := Option.bind_eq_some_iff.mp H
  obtain ⟨t107, A140, H⟩ := H
  replace H : (some (t106, t107, 0)) = some (r1, r2, r3) := H
  have A14 := zam A140
  clear A140
  simp only [Option.some.injEq, Prod.mk.injEq] at H
  obtain ⟨rfl, rfl, rfl⟩ := H
  go_enter Try.func23, Try.ntmps23
  go_wp2_with (first | ((with_reducible refine zgd (N := 3) rfl ?_); refine box_event ?hg (N := 3) ?hd (cs := #[.int .i64 a1_0, .int .i64 a1_1, .int .i64 a1_2]) (t := 39) ?hr ?_; (case hd => rfl); (case hg => rfl); (case hr => first | (go_simp; done) | (go_simp; rfl)); intro gb101 hg w15 hbox hb; have n0_ := zam (zbt zq1 hb); have n1_ := zam (hbox); have n2_ := zam ((by rw [hg]; exact (zbz zq1) : w.heap.size ≤ gb101)); have n3_ := zam ((by rw [hg]; exact (zbz zq1) : w.heap.size ≤ gb101)); clear HB; have HB := n0_; have BK101 := n1_; have GW101 := n2_; have GE101 := n3_; clear n0_ n1_ n2_ n3_; clear hb hbox hg; have hcz16_0 : w15.cell? ⟨gb101, 0, none⟩ = some (.int .i64 a1_0) := (zkc BK101.out 0).trans rfl; have hcz16_1 : w15.cell? ⟨gb101, 1, none⟩ = some (.int .i64 a1_1) := (zkc BK101.out 1).trans rfl; have hcz16_2 : w15.cell? ⟨gb101, 2, none⟩ = some (.int .i64 a1_2) := (zkc BK101.out 2).trans rfl; have hfz16_0 := zkz BK101.out 0; have hfz16_1 := zkz BK101.out 1; have hfz16_2 := zkz BK101.out 2) | ((with_reducible refine zgc (f := 61) rfl ?_); refine goesL_ (some 12) rfl rfl Try.func61 (by kernel_rfl) rfl #[.slice A0 l0.length c0, .agg #[.int .i64 a1_0, .int .i64 a1_1, .int .i64 a1_2]] rfl zq5 ?_; (with_reducible refine (sound_checkGauges.calls k _ _ l0 a1_0 a1_1 a1_2 t102 _ ?side1 ?side2 A3.out).mono ?_); (case side1 => repeat (first | exact (Kd.C_below HR0.out HB.out) | (with_reducible refine Kd.C_alloc ?_ _) | (with_reducible refine Kd.C_drewN ?_ _) | (with_reducible refine Kd.C_drew ?_))); (case side2 => exact HC0.out); rintro e w17 ⟨rfl, hb⟩; refine ⟨_, rfl, ?_⟩; have n0_ := zam (zkb (g := gb101) (o := .cells #[.int .i64 a1_0, .int .i64 a1_1, .int .i64 a1_2] 39 (0, 0)) zq0 hb); have n1_ := zam (zbt zq2 hb); clear BK101; clear HB; have BK101 := n0_; have HB := n1_; clear n0_ n1_; (try clear hb); (try clear hb2); (try clear hk); (try clear hi); have hcz18_0 : w17.cell? ⟨gb101, 0, none⟩ = some (.int .i64 a1_0) := (zkc BK101.out 0).trans rfl; have hcz18_1 : w17.cell? ⟨gb101, 1, none⟩ = some (.int .i64 a1_1) := (zkc BK101.out 1).trans rfl; have hcz18_2 : w17.cell? ⟨gb101, 2, none⟩ = some (.int .i64 a1_2) := (zkc BK101.out 2).trans rfl; have hfz18_0 := zkz BK101.out 0; have hfz18_1 := zkz BK101.out 1; have hfz18_2 := zkz BK101.out 2) | ((with_reducible refine zgc (f := 62) rfl ?_); refine goesL_ (some 18) rfl rfl Try.func62 (by kernel_rfl) rfl #[.slice A0 l0.length c0, .agg #[.int .i64 a1_0, .int .i64 a1_1, .int .i64 a1_2]] rfl zq5 ?_; (with_reducible refine (sound_alarm.calls k _ _ l0 a1_0 a1_1 a1_2 t103 _ ?side1 ?side2 A5.out).mono ?_); (case side1 => repeat (first | exact (Kd.C_below HR0.out HB.out) | (with_reducible refine Kd.C_alloc ?_ _) | (with_reducible refine Kd.C_drewN ?_ _) | (with_reducible refine Kd.C_drew ?_))); (case side2 => exact HC0.out); rintro e w19 ⟨v104, rfl, ho0, hb⟩; refine ⟨_, rfl, ?_⟩; have n0_ := zam (Kd.R_lower ho0 (zbz zq2)); have n1_ := zam (zkb (g := gb101) (o := .cells #[.int .i64 a1_0, .int .i64 a1_1, .int .i64 a1_2] 39 (0, 0)) zq0 hb); have n2_ := zam (zbt zq2 hb); clear BK101; clear HB; have HO105 := n0_; have BK101 := n1_; have HB := n2_; clear n0_ n1_ n2_; (try clear hb); (try clear hb2); (try clear hk); (try clear hi); (try clear ho0); obtain ⟨Ao20, co20, eo20⟩ := Kd.R_slice HO105.out; subst eo20) | ((with_reducible refine zgc (f := 63) rfl ?_); refine goesL_ (some 20) rfl rfl Try.func63 (by kernel_rfl) rfl #[.slice Ao20 t103.length co20, .int .i64 2] rfl zq5 ?_; (with_reducible refine (api_Answer_63.calls k _ _ t103 2 t106 _ ?side1 ?side2 A6.out).mono ?_); (case side1 => repeat (first | exact (Kd.R_reads' HO105.out).2.2 | (with_reducible refine Kd.C_alloc ?_ _) | (with_reducible refine Kd.C_drewN ?_ _) | (with_reducible refine Kd.C_drew ?_))); (case side2 => exact (Kd.R_reads' HO105.out).2.1); rintro e w' ⟨rfl, ⟨nd, rfl⟩⟩; refine ⟨_, rfl, ?_⟩) | ((with_reducible refine zgc (f := 64) rfl ?_); refine goesL_ (some 25) rfl rfl Try.func64 (by kernel_rfl) rfl #[.slice Ao20 t103.length co20, .func (.func 65) #[] #[]] rfl zq5 ?_; (with_reducible refine (slices_IndexFunc_Answer_sound_First_1.calls k _ _ t103  t107 _ ?side1 ?side2 A14.out).mono ?_); (case side1 => repeat (first | exact (Kd.R_reads' HO105.out).2.2 | (with_reducible refine Kd.C_alloc ?_ _) | (with_reducible refine Kd.C_drewN ?_ _) | (with_reducible refine Kd.C_drew ?_))); (case side2 => exact (Kd.R_reads' HO105.out).2.1); rintro e w' ⟨rfl, ⟨nd, rfl⟩⟩; refine ⟨_, rfl, ?_⟩))
  go_ret3
  exact ⟨by first | rfl | (simp [errW_none, errW_some] <;> rfl) | (simp [*, errW_none, errW_some] <;> rfl), by repeat (first | (with_reducible first | exact HB.out | apply zba | apply zbn | apply zb1 | refine zbs ?_ GE101.out) | exact HB.out)⟩
 rw [if_neg c4] at H
 have c4b0 : (t102 == 0) = false := beq_eq_false_iff_ne.mpr c4
 have c4b1 : (t102 != 0) = true := bne_iff_ne.mpr c4
 simp only [Option.some.injEq, Prod.mk.injEq] at H
 obtain ⟨rfl, rfl, rfl⟩ := H
 go_enter Try.func23, Try.ntmps23
 go_wp2_with (first | ((with_reducible refine zgd (N := 3) rfl ?_); refine box_event ?hg (N := 3) ?hd (cs := #[.int .i64 a1_0, .int .i64 a1_1, .int .i64 a1_2]) (t := 39) ?hr ?_; (case hd => rfl); (case hg => rfl); (case hr => first | (go_simp; done) | (go_simp; rfl)); intro gb101 hg w21 hbox hb; have n0_ := zam (zbt zq1 hb); have n1_ := zam (hbox); have n2_ := zam ((by rw [hg]; exact (zbz zq1) : w.heap.size ≤ gb101)); have n3_ := zam ((by rw [hg]; exact (zbz zq1) : w.heap.size ≤ gb101)); clear HB; have HB := n0_; have BK101 := n1_; have GW101 := n2_; have GE101 := n3_; clear n0_ n1_ n2_ n3_; clear hb hbox hg; have hcz22_0 : w21.cell? ⟨gb101, 0, none⟩ = some (.int .i64 a1_0) := (zkc BK101.out 0).trans rfl; have hcz22_1 : w21.cell? ⟨gb101, 1, none⟩ = some (.int .i64 a1_1) := (zkc BK101.out 1).trans rfl; have hcz22_2 : w21.cell? ⟨gb101, 2, none⟩ = some (.int .i64 a1_2) := (zkc BK101.out 2).trans rfl; have hfz22_0 := zkz BK101.out 0; have hfz22_1 := zkz BK101.out 1; have hfz22_2 := zkz BK101.out 2) | ((with_reducible refine zgc (f := 61) rfl ?_); refine goesL_ (some 12) rfl rfl Try.func61 (by kernel_rfl) rfl #[.slice A0 l0.length c0, .agg #[.int .i64 a1_0, .int .i64 a1_1, .int .i64 a1_2]] rfl zq5 ?_; (with_reducible refine (sound_checkGauges.calls k _ _ l0 a1_0 a1_1 a1_2 t102 _ ?side1 ?side2 A3.out).mono ?_); (case side1 => repeat (first | exact (Kd.C_below HR0.out HB.out) | (with_reducible refine Kd.C_alloc ?_ _) | (with_reducible refine Kd.C_drewN ?_ _) | (with_reducible refine Kd.C_drew ?_))); (case side2 => exact HC0.out); rintro e w23 ⟨rfl, hb⟩; refine ⟨_, rfl, ?_⟩; have n0_ := zam (zkb (g := gb101) (o := .cells #[.int .i64 a1_0, .int .i64 a1_1, .int .i64 a1_2] 39 (0, 0)) zq0 hb); have n1_ := zam (zbt zq2 hb); clear BK101; clear HB; have BK101 := n0_; have HB := n1_; clear n0_ n1_; (try clear hb); (try clear hb2); (try clear hk); (try clear hi)))
 go_ret3
 exact ⟨by first | rfl | (simp [errW_none, errW_some] <;> rfl) | (simp [*, errW_none, errW_some] <;> rfl), by repeat (first | (with_reducible first | exact HB.out | apply zba | apply zbn | apply zb1 | refine zbs ?_ GE101.out) | exact HB.out)⟩
end Go.Proofs.Ytaheamdoldiojaa.P
namespace Go.Proofs.Ytaheamdoldiojaa.P
open Go.RowKit Go.Proofs.YtaheamdoldiojaaW.PrintWords Go.Proofs.YtaheamdoldiojaaW.PrintLast Go.Proofs.YtaheamdoldiojaaW.PrintMore
attribute [local go_sem] max2_int min2_int max_two min_two max_three min_three max_four min_four   -- for this text's walks alone
set_option linter.unusedVariables false
set_option linter.unusedSimpArgs false
attribute [local go_sem high] eqA24 eqA29
def isobathlaw07_Works.f (k : Nat) : Option (Bool) := if 300 ≤ k then some true else none
theorem Sp.works {k : Nat} (hk : 300 ≤ k) : isobathlaw07_Works.f k = some true := by
 unfold isobathlaw07_Works.f
 rw [if_pos hk]
theorem isobathlaw07_Works.three {k : Nat} (hk : 300 ≤ k) : sound_Count.f k ([2, 1, 2, 0, 1] : List Int) 1 = some (1, 3, 0) ∧ sound_Region.f k [⟨⟨0, 0⟩, ⟨0, 0⟩⟩, ⟨⟨3000, 3000⟩, ⟨0, 0⟩⟩, ⟨⟨0, 0⟩, ⟨4000, 4000⟩⟩] 1500 1500 [⟨100, 100⟩, ⟨2100, 2100⟩, ⟨2767, 2767⟩] 0 4000 0 4000 1 = some ([⟨⟨0, 2000⟩, ⟨0, 2000⟩⟩], 0) ∧ sound_First.f k [⟨[⟨0, 1⟩, ⟨20, 30⟩, ⟨25, 40⟩]⟩, ⟨[⟨0, 5⟩, ⟨5, 25⟩, ⟨21, 22⟩]⟩] 20 2 1 = some (2, 2, 0) := by
 have e2 : Sp.count [2, 1, 2, 0, 1] 1 = (1, 3, 0) := by decide
 have e3 : sound_First.f 100 [⟨[⟨0, 1⟩, ⟨20, 30⟩, ⟨25, 40⟩]⟩, ⟨[⟨0, 5⟩, ⟨5, 25⟩, ⟨21, 22⟩]⟩] 20 2 1 = some (2, 2, 0) := by with_unfolding_all rfl
 have e4 := LeO.up (fun k => sound_First.mono [⟨[⟨0, 1⟩, ⟨20, 30⟩, ⟨25, 40⟩]⟩, ⟨[⟨0, 5⟩, ⟨5, 25⟩, ⟨21, 22⟩]⟩] 20 2 1 k) (show 100 ≤ k by omega) e3
 have e5 := Sp.region_b [⟨⟨0, 0⟩, ⟨0, 0⟩⟩, ⟨⟨3000, 3000⟩, ⟨0, 0⟩⟩, ⟨⟨0, 0⟩, ⟨4000, 4000⟩⟩] 1500 1500 [⟨100, 100⟩, ⟨2100, 2100⟩, ⟨2767, 2767⟩] ⟨⟨0, 4000⟩, ⟨0, 4000⟩⟩ 1 (k := k) (by omega)
 rw [Sp.works_region] at e5
 exact ⟨by rw [Sp.count_b _ _ hk, e2], e5, e4⟩
set_option maxHeartbeats 8000000 in
set_option maxRecDepth 100000 in
theorem isobathlaw07_Works.calls (k : Nat) (r : Bool) (w : World) (h : isobathlaw07_Works.f k = some r) :
  Calls Try.prog 14 #[] w fun e w' => e = .returned (.bool r) ∧ Below w.heap.size w w' := by
 have hu24 := Try.underlying24
 have hu26 := Try.underlying26
 have hu29 := Try.underlying29
 have hu39 := Try.underlying39
 have HB := zam (Below.refl w.heap.size w)
 have hk : 300 ≤ k ∧ r = true := by
  unfold isobathlaw07_Works.f at h
  split at h
  ·next q => exact ⟨q, (zsi h).symm⟩
  cases h
 obtain ⟨hk, hr⟩ := hk
 obtain ⟨q1, q2, q3⟩ := isobathlaw07_Works.three hk
 obtain ⟨t104, t105, t106, A10, d104, d105, d106⟩ : ∃ a b c : Int, sound_Count.f k ([2, 1, 2, 0, 1] : List Int) 1 = some (a, b, c) ∧ a = 1 ∧ b = 3 ∧ c = 0 := ⟨1, 3, 0, q1, rfl, rfl, rfl⟩
 obtain ⟨t108, t111, t112, t113, t117, t120, A20, A30, d117, d120⟩ : ∃ a b c d e f, isobathlaw07_Example.f = some (a, b, c, d) ∧ sound_Region.f k a b c d 0 4000 0 4000 1 = some (e, f) ∧ e = [⟨⟨0, 2000⟩, ⟨0, 2000⟩⟩] ∧ f = 0 := ⟨_, _, _, _, _, _, rfl, q2, rfl, rfl⟩
 obtain ⟨t121, t124, t125, t126, t128, t129, t130, A40, A50, d128, d129, d130⟩ : ∃ a b c d e f g, isobathlaw07_Gauges.f = some (a, b, c, d) ∧ sound_First.f k a b c d = some (e, f, g) ∧ e = 2 ∧ f = 2 ∧ g = 0 := ⟨_, _, _, _, _, _, _, rfl, q3, rfl, rfl, rfl⟩
 have c6b0 : ((wrap64 ((wrap64 (t106 + t120)) + t130)) == 0) = true := by subst d106 d120 d130; with_unfolding_all rfl
 have c6b1 : ((wrap64 ((wrap64 (t106 + t120)) + t130)) != 0) = false := by subst d106 d120 d130; with_unfolding_all rfl
 have c7b0 : (t104 == 1 && (t105 == 3)) = true := by subst d104 d105; rfl
 have c8b0 : ((t117.length : Int) == 1) = true := by subst d117; rfl
 have c8b1 : ((t117.length : Int) != 1) = false := by subst d117; rfl
 have c9b0 : decide (0 < (t117.length : Int)) = true := by subst d117; rfl
 have c9b1 : decide (0 < t117.length) = true := by subst d117; rfl
 have c10b0 : ((((rd_T29 t117 0).f0.f0) == 0 && (((rd_T29 t117 0).f0.f1) == 2000)) && ((((rd_T29 t117 0).f1.f0) == 0 && (((rd_T29 t117 0).f1.f1) == 2000)))) = true := by subst d117; rfl
 have c11b0 : (t128 == 2) = true := by subst d128; rfl
 have c11b1 : (t128 != 2) = false := by subst d128; rfl
 obtain rfl : r = (t129 == 2) := by subst d129; exact hr
 obtain ⟨y101, hy101⟩ : ∃ y_ : List Int, y_ = (([2, 1, 2, 0, 1] : List Int)) := ⟨_, rfl⟩
 rw [← hy101] at A10
 have Ny101 := zam hy101
 have A1 := zam A10
 have A2 := zam A20
 have A3 := zam A30
 have A4 := zam A40
 have A5 := zam A50
 clear hy101 A10 A20 A30 A40 A50 d104 d105 d106 d117 d120 d128 d129 d130 q1 q2 q3 hr hk h
 go_enter Try.func14, Try.ntmps14
 go_wp2_with (first | ((with_reducible refine zgd (N := 13) rfl ?_); (try (refine gate_guard (by rfl) ?_; dsimp only)); refine Kd.R_lit (Kd.int .i64) _ 50 ?hg (N := 13) ?hd (xs := ([2, 1, 2, 0, 1] : List Int)) (inner := [.int .i64 2, .int .i64 1, .int .i64 2, .int .i64 0, .int .i64 1]) (ok := fun _ => True) (okp := fun _ => True) ?hr ?hp (fun _ hk => hk) trivial (Below.refl _ _) (Nat.le_refl _) (by simp) ?_; (case hd => rfl); (case hg => rfl); (case hr => first | (go_simp; done) | (go_simp; rfl)); (case hp => exact (Reps.one (show Kd.M (Kd.int .i64) _ _ _ 2 [.int .i64 2] from rfl) (Reps.one (show Kd.M (Kd.int .i64) _ _ _ 1 [.int .i64 1] from rfl) (Reps.one (show Kd.M (Kd.int .i64) _ _ _ 2 [.int .i64 2] from rfl) (Reps.one (show Kd.M (Kd.int .i64) _ _ _ 0 [.int .i64 0] from rfl) (Reps.one (show Kd.M (Kd.int .i64) _ _ _ 1 [.int .i64 1] from rfl) (Reps.none _ _))))))); intro v102 w12 ho13 hb hg_ hnew_; clear hg_ hnew_; (first | rw [← Ny101.out] at ho13 | (simp only [Int.reduceToNat] at ho13; rw [← Ny101.out] at ho13)); have n0_ := zam (Kd.R_lower ho13 (zbz zq1)); have n1_ := zam (zbt zq1 hb); clear HB; have HO103 := n0_; have HB := n1_; clear n0_ n1_; clear hb ho13; obtain ⟨Ao14, co14, eo14⟩ := Kd.R_slice HO103.out; subst eo14) | ((with_reducible refine zgc (f := 30) rfl ?_); refine goesL_ (some 14) rfl rfl Try.func30 (by kernel_rfl) rfl #[.slice Ao14 y101.length co14, .int .i64 1] rfl zq5 ?_; (with_reducible refine (sound_Count.calls k _ _ y101 1 t104 t105 t106 _ ?side1 ?side2 A1.out).mono ?_); (case side1 => repeat (first | exact (Kd.R_reads' HO103.out).2.2 | (with_reducible refine Kd.C_alloc ?_ _) | (with_reducible refine Kd.C_drewN ?_ _) | (with_reducible refine Kd.C_drew ?_))); (case side2 => exact (Kd.R_reads' HO103.out).2.1); rintro e w15 ⟨rfl, hb⟩; refine ⟨_, rfl, ?_⟩; have n0_ := zam (Kd.R_below zq32 hb); have n1_ := zam (zbt zq1 hb); clear HO103; clear HB; have HO103 := n0_; have HB := n1_; clear n0_ n1_; (try clear hb); (try clear hb2); (try clear hk); (try clear hi)) | ((with_reducible refine zgd (N := 1) rfl ?_); (try (refine gate_guard (by rfl) ?_; dsimp only)); refine box_event ?hg (N := 1) ?hd (cs := #[.int .i64 0, .int .i64 0]) (t := 24) ?hr ?_; (case hd => rfl); (case hg => rfl); (case hr => first | (go_simp; done) | (go_simp; rfl)); intro gb107 hg w16 hbox hb; have n0_ := zam (Kd.R_below zq32 hb); have n1_ := zam (zbt zq1 hb); have n2_ := zam (hbox); have n3_ := zam ((by rw [hg]; exact (zbz zq1) : w.heap.size ≤ gb107)); have n4_ := zam ((by rw [hg]; exact (zbz zq1) : w.heap.size ≤ gb107)); clear HO103; clear HB; have HO103 := n0_; have HB := n1_; have BK107 := n2_; have GW107 := n3_; have GE107 := n4_; clear n0_ n1_ n2_ n3_ n4_; clear hb hbox hg; have hcz17_0 : w16.cell? ⟨gb107, 0, none⟩ = some (.int .i64 0) := (zkc BK107.out 0).trans rfl; have hcz17_1 : w16.cell? ⟨gb107, 1, none⟩ = some (.int .i64 0) := (zkc BK107.out 1).trans rfl; have hfz17_0 := zkz BK107.out 0; have hfz17_1 := zkz BK107.out 1) | ((with_reducible refine zgc (f := 55) rfl ?_); refine goesL_ (some 18) rfl rfl Try.func55 (by kernel_rfl) rfl #[] rfl zq5 ?_; (with_reducible refine (isobathlaw07_Example.calls  t108 t111 t112 t113 _ A2.out).mono ?_); rintro e w18 ⟨v109, v114, rfl, ho0, ho1, hb⟩; refine ⟨_, rfl, ?_⟩; have n0_ := zam (Kd.R_below (by (with_reducible repeat (first | apply zRa | apply zRn | apply zRd)); exact (Kd.R_mono (Kd.R_far (p := ⟨gb107, 1, none⟩) (Kd.R_far (p := ⟨gb107, 0, none⟩) (Kd.R_types HO103.out BK107.out (by decide)) (fun _ hk => hk.2) (.int .i64 t104)) (fun _ hk => hk.2) (.int .i64 t105)) (fun _ h_ => h_.1))) hb); have n1_ := zam (Kd.R_lower ho0 (zbz zq23)); have n2_ := zam (Kd.R_lower (Kd.R_newB ho1 (g := gb107) (o := .cells #[.int .i64 t104, .int .i64 t105] 24 (0, 0)) (by (with_reducible repeat (first | refine zkn ?_ _ | refine zkd ?_ | refine zka ?_ _)); refine blk_put (cs := #[.int .i64 t104, .int .i64 0]) ?_ 1 _ rfl; (with_reducible repeat (first | refine zkn ?_ _ | refine zkd ?_ | refine zka ?_ _)); refine blk_put (cs := #[.int .i64 0, .int .i64 0]) ?_ 0 _ rfl; (with_reducible repeat (first | refine zkn ?_ _ | refine zkd ?_ | refine zka ?_ _)); exact BK107.out)) (zbz zq23)); have n3_ := zam (zkb (g := gb107) (o := .cells #[.int .i64 t104, .int .i64 t105] 24 (0, 0)) (by (with_reducible repeat (first | refine zkn ?_ _ | refine zkd ?_ | refine zka ?_ _)); refine blk_put (cs := #[.int .i64 t104, .int .i64 0]) ?_ 1 _ rfl; (with_reducible repeat (first | refine zkn ?_ _ | refine zkd ?_ | refine zka ?_ _)); refine blk_put (cs := #[.int .i64 0, .int .i64 0]) ?_ 0 _ rfl; (with_reducible repeat (first | refine zkn ?_ _ | refine zkd ?_ | refine zka ?_ _)); exact BK107.out) hb); have n4_ := zam (zbt zq23 hb); clear HO103; clear BK107; clear HB; have HO103 := n0_; have HO110 := n1_; have HO115 := n2_; have BK107 := n3_; have HB := n4_; clear n0_ n1_ n2_ n3_ n4_; (try clear hb); (try clear hb2); (try clear hk); (try clear hi); (try clear ho0); (try clear ho1)) | ((with_reducible refine zgd (N := 3) rfl ?_); (try (refine gate_guard (by rfl) ?_; dsimp only)); refine box_event ?hg (N := 3) ?hd (cs := #[.slice none 0 0, .int .i64 0, .int .i64 0]) (t := 26) ?hr ?_; (case hd => rfl); (case hg => rfl); (case hr => first | (go_simp; done) | (go_simp; rfl)); intro gb116 hg w19 hbox hb; have n0_ := zam (Kd.R_below zq32 hb); have n1_ := zam (Kd.R_below (by (with_reducible repeat (first | apply zRa | apply zRn | apply zRd)); exact HO110.out) hb); have n2_ := zam (Kd.R_below (by (with_reducible repeat (first | apply zRa | apply zRn | apply zRd)); exact HO115.out) hb); have n3_ := zam (zkb (g := gb107) (o := .cells #[.int .i64 t104, .int .i64 t105] 24 (0, 0)) zq20 hb); have n4_ := zam (zbt zq23 hb); have n5_ := zam (hbox); have n6_ := zam ((by rw [hg]; exact (zbz zq23) : w.heap.size ≤ gb116)); have n7_ := zam ((by rw [hg]; exact (zbz zq23) : w.heap.size ≤ gb116)); have n8_ := zam ((by rw [hg]; exact Nat.ne_of_lt (blk_lt (g := gb107) (o := .cells #[.int .i64 t104, .int .i64 t105] 24 (0, 0)) zq20) : gb107 ≠ gb116)); have n9_ := zam ((by rw [hg]; exact Nat.ne_of_gt (blk_lt (g := gb107) (o := .cells #[.int .i64 t104, .int .i64 t105] 24 (0, 0)) zq20) : gb116 ≠ gb107)); clear HO103; clear HO110; clear HO115; clear BK107; clear HB; have HO103 := n0_; have HO110 := n1_; have HO115 := n2_; have BK107 := n3_; have HB := n4_; have BK116 := n5_; have GW116 := n6_; have GE116 := n7_; have NB107_116 := n8_; have NB116_107 := n9_; clear n0_ n1_ n2_ n3_ n4_ n5_ n6_ n7_ n8_ n9_; clear hb hbox hg; obtain ⟨Ao20, co20, eo20⟩ := Kd.R_slice HO110.out; subst eo20; have hnb21 := NB116_107.out; have hnc21 := NB107_116.out; have hcz22_0 : w19.cell? ⟨gb116, 0, none⟩ = some (.slice none 0 0) := (zkc BK116.out 0).trans rfl; have hcz22_1 : w19.cell? ⟨gb116, 1, none⟩ = some (.int .i64 0) := (zkc BK116.out 1).trans rfl; have hcz22_2 : w19.cell? ⟨gb116, 2, none⟩ = some (.int .i64 0) := (zkc BK116.out 2).trans rfl; have hfz22_0 := zkz BK116.out 0; have hfz22_1 := zkz BK116.out 1; have hfz22_2 := zkz BK116.out 2; obtain ⟨Ao23, co23, eo23⟩ := Kd.R_slice HO115.out; subst eo23) | ((with_reducible refine zgc (f := 15) rfl ?_); refine goesL_ (some 27) rfl rfl Try.func15 (by kernel_rfl) rfl #[.agg #[.slice Ao20 t108.length co20, .int .i64 t111, .int .i64 t112], .slice Ao23 t113.length co23, .agg #[.int .i64 0, .int .i64 4000, .int .i64 0, .int .i64 4000], .int .i64 1] rfl zq5 ?_; (with_reducible refine (sound_Region.calls k _ _ t108 t111 t112 _ _ t113 0 4000 0 4000 1 t117 t120 _ ?side1 ?side2 ?side3 ?side4 A3.out).mono ?_); (case side1 => refine (Kd.R_reads' (e := 29) (base := w.heap.size) (ok := fun k_ => True) (n := t108.length) (c := co20) ?_).2.2; exact zq19); (case side2 => exact (Kd.R_reads' HO110.out).2.1); (case side3 => refine (Kd.R_reads' (e := 24) (base := w.heap.size) (ok := fun k_ => (True ∧ k_ ≠ gb107)) (n := t113.length) (c := co23) ?_).2.2; exact (by (with_reducible repeat (first | apply zRa | apply zRn | apply zRd)); exact (Kd.R_mono (Kd.R_far (p := ⟨gb116, 2, none⟩) (Kd.R_far (p := ⟨gb116, 1, none⟩) (Kd.R_far (p := ⟨gb116, 0, none⟩) (Kd.R_types HO115.out BK116.out (by decide)) (fun _ hk => hk.2) (.slice Ao20 t108.length co20)) (fun _ hk => hk.2) (.int .i64 t111)) (fun _ hk => hk.2) (.int .i64 t112)) (fun _ h_ => h_.1)))); (case side4 => exact (Kd.R_reads' HO115.out).2.1); rintro e w24 ⟨v118, rfl, ho0, hb⟩; refine ⟨_, rfl, ?_⟩; have n0_ := zam (Kd.R_below (by (with_reducible repeat (first | apply zRa | apply zRn | apply zRd)); exact (Kd.R_mono (Kd.R_far (p := ⟨gb116, 2, none⟩) (Kd.R_far (p := ⟨gb116, 1, none⟩) (Kd.R_far (p := ⟨gb116, 0, none⟩) (Kd.R_types HO103.out BK116.out (by decide)) (fun _ hk => hk.2) (.slice Ao20 t108.length co20)) (fun _ hk => hk.2) (.int .i64 t111)) (fun _ hk => hk.2) (.int .i64 t112)) (fun _ h_ => h_.1))) hb); have n1_ := zam (Kd.R_elder' zq19 (Kd.R_base ho0) hb); have n2_ := zam (Kd.R_below (by (with_reducible repeat (first | apply zRa | apply zRn | apply zRd)); exact (Kd.R_mono (Kd.R_far (p := ⟨gb116, 2, none⟩) (Kd.R_far (p := ⟨gb116, 1, none⟩) (Kd.R_far (p := ⟨gb116, 0, none⟩) (Kd.R_types HO115.out BK116.out (by decide)) (fun _ hk => hk.2) (.slice Ao20 t108.length co20)) (fun _ hk => hk.2) (.int .i64 t111)) (fun _ hk => hk.2) (.int .i64 t112)) (fun _ h_ => h_.1))) hb); have n3_ := zam (Kd.R_lower (Kd.R_new' ho0 (Kd.R_lt zq19)) (zbz zq21)); have n4_ := zam (zkb (g := gb107) (o := .cells #[.int .i64 t104, .int .i64 t105] 24 (0, 0)) (by (with_reducible repeat (first | refine zkn ?_ _ | refine zkd ?_ | refine zka ?_ _)); refine zkf ?_ NB107_116.out _; (with_reducible repeat (first | refine zkn ?_ _ | refine zkd ?_ | refine zka ?_ _)); refine zkf ?_ NB107_116.out _; (with_reducible repeat (first | refine zkn ?_ _ | refine zkd ?_ | refine zka ?_ _)); refine zkf ?_ NB107_116.out _; (with_reducible repeat (first | refine zkn ?_ _ | refine zkd ?_ | refine zka ?_ _)); exact BK107.out) hb); have n5_ := zam (zkb (g := gb116) (o := .cells #[.slice Ao20 t108.length co20, .int .i64 t111, .int .i64 t112] 26 (0, 0)) (by (with_reducible repeat (first | refine zkn ?_ _ | refine zkd ?_ | refine zka ?_ _)); refine blk_put (cs := #[.slice Ao20 t108.length co20, .int .i64 t111, .int .i64 0]) ?_ 2 _ rfl; (with_reducible repeat (first | refine zkn ?_ _ | refine zkd ?_ | refine zka ?_ _)); refine blk_put (cs := #[.slice Ao20 t108.length co20, .int .i64 0, .int .i64 0]) ?_ 1 _ rfl; (with_reducible repeat (first | refine zkn ?_ _ | refine zkd ?_ | refine zka ?_ _)); refine blk_put (cs := #[.slice none 0 0, .int .i64 0, .int .i64 0]) ?_ 0 _ rfl; (with_reducible repeat (first | refine zkn ?_ _ | refine zkd ?_ | refine zka ?_ _)); exact BK116.out) hb); have n6_ := zam (zbt zq21 hb); clear HO103; clear HO110; clear HO115; clear BK107; clear BK116; clear HB; have HO103 := n0_; have HO110 := n1_; have HO115 := n2_; have HO119 := n3_; have BK107 := n4_; have BK116 := n5_; have HB := n6_; clear n0_ n1_ n2_ n3_ n4_ n5_ n6_; (try clear hb); (try clear hb2); (try clear hk); (try clear hi); (try clear ho0)) | ((with_reducible refine zgc (f := 57) rfl ?_); refine goesL_ (some 31) rfl rfl Try.func57 (by kernel_rfl) rfl #[] rfl zq5 ?_; (with_reducible refine (isobathlaw07_Gauges.calls  t121 t124 t125 t126 _ A4.out).mono ?_); rintro e w25 ⟨v122, rfl, ho0, hb⟩; refine ⟨_, rfl, ?_⟩; have n0_ := zam (Kd.R_below zq32 hb); have n1_ := zam (Kd.R_below (by (with_reducible repeat (first | apply zRa | apply zRn | apply zRd)); exact HO110.out) hb); have n2_ := zam (Kd.R_below (by (with_reducible repeat (first | apply zRa | apply zRn | apply zRd)); exact HO115.out) hb); have n3_ := zam (Kd.R_below (by (with_reducible repeat (first | apply zRa | apply zRn | apply zRd)); exact HO119.out) hb); have n4_ := zam (Kd.N_lower (Kd.N_mono (ok' := fun k_ => some k_ ≠ (.slice Ao14 y101.length co14 : Value).ownBlock ∧ some k_ ≠ (.slice Ao20 t108.length co20 : Value).ownBlock ∧ some k_ ≠ (.slice Ao23 t113.length co23 : Value).ownBlock ∧ some k_ ≠ (v118 : Value).ownBlock ∧ k_ ≠ gb107 ∧ k_ ≠ gb116) ho0 (fun k_ hk_ => ⟨(Kd.fresh' (Kd.R_lt zq32) k_ hk_), (Kd.fresh' (Kd.R_lt (by (with_reducible repeat (first | apply zRa | apply zRn | apply zRd)); exact HO110.out)) k_ hk_), (Kd.fresh' (Kd.R_lt (by (with_reducible repeat (first | apply zRa | apply zRn | apply zRd)); exact HO115.out)) k_ hk_), (Kd.fresh' (Kd.R_lt (by (with_reducible repeat (first | apply zRa | apply zRn | apply zRd)); exact HO119.out)) k_ hk_), (Kd.freshB (g := gb107) (o := .cells #[.int .i64 t104, .int .i64 t105] 24 (0, 0)) zq20 k_ hk_), (Kd.freshB (g := gb116) (o := .cells #[.slice Ao20 t108.length co20, .int .i64 t111, .int .i64 t112] 26 (0, 0)) zq34 k_ hk_)⟩)) (zbz zq21)); have n5_ := zam (zkb (g := gb107) (o := .cells #[.int .i64 t104, .int .i64 t105] 24 (0, 0)) zq20 hb); have n6_ := zam (zkb (g := gb116) (o := .cells #[.slice Ao20 t108.length co20, .int .i64 t111, .int .i64 t112] 26 (0, 0)) zq34 hb); have n7_ := zam (zbt zq21 hb); clear HO103; clear HO110; clear HO115; clear HO119; clear BK107; clear BK116; clear HB; have HO103 := n0_; have HO110 := n1_; have HO115 := n2_; have HO119 := n3_; have HO123 := n4_; have BK107 := n5_; have BK116 := n6_; have HB := n7_; clear n0_ n1_ n2_ n3_ n4_ n5_ n6_ n7_; (try clear hb); (try clear hb2); (try clear hk); (try clear hi); (try clear ho0)) | ((with_reducible refine zgd (N := 8) rfl ?_); (try (refine gate_guard (by rfl) ?_; dsimp only)); refine box_event ?hg (N := 8) ?hd (cs := #[.int .i64 0, .int .i64 0, .int .i64 0]) (t := 39) ?hr ?_; (case hd => rfl); (case hg => rfl); (case hr => first | (go_simp; done) | (go_simp; rfl)); intro gb127 hg w26 hbox hb; have n0_ := zam (Kd.R_below zq32 hb); have n1_ := zam (Kd.R_below (by (with_reducible repeat (first | apply zRa | apply zRn | apply zRd)); exact HO110.out) hb); have n2_ := zam (Kd.R_below (by (with_reducible repeat (first | apply zRa | apply zRn | apply zRd)); exact HO115.out) hb); have n3_ := zam (Kd.R_below (by (with_reducible repeat (first | apply zRa | apply zRn | apply zRd)); exact HO119.out) hb); have n4_ := zam (Kd.N_below (Kd.N_elderB (by (with_reducible repeat (first | apply Kd.N_alloc | apply Kd.N_drewN | apply Kd.N_drew)); exact HO123.out) gb127 (Nat.le_of_eq hg.symm)) hb); have n5_ := zam (zkb (g := gb107) (o := .cells #[.int .i64 t104, .int .i64 t105] 24 (0, 0)) zq20 hb); have n6_ := zam (zkb (g := gb116) (o := .cells #[.slice Ao20 t108.length co20, .int .i64 t111, .int .i64 t112] 26 (0, 0)) zq34 hb); have n7_ := zam (zbt zq21 hb); have n8_ := zam (hbox); have n9_ := zam ((by rw [hg]; exact (zbz zq21) : w.heap.size ≤ gb127)); have n10_ := zam ((by rw [hg]; exact (zbz zq21) : w.heap.size ≤ gb127)); have n11_ := zam ((by rw [hg]; exact Nat.ne_of_lt (blk_lt (g := gb107) (o := .cells #[.int .i64 t104, .int .i64 t105] 24 (0, 0)) zq20) : gb107 ≠ gb127)); have n12_ := zam ((by rw [hg]; exact Nat.ne_of_gt (blk_lt (g := gb107) (o := .cells #[.int .i64 t104, .int .i64 t105] 24 (0, 0)) zq20) : gb127 ≠ gb107)); have n13_ := zam ((by rw [hg]; exact Nat.ne_of_lt (blk_lt (g := gb116) (o := .cells #[.slice Ao20 t108.length co20, .int .i64 t111, .int .i64 t112] 26 (0, 0)) zq34) : gb116 ≠ gb127)); have n14_ := zam ((by rw [hg]; exact Nat.ne_of_gt (blk_lt (g := gb116) (o := .cells #[.slice Ao20 t108.length co20, .int .i64 t111, .int .i64 t112] 26 (0, 0)) zq34) : gb127 ≠ gb116)); clear HO103; clear HO110; clear HO115; clear HO119; clear HO123; clear BK107; clear BK116; clear HB; have HO103 := n0_; have HO110 := n1_; have HO115 := n2_; have HO119 := n3_; have HO123 := n4_; have BK107 := n5_; have BK116 := n6_; have HB := n7_; have BK127 := n8_; have GW127 := n9_; have GE127 := n10_; have NB107_127 := n11_; have NB127_107 := n12_; have NB116_127 := n13_; have NB127_116 := n14_; clear n0_ n1_ n2_ n3_ n4_ n5_ n6_ n7_ n8_ n9_ n10_ n11_ n12_ n13_ n14_; clear hb hbox hg; have hnb27 := NB127_107.out; have hnc27 := NB107_127.out; have hnb28 := NB127_116.out; have hnc28 := NB116_127.out; have hcz29_0 : w26.cell? ⟨gb127, 0, none⟩ = some (.int .i64 0) := (zkc BK127.out 0).trans rfl; have hcz29_1 : w26.cell? ⟨gb127, 1, none⟩ = some (.int .i64 0) := (zkc BK127.out 1).trans rfl; have hcz29_2 : w26.cell? ⟨gb127, 2, none⟩ = some (.int .i64 0) := (zkc BK127.out 2).trans rfl; have hfz29_0 := zkz BK127.out 0; have hfz29_1 := zkz BK127.out 1; have hfz29_2 := zkz BK127.out 2; obtain ⟨Ao30, co30, eo30⟩ := Kd.N_slice HO123.out; subst eo30) | ((with_reducible refine zgc (f := 23) rfl ?_); refine goesL_ (some 37) rfl rfl Try.func23 (by kernel_rfl) rfl #[.slice Ao30 t121.length co30, .agg #[.int .i64 t124, .int .i64 t125, .int .i64 t126]] rfl zq5 ?_; (with_reducible refine (sound_First.calls k _ _ t121 t124 t125 t126 t128 t129 t130 _ ?side1 ?side2 A5.out).mono ?_); (case side1 => refine (Kd.N_reads' (e := 45) (base := w.heap.size) (ok := fun k_ => ((some k_ ≠ (.slice Ao14 y101.length co14 : Value).ownBlock ∧ (some k_ ≠ (.slice Ao20 t108.length co20 : Value).ownBlock ∧ (some k_ ≠ (.slice Ao23 t113.length co23 : Value).ownBlock ∧ (some k_ ≠ (v118 : Value).ownBlock ∧ (k_ ≠ gb107 ∧ k_ ≠ gb116))))) ∧ k_ ≠ gb127)) (n := t121.length) (c := co30) ?_).2.2; exact (by (with_reducible repeat (first | apply Kd.N_alloc | apply Kd.N_drewN | apply Kd.N_drew)); exact (Kd.N_mono (Kd.N_far (p := ⟨gb127, 2, none⟩) (Kd.N_far (p := ⟨gb127, 1, none⟩) (Kd.N_far (p := ⟨gb127, 0, none⟩) (Kd.N_mono HO123.out (fun k_ hk => (⟨hk, hk.2⟩ : _ ∧ k_ ≠ gb127))) (fun _ hk => hk.2) (.int .i64 t124)) (fun _ hk => hk.2) (.int .i64 t125)) (fun _ hk => hk.2) (.int .i64 t126)) (fun _ h_ => h_.1)))); (case side2 => exact (Kd.N_reads' HO123.out).2.1); rintro e w31 ⟨rfl, hb⟩; refine ⟨_, rfl, ?_⟩; have n0_ := zam (Kd.R_below (by (with_reducible repeat (first | apply zRa | apply zRn | apply zRd)); exact (Kd.R_mono (Kd.R_far (p := ⟨gb127, 2, none⟩) (Kd.R_far (p := ⟨gb127, 1, none⟩) (Kd.R_far (p := ⟨gb127, 0, none⟩) (Kd.R_types HO103.out BK127.out (by decide)) (fun _ hk => hk.2) (.int .i64 t124)) (fun _ hk => hk.2) (.int .i64 t125)) (fun _ hk => hk.2) (.int .i64 t126)) (fun _ h_ => h_.1))) hb); have n1_ := zam (Kd.R_below (by (with_reducible repeat (first | apply zRa | apply zRn | apply zRd)); exact (Kd.R_mono (Kd.R_far (p := ⟨gb127, 2, none⟩) (Kd.R_far (p := ⟨gb127, 1, none⟩) (Kd.R_far (p := ⟨gb127, 0, none⟩) (Kd.R_types HO110.out BK127.out (by decide)) (fun _ hk => hk.2) (.int .i64 t124)) (fun _ hk => hk.2) (.int .i64 t125)) (fun _ hk => hk.2) (.int .i64 t126)) (fun _ h_ => h_.1))) hb); have n2_ := zam (Kd.R_below (by (with_reducible repeat (first | apply zRa | apply zRn | apply zRd)); exact (Kd.R_mono (Kd.R_far (p := ⟨gb127, 2, none⟩) (Kd.R_far (p := ⟨gb127, 1, none⟩) (Kd.R_far (p := ⟨gb127, 0, none⟩) (Kd.R_types HO115.out BK127.out (by decide)) (fun _ hk => hk.2) (.int .i64 t124)) (fun _ hk => hk.2) (.int .i64 t125)) (fun _ hk => hk.2) (.int .i64 t126)) (fun _ h_ => h_.1))) hb); have n3_ := zam (Kd.R_below (by (with_reducible repeat (first | apply zRa | apply zRn | apply zRd)); exact (Kd.R_mono (Kd.R_far (p := ⟨gb127, 2, none⟩) (Kd.R_far (p := ⟨gb127, 1, none⟩) (Kd.R_far (p := ⟨gb127, 0, none⟩) (Kd.R_types HO119.out BK127.out (by decide)) (fun _ hk => hk.2) (.int .i64 t124)) (fun _ hk => hk.2) (.int .i64 t125)) (fun _ hk => hk.2) (.int .i64 t126)) (fun _ h_ => h_.1))) hb); have n4_ := zam (Kd.N_below (by (with_reducible repeat (first | apply Kd.N_alloc | apply Kd.N_drewN | apply Kd.N_drew)); exact (Kd.N_mono (Kd.N_far (p := ⟨gb127, 2, none⟩) (Kd.N_far (p := ⟨gb127, 1, none⟩) (Kd.N_far (p := ⟨gb127, 0, none⟩) (Kd.N_mono HO123.out (fun k_ hk => (⟨hk, hk.2⟩ : _ ∧ k_ ≠ gb127))) (fun _ hk => hk.2) (.int .i64 t124)) (fun _ hk => hk.2) (.int .i64 t125)) (fun _ hk => hk.2) (.int .i64 t126)) (fun _ h_ => h_.1))) hb); have n5_ := zam (zkb (g := gb107) (o := .cells #[.int .i64 t104, .int .i64 t105] 24 (0, 0)) (by (with_reducible repeat (first | refine zkn ?_ _ | refine zkd ?_ | refine zka ?_ _)); refine zkf ?_ NB107_127.out _; (with_reducible repeat (first | refine zkn ?_ _ | refine zkd ?_ | refine zka ?_ _)); refine zkf ?_ NB107_127.out _; (with_reducible repeat (first | refine zkn ?_ _ | refine zkd ?_ | refine zka ?_ _)); refine zkf ?_ NB107_127.out _; (with_reducible repeat (first | refine zkn ?_ _ | refine zkd ?_ | refine zka ?_ _)); exact BK107.out) hb); have n6_ := zam (zkb (g := gb116) (o := .cells #[.slice Ao20 t108.length co20, .int .i64 t111, .int .i64 t112] 26 (0, 0)) (by (with_reducible repeat (first | refine zkn ?_ _ | refine zkd ?_ | refine zka ?_ _)); refine zkf ?_ NB116_127.out _; (with_reducible repeat (first | refine zkn ?_ _ | refine zkd ?_ | refine zka ?_ _)); refine zkf ?_ NB116_127.out _; (with_reducible repeat (first | refine zkn ?_ _ | refine zkd ?_ | refine zka ?_ _)); refine zkf ?_ NB116_127.out _; (with_reducible repeat (first | refine zkn ?_ _ | refine zkd ?_ | refine zka ?_ _)); exact BK116.out) hb); have n7_ := zam (zkb (g := gb127) (o := .cells #[.int .i64 t124, .int .i64 t125, .int .i64 t126] 39 (0, 0)) (by (with_reducible repeat (first | refine zkn ?_ _ | refine zkd ?_ | refine zka ?_ _)); refine blk_put (cs := #[.int .i64 t124, .int .i64 t125, .int .i64 0]) ?_ 2 _ rfl; (with_reducible repeat (first | refine zkn ?_ _ | refine zkd ?_ | refine zka ?_ _)); refine blk_put (cs := #[.int .i64 t124, .int .i64 0, .int .i64 0]) ?_ 1 _ rfl; (with_reducible repeat (first | refine zkn ?_ _ | refine zkd ?_ | refine zka ?_ _)); refine blk_put (cs := #[.int .i64 0, .int .i64 0, .int .i64 0]) ?_ 0 _ rfl; (with_reducible repeat (first | refine zkn ?_ _ | refine zkd ?_ | refine zka ?_ _)); exact BK127.out) hb); have n8_ := zam (zbt (by repeat (first | (with_reducible first | exact HB.out | apply zba | apply zbn | apply zb1 | refine zbs ?_ GE107.out | refine zbs ?_ GE116.out | refine zbs ?_ GE127.out) | exact HB.out)) hb); clear HO103; clear HO110; clear HO115; clear HO119; clear HO123; clear BK107; clear BK116; clear BK127; clear HB; have HO103 := n0_; have HO110 := n1_; have HO115 := n2_; have HO119 := n3_; have HO123 := n4_; have BK107 := n5_; have BK116 := n6_; have BK127 := n7_; have HB := n8_; clear n0_ n1_ n2_ n3_ n4_ n5_ n6_ n7_ n8_; (try clear hb); (try clear hb2); (try clear hk); (try clear hi); have hcz32_0 : w31.cell? ⟨gb107, 0, none⟩ = some (.int .i64 t104) := (zkc BK107.out 0).trans rfl; have hcz32_1 : w31.cell? ⟨gb107, 1, none⟩ = some (.int .i64 t105) := (zkc BK107.out 1).trans rfl; have hfz32_0 := zkz BK107.out 0; have hfz32_1 := zkz BK107.out 1; obtain ⟨Ao33, co33, eo33⟩ := Kd.R_slice HO119.out; subst eo33; have p131 : 0 ≤ (0 : Int) := (by omega); have q131 : 0 < (t117.length : Int) := zod zq9; obtain ⟨ad131, e131, hx131_0, hx131_1, hx131_2, hx131_3⟩ := at_T29 (Kd.R_reads' HO119.out).2.2 0 p131 q131; cases e131; have qi131 : (0 < t117.length) = True := eq_true (by omega); (try rw [show ((0 : Int)).toNat = 0 from rfl] at hx131_0); (try rw [show 0 * 4 = 0 from rfl] at hx131_0); (try rw [Addr.add_zero'] at hx131_0); (try rw [show ((0 : Int)).toNat = 0 from rfl] at hx131_1); (try rw [show 0 * 4 = 0 from rfl] at hx131_1); (try rw [Addr.add_zero'] at hx131_1); (try rw [show ((0 : Int)).toNat = 0 from rfl] at hx131_2); (try rw [show 0 * 4 = 0 from rfl] at hx131_2); (try rw [Addr.add_zero'] at hx131_2); (try rw [show ((0 : Int)).toNat = 0 from rfl] at hx131_3); (try rw [show 0 * 4 = 0 from rfl] at hx131_3); (try rw [Addr.add_zero'] at hx131_3); replace p131 := eq_true p131; replace q131 := eq_true q131))
 go_ret
 exact ⟨by first | rfl | (simp [errW_none, errW_some] <;> rfl) | (simp [*, errW_none, errW_some] <;> rfl), by repeat (first | (with_reducible first | exact HB.out | apply zba | apply zbn | apply zb1 | refine zbs ?_ GE107.out | refine zbs ?_ GE116.out | refine zbs ?_ GE127.out) | exact HB.out)⟩
end Go.Proofs.Ytaheamdoldiojaa.P
namespace Go.Proofs.Ytaheamdoldiojaa.P
open Go.RowKit Go.Proofs.YtaheamdoldiojaaW.PrintWords Go.Proofs.YtaheamdoldiojaaW.PrintLast Go.Proofs.YtaheamdoldiojaaW.PrintMore
attribute [local go_sem] max2_int min2_int max_two min_two max_three min_three max_four min_four   -- for this text's walks alone
set_option linter.unusedVariables false
set_option linter.unusedSimpArgs false
def isobathlaw07_great.f (l0_0 : List (S29)) (a0_1 : Int) (a0_2 : Int) (l1 : List (S24)) : Option (Bool) := if (l0_0.length : Int) > 12 then (some true) else (some (decide ((l1.length : Int) > 12)))
set_option maxHeartbeats 8000000 in
set_option maxRecDepth 100000 in
theorem isobathlaw07_great.calls (A0_0 : Option Addr) (c0_0 : Nat) (l0_0 : List (S29)) (a0_1 : Int) (a0_2 : Int) (A1 : Option Addr) (c1 : Nat) (l1 : List (S24)) (r : Bool) (w : World) (hr0_0 : Kd.C k29 w A0_0 l0_0.length l0_0) (hc0_0 : l0_0.length ≤ c0_0) (hr1 : Kd.C k24 w A1 l1.length l1) (hc1 : l1.length ≤ c1) (h : isobathlaw07_great.f l0_0 a0_1 a0_2 l1 = some r) :
  Calls Try.prog 13 #[.agg #[.slice A0_0 l0_0.length c0_0, .int .i64 a0_1, .int .i64 a0_2], .slice A1 l1.length c1] w fun e w' => e = .returned (.bool r) ∧ Below w.heap.size w w' := by
 have hu26 := Try.underlying26
 have HR0_0 := zam hr0_0
 have HC0_0 := zam hc0_0
 clear hr0_0 hc0_0
 have HR1 := zam hr1
 have HC1 := zam hc1
 clear hr1 hc1
 have HB := zam (Below.refl w.heap.size w)
 have H : (if (l0_0.length : Int) > 12 then (some true) else (some (decide ((l1.length : Int) > 12)))) = some r := h
 clear h
 by_cases c3 : (l0_0.length : Int) > 12
 ·rw [if_pos c3] at H
  have c3b0 : decide (12 < (l0_0.length : Int)) = true := zdt c3
  have c3b1 : decide (12 < l0_0.length) = true := zdt (by omega)
  clear c3
  obtain rfl := zsi H
  go_enter Try.func13, Try.ntmps13
  go_wp2_with (first | ((with_reducible refine zgd (N := 2) rfl ?_); (try (refine gate_guard (by rfl) ?_; dsimp only)); refine box_event ?hg (N := 2) ?hd (cs := #[.slice A0_0 l0_0.length c0_0, .int .i64 a0_1, .int .i64 a0_2]) (t := 26) ?hr ?_; (case hd => rfl); (case hg => rfl); (case hr => first | (go_simp; done) | (go_simp; rfl)); intro gb101 hg w4 hbox hb; have n0_ := zam (zbt zq1 hb); have n1_ := zam (hbox); have n2_ := zam ((by rw [hg]; exact (zbz zq1) : w.heap.size ≤ gb101)); have n3_ := zam ((by rw [hg]; exact (zbz zq1) : w.heap.size ≤ gb101)); clear HB; have HB := n0_; have BK101 := n1_; have GW101 := n2_; have GE101 := n3_; clear n0_ n1_ n2_ n3_; clear hb hbox hg; have hcz5_0 : w4.cell? ⟨gb101, 0, none⟩ = some (.slice A0_0 l0_0.length c0_0) := (zkc BK101.out 0).trans rfl; have hcz5_1 : w4.cell? ⟨gb101, 1, none⟩ = some (.int .i64 a0_1) := (zkc BK101.out 1).trans rfl; have hcz5_2 : w4.cell? ⟨gb101, 2, none⟩ = some (.int .i64 a0_2) := (zkc BK101.out 2).trans rfl; have hfz5_0 := zkz BK101.out 0; have hfz5_1 := zkz BK101.out 1; have hfz5_2 := zkz BK101.out 2))
  go_ret
  exact ⟨by first | rfl | (simp [errW_none, errW_some] <;> rfl) | (simp [*, errW_none, errW_some] <;> rfl), by repeat (first | (with_reducible first | exact HB.out | apply zba | apply zbn | apply zb1 | refine zbs ?_ GE101.out) | exact HB.out)⟩
 rw [if_neg c3] at H
 have c3b0 : decide (12 < (l0_0.length : Int)) = false := zdf c3
 have c3b1 : decide (12 < l0_0.length) = false := zdf (by omega)
 clear c3
 obtain rfl := zsi H
 go_enter Try.func13, Try.ntmps13
 go_wp2_with (first | ((with_reducible refine zgd (N := 2) rfl ?_); (try (refine gate_guard (by rfl) ?_; dsimp only)); refine box_event ?hg (N := 2) ?hd (cs := #[.slice A0_0 l0_0.length c0_0, .int .i64 a0_1, .int .i64 a0_2]) (t := 26) ?hr ?_; (case hd => rfl); (case hg => rfl); (case hr => first | (go_simp; done) | (go_simp; rfl)); intro gb101 hg w6 hbox hb; have n0_ := zam (zbt zq1 hb); have n1_ := zam (hbox); have n2_ := zam ((by rw [hg]; exact (zbz zq1) : w.heap.size ≤ gb101)); have n3_ := zam ((by rw [hg]; exact (zbz zq1) : w.heap.size ≤ gb101)); clear HB; have HB := n0_; have BK101 := n1_; have GW101 := n2_; have GE101 := n3_; clear n0_ n1_ n2_ n3_; clear hb hbox hg; have hcz7_0 : w6.cell? ⟨gb101, 0, none⟩ = some (.slice A0_0 l0_0.length c0_0) := (zkc BK101.out 0).trans rfl; have hcz7_1 : w6.cell? ⟨gb101, 1, none⟩ = some (.int .i64 a0_1) := (zkc BK101.out 1).trans rfl; have hcz7_2 : w6.cell? ⟨gb101, 2, none⟩ = some (.int .i64 a0_2) := (zkc BK101.out 2).trans rfl; have hfz7_0 := zkz BK101.out 0; have hfz7_1 := zkz BK101.out 1; have hfz7_2 := zkz BK101.out 2))
 go_ret
 exact ⟨by first | rfl | (simp [errW_none, errW_some] <;> rfl) | (simp [*, errW_none, errW_some] <;> rfl), by repeat (first | (with_reducible first | exact HB.out | apply zba | apply zbn | apply zb1 | refine zbs ?_ GE101.out) | exact HB.out)⟩
end Go.Proofs.Ytaheamdoldiojaa.P
