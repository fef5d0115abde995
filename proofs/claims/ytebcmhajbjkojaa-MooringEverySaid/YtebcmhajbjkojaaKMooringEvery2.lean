/- The forces, tensions, offsets and rises of all moorings with pieces of a rig lie within the spans that the document tells. Part 3 of 6. -/
-- Put together by wip/tools/shake.py, a program of this work: out of the words that the kit's print tool (print.sh) writes for a claim and what wip/tools/xprint.py prints, those that this claim reaches, and this work's own texts.
import Derived.Laws.EntriesVeiled
import Derived.Outline
import Derived.Test.YtebcmhajbjkojaaKMooringEvery1
namespace Go.Proofs.Ytebcmhajbjkojaa.P
open Go.RowKit Go.Proofs.YtebcmhajbjkojaaW.PrintWords Go.Proofs.YtebcmhajbjkojaaW.PrintLast Go.Proofs.YtebcmhajbjkojaaW.PrintMore
attribute [local go_sem] max2_int min2_int max_two min_two max_three min_three max_four min_four   -- for this text's walks alone
set_option linter.unusedVariables false
set_option linter.unusedSimpArgs false
def offset.T3 : Bool × List (List Nat × List Nat) := (true, [([], []), ([0], [0]), ([1], [1]), ([2], [2]), ([3], [3]), ([4], [4]), ([5], [5]), ([6], [6]), ([], []), ([], []), ([9], [9]), ([10], [10]), ([11], [11]), ([], []), ([12, 13], [12, 13]), ([14], [14]), ([15], [15]), ([8, 16], [8, 16]), ([], []), ([18], [18]), ([19], [19]), ([20], [20]), ([21], [21]), ([22], [22]), ([23], [23]), ([24], [24]), ([], []), ([25, 26], [25, 26]), ([7, 17, 27, 27], [7, 17, 27]), ([], []), ([], []), ([30], [30]), ([31], [31]), ([32], [32]), ([33], [33]), ([34], [34]), ([35], [35]), ([36], [36]), ([], []), ([], []), ([39], [39]), ([40], [40]), ([41], [41]), ([], []), ([42, 43], [42, 43]), ([44], [44]), ([45], [45]), ([38, 46], [38, 46]), ([], []), ([48], [48]), ([49], [49]), ([50], [50]), ([51], [51]), ([52], [52]), ([53], [53]), ([54], [54]), ([], []), ([55, 56, 28], [55, 56]), ([37, 47, 57, 57], [37, 47, 57]), ([29, 58], [29, 58]), ([28, 59], [28, 59]), ([60, 58, 0, 1, 2, 3, 4, 5, 6, 7, 8, 9, 10, 11, 12, 13, 14, 15, 16, 17, 18, 19, 20, 21, 22, 23, 24, 25, 26, 27, 28, 29, 30, 31, 32, 33, 34, 35, 36, 37, 38, 39, 40, 41, 42, 43, 44, 45, 46, 47, 48, 49, 50, 51, 52, 53, 54, 55, 56, 57, 58, 59, 60], [60])])
def offset.B3 : List Nat := [0, 1, 3, 7, 15, 31, 63, 127, 0, 0, 512, 1536, 3584, 0, 15872, 32256, 65024, 130816, 0, 262144, 786432, 1835008, 3932160, 8126464, 16515072, 33292288, 0, 133955584, 268435455, 0, 0, 1073741824, 3221225472, 7516192768, 16106127360, 33285996544, 67645734912, 136365211648, 0, 0, 549755813888, 1649267441664, 3848290697216, 0, 17042430230528, 34634616274944, 69818988363776, 140462610448384, 0, 281474976710656, 844424930131968, 1970324836974592, 4222124650659840, 8725724278030336, 17732923532771328, 35747322042253312, 0, 143833713636016127, 288230375614840831, 576460752303423487, 1152921504606846975, 2305843009213693951]
theorem offset.tab3 : rtab .any (opsOf Try.f63 3) = offset.T3 := by kernel_rfl
theorem offset.bits3 : waitsOk offset.T3.2 offset.B3 = true := by kernel_rfl
set_option maxHeartbeats 16000000 in
set_option maxRecDepth 100000 in
theorem mooring_offset.calls {d an fr : Int} {els : List S46} {on : List S57} {li : List Int} {ps : List S57} (A : Option Addr) (c : Nat) (gs : Nat) (i : Nat) (el : S46) (p : S57) (v : Int) (w : World) (h : IsShape w gs A c d an fr els on li ps) (he : els[i]? = some el) (hp : ps[i]? = some p) (hv : li[i]? = some v) (hb : Moor.okB p v) (hl0 : 0 ≤ el.f0) (hl1 : el.f0 ≤ 1048576) :
  Calls Try.prog 63 #[.pointer (some ⟨gs, 0, none⟩), .int .i64 (i : Int)] w fun e w' => e = .returned (.agg #[.int .i64 (Moor.offs el.f0 p v).f0, .int .i64 (Moor.offs el.f0 p v).f1]) ∧ Below w.heap.size w w' := by
 have hu57 := Try.underlying57
 have hu46 := Try.underlying46
 have hu37 := Try.underlying37
 have hu98 := Try.underlying98
 have hu96 := Try.underlying96
 have hu129 := Try.underlying129
 have SQ := fun (w1 : World) (hb1 : Below w.heap.size w w1) => mooring_squares.calls A c gs i p v w1 (h.below hb1) hp hv
 obtain ⟨g, A4, c4, h1, ⟨gh, A2, c2, A3, c3, h2, h3, h4, h5, h6, h7, h8⟩, h9, h10⟩ := h
 rw [Moor.sqL_wrap hb, Moor.sqH_wrap hb] at SQ
 have SQ := Aside0.mk SQ
 obtain ⟨he1, he2⟩ := List.getElem?_eq_some_iff.1 he
 obtain ⟨hp1, hp2⟩ := List.getElem?_eq_some_iff.1 hp
 obtain ⟨hv1, hv2⟩ := List.getElem?_eq_some_iff.1 hv
 have p1 : (0 : Int) ≤ (i : Int) := by omega
 have q0 : (i : Int) < (els.length : Int) := by omega
 have q1 : (i : Int) < (ps.length : Int) := by omega
 have q2 : (i : Int) < (li.length : Int) := by omega
 obtain ⟨ad0, e0, hw0, -, -, -⟩ := at_T46 h4 (i : Int) p1 q0
 cases e0
 obtain ⟨ad1, e1, hx0, hx1⟩ := at_T57 h9 (i : Int) p1 q1
 cases e1
 obtain ⟨ad2, e2, hy0⟩ := Kd.at_int h7 (i : Int) p1 q2
 cases e2
 rw [Moor.rdE he1, he2] at hw0
 rw [Moor.rdS hp1, hp2] at hx0 hx1
 rw [rd_nat hv1, hv2] at hy0
 simp only [Int.toNat_natCast] at hw0 hx0 hx1 hy0
 have HW0 := Aside0.mk hw0
 have HX0 := Aside0.mk hx0
 have HX1 := Aside0.mk hx1
 have HY0 := Aside0.mk hy0
 clear he1 he2 hp1 hp2 hv1 hv2 hw0 hx0 hx1 hy0
 obtain ⟨r1, r2, r3, r4, _⟩ := Moor.sq_range hb
 have hb' := hb
 obtain ⟨b1, b2, b3, b4, b5⟩ := hb'
 have m0 := Moor.prod_range hl0 hl1 (x := p.f0) (by omega) (by omega)
 have m1 := Moor.prod_range hl0 hl1 (x := p.f1) (by omega) (by omega)
 have u0 := Moor.rootUp_is (n := Moor.sqL p v) (by omega) (by omega)
 have u2 := Moor.root_pos (n := Moor.sqL p v) (by omega) (by omega)
 have u1 := Moor.root_pos (n := Moor.sqH p v) (by omega) (by omega)
 have HQ0 : Aside0 (mooring_rounds_2.f (wrap64 (el.f0 * p.f0)) (Moor.rootUp (Moor.sqL p v)) = some (Moor.offs el.f0 p v).f0) := ⟨by
  rw [wrap_id (n := el.f0 * p.f0) (by omega) (by omega), Moor.lo_f (by omega) (by omega) (by omega)]
  rfl⟩
 obtain ⟨y, hy⟩ : ∃ y, y = (el.f0 * p.f1 + Moor.root (Moor.sqH p v) - 1) / Moor.root (Moor.sqH p v) := ⟨_, rfl⟩
 have HQ1 : Aside0 (mooring_rounds_3.f (wrap64 (el.f0 * p.f1)) (Moor.root (Moor.sqH p v)) = some y) := ⟨by
  rw [wrap_id (n := el.f0 * p.f1) (by omega) (by omega), Moor.hi_f (by omega) (by omega) (by omega) (by omega), hy]⟩
 have hT : (Moor.offs el.f0 p v).f1 = if y < el.f0 then y else el.f0 := by
  have e : (Moor.offs el.f0 p v).f1 = min el.f0 y := by rw [hy]; rfl
  rw [e]
  by_cases c : y < el.f0
  ·rw [if_pos c]; omega
  ·rw [if_neg c]; omega
 rw [hT]
 generalize (Moor.offs el.f0 p v).f0 = x at HQ0 ⊢
 generalize hl : el.f0 = l at *
 obtain ⟨z, hz⟩ : ∃ z, (if y < l then y else l) = z := ⟨_, rfl⟩
 rw [hz]
 have HZ := Aside0.mk hz
 clear hz hy hT m0 m1 u0 u1 u2 b1 b2 b3 b4 b5 hl
 generalize Moor.sqL p v = a at *
 generalize Moor.sqH p v = b at *
 have RA := Aside0.mk r1
 have RA2 := Aside0.mk r2
 have RB := Aside0.mk r3
 have RB2 := Aside0.mk r4
 have BS := Aside0.mk h1
 have BF := Aside0.mk h2
 have BH := Aside0.mk h3
 clear h1 h2 h3 h4 h5 h6 h7 h8 h9 h10 hp hv he hb hl0 hl1 r1 r2 r3 r4
 go_enter Try.func63, Try.ntmps63
 go_wp2_with (first | ((with_reducible refine gate_dst (N := 4) rfl ?_); refine box_event ?hg (N := 4) ?hd (cs := #[.int .i64 0, .int .i64 0]) (t := 57) ?hr ?_; (case hd => rfl); (case hg => rfl); (case hr => first | (go_simp; done) | (go_simp; rfl)); intro gt hgt w1 hbt hb0; have GE : Aside0 (w.heap.size ≤ gt) := ⟨Nat.le_of_eq hgt.symm⟩; have n1 := Aside0.mk (blk_below BS.out hb0); have n2 := Aside0.mk (blk_below BF.out hb0); have n3 := Aside0.mk (blk_below BH.out hb0); have HB := Aside0.mk hb0; have BT := Aside0.mk hbt; have NE1 : Aside0 (gs ≠ gt) := ⟨by rw [hgt]; exact Nat.ne_of_lt (blk_lt BS.out)⟩; have NE2 : Aside0 (g ≠ gt) := ⟨by rw [hgt]; exact Nat.ne_of_lt (blk_lt BF.out)⟩; clear BS BF BH hgt hbt hb0; have BS := n1; have BF := n2; have BH := n3; clear n1 n2 n3) | (go_at_call 90; (with_reducible refine (SQ.out _ HB.out).mono ?_); rintro e w2 ⟨rfl, hb1⟩; have n1 := Aside0.mk (blk_below BS.out hb1); have n2 := Aside0.mk (blk_below BF.out hb1); have n3 := Aside0.mk (blk_below BH.out hb1); have n4 := Aside0.mk (blk_below BT.out hb1); have n5 := Aside0.mk (below_step HB.out hb1); clear BS BF BH BT HB hb1; have BS := n1; have BF := n2; have BH := n3; have BT := n4; have HB := n5; clear n1 n2 n3 n4 n5; have hz0 := ((blk_cell BS.out 0).trans rfl); have hz1 := ((blk_cell BF.out 1).trans rfl); have hz2 := ((HB.out.cell (World.block_lt_of_cell? w _ HW0.out)).trans HW0.out); skip))
 clear hz0 hz1 hz2
 have n0 := Aside0.mk (blk_drew BS.out)
 have n1 := Aside0.mk (blk_drew BF.out)
 have n2 := Aside0.mk (blk_drew BH.out)
 have n3 := Aside0.mk (blk_drew BT.out)
 have n4 := Aside0.mk (below_drew1 HB.out)
 clear BS BF BH BT HB
 have BS := n0
 have BF := n1
 have BH := n2
 have BT := n3
 have HB := n4
 clear n0 n1 n2 n3 n4
 refine start_ (n := 62) (S := fun w' => w'.cell? ⟨gs, 0, none⟩ = some (.pointer (some ⟨g, 0, none⟩)) ∧ w'.cell? ⟨gs, 1, none⟩ = some (.slice (some ad1) ps.length c4) ∧ w'.cell? (ad1.add (i * 2)) = some (.int .i64 p.f0) ∧ w'.cell? ⟨(ad1.add (i * 2)).block, (ad1.add (i * 2)).off + 1, none⟩ = some (.int .i64 p.f1) ∧ w'.cell? ⟨g, 4, none⟩ = some (.func (.func 98) #[] #[]) ∧ w'.cell? ⟨g, 5, none⟩ = some (.func (.func 99) #[] #[]) ∧ w'.cell? ⟨g, 6, none⟩ = some (.func (.func 97) #[] #[]) ∧ w'.cell? ⟨g, 7, none⟩ = some (.func (.func 100) #[] #[.pointer (some ⟨gh, 0, none⟩)])) (ds := []) #[false, false, false, false, false, false, false, false, false, false, false, false, false, false, false, false, false, false, false, false, false, false, false, false, false, false, false, false, false, false, false, false, false, false, false, false, false, false, false, false, false, false, false, false, false, false, false, false, false, false, false, false, false, false, false, false, false, false, false, false, false, false] (by kernel_rfl) rfl rfl ⟨((blk_cell BS.out 0).trans rfl), ((blk_cell BS.out 1).trans rfl), ((HB.out.cell (World.block_lt_of_cell? w _ HX0.out)).trans HX0.out), ((HB.out.cell (World.block_lt_of_cell? w _ HX1.out)).trans HX1.out), ((blk_cell BF.out 4).trans rfl), ((blk_cell BF.out 5).trans rfl), ((blk_cell BF.out 6).trans rfl), ((blk_cell BF.out 7).trans rfl)⟩ (fun hHeld => ?_)
 refine with_tabW offset.tab3 offset.bits3 (fun HT_ HW_ => ?_)
 generalize World.drew _ = w4 at BS BF BH BT HB hHeld ⊢
 refine pure_ (i := 0) (N := some 26) (v := ?_) (a' := ?_) #[true, false, false, false, false, false, false, false, false, false, false, false, false, false, false, false, false, false, false, false, false, false, false, false, false, false, false, false, false, false, false, false, false, false, false, false, false, false, false, false, false, false, false, false, false, false, false, false, false, false, false, false, false, false, false, false, false, false, false, false, false, false] rfl rfl (any_of HT_.out (by kernel_rfl)) (fun _ _ _ h => h) (Or.inl ⟨by rfl, ?_⟩) ?_ ?_
 rotate_left
 ·intro w'
  go_simp
  with_reducible rfl
 rotate_left
 ·simp only [Act.put, List.setIfInBounds_toArray, List.set_cons_zero, List.set_cons_succ, i64_w, i32_w]
  rfl
 refine pure_ (i := 1) (N := some 27) (v := ?_) (a' := ?_) #[true, true, false, false, false, false, false, false, false, false, false, false, false, false, false, false, false, false, false, false, false, false, false, false, false, false, false, false, false, false, false, false, false, false, false, false, false, false, false, false, false, false, false, false, false, false, false, false, false, false, false, false, false, false, false, false, false, false, false, false, false, false] rfl rfl (any_of HT_.out (by kernel_rfl)) (fun _ _ _ h => h) (Or.inl ⟨by rfl, ?_⟩) ?_ ?_
 rotate_left
 ·intro w'
  go_simp
  with_reducible rfl
 rotate_left
 ·simp only [Act.put, List.setIfInBounds_toArray, List.set_cons_zero, List.set_cons_succ, i64_w, i32_w]
  rfl
 refine pure_ (i := 2) (N := some 28) (v := ?_) (a' := ?_) #[true, true, true, false, false, false, false, false, false, false, false, false, false, false, false, false, false, false, false, false, false, false, false, false, false, false, false, false, false, false, false, false, false, false, false, false, false, false, false, false, false, false, false, false, false, false, false, false, false, false, false, false, false, false, false, false, false, false, false, false, false, false] rfl rfl (any_of HT_.out (by kernel_rfl)) (fun _ _ _ h => h) (Or.inl ⟨by rfl, ?_⟩) ?_ ?_
 rotate_left
 ·intro w'
  go_simp
  with_reducible rfl
 rotate_left
 ·simp only [Act.put, List.setIfInBounds_toArray, List.set_cons_zero, List.set_cons_succ, i64_w, i32_w]
  rfl
 refine pure_ (i := 8) (N := some 34) (v := ?_) (a' := ?_) #[true, true, true, false, false, false, false, false, true, false, false, false, false, false, false, false, false, false, false, false, false, false, false, false, false, false, false, false, false, false, false, false, false, false, false, false, false, false, false, false, false, false, false, false, false, false, false, false, false, false, false, false, false, false, false, false, false, false, false, false, false, false] rfl rfl (any_of HT_.out (by kernel_rfl)) (fun _ _ _ h => h) (Or.inl ⟨by rfl, ?_⟩) ?_ ?_
 rotate_left
 ·intro w'
  go_simp
  with_reducible rfl
 rotate_left
 ·simp only [Act.put, List.setIfInBounds_toArray, List.set_cons_zero, List.set_cons_succ, i64_w, i32_w]
  rfl
 refine pure_ (i := 9) (N := some 35) (v := ?_) (a' := ?_) #[true, true, true, false, false, false, false, false, true, true, false, false, false, false, false, false, false, false, false, false, false, false, false, false, false, false, false, false, false, false, false, false, false, false, false, false, false, false, false, false, false, false, false, false, false, false, false, false, false, false, false, false, false, false, false, false, false, false, false, false, false, false] rfl rfl (any_of HT_.out (by kernel_rfl)) (fun _ _ _ h => h) (Or.inl ⟨by rfl, ?_⟩) ?_ ?_
 rotate_left
 ·intro w'
  go_simp
  with_reducible rfl
 rotate_left
 ·simp only [Act.put, List.setIfInBounds_toArray, List.set_cons_zero, List.set_cons_succ, i64_w, i32_w]
  rfl
 refine pure_ (i := 10) (N := some 36) (v := ?_) (a' := ?_) #[true, true, true, false, false, false, false, false, true, true, true, false, false, false, false, false, false, false, false, false, false, false, false, false, false, false, false, false, false, false, false, false, false, false, false, false, false, false, false, false, false, false, false, false, false, false, false, false, false, false, false, false, false, false, false, false, false, false, false, false, false, false] rfl rfl (any_of HT_.out (by kernel_rfl)) (fun _ _ _ h => h) (Or.inl ⟨by rfl, ?_⟩) ?_ ?_
 rotate_left
 ·intro w'
  go_simp
  with_reducible rfl
 rotate_left
 ·simp only [Act.put, List.setIfInBounds_toArray, List.set_cons_zero, List.set_cons_succ, i64_w, i32_w]
  rfl
 refine pure_ (i := 11) (N := some 37) (v := ?_) (a' := ?_) #[true, true, true, false, false, false, false, false, true, true, true, true, false, false, false, false, false, false, false, false, false, false, false, false, false, false, false, false, false, false, false, false, false, false, false, false, false, false, false, false, false, false, false, false, false, false, false, false, false, false, false, false, false, false, false, false, false, false, false, false, false, false] rfl rfl (any_of HT_.out (by kernel_rfl)) (fun _ _ _ h => h) (Or.inl ⟨by rfl, ?_⟩) ?_ ?_
 rotate_left
 ·intro w'
  go_simp
  with_reducible rfl
 rotate_left
 ·simp only [Act.put, List.setIfInBounds_toArray, List.set_cons_zero, List.set_cons_succ, i64_w, i32_w]
  rfl
 refine pure_ (i := 13) (N := some 39) (v := ?_) (a' := ?_) #[true, true, true, false, false, false, false, false, true, true, true, true, false, true, false, false, false, false, false, false, false, false, false, false, false, false, false, false, false, false, false, false, false, false, false, false, false, false, false, false, false, false, false, false, false, false, false, false, false, false, false, false, false, false, false, false, false, false, false, false, false, false] rfl rfl (any_of HT_.out (by kernel_rfl)) (fun _ _ _ h => h) (Or.inl ⟨by rfl, ?_⟩) ?_ ?_
 rotate_left
 ·intro w'
  go_simp
  with_reducible rfl
 rotate_left
 ·simp only [Act.put, List.setIfInBounds_toArray, List.set_cons_zero, List.set_cons_succ, i64_w, i32_w]
  rfl
 refine pure_ (i := 18) (N := some 44) (v := ?_) (a' := ?_) #[true, true, true, false, false, false, false, false, true, true, true, true, false, true, false, false, false, false, true, false, false, false, false, false, false, false, false, false, false, false, false, false, false, false, false, false, false, false, false, false, false, false, false, false, false, false, false, false, false, false, false, false, false, false, false, false, false, false, false, false, false, false] rfl rfl (any_of HT_.out (by kernel_rfl)) (fun _ _ _ h => h) (Or.inl ⟨by rfl, ?_⟩) ?_ ?_
 rotate_left
 ·intro w'
  go_simp
  with_reducible rfl
 rotate_left
 ·simp only [Act.put, List.setIfInBounds_toArray, List.set_cons_zero, List.set_cons_succ, i64_w, i32_w]
  rfl
 refine pure_ (i := 19) (N := some 45) (v := ?_) (a' := ?_) #[true, true, true, false, false, false, false, false, true, true, true, true, false, true, false, false, false, false, true, true, false, false, false, false, false, false, false, false, false, false, false, false, false, false, false, false, false, false, false, false, false, false, false, false, false, false, false, false, false, false, false, false, false, false, false, false, false, false, false, false, false, false] rfl rfl (any_of HT_.out (by kernel_rfl)) (fun _ _ _ h => h) (Or.inl ⟨by rfl, ?_⟩) ?_ ?_
 rotate_left
 ·intro w'
  go_simp
  with_reducible rfl
 rotate_left
 ·simp only [Act.put, List.setIfInBounds_toArray, List.set_cons_zero, List.set_cons_succ, i64_w, i32_w]
  rfl
 refine pure_ (i := 20) (N := some 46) (v := ?_) (a' := ?_) #[true, true, true, false, false, false, false, false, true, true, true, true, false, true, false, false, false, false, true, true, true, false, false, false, false, false, false, false, false, false, false, false, false, false, false, false, false, false, false, false, false, false, false, false, false, false, false, false, false, false, false, false, false, false, false, false, false, false, false, false, false, false] rfl rfl (any_of HT_.out (by kernel_rfl)) (fun _ _ _ h => h) (Or.inl ⟨by rfl, ?_⟩) ?_ ?_
 rotate_left
 ·intro w'
  go_simp
  with_reducible rfl
 rotate_left
 ·simp only [Act.put, List.setIfInBounds_toArray, List.set_cons_zero, List.set_cons_succ, i64_w, i32_w]
  rfl
 refine pure_ (i := 26) (N := some 52) (v := ?_) (a' := ?_) #[true, true, true, false, false, false, false, false, true, true, true, true, false, true, false, false, false, false, true, true, true, false, false, false, false, false, true, false, false, false, false, false, false, false, false, false, false, false, false, false, false, false, false, false, false, false, false, false, false, false, false, false, false, false, false, false, false, false, false, false, false, false] rfl rfl (any_of HT_.out (by kernel_rfl)) (fun _ _ _ h => h) (Or.inl ⟨by rfl, ?_⟩) ?_ ?_
 rotate_left
 ·intro w'
  go_simp
  with_reducible rfl
 rotate_left
 ·simp only [Act.put, List.setIfInBounds_toArray, List.set_cons_zero, List.set_cons_succ, i64_w, i32_w]
  rfl
 refine pure_ (i := 29) (N := some 55) (v := ?_) (a' := ?_) #[true, true, true, false, false, false, false, false, true, true, true, true, false, true, false, false, false, false, true, true, true, false, false, false, false, false, true, false, false, true, false, false, false, false, false, false, false, false, false, false, false, false, false, false, false, false, false, false, false, false, false, false, false, false, false, false, false, false, false, false, false, false] rfl rfl (any_of HT_.out (by kernel_rfl)) (fun _ _ _ h => h) (Or.inl ⟨by rfl, ?_⟩) ?_ ?_
 rotate_left
 ·intro w'
  go_simp
  with_reducible rfl
 rotate_left
 ·simp only [Act.put, List.setIfInBounds_toArray, List.set_cons_zero, List.set_cons_succ, i64_w, i32_w]
  rfl
 refine pure_ (i := 30) (N := some 56) (v := ?_) (a' := ?_) #[true, true, true, false, false, false, false, false, true, true, true, true, false, true, false, false, false, false, true, true, true, false, false, false, false, false, true, false, false, true, true, false, false, false, false, false, false, false, false, false, false, false, false, false, false, false, false, false, false, false, false, false, false, false, false, false, false, false, false, false, false, false] rfl rfl (any_of HT_.out (by kernel_rfl)) (fun _ _ _ h => h) (Or.inl ⟨by rfl, ?_⟩) ?_ ?_
 rotate_left
 ·intro w'
  go_simp
  with_reducible rfl
 rotate_left
 ·simp only [Act.put, List.setIfInBounds_toArray, List.set_cons_zero, List.set_cons_succ, i64_w, i32_w]
  rfl
 refine pure_ (i := 31) (N := some 57) (v := ?_) (a' := ?_) #[true, true, true, false, false, false, false, false, true, true, true, true, false, true, false, false, false, false, true, true, true, false, false, false, false, false, true, false, false, true, true, true, false, false, false, false, false, false, false, false, false, false, false, false, false, false, false, false, false, false, false, false, false, false, false, false, false, false, false, false, false, false] rfl rfl (any_of HT_.out (by kernel_rfl)) (fun _ _ _ h => h) (Or.inl ⟨by rfl, ?_⟩) ?_ ?_
 rotate_left
 ·intro w'
  go_simp
  with_reducible rfl
 rotate_left
 ·simp only [Act.put, List.setIfInBounds_toArray, List.set_cons_zero, List.set_cons_succ, i64_w, i32_w]
  rfl
 refine pure_ (i := 32) (N := some 58) (v := ?_) (a' := ?_) #[true, true, true, false, false, false, false, false, true, true, true, true, false, true, false, false, false, false, true, true, true, false, false, false, false, false, true, false, false, true, true, true, true, false, false, false, false, false, false, false, false, false, false, false, false, false, false, false, false, false, false, false, false, false, false, false, false, false, false, false, false, false] rfl rfl (any_of HT_.out (by kernel_rfl)) (fun _ _ _ h => h) (Or.inl ⟨by rfl, ?_⟩) ?_ ?_
 rotate_left
 ·intro w'
  go_simp
  with_reducible rfl
 rotate_left
 ·simp only [Act.put, List.setIfInBounds_toArray, List.set_cons_zero, List.set_cons_succ, i64_w, i32_w]
  rfl
 refine pure_ (i := 38) (N := some 64) (v := ?_) (a' := ?_) #[true, true, true, false, false, false, false, false, true, true, true, true, false, true, false, false, false, false, true, true, true, false, false, false, false, false, true, false, false, true, true, true, true, false, false, false, false, false, true, false, false, false, false, false, false, false, false, false, false, false, false, false, false, false, false, false, false, false, false, false, false, false] rfl rfl (any_of HT_.out (by kernel_rfl)) (fun _ _ _ h => h) (Or.inl ⟨by rfl, ?_⟩) ?_ ?_
 rotate_left
 ·intro w'
  go_simp
  with_reducible rfl
 rotate_left
 ·simp only [Act.put, List.setIfInBounds_toArray, List.set_cons_zero, List.set_cons_succ, i64_w, i32_w]
  rfl
 refine pure_ (i := 39) (N := some 65) (v := ?_) (a' := ?_) #[true, true, true, false, false, false, false, false, true, true, true, true, false, true, false, false, false, false, true, true, true, false, false, false, false, false, true, false, false, true, true, true, true, false, false, false, false, false, true, true, false, false, false, false, false, false, false, false, false, false, false, false, false, false, false, false, false, false, false, false, false, false] rfl rfl (any_of HT_.out (by kernel_rfl)) (fun _ _ _ h => h) (Or.inl ⟨by rfl, ?_⟩) ?_ ?_
 rotate_left
 ·intro w'
  go_simp
  with_reducible rfl
 rotate_left
 ·simp only [Act.put, List.setIfInBounds_toArray, List.set_cons_zero, List.set_cons_succ, i64_w, i32_w]
  rfl
 refine pure_ (i := 40) (N := some 66) (v := ?_) (a' := ?_) #[true, true, true, false, false, false, false, false, true, true, true, true, false, true, false, false, false, false, true, true, true, false, false, false, false, false, true, false, false, true, true, true, true, false, false, false, false, false, true, true, true, false, false, false, false, false, false, false, false, false, false, false, false, false, false, false, false, false, false, false, false, false] rfl rfl (any_of HT_.out (by kernel_rfl)) (fun _ _ _ h => h) (Or.inl ⟨by rfl, ?_⟩) ?_ ?_
 rotate_left
 ·intro w'
  go_simp
  with_reducible rfl
 rotate_left
 ·simp only [Act.put, List.setIfInBounds_toArray, List.set_cons_zero, List.set_cons_succ, i64_w, i32_w]
  rfl
 refine pure_ (i := 41) (N := some 67) (v := ?_) (a' := ?_) #[true, true, true, false, false, false, false, false, true, true, true, true, false, true, false, false, false, false, true, true, true, false, false, false, false, false, true, false, false, true, true, true, true, false, false, false, false, false, true, true, true, true, false, false, false, false, false, false, false, false, false, false, false, false, false, false, false, false, false, false, false, false] rfl rfl (any_of HT_.out (by kernel_rfl)) (fun _ _ _ h => h) (Or.inl ⟨by rfl, ?_⟩) ?_ ?_
 rotate_left
 ·intro w'
  go_simp
  with_reducible rfl
 rotate_left
 ·simp only [Act.put, List.setIfInBounds_toArray, List.set_cons_zero, List.set_cons_succ, i64_w, i32_w]
  rfl
 refine pure_ (i := 43) (N := some 69) (v := ?_) (a' := ?_) #[true, true, true, false, false, false, false, false, true, true, true, true, false, true, false, false, false, false, true, true, true, false, false, false, false, false, true, false, false, true, true, true, true, false, false, false, false, false, true, true, true, true, false, true, false, false, false, false, false, false, false, false, false, false, false, false, false, false, false, false, false, false] rfl rfl (any_of HT_.out (by kernel_rfl)) (fun _ _ _ h => h) (Or.inl ⟨by rfl, ?_⟩) ?_ ?_
 rotate_left
 ·intro w'
  go_simp
  with_reducible rfl
 rotate_left
 ·simp only [Act.put, List.setIfInBounds_toArray, List.set_cons_zero, List.set_cons_succ, i64_w, i32_w]
  rfl
 refine pure_ (i := 48) (N := some 74) (v := ?_) (a' := ?_) #[true, true, true, false, false, false, false, false, true, true, true, true, false, true, false, false, false, false, true, true, true, false, false, false, false, false, true, false, false, true, true, true, true, false, false, false, false, false, true, true, true, true, false, true, false, false, false, false, true, false, false, false, false, false, false, false, false, false, false, false, false, false] rfl rfl (any_of HT_.out (by kernel_rfl)) (fun _ _ _ h => h) (Or.inl ⟨by rfl, ?_⟩) ?_ ?_
 rotate_left
 ·intro w'
  go_simp
  with_reducible rfl
 rotate_left
 ·simp only [Act.put, List.setIfInBounds_toArray, List.set_cons_zero, List.set_cons_succ, i64_w, i32_w]
  rfl
 refine pure_ (i := 49) (N := some 75) (v := ?_) (a' := ?_) #[true, true, true, false, false, false, false, false, true, true, true, true, false, true, false, false, false, false, true, true, true, false, false, false, false, false, true, false, false, true, true, true, true, false, false, false, false, false, true, true, true, true, false, true, false, false, false, false, true, true, false, false, false, false, false, false, false, false, false, false, false, false] rfl rfl (any_of HT_.out (by kernel_rfl)) (fun _ _ _ h => h) (Or.inl ⟨by rfl, ?_⟩) ?_ ?_
 rotate_left
 ·intro w'
  go_simp
  with_reducible rfl
 rotate_left
 ·simp only [Act.put, List.setIfInBounds_toArray, List.set_cons_zero, List.set_cons_succ, i64_w, i32_w]
  rfl
 refine pure_ (i := 50) (N := some 76) (v := ?_) (a' := ?_) #[true, true, true, false, false, false, false, false, true, true, true, true, false, true, false, false, false, false, true, true, true, false, false, false, false, false, true, false, false, true, true, true, true, false, false, false, false, false, true, true, true, true, false, true, false, false, false, false, true, true, true, false, false, false, false, false, false, false, false, false, false, false] rfl rfl (any_of HT_.out (by kernel_rfl)) (fun _ _ _ h => h) (Or.inl ⟨by rfl, ?_⟩) ?_ ?_
 rotate_left
 ·intro w'
  go_simp
  with_reducible rfl
 rotate_left
 ·simp only [Act.put, List.setIfInBounds_toArray, List.set_cons_zero, List.set_cons_succ, i64_w, i32_w]
  rfl
 refine pure_ (i := 56) (N := some 82) (v := ?_) (a' := ?_) #[true, true, true, false, false, false, false, false, true, true, true, true, false, true, false, false, false, false, true, true, true, false, false, false, false, false, true, false, false, true, true, true, true, false, false, false, false, false, true, true, true, true, false, true, false, false, false, false, true, true, true, false, false, false, false, false, true, false, false, false, false, false] rfl rfl (any_of HT_.out (by kernel_rfl)) (fun _ _ _ h => h) (Or.inl ⟨by rfl, ?_⟩) ?_ ?_
 rotate_left
 ·intro w'
  go_simp
  with_reducible rfl
 rotate_left
 ·simp only [Act.put, List.setIfInBounds_toArray, List.set_cons_zero, List.set_cons_succ, i64_w, i32_w]
  rfl
 refine take_ (i := 3) (N := some 29) (v := ?_) (a' := ?_) #[true, true, true, true, false, false, false, false, true, true, true, true, false, true, false, false, false, false, true, true, true, false, false, false, false, false, true, false, false, true, true, true, true, false, false, false, false, false, true, true, true, true, false, true, false, false, false, false, true, true, true, false, false, false, false, false, true, false, false, false, false, false] rfl rfl (take_ofW HT_.out HW_.out (by kernel_rfl)) (fun _ _ _ h => h) (Or.inl ⟨by rfl, ?_⟩) hHeld ?_ ?_
 rotate_left
 ·rintro w' ⟨s0, s1, s2, s3, s4, s5, s6, s7⟩
  go_simp
  with_reducible rfl
 rotate_left
 ·simp only [Act.put, List.setIfInBounds_toArray, List.set_cons_zero, List.set_cons_succ, i64_w, i32_w]
  rfl
 refine pure_ (i := 4) (N := some 30) (v := ?_) (a' := ?_) #[true, true, true, true, true, false, false, false, true, true, true, true, false, true, false, false, false, false, true, true, true, false, false, false, false, false, true, false, false, true, true, true, true, false, false, false, false, false, true, true, true, true, false, true, false, false, false, false, true, true, true, false, false, false, false, false, true, false, false, false, false, false] rfl rfl (any_of HT_.out (by kernel_rfl)) (fun _ _ _ h => h) (Or.inl ⟨by rfl, ?_⟩) ?_ ?_
 rotate_left
 ·intro w'
  go_simp
  with_reducible rfl
 rotate_left
 ·simp only [Act.put, List.setIfInBounds_toArray, List.set_cons_zero, List.set_cons_succ, i64_w, i32_w]
  rfl
 refine pure_ (i := 5) (N := some 31) (v := ?_) (a' := ?_) #[true, true, true, true, true, true, false, false, true, true, true, true, false, true, false, false, false, false, true, true, true, false, false, false, false, false, true, false, false, true, true, true, true, false, false, false, false, false, true, true, true, true, false, true, false, false, false, false, true, true, true, false, false, false, false, false, true, false, false, false, false, false] rfl rfl (any_of HT_.out (by kernel_rfl)) (fun _ _ _ h => h) (Or.inl ⟨by rfl, ?_⟩) ?_ ?_
 rotate_left
 ·intro w'
  go_simp
  with_reducible rfl
 rotate_left
 ·simp only [Act.put, List.setIfInBounds_toArray, List.set_cons_zero, List.set_cons_succ, i64_w, i32_w]
  rfl
 refine pure_ (i := 6) (N := some 32) (v := ?_) (a' := ?_) #[true, true, true, true, true, true, true, false, true, true, true, true, false, true, false, false, false, false, true, true, true, false, false, false, false, false, true, false, false, true, true, true, true, false, false, false, false, false, true, true, true, true, false, true, false, false, false, false, true, true, true, false, false, false, false, false, true, false, false, false, false, false] rfl rfl (any_of HT_.out (by kernel_rfl)) (fun _ _ _ h => h) (Or.inl ⟨by rfl, ?_⟩) ?_ ?_
 rotate_left
 ·intro w'
  go_simp
  with_reducible rfl
 rotate_left
 ·simp only [Act.put, List.setIfInBounds_toArray, List.set_cons_zero, List.set_cons_succ, i64_w, i32_w]
  rfl
 refine take_ (i := 7) (N := some 33) (v := ?_) (a' := ?_) #[true, true, true, true, true, true, true, true, true, true, true, true, false, true, false, false, false, false, true, true, true, false, false, false, false, false, true, false, false, true, true, true, true, false, false, false, false, false, true, true, true, true, false, true, false, false, false, false, true, true, true, false, false, false, false, false, true, false, false, false, false, false] rfl rfl (take_ofW HT_.out HW_.out (by kernel_rfl)) (fun _ _ _ h => h) (Or.inl ⟨by rfl, ?_⟩) hHeld ?_ ?_
 rotate_left
 ·rintro w' ⟨s0, s1, s2, s3, s4, s5, s6, s7⟩
  go_simp
  with_reducible rfl
 rotate_left
 ·simp only [Act.put, List.setIfInBounds_toArray, List.set_cons_zero, List.set_cons_succ, i64_w, i32_w]
  rfl
 refine take_ (i := 12) (N := some 38) (v := ?_) (a' := ?_) #[true, true, true, true, true, true, true, true, true, true, true, true, true, true, false, false, false, false, true, true, true, false, false, false, false, false, true, false, false, true, true, true, true, false, false, false, false, false, true, true, true, true, false, true, false, false, false, false, true, true, true, false, false, false, false, false, true, false, false, false, false, false] rfl rfl (take_ofW HT_.out HW_.out (by kernel_rfl)) (fun _ _ _ h => h) (Or.inl ⟨by rfl, ?_⟩) hHeld ?_ ?_
 rotate_left
 ·rintro w' ⟨s0, s1, s2, s3, s4, s5, s6, s7⟩
  go_simp
  with_reducible rfl
 rotate_left
 ·simp only [Act.put, List.setIfInBounds_toArray, List.set_cons_zero, List.set_cons_succ, i64_w, i32_w]
  rfl
 refine pure_ (i := 14) (N := some 40) (v := ?_) (a' := ?_) #[true, true, true, true, true, true, true, true, true, true, true, true, true, true, true, false, false, false, true, true, true, false, false, false, false, false, true, false, false, true, true, true, true, false, false, false, false, false, true, true, true, true, false, true, false, false, false, false, true, true, true, false, false, false, false, false, true, false, false, false, false, false] rfl rfl (any_of HT_.out (by kernel_rfl)) (fun _ _ _ h => h) (Or.inl ⟨by rfl, ?_⟩) ?_ ?_
 rotate_left
 ·intro w'
  go_simp
  with_reducible rfl
 rotate_left
 ·simp only [Act.put, List.setIfInBounds_toArray, List.set_cons_zero, List.set_cons_succ, i64_w, i32_w]
  rfl
 refine pure_ (i := 15) (N := some 41) (v := ?_) (a' := ?_) #[true, true, true, true, true, true, true, true, true, true, true, true, true, true, true, true, false, false, true, true, true, false, false, false, false, false, true, false, false, true, true, true, true, false, false, false, false, false, true, true, true, true, false, true, false, false, false, false, true, true, true, false, false, false, false, false, true, false, false, false, false, false] rfl rfl (any_of HT_.out (by kernel_rfl)) (fun _ _ _ h => h) (Or.inl ⟨by rfl, ?_⟩) ?_ ?_
 rotate_left
 ·intro w'
  go_simp
  with_reducible rfl
 rotate_left
 ·simp only [Act.put, List.setIfInBounds_toArray, List.set_cons_zero, List.set_cons_succ, i64_w, i32_w]
  rfl
 refine take_ (i := 16) (N := some 42) (v := ?_) (a' := ?_) #[true, true, true, true, true, true, true, true, true, true, true, true, true, true, true, true, true, false, true, true, true, false, false, false, false, false, true, false, false, true, true, true, true, false, false, false, false, false, true, true, true, true, false, true, false, false, false, false, true, true, true, false, false, false, false, false, true, false, false, false, false, false] rfl rfl (take_ofW HT_.out HW_.out (by kernel_rfl)) (fun _ _ _ h => h) (Or.inl ⟨by rfl, ?_⟩) hHeld ?_ ?_
 rotate_left
 ·rintro w' ⟨s0, s1, s2, s3, s4, s5, s6, s7⟩
  go_simp
  with_reducible rfl
 rotate_left
 ·simp only [Act.put, List.setIfInBounds_toArray, List.set_cons_zero, List.set_cons_succ, i64_w, i32_w]
  rfl
 refine pure_ (i := 17) (N := some 43) (v := ?_) (a' := ?_) #[true, true, true, true, true, true, true, true, true, true, true, true, true, true, true, true, true, true, true, true, true, false, false, false, false, false, true, false, false, true, true, true, true, false, false, false, false, false, true, true, true, true, false, true, false, false, false, false, true, true, true, false, false, false, false, false, true, false, false, false, false, false] rfl rfl (any_of HT_.out (by kernel_rfl)) (fun _ _ _ h => h) (Or.inl ⟨by rfl, ?_⟩) ?_ ?_
 rotate_left
 ·intro w'
  go_simp
  with_reducible rfl
 rotate_left
 ·simp only [Act.put, List.setIfInBounds_toArray, List.set_cons_zero, List.set_cons_succ, i64_w, i32_w]
  rfl
 refine take_ (i := 21) (N := some 47) (v := ?_) (a' := ?_) #[true, true, true, true, true, true, true, true, true, true, true, true, true, true, true, true, true, true, true, true, true, true, false, false, false, false, true, false, false, true, true, true, true, false, false, false, false, false, true, true, true, true, false, true, false, false, false, false, true, true, true, false, false, false, false, false, true, false, false, false, false, false] rfl rfl (take_ofW HT_.out HW_.out (by kernel_rfl)) (fun _ _ _ h => h) (Or.inl ⟨by rfl, ?_⟩) hHeld ?_ ?_
 rotate_left
 ·rintro w' ⟨s0, s1, s2, s3, s4, s5, s6, s7⟩
  go_simp
  with_reducible rfl
 rotate_left
 ·simp only [Act.put, List.setIfInBounds_toArray, List.set_cons_zero, List.set_cons_succ, i64_w, i32_w]
  rfl
 refine pure_ (i := 22) (N := some 48) (v := ?_) (a' := ?_) #[true, true, true, true, true, true, true, true, true, true, true, true, true, true, true, true, true, true, true, true, true, true, true, false, false, false, true, false, false, true, true, true, true, false, false, false, false, false, true, true, true, true, false, true, false, false, false, false, true, true, true, false, false, false, false, false, true, false, false, false, false, false] rfl rfl (any_of HT_.out (by kernel_rfl)) (fun _ _ _ h => h) (Or.inl ⟨by rfl, ?_⟩) ?_ ?_
 rotate_left
 ·intro w'
  go_simp
  with_reducible rfl
 rotate_left
 ·simp only [Act.put, List.setIfInBounds_toArray, List.set_cons_zero, List.set_cons_succ, i64_w, i32_w]
  rfl
 refine pure_ (i := 23) (N := some 49) (v := ?_) (a' := ?_) #[true, true, true, true, true, true, true, true, true, true, true, true, true, true, true, true, true, true, true, true, true, true, true, true, false, false, true, false, false, true, true, true, true, false, false, false, false, false, true, true, true, true, false, true, false, false, false, false, true, true, true, false, false, false, false, false, true, false, false, false, false, false] rfl rfl (any_of HT_.out (by kernel_rfl)) (fun _ _ _ h => h) (Or.inl ⟨by rfl, ?_⟩) ?_ ?_
 rotate_left
 ·intro w'
  go_simp
  with_reducible rfl
 rotate_left
 ·simp only [Act.put, List.setIfInBounds_toArray, List.set_cons_zero, List.set_cons_succ, i64_w, i32_w]
  rfl
 refine pure_ (i := 24) (N := some 50) (v := ?_) (a' := ?_) #[true, true, true, true, true, true, true, true, true, true, true, true, true, true, true, true, true, true, true, true, true, true, true, true, true, false, true, false, false, true, true, true, true, false, false, false, false, false, true, true, true, true, false, true, false, false, false, false, true, true, true, false, false, false, false, false, true, false, false, false, false, false] rfl rfl (any_of HT_.out (by kernel_rfl)) (fun _ _ _ h => h) (Or.inl ⟨by rfl, ?_⟩) ?_ ?_
 rotate_left
 ·intro w'
  go_simp
  with_reducible rfl
 rotate_left
 ·simp only [Act.put, List.setIfInBounds_toArray, List.set_cons_zero, List.set_cons_succ, i64_w, i32_w]
  rfl
 refine take_ (i := 25) (N := some 51) (v := ?_) (a' := ?_) #[true, true, true, true, true, true, true, true, true, true, true, true, true, true, true, true, true, true, true, true, true, true, true, true, true, true, true, false, false, true, true, true, true, false, false, false, false, false, true, true, true, true, false, true, false, false, false, false, true, true, true, false, false, false, false, false, true, false, false, false, false, false] rfl rfl (take_ofW HT_.out HW_.out (by kernel_rfl)) (fun _ _ _ h => h) (Or.inl ⟨by rfl, ?_⟩) hHeld ?_ ?_
 rotate_left
 ·rintro w' ⟨s0, s1, s2, s3, s4, s5, s6, s7⟩
  go_simp
  with_reducible rfl
 rotate_left
 ·simp only [Act.put, List.setIfInBounds_toArray, List.set_cons_zero, List.set_cons_succ, i64_w, i32_w]
  rfl
 refine take_ (i := 33) (N := some 59) (v := ?_) (a' := ?_) #[true, true, true, true, true, true, true, true, true, true, true, true, true, true, true, true, true, true, true, true, true, true, true, true, true, true, true, false, false, true, true, true, true, true, false, false, false, false, true, true, true, true, false, true, false, false, false, false, true, true, true, false, false, false, false, false, true, false, false, false, false, false] rfl rfl (take_ofW HT_.out HW_.out (by kernel_rfl)) (fun _ _ _ h => h) (Or.inl ⟨by rfl, ?_⟩) hHeld ?_ ?_
 rotate_left
 ·rintro w' ⟨s0, s1, s2, s3, s4, s5, s6, s7⟩
  go_simp
  with_reducible rfl
 rotate_left
 ·simp only [Act.put, List.setIfInBounds_toArray, List.set_cons_zero, List.set_cons_succ, i64_w, i32_w]
  rfl
 refine pure_ (i := 34) (N := some 60) (v := ?_) (a' := ?_) #[true, true, true, true, true, true, true, true, true, true, true, true, true, true, true, true, true, true, true, true, true, true, true, true, true, true, true, false, false, true, true, true, true, true, true, false, false, false, true, true, true, true, false, true, false, false, false, false, true, true, true, false, false, false, false, false, true, false, false, false, false, false] rfl rfl (any_of HT_.out (by kernel_rfl)) (fun _ _ _ h => h) (Or.inl ⟨by rfl, ?_⟩) ?_ ?_
 rotate_left
 ·intro w'
  go_simp
  with_reducible rfl
 rotate_left
 ·simp only [Act.put, List.setIfInBounds_toArray, List.set_cons_zero, List.set_cons_succ, i64_w, i32_w]
  rfl
 refine pure_ (i := 35) (N := some 61) (v := ?_) (a' := ?_) #[true, true, true, true, true, true, true, true, true, true, true, true, true, true, true, true, true, true, true, true, true, true, true, true, true, true, true, false, false, true, true, true, true, true, true, true, false, false, true, true, true, true, false, true, false, false, false, false, true, true, true, false, false, false, false, false, true, false, false, false, false, false] rfl rfl (any_of HT_.out (by kernel_rfl)) (fun _ _ _ h => h) (Or.inl ⟨by rfl, ?_⟩) ?_ ?_
 rotate_left
 ·intro w'
  go_simp
  with_reducible rfl
 rotate_left
 ·simp only [Act.put, List.setIfInBounds_toArray, List.set_cons_zero, List.set_cons_succ, i64_w, i32_w]
  rfl
 refine pure_ (i := 36) (N := some 62) (v := ?_) (a' := ?_) #[true, true, true, true, true, true, true, true, true, true, true, true, true, true, true, true, true, true, true, true, true, true, true, true, true, true, true, false, false, true, true, true, true, true, true, true, true, false, true, true, true, true, false, true, false, false, false, false, true, true, true, false, false, false, false, false, true, false, false, false, false, false] rfl rfl (any_of HT_.out (by kernel_rfl)) (fun _ _ _ h => h) (Or.inl ⟨by rfl, ?_⟩) ?_ ?_
 rotate_left
 ·intro w'
  go_simp
  with_reducible rfl
 rotate_left
 ·simp only [Act.put, List.setIfInBounds_toArray, List.set_cons_zero, List.set_cons_succ, i64_w, i32_w]
  rfl
 refine take_ (i := 37) (N := some 63) (v := ?_) (a' := ?_) #[true, true, true, true, true, true, true, true, true, true, true, true, true, true, true, true, true, true, true, true, true, true, true, true, true, true, true, false, false, true, true, true, true, true, true, true, true, true, true, true, true, true, false, true, false, false, false, false, true, true, true, false, false, false, false, false, true, false, false, false, false, false] rfl rfl (take_ofW HT_.out HW_.out (by kernel_rfl)) (fun _ _ _ h => h) (Or.inl ⟨by rfl, ?_⟩) hHeld ?_ ?_
 rotate_left
 ·rintro w' ⟨s0, s1, s2, s3, s4, s5, s6, s7⟩
  go_simp
  with_reducible rfl
 rotate_left
 ·simp only [Act.put, List.setIfInBounds_toArray, List.set_cons_zero, List.set_cons_succ, i64_w, i32_w]
  rfl
 refine take_ (i := 42) (N := some 68) (v := ?_) (a' := ?_) #[true, true, true, true, true, true, true, true, true, true, true, true, true, true, true, true, true, true, true, true, true, true, true, true, true, true, true, false, false, true, true, true, true, true, true, true, true, true, true, true, true, true, true, true, false, false, false, false, true, true, true, false, false, false, false, false, true, false, false, false, false, false] rfl rfl (take_ofW HT_.out HW_.out (by kernel_rfl)) (fun _ _ _ h => h) (Or.inl ⟨by rfl, ?_⟩) hHeld ?_ ?_
 rotate_left
 ·rintro w' ⟨s0, s1, s2, s3, s4, s5, s6, s7⟩
  go_simp
  with_reducible rfl
 rotate_left
 ·simp only [Act.put, List.setIfInBounds_toArray, List.set_cons_zero, List.set_cons_succ, i64_w, i32_w]
  rfl
 refine pure_ (i := 44) (N := some 70) (v := ?_) (a' := ?_) #[true, true, true, true, true, true, true, true, true, true, true, true, true, true, true, true, true, true, true, true, true, true, true, true, true, true, true, false, false, true, true, true, true, true, true, true, true, true, true, true, true, true, true, true, true, false, false, false, true, true, true, false, false, false, false, false, true, false, false, false, false, false] rfl rfl (any_of HT_.out (by kernel_rfl)) (fun _ _ _ h => h) (Or.inl ⟨by rfl, ?_⟩) ?_ ?_
 rotate_left
 ·intro w'
  go_simp
  with_reducible rfl
 rotate_left
 ·simp only [Act.put, List.setIfInBounds_toArray, List.set_cons_zero, List.set_cons_succ, i64_w, i32_w]
  rfl
 refine pure_ (i := 45) (N := some 71) (v := ?_) (a' := ?_) #[true, true, true, true, true, true, true, true, true, true, true, true, true, true, true, true, true, true, true, true, true, true, true, true, true, true, true, false, false, true, true, true, true, true, true, true, true, true, true, true, true, true, true, true, true, true, false, false, true, true, true, false, false, false, false, false, true, false, false, false, false, false] rfl rfl (any_of HT_.out (by kernel_rfl)) (fun _ _ _ h => h) (Or.inl ⟨by rfl, ?_⟩) ?_ ?_
 rotate_left
 ·intro w'
  go_simp
  with_reducible rfl
 rotate_left
 ·simp only [Act.put, List.setIfInBounds_toArray, List.set_cons_zero, List.set_cons_succ, i64_w, i32_w]
  rfl
 refine take_ (i := 46) (N := some 72) (v := ?_) (a' := ?_) #[true, true, true, true, true, true, true, true, true, true, true, true, true, true, true, true, true, true, true, true, true, true, true, true, true, true, true, false, false, true, true, true, true, true, true, true, true, true, true, true, true, true, true, true, true, true, true, false, true, true, true, false, false, false, false, false, true, false, false, false, false, false] rfl rfl (take_ofW HT_.out HW_.out (by kernel_rfl)) (fun _ _ _ h => h) (Or.inl ⟨by rfl, ?_⟩) hHeld ?_ ?_
 rotate_left
 ·rintro w' ⟨s0, s1, s2, s3, s4, s5, s6, s7⟩
  go_simp
  with_reducible rfl
 rotate_left
 ·simp only [Act.put, List.setIfInBounds_toArray, List.set_cons_zero, List.set_cons_succ, i64_w, i32_w]
  rfl
 refine pure_ (i := 47) (N := some 73) (v := ?_) (a' := ?_) #[true, true, true, true, true, true, true, true, true, true, true, true, true, true, true, true, true, true, true, true, true, true, true, true, true, true, true, false, false, true, true, true, true, true, true, true, true, true, true, true, true, true, true, true, true, true, true, true, true, true, true, false, false, false, false, false, true, false, false, false, false, false] rfl rfl (any_of HT_.out (by kernel_rfl)) (fun _ _ _ h => h) (Or.inl ⟨by rfl, ?_⟩) ?_ ?_
 rotate_left
 ·intro w'
  go_simp
  with_reducible rfl
 rotate_left
 ·simp only [Act.put, List.setIfInBounds_toArray, List.set_cons_zero, List.set_cons_succ, i64_w, i32_w]
  rfl
 refine take_ (i := 51) (N := some 77) (v := ?_) (a' := ?_) #[true, true, true, true, true, true, true, true, true, true, true, true, true, true, true, true, true, true, true, true, true, true, true, true, true, true, true, false, false, true, true, true, true, true, true, true, true, true, true, true, true, true, true, true, true, true, true, true, true, true, true, true, false, false, false, false, true, false, false, false, false, false] rfl rfl (take_ofW HT_.out HW_.out (by kernel_rfl)) (fun _ _ _ h => h) (Or.inl ⟨by rfl, ?_⟩) hHeld ?_ ?_
 rotate_left
 ·rintro w' ⟨s0, s1, s2, s3, s4, s5, s6, s7⟩
  go_simp
  with_reducible rfl
 rotate_left
 ·simp only [Act.put, List.setIfInBounds_toArray, List.set_cons_zero, List.set_cons_succ, i64_w, i32_w]
  rfl
 refine pure_ (i := 52) (N := some 78) (v := ?_) (a' := ?_) #[true, true, true, true, true, true, true, true, true, true, true, true, true, true, true, true, true, true, true, true, true, true, true, true, true, true, true, false, false, true, true, true, true, true, true, true, true, true, true, true, true, true, true, true, true, true, true, true, true, true, true, true, true, false, false, false, true, false, false, false, false, false] rfl rfl (any_of HT_.out (by kernel_rfl)) (fun _ _ _ h => h) (Or.inl ⟨by rfl, ?_⟩) ?_ ?_
 rotate_left
 ·intro w'
  go_simp
  with_reducible rfl
 rotate_left
 ·simp only [Act.put, List.setIfInBounds_toArray, List.set_cons_zero, List.set_cons_succ, i64_w, i32_w]
  rfl
 refine pure_ (i := 53) (N := some 79) (v := ?_) (a' := ?_) #[true, true, true, true, true, true, true, true, true, true, true, true, true, true, true, true, true, true, true, true, true, true, true, true, true, true, true, false, false, true, true, true, true, true, true, true, true, true, true, true, true, true, true, true, true, true, true, true, true, true, true, true, true, true, false, false, true, false, false, false, false, false] rfl rfl (any_of HT_.out (by kernel_rfl)) (fun _ _ _ h => h) (Or.inl ⟨by rfl, ?_⟩) ?_ ?_
 rotate_left
 ·intro w'
  go_simp
  with_reducible rfl
 rotate_left
 ·simp only [Act.put, List.setIfInBounds_toArray, List.set_cons_zero, List.set_cons_succ, i64_w, i32_w]
  rfl
 refine pure_ (i := 54) (N := some 80) (v := ?_) (a' := ?_) #[true, true, true, true, true, true, true, true, true, true, true, true, true, true, true, true, true, true, true, true, true, true, true, true, true, true, true, false, false, true, true, true, true, true, true, true, true, true, true, true, true, true, true, true, true, true, true, true, true, true, true, true, true, true, true, false, true, false, false, false, false, false] rfl rfl (any_of HT_.out (by kernel_rfl)) (fun _ _ _ h => h) (Or.inl ⟨by rfl, ?_⟩) ?_ ?_
 rotate_left
 ·intro w'
  go_simp
  with_reducible rfl
 rotate_left
 ·simp only [Act.put, List.setIfInBounds_toArray, List.set_cons_zero, List.set_cons_succ, i64_w, i32_w]
  rfl
 refine take_ (i := 55) (N := some 81) (v := ?_) (a' := ?_) #[true, true, true, true, true, true, true, true, true, true, true, true, true, true, true, true, true, true, true, true, true, true, true, true, true, true, true, false, false, true, true, true, true, true, true, true, true, true, true, true, true, true, true, true, true, true, true, true, true, true, true, true, true, true, true, true, true, false, false, false, false, false] rfl rfl (take_ofW HT_.out HW_.out (by kernel_rfl)) (fun _ _ _ h => h) (Or.inl ⟨by rfl, ?_⟩) hHeld ?_ ?_
 rotate_left
 ·rintro w' ⟨s0, s1, s2, s3, s4, s5, s6, s7⟩
  go_simp
  with_reducible rfl
 rotate_left
 ·simp only [Act.put, List.setIfInBounds_toArray, List.set_cons_zero, List.set_cons_succ, i64_w, i32_w]
  rfl
 refine one_ (i := 27) (N := some 53) #[true, true, true, true, true, true, true, true, true, true, true, true, true, true, true, true, true, true, true, true, true, true, true, true, true, true, true, true, false, true, true, true, true, true, true, true, true, true, true, true, true, true, true, true, true, true, true, true, true, true, true, true, true, true, true, true, true, false, false, false, false, false] rfl rfl (one_of HT_.out (by kernel_rfl)) (by decide) (fun K hK => ?_)
 refine goesT_ Try.func100 (by kernel_rfl) rfl #[.int .i64 a, .pointer (some ⟨gh, 0, none⟩)] (by rfl) rfl rfl rfl (by simp only [List.map_toArray, List.map_cons, List.map_nil]; rfl) ?_
 with_reducible refine (mooring_high.calls a (Int.le_trans (by decide) RA.out) RA2.out gh _ BH.out).mono ?_
 rintro e w' ⟨rfl, ⟨nd, rfl⟩⟩
 refine ⟨_, rfl, ?_⟩
 refine hK.out _ _ ⟨((blk_cell BS.out 0).trans rfl), ((blk_cell BS.out 1).trans rfl), ((HB.out.cell (World.block_lt_of_cell? w _ HX0.out)).trans HX0.out), ((HB.out.cell (World.block_lt_of_cell? w _ HX1.out)).trans HX1.out), ((blk_cell BF.out 4).trans rfl), ((blk_cell BF.out 5).trans rfl), ((blk_cell BF.out 6).trans rfl), ((blk_cell BF.out 7).trans rfl)⟩ (fun hHeld => ?_)
 clear hK K
 refine norm_ (a' := ?_) ?_ ?_
 rotate_left
 ·show Act.put _ (some 53) _ = _
  simp only [Act.put, List.setIfInBounds_toArray, List.set_cons_zero, List.set_cons_succ, i64_w, i32_w]
  rfl
 refine one_ (i := 28) (N := some 54) #[true, true, true, true, true, true, true, true, true, true, true, true, true, true, true, true, true, true, true, true, true, true, true, true, true, true, true, true, true, true, true, true, true, true, true, true, true, true, true, true, true, true, true, true, true, true, true, true, true, true, true, true, true, true, true, true, true, false, false, false, false, false] rfl rfl (one_of HT_.out (by kernel_rfl)) (by decide) (fun K hK => ?_)
 refine goesT_ Try.func98 (by kernel_rfl) rfl #[.int .i64 (wrap64 (l * p.f0)), .int .i64 (Moor.rootUp a)] (by rfl) rfl rfl rfl (by simp only [List.map_toArray, List.map_cons, List.map_nil]; rfl) ?_
 with_reducible refine (mooring_rounds_2.calls _ _ x _ HQ0.out).mono ?_
 rintro e w' ⟨rfl, ⟨nd2, rfl⟩⟩
 refine ⟨_, rfl, ?_⟩
 refine hK.out _ _ ⟨((blk_cell BS.out 0).trans rfl), ((blk_cell BS.out 1).trans rfl), ((HB.out.cell (World.block_lt_of_cell? w _ HX0.out)).trans HX0.out), ((HB.out.cell (World.block_lt_of_cell? w _ HX1.out)).trans HX1.out), ((blk_cell BF.out 4).trans rfl), ((blk_cell BF.out 5).trans rfl), ((blk_cell BF.out 6).trans rfl), ((blk_cell BF.out 7).trans rfl)⟩ (fun hHeld => ?_)
 clear hK K
 refine norm_ (a' := ?_) ?_ ?_
 rotate_left
 ·show Act.put _ (some 54) _ = _
  simp only [Act.put, List.setIfInBounds_toArray, List.set_cons_zero, List.set_cons_succ, i64_w, i32_w]
  rfl
 refine one_ (i := 57) (N := some 83) #[true, true, true, true, true, true, true, true, true, true, true, true, true, true, true, true, true, true, true, true, true, true, true, true, true, true, true, true, true, true, true, true, true, true, true, true, true, true, true, true, true, true, true, true, true, true, true, true, true, true, true, true, true, true, true, true, true, true, false, false, false, false] rfl rfl (one_of HT_.out (by kernel_rfl)) (by decide) (fun K hK => ?_)
 refine goesT_ Try.func97 (by kernel_rfl) rfl #[.int .i64 b] (by rfl) rfl rfl rfl (by simp only [List.map_toArray, List.map_cons, List.map_nil]; rfl) ?_
 with_reducible refine (mooring_low.calls b (Int.le_trans (by decide) RB.out) RB2.out _).mono ?_
 rintro e w' ⟨rfl, ⟨nd3, rfl⟩⟩
 refine ⟨_, rfl, ?_⟩
 refine hK.out _ _ ⟨((blk_cell BS.out 0).trans rfl), ((blk_cell BS.out 1).trans rfl), ((HB.out.cell (World.block_lt_of_cell? w _ HX0.out)).trans HX0.out), ((HB.out.cell (World.block_lt_of_cell? w _ HX1.out)).trans HX1.out), ((blk_cell BF.out 4).trans rfl), ((blk_cell BF.out 5).trans rfl), ((blk_cell BF.out 6).trans rfl), ((blk_cell BF.out 7).trans rfl)⟩ (fun hHeld => ?_)
 clear hK K
 refine norm_ (a' := ?_) ?_ ?_
 rotate_left
 ·show Act.put _ (some 83) _ = _
  simp only [Act.put, List.setIfInBounds_toArray, List.set_cons_zero, List.set_cons_succ, i64_w, i32_w]
  rfl
 refine one_ (i := 58) (N := some 84) #[true, true, true, true, true, true, true, true, true, true, true, true, true, true, true, true, true, true, true, true, true, true, true, true, true, true, true, true, true, true, true, true, true, true, true, true, true, true, true, true, true, true, true, true, true, true, true, true, true, true, true, true, true, true, true, true, true, true, true, false, false, false] rfl rfl (one_of HT_.out (by kernel_rfl)) (by decide) (fun K hK => ?_)
 refine goesT_ Try.func99 (by kernel_rfl) rfl #[.int .i64 (wrap64 (l * p.f1)), .int .i64 (Moor.root b)] (by rfl) rfl rfl rfl (by simp only [List.map_toArray, List.map_cons, List.map_nil]; rfl) ?_
 with_reducible refine (mooring_rounds_3.calls _ _ y _ HQ1.out).mono ?_
 rintro e w' ⟨rfl, ⟨nd4, rfl⟩⟩
 refine ⟨_, rfl, ?_⟩
 refine hK.out _ _ ⟨((blk_cell BS.out 0).trans rfl), ((blk_cell BS.out 1).trans rfl), ((HB.out.cell (World.block_lt_of_cell? w _ HX0.out)).trans HX0.out), ((HB.out.cell (World.block_lt_of_cell? w _ HX1.out)).trans HX1.out), ((blk_cell BF.out 4).trans rfl), ((blk_cell BF.out 5).trans rfl), ((blk_cell BF.out 6).trans rfl), ((blk_cell BF.out 7).trans rfl)⟩ (fun hHeld => ?_)
 clear hK K
 refine norm_ (a' := ?_) ?_ ?_
 rotate_left
 ·show Act.put _ (some 84) _ = _
  simp only [Act.put, List.setIfInBounds_toArray, List.set_cons_zero, List.set_cons_succ, i64_w, i32_w]
  rfl
 refine pure_ (i := 59) (N := some 85) (v := ?_) (a' := ?_) #[true, true, true, true, true, true, true, true, true, true, true, true, true, true, true, true, true, true, true, true, true, true, true, true, true, true, true, true, true, true, true, true, true, true, true, true, true, true, true, true, true, true, true, true, true, true, true, true, true, true, true, true, true, true, true, true, true, true, true, true, false, false] rfl rfl (any_of HT_.out (by kernel_rfl)) (fun _ _ _ h => h) (Or.inl ⟨by rfl, ?_⟩) ?_ ?_
 rotate_left
 ·intro w'
  go_simp
  with_reducible rfl
 rotate_left
 ·simp only [Act.put, List.setIfInBounds_toArray, List.set_cons_zero, List.set_cons_succ, i64_w, i32_w]
  rfl
 refine pure_ (i := 60) (N := some 86) (v := ?_) (a' := ?_) #[true, true, true, true, true, true, true, true, true, true, true, true, true, true, true, true, true, true, true, true, true, true, true, true, true, true, true, true, true, true, true, true, true, true, true, true, true, true, true, true, true, true, true, true, true, true, true, true, true, true, true, true, true, true, true, true, true, true, true, true, true, false] rfl rfl (any_of HT_.out (by kernel_rfl)) (fun _ _ _ h => h) (Or.inl ⟨by rfl, ?_⟩) ?_ ?_
 rotate_left
 ·intro w'
  go_simp
  with_reducible rfl
 rotate_left
 ·simp only [Act.put, List.setIfInBounds_toArray, List.set_cons_zero, List.set_cons_succ, i64_w, i32_w]
  rfl
 refine one_ (i := 61) (N := none) #[true, true, true, true, true, true, true, true, true, true, true, true, true, true, true, true, true, true, true, true, true, true, true, true, true, true, true, true, true, true, true, true, true, true, true, true, true, true, true, true, true, true, true, true, true, true, true, true, true, true, true, true, true, true, true, true, true, true, true, true, true, true] rfl rfl (one_of HT_.out (by kernel_rfl)) (by decide) (fun K hK => ?_)
 clear hHeld
 have hz0 := (blk_cell BT.out 0).trans rfl
 have hz1 := (blk_cell BT.out 1).trans rfl
 have hf0 := blk_frozen BT.out 0
 have hf1 := blk_frozen BT.out 1
 refine skip_ (w1 := ?_) (by rfl) rfl ?_ ?_
 rotate_left
 ·go_simp
  rfl
 clear hz0 hz1 hf0 hf1
 have n1 := Aside0.mk (blk_far (p := ⟨gt, 1, none⟩) (blk_far (p := ⟨gt, 0, none⟩) (blk_drewN BS.out (nd + nd2 + nd3 + nd4)) NE1.out (.int .i64 x)) NE1.out (.int .i64 (if y < l then y else l)))
 have n2 := Aside0.mk (blk_far (p := ⟨gt, 1, none⟩) (blk_far (p := ⟨gt, 0, none⟩) (blk_drewN BF.out (nd + nd2 + nd3 + nd4)) NE2.out (.int .i64 x)) NE2.out (.int .i64 (if y < l then y else l)))
 have n3 := Aside0.mk (below_set (j := 1) (v := .int .i64 (if y < l then y else l)) (below_set (j := 0) (v := .int .i64 x) (pw_below_drewN HB.out (nd + nd2 + nd3 + nd4)) GE.out) GE.out)
 have n4 := Aside0.mk (blk_put (cs' := #[.int .i64 x, .int .i64 (if y < l then y else l)]) (blk_put (cs' := #[.int .i64 x, .int .i64 0]) (blk_drewN BT.out (nd + nd2 + nd3 + nd4)) 0 (.int .i64 x) rfl) 1 (.int .i64 (if y < l then y else l)) rfl)
 clear BS BF HB BT
 have BS := n1
 have BF := n2
 have HB := n3
 have BT := n4
 clear n1 n2 n3 n4
 refine hK.out _ _ ⟨((blk_cell BS.out 0).trans rfl), ((blk_cell BS.out 1).trans rfl), ((HB.out.cell (World.block_lt_of_cell? w _ HX0.out)).trans HX0.out), ((HB.out.cell (World.block_lt_of_cell? w _ HX1.out)).trans HX1.out), ((blk_cell BF.out 4).trans rfl), ((blk_cell BF.out 5).trans rfl), ((blk_cell BF.out 6).trans rfl), ((blk_cell BF.out 7).trans rfl)⟩ (fun hHeld => ?_)
 clear hK K
 refine done_ (done_of HT_.out (by kernel_rfl)) ?_
 clear hHeld
 rw [HZ.out] at BT HB ⊢
 go_wp2
 refine bodyPost_ret (results_cell_row rfl _ _ gt 57 _ (0, 0) _ rfl BT.out hu57 rfl (by kernel_rfl)) rfl ?_
 exact ⟨rfl, HB.out⟩
end Go.Proofs.Ytebcmhajbjkojaa.P
namespace Go.Proofs.Ytebcmhajbjkojaa.P
open Go.RowKit Go.Proofs.YtebcmhajbjkojaaW.PrintWords Go.Proofs.YtebcmhajbjkojaaW.PrintLast Go.Proofs.YtebcmhajbjkojaaW.PrintMore
attribute [local go_sem] max2_int min2_int max_two min_two max_three min_three max_four min_four   -- for this text's walks alone
set_option linter.unusedVariables false
set_option linter.unusedSimpArgs false
def rise.T2 : Bool × List (List Nat × List Nat) := (true, [([], []), ([0], [0]), ([1], [1]), ([2], [2]), ([3], [3]), ([4], [4]), ([5], [5]), ([6], [6]), ([], []), ([7, 8], [7, 8]), ([9], [9]), ([10], [10]), ([], []), ([12], [12]), ([13], [13]), ([14], [14]), ([15], [15]), ([16], [16]), ([17], [17]), ([], []), ([18, 19], [18, 19]), ([20], [20]), ([11, 0, 1, 2, 3, 4, 5, 6, 7, 8, 9, 10, 11], [11]), ([21, 22, 0, 1, 2, 3, 4, 5, 6, 7, 8, 9, 10, 11, 12, 13, 14, 15, 16, 17, 18, 19, 20, 21, 22], [21])])
def rise.B2 : List Nat := [0, 1, 3, 7, 15, 31, 63, 127, 0, 511, 1023, 2047, 0, 4096, 12288, 28672, 61440, 126976, 258048, 0, 1044480, 2093056, 4095, 8388607]
theorem rise.tab2 : rtab .any (opsOf Try.f64 2) = rise.T2 := by kernel_rfl
theorem rise.bits2 : waitsOk rise.T2.2 rise.B2 = true := by kernel_rfl
def rise.T3 : Bool × List (List Nat × List Nat) := (true, [([], []), ([0], [0]), ([1], [1]), ([2], [2]), ([3], [3]), ([4], [4]), ([5], [5]), ([6], [6]), ([], []), ([], []), ([8, 9], [8, 9]), ([], []), ([11], [11]), ([12], [12]), ([13], [13]), ([14], [14]), ([15], [15]), ([16], [16]), ([17], [17]), ([], []), ([18, 19], [18, 19]), ([7, 10, 20, 20], [7, 10, 20]), ([], []), ([], []), ([23], [23]), ([24], [24]), ([25], [25]), ([26], [26]), ([27], [27]), ([28], [28]), ([29], [29]), ([], []), ([], []), ([31, 32], [31, 32]), ([], []), ([34], [34]), ([35], [35]), ([36], [36]), ([37], [37]), ([38], [38]), ([39], [39]), ([40], [40]), ([], []), ([41, 42, 21], [41, 42]), ([30, 33, 43, 43], [30, 33, 43]), ([22, 44], [22, 44]), ([21, 45], [21, 45]), ([46, 44, 0, 1, 2, 3, 4, 5, 6, 7, 8, 9, 10, 11, 12, 13, 14, 15, 16, 17, 18, 19, 20, 21, 22, 23, 24, 25, 26, 27, 28, 29, 30, 31, 32, 33, 34, 35, 36, 37, 38, 39, 40, 41, 42, 43, 44, 45, 46], [46])])
def rise.B3 : List Nat := [0, 1, 3, 7, 15, 31, 63, 127, 0, 0, 768, 0, 2048, 6144, 14336, 30720, 63488, 129024, 260096, 0, 1046528, 2097151, 0, 0, 8388608, 25165824, 58720256, 125829120, 260046848, 528482304, 1065353216, 0, 0, 6442450944, 0, 17179869184, 51539607552, 120259084288, 257698037760, 532575944704, 1082331758592, 2181843386368, 0, 8778917347327, 17592181850111, 35184372088831, 70368744177663, 140737488355327]
theorem rise.tab3 : rtab .any (opsOf Try.f64 3) = rise.T3 := by kernel_rfl
theorem rise.bits3 : waitsOk rise.T3.2 rise.B3 = true := by kernel_rfl
set_option maxHeartbeats 16000000 in
set_option maxRecDepth 100000 in
theorem mooring_rise.calls {d an fr : Int} {els : List S46} {on : List S57} {li : List Int} {ps : List S57} (A : Option Addr) (c : Nat) (gs : Nat) (i : Nat) (el : S46) (p : S57) (v : Int) (w : World) (h : IsShape w gs A c d an fr els on li ps) (he : els[i]? = some el) (hp : ps[i]? = some p) (hv : li[i]? = some v) (hb : Moor.okB p v) (hl0 : 0 ≤ el.f0) (hl1 : el.f0 ≤ 1048576) :
  Calls Try.prog 64 #[.pointer (some ⟨gs, 0, none⟩), .int .i64 (i : Int)] w fun e w' => e = .returned (.agg #[.int .i64 (Moor.rise el.f0 p v).f0, .int .i64 (Moor.rise el.f0 p v).f1]) ∧ Below w.heap.size w w' := by
 have hu57 := Try.underlying57
 have hu46 := Try.underlying46
 have hu37 := Try.underlying37
 have hu98 := Try.underlying98
 have hu96 := Try.underlying96
 have hu129 := Try.underlying129
 have SQ := fun (w1 : World) (hb1 : Below w.heap.size w w1) => mooring_squares.calls A c gs i p v w1 (h.below hb1) hp hv
 obtain ⟨g, A4, c4, h1, ⟨gh, A2, c2, A3, c3, h2, h3, h4, h5, h6, h7, h8⟩, h9, h10⟩ := h
 rw [Moor.sqL_wrap hb, Moor.sqH_wrap hb] at SQ
 have SQ := Aside0.mk SQ
 obtain ⟨he1, he2⟩ := List.getElem?_eq_some_iff.1 he
 obtain ⟨hp1, hp2⟩ := List.getElem?_eq_some_iff.1 hp
 obtain ⟨hv1, hv2⟩ := List.getElem?_eq_some_iff.1 hv
 have p1 : (0 : Int) ≤ (i : Int) := by omega
 have q0 : (i : Int) < (els.length : Int) := by omega
 have q1 : (i : Int) < (ps.length : Int) := by omega
 have q2 : (i : Int) < (li.length : Int) := by omega
 obtain ⟨ad0, e0, hw0, -, -, -⟩ := at_T46 h4 (i : Int) p1 q0
 cases e0
 obtain ⟨ad1, e1, hx0, hx1⟩ := at_T57 h9 (i : Int) p1 q1
 cases e1
 obtain ⟨ad2, e2, hy0⟩ := Kd.at_int h7 (i : Int) p1 q2
 cases e2
 rw [Moor.rdE he1, he2] at hw0
 rw [Moor.rdS hp1, hp2] at hx0 hx1
 rw [rd_nat hv1, hv2] at hy0
 simp only [Int.toNat_natCast] at hw0 hx0 hx1 hy0
 have HW0 := Aside0.mk hw0
 have HX0 := Aside0.mk hx0
 have HX1 := Aside0.mk hx1
 have HY0 := Aside0.mk hy0
 clear he1 he2 hp1 hp2 hv1 hv2 hw0 hx0 hx1 hy0
 obtain ⟨r1, r2, r3, r4, _⟩ := Moor.sq_range hb
 have hb' := hb
 obtain ⟨b1, b2, b3, b4, b5⟩ := hb'
 have m0 := Moor.prod_range hl0 hl1 (x := v) (by omega) (by omega)
 have m1 := Moor.prod_range hl0 hl1 (x := v) (by omega) (by omega)
 have u0 := Moor.rootUp_is (n := Moor.sqH p v) (by omega) (by omega)
 have u2 := Moor.root_pos (n := Moor.sqH p v) (by omega) (by omega)
 have u1 := Moor.root_pos (n := Moor.sqL p v) (by omega) (by omega)
 have HQ0 : Aside0 (mooring_rounds_2.f (wrap64 (el.f0 * v)) (Moor.rootUp (Moor.sqH p v)) = some (Moor.rise el.f0 p v).f0) := ⟨by
  rw [wrap_id (n := el.f0 * v) (by omega) (by omega), Moor.lo_f (by omega) (by omega) (by omega)]
  rfl⟩
 obtain ⟨y, hy⟩ : ∃ y, y = (el.f0 * v + Moor.root (Moor.sqL p v) - 1) / Moor.root (Moor.sqL p v) := ⟨_, rfl⟩
 have HQ1 : Aside0 (mooring_rounds_3.f (wrap64 (el.f0 * v)) (Moor.root (Moor.sqL p v)) = some y) := ⟨by
  rw [wrap_id (n := el.f0 * v) (by omega) (by omega), Moor.hi_f (by omega) (by omega) (by omega) (by omega), hy]⟩
 have hT : (Moor.rise el.f0 p v).f1 = if y < el.f0 then y else el.f0 := by
  have e : (Moor.rise el.f0 p v).f1 = min el.f0 y := by rw [hy]; rfl
  rw [e]
  by_cases c : y < el.f0
  ·rw [if_pos c]; omega
  ·rw [if_neg c]; omega
 rw [hT]
 generalize (Moor.rise el.f0 p v).f0 = x at HQ0 ⊢
 generalize hl : el.f0 = l at *
 obtain ⟨z, hz⟩ : ∃ z, (if y < l then y else l) = z := ⟨_, rfl⟩
 rw [hz]
 have HZ := Aside0.mk hz
 clear hz hy hT m0 m1 u0 u1 u2 b1 b2 b3 b4 b5 hl
 generalize Moor.sqL p v = a at *
 generalize Moor.sqH p v = b at *
 have RA := Aside0.mk r1
 have RA2 := Aside0.mk r2
 have RB := Aside0.mk r3
 have RB2 := Aside0.mk r4
 have BS := Aside0.mk h1
 have BF := Aside0.mk h2
 have BH := Aside0.mk h3
 clear h1 h2 h3 h4 h5 h6 h7 h8 h9 h10 hp hv he hb hl0 hl1 r1 r2 r3 r4
 go_enter Try.func64, Try.ntmps64
 go_wp2_with (first | ((with_reducible refine gate_dst (N := 4) rfl ?_); refine box_event ?hg (N := 4) ?hd (cs := #[.int .i64 0, .int .i64 0]) (t := 57) ?hr ?_; (case hd => rfl); (case hg => rfl); (case hr => first | (go_simp; done) | (go_simp; rfl)); intro gt hgt w1 hbt hb0; have GE : Aside0 (w.heap.size ≤ gt) := ⟨Nat.le_of_eq hgt.symm⟩; have n1 := Aside0.mk (blk_below BS.out hb0); have n2 := Aside0.mk (blk_below BF.out hb0); have n3 := Aside0.mk (blk_below BH.out hb0); have HB := Aside0.mk hb0; have BT := Aside0.mk hbt; have NE1 : Aside0 (gs ≠ gt) := ⟨by rw [hgt]; exact Nat.ne_of_lt (blk_lt BS.out)⟩; have NE2 : Aside0 (g ≠ gt) := ⟨by rw [hgt]; exact Nat.ne_of_lt (blk_lt BF.out)⟩; clear BS BF BH hgt hbt hb0; have BS := n1; have BF := n2; have BH := n3; clear n1 n2 n3) | (go_at_call 90; (with_reducible refine (SQ.out _ HB.out).mono ?_); rintro e w2 ⟨rfl, hb1⟩; have n1 := Aside0.mk (blk_below BS.out hb1); have n2 := Aside0.mk (blk_below BF.out hb1); have n3 := Aside0.mk (blk_below BH.out hb1); have n4 := Aside0.mk (blk_below BT.out hb1); have n5 := Aside0.mk (below_step HB.out hb1); clear BS BF BH BT HB hb1; have BS := n1; have BF := n2; have BH := n3; have BT := n4; have HB := n5; clear n1 n2 n3 n4 n5; skip))
 have n0 := Aside0.mk (blk_drew BS.out)
 have n1 := Aside0.mk (blk_drew BF.out)
 have n2 := Aside0.mk (blk_drew BH.out)
 have n3 := Aside0.mk (blk_drew BT.out)
 have n4 := Aside0.mk (below_drew1 HB.out)
 clear BS BF BH BT HB
 have BS := n0
 have BF := n1
 have BH := n2
 have BT := n3
 have HB := n4
 clear n0 n1 n2 n3 n4
 refine start_ (n := 24) (S := fun w' => w'.cell? ⟨gs, 0, none⟩ = some (.pointer (some ⟨g, 0, none⟩)) ∧ w'.cell? ⟨g, 1, none⟩ = some (.slice (some ad0) els.length c) ∧ w'.cell? ⟨g, 9, none⟩ = some (.slice (some ad2) li.length c3) ∧ w'.cell? (ad0.add (i * 4)) = some (.int .i64 l) ∧ w'.cell? (ad2.add i) = some (.int .i64 v)) (ds := []) #[false, false, false, false, false, false, false, false, false, false, false, false, false, false, false, false, false, false, false, false, false, false, false, false] (by kernel_rfl) rfl rfl ⟨((blk_cell BS.out 0).trans rfl), ((blk_cell BF.out 1).trans rfl), ((blk_cell BF.out 9).trans rfl), ((HB.out.cell (World.block_lt_of_cell? w _ HW0.out)).trans HW0.out), ((HB.out.cell (World.block_lt_of_cell? w _ HY0.out)).trans HY0.out)⟩ (fun hHeld => ?_)
 refine with_tabW rise.tab2 rise.bits2 (fun HT_ HW_ => ?_)
 generalize World.drew _ = w3 at BS BF BH BT HB hHeld ⊢
 refine pure_ (i := 0) (N := some 15) (v := ?_) (a' := ?_) #[true, false, false, false, false, false, false, false, false, false, false, false, false, false, false, false, false, false, false, false, false, false, false, false] rfl rfl (any_of HT_.out (by kernel_rfl)) (fun _ _ _ h => h) (Or.inl ⟨by rfl, ?_⟩) ?_ ?_
 rotate_left
 ·intro w'
  go_simp
  with_reducible rfl
 rotate_left
 ·simp only [Act.put, List.setIfInBounds_toArray, List.set_cons_zero, List.set_cons_succ, i64_w, i32_w]
  rfl
 refine pure_ (i := 1) (N := some 16) (v := ?_) (a' := ?_) #[true, true, false, false, false, false, false, false, false, false, false, false, false, false, false, false, false, false, false, false, false, false, false, false] rfl rfl (any_of HT_.out (by kernel_rfl)) (fun _ _ _ h => h) (Or.inl ⟨by rfl, ?_⟩) ?_ ?_
 rotate_left
 ·intro w'
  go_simp
  with_reducible rfl
 rotate_left
 ·simp only [Act.put, List.setIfInBounds_toArray, List.set_cons_zero, List.set_cons_succ, i64_w, i32_w]
  rfl
 refine pure_ (i := 2) (N := some 17) (v := ?_) (a' := ?_) #[true, true, true, false, false, false, false, false, false, false, false, false, false, false, false, false, false, false, false, false, false, false, false, false] rfl rfl (any_of HT_.out (by kernel_rfl)) (fun _ _ _ h => h) (Or.inl ⟨by rfl, ?_⟩) ?_ ?_
 rotate_left
 ·intro w'
  go_simp
  with_reducible rfl
 rotate_left
 ·simp only [Act.put, List.setIfInBounds_toArray, List.set_cons_zero, List.set_cons_succ, i64_w, i32_w]
  rfl
 refine pure_ (i := 8) (N := some 23) (v := ?_) (a' := ?_) #[true, true, true, false, false, false, false, false, true, false, false, false, false, false, false, false, false, false, false, false, false, false, false, false] rfl rfl (any_of HT_.out (by kernel_rfl)) (fun _ _ _ h => h) (Or.inl ⟨by rfl, ?_⟩) ?_ ?_
 rotate_left
 ·intro w'
  go_simp
  with_reducible rfl
 rotate_left
 ·simp only [Act.put, List.setIfInBounds_toArray, List.set_cons_zero, List.set_cons_succ, i64_w, i32_w]
  rfl
 refine pure_ (i := 12) (N := some 27) (v := ?_) (a' := ?_) #[true, true, true, false, false, false, false, false, true, false, false, false, true, false, false, false, false, false, false, false, false, false, false, false] rfl rfl (any_of HT_.out (by kernel_rfl)) (fun _ _ _ h => h) (Or.inl ⟨by rfl, ?_⟩) ?_ ?_
 rotate_left
 ·intro w'
  go_simp
  with_reducible rfl
 rotate_left
 ·simp only [Act.put, List.setIfInBounds_toArray, List.set_cons_zero, List.set_cons_succ, i64_w, i32_w]
  rfl
 refine pure_ (i := 13) (N := some 28) (v := ?_) (a' := ?_) #[true, true, true, false, false, false, false, false, true, false, false, false, true, true, false, false, false, false, false, false, false, false, false, false] rfl rfl (any_of HT_.out (by kernel_rfl)) (fun _ _ _ h => h) (Or.inl ⟨by rfl, ?_⟩) ?_ ?_
 rotate_left
 ·intro w'
  go_simp
  with_reducible rfl
 rotate_left
 ·simp only [Act.put, List.setIfInBounds_toArray, List.set_cons_zero, List.set_cons_succ, i64_w, i32_w]
  rfl
 refine pure_ (i := 14) (N := some 29) (v := ?_) (a' := ?_) #[true, true, true, false, false, false, false, false, true, false, false, false, true, true, true, false, false, false, false, false, false, false, false, false] rfl rfl (any_of HT_.out (by kernel_rfl)) (fun _ _ _ h => h) (Or.inl ⟨by rfl, ?_⟩) ?_ ?_
 rotate_left
 ·intro w'
  go_simp
  with_reducible rfl
 rotate_left
 ·simp only [Act.put, List.setIfInBounds_toArray, List.set_cons_zero, List.set_cons_succ, i64_w, i32_w]
  rfl
 refine pure_ (i := 19) (N := some 34) (v := ?_) (a' := ?_) #[true, true, true, false, false, false, false, false, true, false, false, false, true, true, true, false, false, false, false, true, false, false, false, false] rfl rfl (any_of HT_.out (by kernel_rfl)) (fun _ _ _ h => h) (Or.inl ⟨by rfl, ?_⟩) ?_ ?_
 rotate_left
 ·intro w'
  go_simp
  with_reducible rfl
 rotate_left
 ·simp only [Act.put, List.setIfInBounds_toArray, List.set_cons_zero, List.set_cons_succ, i64_w, i32_w]
  rfl
 refine take_ (i := 3) (N := some 18) (v := ?_) (a' := ?_) #[true, true, true, true, false, false, false, false, true, false, false, false, true, true, true, false, false, false, false, true, false, false, false, false] rfl rfl (take_ofW HT_.out HW_.out (by kernel_rfl)) (fun _ _ _ h => h) (Or.inl ⟨by rfl, ?_⟩) hHeld ?_ ?_
 rotate_left
 ·rintro w' ⟨s0, s1, s2, s3, s4⟩
  go_simp
  with_reducible rfl
 rotate_left
 ·simp only [Act.put, List.setIfInBounds_toArray, List.set_cons_zero, List.set_cons_succ, i64_w, i32_w]
  rfl
 refine pure_ (i := 4) (N := some 19) (v := ?_) (a' := ?_) #[true, true, true, true, true, false, false, false, true, false, false, false, true, true, true, false, false, false, false, true, false, false, false, false] rfl rfl (any_of HT_.out (by kernel_rfl)) (fun _ _ _ h => h) (Or.inl ⟨by rfl, ?_⟩) ?_ ?_
 rotate_left
 ·intro w'
  go_simp
  with_reducible rfl
 rotate_left
 ·simp only [Act.put, List.setIfInBounds_toArray, List.set_cons_zero, List.set_cons_succ, i64_w, i32_w]
  rfl
 refine pure_ (i := 5) (N := some 20) (v := ?_) (a' := ?_) #[true, true, true, true, true, true, false, false, true, false, false, false, true, true, true, false, false, false, false, true, false, false, false, false] rfl rfl (any_of HT_.out (by kernel_rfl)) (fun _ _ _ h => h) (Or.inl ⟨by rfl, ?_⟩) ?_ ?_
 rotate_left
 ·intro w'
  go_simp
  with_reducible rfl
 rotate_left
 ·simp only [Act.put, List.setIfInBounds_toArray, List.set_cons_zero, List.set_cons_succ, i64_w, i32_w]
  rfl
 refine pure_ (i := 6) (N := some 21) (v := ?_) (a' := ?_) #[true, true, true, true, true, true, true, false, true, false, false, false, true, true, true, false, false, false, false, true, false, false, false, false] rfl rfl (any_of HT_.out (by kernel_rfl)) (fun _ _ _ h => h) (Or.inl ⟨by rfl, ?_⟩) ?_ ?_
 rotate_left
 ·intro w'
  go_simp
  with_reducible rfl
 rotate_left
 ·simp only [Act.put, List.setIfInBounds_toArray, List.set_cons_zero, List.set_cons_succ, i64_w, i32_w]
  rfl
 refine take_ (i := 7) (N := some 22) (v := ?_) (a' := ?_) #[true, true, true, true, true, true, true, true, true, false, false, false, true, true, true, false, false, false, false, true, false, false, false, false] rfl rfl (take_ofW HT_.out HW_.out (by kernel_rfl)) (fun _ _ _ h => h) (Or.inl ⟨by rfl, ?_⟩) hHeld ?_ ?_
 rotate_left
 ·rintro w' ⟨s0, s1, s2, s3, s4⟩
  go_simp
  with_reducible rfl
 rotate_left
 ·simp only [Act.put, List.setIfInBounds_toArray, List.set_cons_zero, List.set_cons_succ, i64_w, i32_w]
  rfl
 refine pure_ (i := 9) (N := some 24) (v := ?_) (a' := ?_) #[true, true, true, true, true, true, true, true, true, true, false, false, true, true, true, false, false, false, false, true, false, false, false, false] rfl rfl (any_of HT_.out (by kernel_rfl)) (fun _ _ _ h => h) (Or.inl ⟨by rfl, ?_⟩) ?_ ?_
 rotate_left
 ·intro w'
  go_simp
  with_reducible rfl
 rotate_left
 ·simp only [Act.put, List.setIfInBounds_toArray, List.set_cons_zero, List.set_cons_succ, i64_w, i32_w]
  rfl
 refine pure_ (i := 10) (N := some 25) (v := ?_) (a' := ?_) #[true, true, true, true, true, true, true, true, true, true, true, false, true, true, true, false, false, false, false, true, false, false, false, false] rfl rfl (any_of HT_.out (by kernel_rfl)) (fun _ _ _ h => h) (Or.inl ⟨by rfl, ?_⟩) ?_ ?_
 rotate_left
 ·intro w'
  go_simp
  with_reducible rfl
 rotate_left
 ·simp only [Act.put, List.setIfInBounds_toArray, List.set_cons_zero, List.set_cons_succ, i64_w, i32_w]
  rfl
 refine take_ (i := 11) (N := some 26) (v := ?_) (a' := ?_) #[true, true, true, true, true, true, true, true, true, true, true, true, true, true, true, false, false, false, false, true, false, false, false, false] rfl rfl (take_ofW HT_.out HW_.out (by kernel_rfl)) (fun _ _ _ h => h) (Or.inl ⟨by rfl, ?_⟩) hHeld ?_ ?_
 rotate_left
 ·rintro w' ⟨s0, s1, s2, s3, s4⟩
  go_simp
  with_reducible rfl
 rotate_left
 ·simp only [Act.put, List.setIfInBounds_toArray, List.set_cons_zero, List.set_cons_succ, i64_w, i32_w]
  rfl
 refine pure_ (i := 22) (N := some 7) (v := ?_) (a' := ?_) #[true, true, true, true, true, true, true, true, true, true, true, true, true, true, true, false, false, false, false, true, false, false, true, false] rfl rfl (any_of HT_.out (by kernel_rfl)) (fun _ _ _ h => h) (Or.inl ⟨by rfl, ?_⟩) ?_ ?_
 rotate_left
 ·intro w'
  go_simp
  with_reducible rfl
 rotate_left
 ·simp only [Act.put, List.setIfInBounds_toArray, List.set_cons_zero, List.set_cons_succ, i64_w, i32_w]
  rfl
 refine take_ (i := 15) (N := some 30) (v := ?_) (a' := ?_) #[true, true, true, true, true, true, true, true, true, true, true, true, true, true, true, true, false, false, false, true, false, false, true, false] rfl rfl (take_ofW HT_.out HW_.out (by kernel_rfl)) (fun _ _ _ h => h) (Or.inl ⟨by rfl, ?_⟩) hHeld ?_ ?_
 rotate_left
 ·rintro w' ⟨s0, s1, s2, s3, s4⟩
  go_simp
  with_reducible rfl
 rotate_left
 ·simp only [Act.put, List.setIfInBounds_toArray, List.set_cons_zero, List.set_cons_succ, i64_w, i32_w]
  rfl
 refine pure_ (i := 16) (N := some 31) (v := ?_) (a' := ?_) #[true, true, true, true, true, true, true, true, true, true, true, true, true, true, true, true, true, false, false, true, false, false, true, false] rfl rfl (any_of HT_.out (by kernel_rfl)) (fun _ _ _ h => h) (Or.inl ⟨by rfl, ?_⟩) ?_ ?_
 rotate_left
 ·intro w'
  go_simp
  with_reducible rfl
 rotate_left
 ·simp only [Act.put, List.setIfInBounds_toArray, List.set_cons_zero, List.set_cons_succ, i64_w, i32_w]
  rfl
 refine pure_ (i := 17) (N := some 32) (v := ?_) (a' := ?_) #[true, true, true, true, true, true, true, true, true, true, true, true, true, true, true, true, true, true, false, true, false, false, true, false] rfl rfl (any_of HT_.out (by kernel_rfl)) (fun _ _ _ h => h) (Or.inl ⟨by rfl, ?_⟩) ?_ ?_
 rotate_left
 ·intro w'
  go_simp
  with_reducible rfl
 rotate_left
 ·simp only [Act.put, List.setIfInBounds_toArray, List.set_cons_zero, List.set_cons_succ, i64_w, i32_w]
  rfl
 refine take_ (i := 18) (N := some 33) (v := ?_) (a' := ?_) #[true, true, true, true, true, true, true, true, true, true, true, true, true, true, true, true, true, true, true, true, false, false, true, false] rfl rfl (take_ofW HT_.out HW_.out (by kernel_rfl)) (fun _ _ _ h => h) (Or.inl ⟨by rfl, ?_⟩) hHeld ?_ ?_
 rotate_left
 ·rintro w' ⟨s0, s1, s2, s3, s4⟩
  go_simp
  with_reducible rfl
 rotate_left
 ·simp only [Act.put, List.setIfInBounds_toArray, List.set_cons_zero, List.set_cons_succ, i64_w, i32_w]
  rfl
 refine pure_ (i := 20) (N := some 35) (v := ?_) (a' := ?_) #[true, true, true, true, true, true, true, true, true, true, true, true, true, true, true, true, true, true, true, true, true, false, true, false] rfl rfl (any_of HT_.out (by kernel_rfl)) (fun _ _ _ h => h) (Or.inl ⟨by rfl, ?_⟩) ?_ ?_
 rotate_left
 ·intro w'
  go_simp
  with_reducible rfl
 rotate_left
 ·simp only [Act.put, List.setIfInBounds_toArray, List.set_cons_zero, List.set_cons_succ, i64_w, i32_w]
  rfl
 refine take_ (i := 21) (N := some 36) (v := ?_) (a' := ?_) #[true, true, true, true, true, true, true, true, true, true, true, true, true, true, true, true, true, true, true, true, true, true, true, false] rfl rfl (take_ofW HT_.out HW_.out (by kernel_rfl)) (fun _ _ _ h => h) (Or.inl ⟨by rfl, ?_⟩) hHeld ?_ ?_
 rotate_left
 ·rintro w' ⟨s0, s1, s2, s3, s4⟩
  go_simp
  with_reducible rfl
 rotate_left
 ·simp only [Act.put, List.setIfInBounds_toArray, List.set_cons_zero, List.set_cons_succ, i64_w, i32_w]
  rfl
 refine pure_ (i := 23) (N := some 8) (v := ?_) (a' := ?_) #[true, true, true, true, true, true, true, true, true, true, true, true, true, true, true, true, true, true, true, true, true, true, true, true] rfl rfl (any_of HT_.out (by kernel_rfl)) (fun _ _ _ h => h) (Or.inl ⟨by rfl, ?_⟩) ?_ ?_
 rotate_left
 ·intro w'
  go_simp
  with_reducible rfl
 rotate_left
 ·simp only [Act.put, List.setIfInBounds_toArray, List.set_cons_zero, List.set_cons_succ, i64_w, i32_w]
  rfl
 refine done_ (done_of HT_.out (by kernel_rfl)) ?_
 clear hHeld
 go_wp2
 have n0 := Aside0.mk (blk_drew BS.out)
 have n1 := Aside0.mk (blk_drew BF.out)
 have n2 := Aside0.mk (blk_drew BH.out)
 have n3 := Aside0.mk (blk_drew BT.out)
 have n4 := Aside0.mk (below_drew1 HB.out)
 clear BS BF BH BT HB
 have BS := n0
 have BF := n1
 have BH := n2
 have BT := n3
 have HB := n4
 clear n0 n1 n2 n3 n4
 refine start_ (n := 48) (S := fun w' => w'.cell? ⟨gs, 0, none⟩ = some (.pointer (some ⟨g, 0, none⟩)) ∧ w'.cell? ⟨g, 4, none⟩ = some (.func (.func 98) #[] #[]) ∧ w'.cell? ⟨g, 5, none⟩ = some (.func (.func 99) #[] #[]) ∧ w'.cell? ⟨g, 6, none⟩ = some (.func (.func 97) #[] #[]) ∧ w'.cell? ⟨g, 7, none⟩ = some (.func (.func 100) #[] #[.pointer (some ⟨gh, 0, none⟩)])) (ds := []) #[false, false, false, false, false, false, false, false, false, false, false, false, false, false, false, false, false, false, false, false, false, false, false, false, false, false, false, false, false, false, false, false, false, false, false, false, false, false, false, false, false, false, false, false, false, false, false, false] (by kernel_rfl) rfl rfl ⟨((blk_cell BS.out 0).trans rfl), ((blk_cell BF.out 4).trans rfl), ((blk_cell BF.out 5).trans rfl), ((blk_cell BF.out 6).trans rfl), ((blk_cell BF.out 7).trans rfl)⟩ (fun hHeld => ?_)
 refine with_tabW rise.tab3 rise.bits3 (fun HT_ HW_ => ?_)
 generalize World.drew _ = w4 at BS BF BH BT HB hHeld ⊢
 refine pure_ (i := 0) (N := some 37) (v := ?_) (a' := ?_) #[true, false, false, false, false, false, false, false, false, false, false, false, false, false, false, false, false, false, false, false, false, false, false, false, false, false, false, false, false, false, false, false, false, false, false, false, false, false, false, false, false, false, false, false, false, false, false, false] rfl rfl (any_of HT_.out (by kernel_rfl)) (fun _ _ _ h => h) (Or.inl ⟨by rfl, ?_⟩) ?_ ?_
 rotate_left
 ·intro w'
  go_simp
  with_reducible rfl
 rotate_left
 ·simp only [Act.put, List.setIfInBounds_toArray, List.set_cons_zero, List.set_cons_succ, i64_w, i32_w]
  rfl
 refine pure_ (i := 1) (N := some 38) (v := ?_) (a' := ?_) #[true, true, false, false, false, false, false, false, false, false, false, false, false, false, false, false, false, false, false, false, false, false, false, false, false, false, false, false, false, false, false, false, false, false, false, false, false, false, false, false, false, false, false, false, false, false, false, false] rfl rfl (any_of HT_.out (by kernel_rfl)) (fun _ _ _ h => h) (Or.inl ⟨by rfl, ?_⟩) ?_ ?_
 rotate_left
 ·intro w'
  go_simp
  with_reducible rfl
 rotate_left
 ·simp only [Act.put, List.setIfInBounds_toArray, List.set_cons_zero, List.set_cons_succ, i64_w, i32_w]
  rfl
 refine pure_ (i := 2) (N := some 39) (v := ?_) (a' := ?_) #[true, true, true, false, false, false, false, false, false, false, false, false, false, false, false, false, false, false, false, false, false, false, false, false, false, false, false, false, false, false, false, false, false, false, false, false, false, false, false, false, false, false, false, false, false, false, false, false] rfl rfl (any_of HT_.out (by kernel_rfl)) (fun _ _ _ h => h) (Or.inl ⟨by rfl, ?_⟩) ?_ ?_
 rotate_left
 ·intro w'
  go_simp
  with_reducible rfl
 rotate_left
 ·simp only [Act.put, List.setIfInBounds_toArray, List.set_cons_zero, List.set_cons_succ, i64_w, i32_w]
  rfl
 refine pure_ (i := 8) (N := some 45) (v := ?_) (a' := ?_) #[true, true, true, false, false, false, false, false, true, false, false, false, false, false, false, false, false, false, false, false, false, false, false, false, false, false, false, false, false, false, false, false, false, false, false, false, false, false, false, false, false, false, false, false, false, false, false, false] rfl rfl (any_of HT_.out (by kernel_rfl)) (fun _ _ _ h => h) (Or.inl ⟨by rfl, ?_⟩) ?_ ?_
 rotate_left
 ·intro w'
  go_simp
  with_reducible rfl
 rotate_left
 ·simp only [Act.put, List.setIfInBounds_toArray, List.set_cons_zero, List.set_cons_succ, i64_w, i32_w]
  rfl
 refine pure_ (i := 9) (N := some 46) (v := ?_) (a' := ?_) #[true, true, true, false, false, false, false, false, true, true, false, false, false, false, false, false, false, false, false, false, false, false, false, false, false, false, false, false, false, false, false, false, false, false, false, false, false, false, false, false, false, false, false, false, false, false, false, false] rfl rfl (any_of HT_.out (by kernel_rfl)) (fun _ _ _ h => h) (Or.inl ⟨by rfl, ?_⟩) ?_ ?_
 rotate_left
 ·intro w'
  go_simp
  with_reducible rfl
 rotate_left
 ·simp only [Act.put, List.setIfInBounds_toArray, List.set_cons_zero, List.set_cons_succ, i64_w, i32_w]
  rfl
 refine pure_ (i := 10) (N := some 47) (v := ?_) (a' := ?_) #[true, true, true, false, false, false, false, false, true, true, true, false, false, false, false, false, false, false, false, false, false, false, false, false, false, false, false, false, false, false, false, false, false, false, false, false, false, false, false, false, false, false, false, false, false, false, false, false] rfl rfl (any_of HT_.out (by kernel_rfl)) (fun _ _ _ h => h) (Or.inl ⟨by rfl, ?_⟩) ?_ ?_
 rotate_left
 ·intro w'
  go_simp
  with_reducible rfl
 rotate_left
 ·simp only [Act.put, List.setIfInBounds_toArray, List.set_cons_zero, List.set_cons_succ, i64_w, i32_w]
  rfl
 refine pure_ (i := 11) (N := some 48) (v := ?_) (a' := ?_) #[true, true, true, false, false, false, false, false, true, true, true, true, false, false, false, false, false, false, false, false, false, false, false, false, false, false, false, false, false, false, false, false, false, false, false, false, false, false, false, false, false, false, false, false, false, false, false, false] rfl rfl (any_of HT_.out (by kernel_rfl)) (fun _ _ _ h => h) (Or.inl ⟨by rfl, ?_⟩) ?_ ?_
 rotate_left
 ·intro w'
  go_simp
  with_reducible rfl
 rotate_left
 ·simp only [Act.put, List.setIfInBounds_toArray, List.set_cons_zero, List.set_cons_succ, i64_w, i32_w]
  rfl
 refine pure_ (i := 12) (N := some 49) (v := ?_) (a' := ?_) #[true, true, true, false, false, false, false, false, true, true, true, true, true, false, false, false, false, false, false, false, false, false, false, false, false, false, false, false, false, false, false, false, false, false, false, false, false, false, false, false, false, false, false, false, false, false, false, false] rfl rfl (any_of HT_.out (by kernel_rfl)) (fun _ _ _ h => h) (Or.inl ⟨by rfl, ?_⟩) ?_ ?_
 rotate_left
 ·intro w'
  go_simp
  with_reducible rfl
 rotate_left
 ·simp only [Act.put, List.setIfInBounds_toArray, List.set_cons_zero, List.set_cons_succ, i64_w, i32_w]
  rfl
 refine pure_ (i := 13) (N := some 50) (v := ?_) (a' := ?_) #[true, true, true, false, false, false, false, false, true, true, true, true, true, true, false, false, false, false, false, false, false, false, false, false, false, false, false, false, false, false, false, false, false, false, false, false, false, false, false, false, false, false, false, false, false, false, false, false] rfl rfl (any_of HT_.out (by kernel_rfl)) (fun _ _ _ h => h) (Or.inl ⟨by rfl, ?_⟩) ?_ ?_
 rotate_left
 ·intro w'
  go_simp
  with_reducible rfl
 rotate_left
 ·simp only [Act.put, List.setIfInBounds_toArray, List.set_cons_zero, List.set_cons_succ, i64_w, i32_w]
  rfl
 refine pure_ (i := 19) (N := some 56) (v := ?_) (a' := ?_) #[true, true, true, false, false, false, false, false, true, true, true, true, true, true, false, false, false, false, false, true, false, false, false, false, false, false, false, false, false, false, false, false, false, false, false, false, false, false, false, false, false, false, false, false, false, false, false, false] rfl rfl (any_of HT_.out (by kernel_rfl)) (fun _ _ _ h => h) (Or.inl ⟨by rfl, ?_⟩) ?_ ?_
 rotate_left
 ·intro w'
  go_simp
  with_reducible rfl
 rotate_left
 ·simp only [Act.put, List.setIfInBounds_toArray, List.set_cons_zero, List.set_cons_succ, i64_w, i32_w]
  rfl
 refine pure_ (i := 22) (N := some 59) (v := ?_) (a' := ?_) #[true, true, true, false, false, false, false, false, true, true, true, true, true, true, false, false, false, false, false, true, false, false, true, false, false, false, false, false, false, false, false, false, false, false, false, false, false, false, false, false, false, false, false, false, false, false, false, false] rfl rfl (any_of HT_.out (by kernel_rfl)) (fun _ _ _ h => h) (Or.inl ⟨by rfl, ?_⟩) ?_ ?_
 rotate_left
 ·intro w'
  go_simp
  with_reducible rfl
 rotate_left
 ·simp only [Act.put, List.setIfInBounds_toArray, List.set_cons_zero, List.set_cons_succ, i64_w, i32_w]
  rfl
 refine pure_ (i := 23) (N := some 60) (v := ?_) (a' := ?_) #[true, true, true, false, false, false, false, false, true, true, true, true, true, true, false, false, false, false, false, true, false, false, true, true, false, false, false, false, false, false, false, false, false, false, false, false, false, false, false, false, false, false, false, false, false, false, false, false] rfl rfl (any_of HT_.out (by kernel_rfl)) (fun _ _ _ h => h) (Or.inl ⟨by rfl, ?_⟩) ?_ ?_
 rotate_left
 ·intro w'
  go_simp
  with_reducible rfl
 rotate_left
 ·simp only [Act.put, List.setIfInBounds_toArray, List.set_cons_zero, List.set_cons_succ, i64_w, i32_w]
  rfl
 refine pure_ (i := 24) (N := some 61) (v := ?_) (a' := ?_) #[true, true, true, false, false, false, false, false, true, true, true, true, true, true, false, false, false, false, false, true, false, false, true, true, true, false, false, false, false, false, false, false, false, false, false, false, false, false, false, false, false, false, false, false, false, false, false, false] rfl rfl (any_of HT_.out (by kernel_rfl)) (fun _ _ _ h => h) (Or.inl ⟨by rfl, ?_⟩) ?_ ?_
 rotate_left
 ·intro w'
  go_simp
  with_reducible rfl
 rotate_left
 ·simp only [Act.put, List.setIfInBounds_toArray, List.set_cons_zero, List.set_cons_succ, i64_w, i32_w]
  rfl
 refine pure_ (i := 25) (N := some 62) (v := ?_) (a' := ?_) #[true, true, true, false, false, false, false, false, true, true, true, true, true, true, false, false, false, false, false, true, false, false, true, true, true, true, false, false, false, false, false, false, false, false, false, false, false, false, false, false, false, false, false, false, false, false, false, false] rfl rfl (any_of HT_.out (by kernel_rfl)) (fun _ _ _ h => h) (Or.inl ⟨by rfl, ?_⟩) ?_ ?_
 rotate_left
 ·intro w'
  go_simp
  with_reducible rfl
 rotate_left
 ·simp only [Act.put, List.setIfInBounds_toArray, List.set_cons_zero, List.set_cons_succ, i64_w, i32_w]
  rfl
 refine pure_ (i := 31) (N := some 68) (v := ?_) (a' := ?_) #[true, true, true, false, false, false, false, false, true, true, true, true, true, true, false, false, false, false, false, true, false, false, true, true, true, true, false, false, false, false, false, true, false, false, false, false, false, false, false, false, false, false, false, false, false, false, false, false] rfl rfl (any_of HT_.out (by kernel_rfl)) (fun _ _ _ h => h) (Or.inl ⟨by rfl, ?_⟩) ?_ ?_
 rotate_left
 ·intro w'
  go_simp
  with_reducible rfl
 rotate_left
 ·simp only [Act.put, List.setIfInBounds_toArray, List.set_cons_zero, List.set_cons_succ, i64_w, i32_w]
  rfl
 refine pure_ (i := 32) (N := some 69) (v := ?_) (a' := ?_) #[true, true, true, false, false, false, false, false, true, true, true, true, true, true, false, false, false, false, false, true, false, false, true, true, true, true, false, false, false, false, false, true, true, false, false, false, false, false, false, false, false, false, false, false, false, false, false, false] rfl rfl (any_of HT_.out (by kernel_rfl)) (fun _ _ _ h => h) (Or.inl ⟨by rfl, ?_⟩) ?_ ?_
 rotate_left
 ·intro w'
  go_simp
  with_reducible rfl
 rotate_left
 ·simp only [Act.put, List.setIfInBounds_toArray, List.set_cons_zero, List.set_cons_succ, i64_w, i32_w]
  rfl
 refine pure_ (i := 33) (N := some 70) (v := ?_) (a' := ?_) #[true, true, true, false, false, false, false, false, true, true, true, true, true, true, false, false, false, false, false, true, false, false, true, true, true, true, false, false, false, false, false, true, true, true, false, false, false, false, false, false, false, false, false, false, false, false, false, false] rfl rfl (any_of HT_.out (by kernel_rfl)) (fun _ _ _ h => h) (Or.inl ⟨by rfl, ?_⟩) ?_ ?_
 rotate_left
 ·intro w'
  go_simp
  with_reducible rfl
 rotate_left
 ·simp only [Act.put, List.setIfInBounds_toArray, List.set_cons_zero, List.set_cons_succ, i64_w, i32_w]
  rfl
 refine pure_ (i := 34) (N := some 71) (v := ?_) (a' := ?_) #[true, true, true, false, false, false, false, false, true, true, true, true, true, true, false, false, false, false, false, true, false, false, true, true, true, true, false, false, false, false, false, true, true, true, true, false, false, false, false, false, false, false, false, false, false, false, false, false] rfl rfl (any_of HT_.out (by kernel_rfl)) (fun _ _ _ h => h) (Or.inl ⟨by rfl, ?_⟩) ?_ ?_
 rotate_left
 ·intro w'
  go_simp
  with_reducible rfl
 rotate_left
 ·simp only [Act.put, List.setIfInBounds_toArray, List.set_cons_zero, List.set_cons_succ, i64_w, i32_w]
  rfl
 refine pure_ (i := 35) (N := some 72) (v := ?_) (a' := ?_) #[true, true, true, false, false, false, false, false, true, true, true, true, true, true, false, false, false, false, false, true, false, false, true, true, true, true, false, false, false, false, false, true, true, true, true, true, false, false, false, false, false, false, false, false, false, false, false, false] rfl rfl (any_of HT_.out (by kernel_rfl)) (fun _ _ _ h => h) (Or.inl ⟨by rfl, ?_⟩) ?_ ?_
 rotate_left
 ·intro w'
  go_simp
  with_reducible rfl
 rotate_left
 ·simp only [Act.put, List.setIfInBounds_toArray, List.set_cons_zero, List.set_cons_succ, i64_w, i32_w]
  rfl
 refine pure_ (i := 36) (N := some 73) (v := ?_) (a' := ?_) #[true, true, true, false, false, false, false, false, true, true, true, true, true, true, false, false, false, false, false, true, false, false, true, true, true, true, false, false, false, false, false, true, true, true, true, true, true, false, false, false, false, false, false, false, false, false, false, false] rfl rfl (any_of HT_.out (by kernel_rfl)) (fun _ _ _ h => h) (Or.inl ⟨by rfl, ?_⟩) ?_ ?_
 rotate_left
 ·intro w'
  go_simp
  with_reducible rfl
 rotate_left
 ·simp only [Act.put, List.setIfInBounds_toArray, List.set_cons_zero, List.set_cons_succ, i64_w, i32_w]
  rfl
 refine pure_ (i := 42) (N := some 79) (v := ?_) (a' := ?_) #[true, true, true, false, false, false, false, false, true, true, true, true, true, true, false, false, false, false, false, true, false, false, true, true, true, true, false, false, false, false, false, true, true, true, true, true, true, false, false, false, false, false, true, false, false, false, false, false] rfl rfl (any_of HT_.out (by kernel_rfl)) (fun _ _ _ h => h) (Or.inl ⟨by rfl, ?_⟩) ?_ ?_
 rotate_left
 ·intro w'
  go_simp
  with_reducible rfl
 rotate_left
 ·simp only [Act.put, List.setIfInBounds_toArray, List.set_cons_zero, List.set_cons_succ, i64_w, i32_w]
  rfl
 refine take_ (i := 3) (N := some 40) (v := ?_) (a' := ?_) #[true, true, true, true, false, false, false, false, true, true, true, true, true, true, false, false, false, false, false, true, false, false, true, true, true, true, false, false, false, false, false, true, true, true, true, true, true, false, false, false, false, false, true, false, false, false, false, false] rfl rfl (take_ofW HT_.out HW_.out (by kernel_rfl)) (fun _ _ _ h => h) (Or.inl ⟨by rfl, ?_⟩) hHeld ?_ ?_
 rotate_left
 ·rintro w' ⟨s0, s1, s2, s3, s4⟩
  go_simp
  with_reducible rfl
 rotate_left
 ·simp only [Act.put, List.setIfInBounds_toArray, List.set_cons_zero, List.set_cons_succ, i64_w, i32_w]
  rfl
 refine pure_ (i := 4) (N := some 41) (v := ?_) (a' := ?_) #[true, true, true, true, true, false, false, false, true, true, true, true, true, true, false, false, false, false, false, true, false, false, true, true, true, true, false, false, false, false, false, true, true, true, true, true, true, false, false, false, false, false, true, false, false, false, false, false] rfl rfl (any_of HT_.out (by kernel_rfl)) (fun _ _ _ h => h) (Or.inl ⟨by rfl, ?_⟩) ?_ ?_
 rotate_left
 ·intro w'
  go_simp
  with_reducible rfl
 rotate_left
 ·simp only [Act.put, List.setIfInBounds_toArray, List.set_cons_zero, List.set_cons_succ, i64_w, i32_w]
  rfl
 refine pure_ (i := 5) (N := some 42) (v := ?_) (a' := ?_) #[true, true, true, true, true, true, false, false, true, true, true, true, true, true, false, false, false, false, false, true, false, false, true, true, true, true, false, false, false, false, false, true, true, true, true, true, true, false, false, false, false, false, true, false, false, false, false, false] rfl rfl (any_of HT_.out (by kernel_rfl)) (fun _ _ _ h => h) (Or.inl ⟨by rfl, ?_⟩) ?_ ?_
 rotate_left
 ·intro w'
  go_simp
  with_reducible rfl
 rotate_left
 ·simp only [Act.put, List.setIfInBounds_toArray, List.set_cons_zero, List.set_cons_succ, i64_w, i32_w]
  rfl
 refine pure_ (i := 6) (N := some 43) (v := ?_) (a' := ?_) #[true, true, true, true, true, true, true, false, true, true, true, true, true, true, false, false, false, false, false, true, false, false, true, true, true, true, false, false, false, false, false, true, true, true, true, true, true, false, false, false, false, false, true, false, false, false, false, false] rfl rfl (any_of HT_.out (by kernel_rfl)) (fun _ _ _ h => h) (Or.inl ⟨by rfl, ?_⟩) ?_ ?_
 rotate_left
 ·intro w'
  go_simp
  with_reducible rfl
 rotate_left
 ·simp only [Act.put, List.setIfInBounds_toArray, List.set_cons_zero, List.set_cons_succ, i64_w, i32_w]
  rfl
 refine take_ (i := 7) (N := some 44) (v := ?_) (a' := ?_) #[true, true, true, true, true, true, true, true, true, true, true, true, true, true, false, false, false, false, false, true, false, false, true, true, true, true, false, false, false, false, false, true, true, true, true, true, true, false, false, false, false, false, true, false, false, false, false, false] rfl rfl (take_ofW HT_.out HW_.out (by kernel_rfl)) (fun _ _ _ h => h) (Or.inl ⟨by rfl, ?_⟩) hHeld ?_ ?_
 rotate_left
 ·rintro w' ⟨s0, s1, s2, s3, s4⟩
  go_simp
  with_reducible rfl
 rotate_left
 ·simp only [Act.put, List.setIfInBounds_toArray, List.set_cons_zero, List.set_cons_succ, i64_w, i32_w]
  rfl
 refine take_ (i := 14) (N := some 51) (v := ?_) (a' := ?_) #[true, true, true, true, true, true, true, true, true, true, true, true, true, true, true, false, false, false, false, true, false, false, true, true, true, true, false, false, false, false, false, true, true, true, true, true, true, false, false, false, false, false, true, false, false, false, false, false] rfl rfl (take_ofW HT_.out HW_.out (by kernel_rfl)) (fun _ _ _ h => h) (Or.inl ⟨by rfl, ?_⟩) hHeld ?_ ?_
 rotate_left
 ·rintro w' ⟨s0, s1, s2, s3, s4⟩
  go_simp
  with_reducible rfl
 rotate_left
 ·simp only [Act.put, List.setIfInBounds_toArray, List.set_cons_zero, List.set_cons_succ, i64_w, i32_w]
  rfl
 refine pure_ (i := 15) (N := some 52) (v := ?_) (a' := ?_) #[true, true, true, true, true, true, true, true, true, true, true, true, true, true, true, true, false, false, false, true, false, false, true, true, true, true, false, false, false, false, false, true, true, true, true, true, true, false, false, false, false, false, true, false, false, false, false, false] rfl rfl (any_of HT_.out (by kernel_rfl)) (fun _ _ _ h => h) (Or.inl ⟨by rfl, ?_⟩) ?_ ?_
 rotate_left
 ·intro w'
  go_simp
  with_reducible rfl
 rotate_left
 ·simp only [Act.put, List.setIfInBounds_toArray, List.set_cons_zero, List.set_cons_succ, i64_w, i32_w]
  rfl
 refine pure_ (i := 16) (N := some 53) (v := ?_) (a' := ?_) #[true, true, true, true, true, true, true, true, true, true, true, true, true, true, true, true, true, false, false, true, false, false, true, true, true, true, false, false, false, false, false, true, true, true, true, true, true, false, false, false, false, false, true, false, false, false, false, false] rfl rfl (any_of HT_.out (by kernel_rfl)) (fun _ _ _ h => h) (Or.inl ⟨by rfl, ?_⟩) ?_ ?_
 rotate_left
 ·intro w'
  go_simp
  with_reducible rfl
 rotate_left
 ·simp only [Act.put, List.setIfInBounds_toArray, List.set_cons_zero, List.set_cons_succ, i64_w, i32_w]
  rfl
 refine pure_ (i := 17) (N := some 54) (v := ?_) (a' := ?_) #[true, true, true, true, true, true, true, true, true, true, true, true, true, true, true, true, true, true, false, true, false, false, true, true, true, true, false, false, false, false, false, true, true, true, true, true, true, false, false, false, false, false, true, false, false, false, false, false] rfl rfl (any_of HT_.out (by kernel_rfl)) (fun _ _ _ h => h) (Or.inl ⟨by rfl, ?_⟩) ?_ ?_
 rotate_left
 ·intro w'
  go_simp
  with_reducible rfl
 rotate_left
 ·simp only [Act.put, List.setIfInBounds_toArray, List.set_cons_zero, List.set_cons_succ, i64_w, i32_w]
  rfl
 refine take_ (i := 18) (N := some 55) (v := ?_) (a' := ?_) #[true, true, true, true, true, true, true, true, true, true, true, true, true, true, true, true, true, true, true, true, false, false, true, true, true, true, false, false, false, false, false, true, true, true, true, true, true, false, false, false, false, false, true, false, false, false, false, false] rfl rfl (take_ofW HT_.out HW_.out (by kernel_rfl)) (fun _ _ _ h => h) (Or.inl ⟨by rfl, ?_⟩) hHeld ?_ ?_
 rotate_left
 ·rintro w' ⟨s0, s1, s2, s3, s4⟩
  go_simp
  with_reducible rfl
 rotate_left
 ·simp only [Act.put, List.setIfInBounds_toArray, List.set_cons_zero, List.set_cons_succ, i64_w, i32_w]
  rfl
 refine take_ (i := 26) (N := some 63) (v := ?_) (a' := ?_) #[true, true, true, true, true, true, true, true, true, true, true, true, true, true, true, true, true, true, true, true, false, false, true, true, true, true, true, false, false, false, false, true, true, true, true, true, true, false, false, false, false, false, true, false, false, false, false, false] rfl rfl (take_ofW HT_.out HW_.out (by kernel_rfl)) (fun _ _ _ h => h) (Or.inl ⟨by rfl, ?_⟩) hHeld ?_ ?_
 rotate_left
 ·rintro w' ⟨s0, s1, s2, s3, s4⟩
  go_simp
  with_reducible rfl
 rotate_left
 ·simp only [Act.put, List.setIfInBounds_toArray, List.set_cons_zero, List.set_cons_succ, i64_w, i32_w]
  rfl
 refine pure_ (i := 27) (N := some 64) (v := ?_) (a' := ?_) #[true, true, true, true, true, true, true, true, true, true, true, true, true, true, true, true, true, true, true, true, false, false, true, true, true, true, true, true, false, false, false, true, true, true, true, true, true, false, false, false, false, false, true, false, false, false, false, false] rfl rfl (any_of HT_.out (by kernel_rfl)) (fun _ _ _ h => h) (Or.inl ⟨by rfl, ?_⟩) ?_ ?_
 rotate_left
 ·intro w'
  go_simp
  with_reducible rfl
 rotate_left
 ·simp only [Act.put, List.setIfInBounds_toArray, List.set_cons_zero, List.set_cons_succ, i64_w, i32_w]
  rfl
 refine pure_ (i := 28) (N := some 65) (v := ?_) (a' := ?_) #[true, true, true, true, true, true, true, true, true, true, true, true, true, true, true, true, true, true, true, true, false, false, true, true, true, true, true, true, true, false, false, true, true, true, true, true, true, false, false, false, false, false, true, false, false, false, false, false] rfl rfl (any_of HT_.out (by kernel_rfl)) (fun _ _ _ h => h) (Or.inl ⟨by rfl, ?_⟩) ?_ ?_
 rotate_left
 ·intro w'
  go_simp
  with_reducible rfl
 rotate_left
 ·simp only [Act.put, List.setIfInBounds_toArray, List.set_cons_zero, List.set_cons_succ, i64_w, i32_w]
  rfl
 refine pure_ (i := 29) (N := some 66) (v := ?_) (a' := ?_) #[true, true, true, true, true, true, true, true, true, true, true, true, true, true, true, true, true, true, true, true, false, false, true, true, true, true, true, true, true, true, false, true, true, true, true, true, true, false, false, false, false, false, true, false, false, false, false, false] rfl rfl (any_of HT_.out (by kernel_rfl)) (fun _ _ _ h => h) (Or.inl ⟨by rfl, ?_⟩) ?_ ?_
 rotate_left
 ·intro w'
  go_simp
  with_reducible rfl
 rotate_left
 ·simp only [Act.put, List.setIfInBounds_toArray, List.set_cons_zero, List.set_cons_succ, i64_w, i32_w]
  rfl
 refine take_ (i := 30) (N := some 67) (v := ?_) (a' := ?_) #[true, true, true, true, true, true, true, true, true, true, true, true, true, true, true, true, true, true, true, true, false, false, true, true, true, true, true, true, true, true, true, true, true, true, true, true, true, false, false, false, false, false, true, false, false, false, false, false] rfl rfl (take_ofW HT_.out HW_.out (by kernel_rfl)) (fun _ _ _ h => h) (Or.inl ⟨by rfl, ?_⟩) hHeld ?_ ?_
 rotate_left
 ·rintro w' ⟨s0, s1, s2, s3, s4⟩
  go_simp
  with_reducible rfl
 rotate_left
 ·simp only [Act.put, List.setIfInBounds_toArray, List.set_cons_zero, List.set_cons_succ, i64_w, i32_w]
  rfl
 refine take_ (i := 37) (N := some 74) (v := ?_) (a' := ?_) #[true, true, true, true, true, true, true, true, true, true, true, true, true, true, true, true, true, true, true, true, false, false, true, true, true, true, true, true, true, true, true, true, true, true, true, true, true, true, false, false, false, false, true, false, false, false, false, false] rfl rfl (take_ofW HT_.out HW_.out (by kernel_rfl)) (fun _ _ _ h => h) (Or.inl ⟨by rfl, ?_⟩) hHeld ?_ ?_
 rotate_left
 ·rintro w' ⟨s0, s1, s2, s3, s4⟩
  go_simp
  with_reducible rfl
 rotate_left
 ·simp only [Act.put, List.setIfInBounds_toArray, List.set_cons_zero, List.set_cons_succ, i64_w, i32_w]
  rfl
 refine pure_ (i := 38) (N := some 75) (v := ?_) (a' := ?_) #[true, true, true, true, true, true, true, true, true, true, true, true, true, true, true, true, true, true, true, true, false, false, true, true, true, true, true, true, true, true, true, true, true, true, true, true, true, true, true, false, false, false, true, false, false, false, false, false] rfl rfl (any_of HT_.out (by kernel_rfl)) (fun _ _ _ h => h) (Or.inl ⟨by rfl, ?_⟩) ?_ ?_
 rotate_left
 ·intro w'
  go_simp
  with_reducible rfl
 rotate_left
 ·simp only [Act.put, List.setIfInBounds_toArray, List.set_cons_zero, List.set_cons_succ, i64_w, i32_w]
  rfl
 refine pure_ (i := 39) (N := some 76) (v := ?_) (a' := ?_) #[true, true, true, true, true, true, true, true, true, true, true, true, true, true, true, true, true, true, true, true, false, false, true, true, true, true, true, true, true, true, true, true, true, true, true, true, true, true, true, true, false, false, true, false, false, false, false, false] rfl rfl (any_of HT_.out (by kernel_rfl)) (fun _ _ _ h => h) (Or.inl ⟨by rfl, ?_⟩) ?_ ?_
 rotate_left
 ·intro w'
  go_simp
  with_reducible rfl
 rotate_left
 ·simp only [Act.put, List.setIfInBounds_toArray, List.set_cons_zero, List.set_cons_succ, i64_w, i32_w]
  rfl
 refine pure_ (i := 40) (N := some 77) (v := ?_) (a' := ?_) #[true, true, true, true, true, true, true, true, true, true, true, true, true, true, true, true, true, true, true, true, false, false, true, true, true, true, true, true, true, true, true, true, true, true, true, true, true, true, true, true, true, false, true, false, false, false, false, false] rfl rfl (any_of HT_.out (by kernel_rfl)) (fun _ _ _ h => h) (Or.inl ⟨by rfl, ?_⟩) ?_ ?_
 rotate_left
 ·intro w'
  go_simp
  with_reducible rfl
 rotate_left
 ·simp only [Act.put, List.setIfInBounds_toArray, List.set_cons_zero, List.set_cons_succ, i64_w, i32_w]
  rfl
 refine take_ (i := 41) (N := some 78) (v := ?_) (a' := ?_) #[true, true, true, true, true, true, true, true, true, true, true, true, true, true, true, true, true, true, true, true, false, false, true, true, true, true, true, true, true, true, true, true, true, true, true, true, true, true, true, true, true, true, true, false, false, false, false, false] rfl rfl (take_ofW HT_.out HW_.out (by kernel_rfl)) (fun _ _ _ h => h) (Or.inl ⟨by rfl, ?_⟩) hHeld ?_ ?_
 rotate_left
 ·rintro w' ⟨s0, s1, s2, s3, s4⟩
  go_simp
  with_reducible rfl
 rotate_left
 ·simp only [Act.put, List.setIfInBounds_toArray, List.set_cons_zero, List.set_cons_succ, i64_w, i32_w]
  rfl
 refine one_ (i := 20) (N := some 57) #[true, true, true, true, true, true, true, true, true, true, true, true, true, true, true, true, true, true, true, true, true, false, true, true, true, true, true, true, true, true, true, true, true, true, true, true, true, true, true, true, true, true, true, false, false, false, false, false] rfl rfl (one_of HT_.out (by kernel_rfl)) (by decide) (fun K hK => ?_)
 refine goesT_ Try.func100 (by kernel_rfl) rfl #[.int .i64 b, .pointer (some ⟨gh, 0, none⟩)] (by rfl) rfl rfl rfl (by simp only [List.map_toArray, List.map_cons, List.map_nil]; rfl) ?_
 with_reducible refine (mooring_high.calls b (Int.le_trans (by decide) RB.out) RB2.out gh _ BH.out).mono ?_
 rintro e w' ⟨rfl, ⟨nd, rfl⟩⟩
 refine ⟨_, rfl, ?_⟩
 refine hK.out _ _ ⟨((blk_cell BS.out 0).trans rfl), ((blk_cell BF.out 4).trans rfl), ((blk_cell BF.out 5).trans rfl), ((blk_cell BF.out 6).trans rfl), ((blk_cell BF.out 7).trans rfl)⟩ (fun hHeld => ?_)
 clear hK K
 refine norm_ (a' := ?_) ?_ ?_
 rotate_left
 ·show Act.put _ (some 57) _ = _
  simp only [Act.put, List.setIfInBounds_toArray, List.set_cons_zero, List.set_cons_succ, i64_w, i32_w]
  rfl
 refine one_ (i := 21) (N := some 58) #[true, true, true, true, true, true, true, true, true, true, true, true, true, true, true, true, true, true, true, true, true, true, true, true, true, true, true, true, true, true, true, true, true, true, true, true, true, true, true, true, true, true, true, false, false, false, false, false] rfl rfl (one_of HT_.out (by kernel_rfl)) (by decide) (fun K hK => ?_)
 refine goesT_ Try.func98 (by kernel_rfl) rfl #[.int .i64 (wrap64 (l * v)), .int .i64 (Moor.rootUp b)] (by rfl) rfl rfl rfl (by simp only [List.map_toArray, List.map_cons, List.map_nil]; rfl) ?_
 with_reducible refine (mooring_rounds_2.calls _ _ x _ HQ0.out).mono ?_
 rintro e w' ⟨rfl, ⟨nd2, rfl⟩⟩
 refine ⟨_, rfl, ?_⟩
 refine hK.out _ _ ⟨((blk_cell BS.out 0).trans rfl), ((blk_cell BF.out 4).trans rfl), ((blk_cell BF.out 5).trans rfl), ((blk_cell BF.out 6).trans rfl), ((blk_cell BF.out 7).trans rfl)⟩ (fun hHeld => ?_)
 clear hK K
 refine norm_ (a' := ?_) ?_ ?_
 rotate_left
 ·show Act.put _ (some 58) _ = _
  simp only [Act.put, List.setIfInBounds_toArray, List.set_cons_zero, List.set_cons_succ, i64_w, i32_w]
  rfl
 refine one_ (i := 43) (N := some 80) #[true, true, true, true, true, true, true, true, true, true, true, true, true, true, true, true, true, true, true, true, true, true, true, true, true, true, true, true, true, true, true, true, true, true, true, true, true, true, true, true, true, true, true, true, false, false, false, false] rfl rfl (one_of HT_.out (by kernel_rfl)) (by decide) (fun K hK => ?_)
 refine goesT_ Try.func97 (by kernel_rfl) rfl #[.int .i64 a] (by rfl) rfl rfl rfl (by simp only [List.map_toArray, List.map_cons, List.map_nil]; rfl) ?_
 with_reducible refine (mooring_low.calls a (Int.le_trans (by decide) RA.out) RA2.out _).mono ?_
 rintro e w' ⟨rfl, ⟨nd3, rfl⟩⟩
 refine ⟨_, rfl, ?_⟩
 refine hK.out _ _ ⟨((blk_cell BS.out 0).trans rfl), ((blk_cell BF.out 4).trans rfl), ((blk_cell BF.out 5).trans rfl), ((blk_cell BF.out 6).trans rfl), ((blk_cell BF.out 7).trans rfl)⟩ (fun hHeld => ?_)
 clear hK K
 refine norm_ (a' := ?_) ?_ ?_
 rotate_left
 ·show Act.put _ (some 80) _ = _
  simp only [Act.put, List.setIfInBounds_toArray, List.set_cons_zero, List.set_cons_succ, i64_w, i32_w]
  rfl
 refine one_ (i := 44) (N := some 81) #[true, true, true, true, true, true, true, true, true, true, true, true, true, true, true, true, true, true, true, true, true, true, true, true, true, true, true, true, true, true, true, true, true, true, true, true, true, true, true, true, true, true, true, true, true, false, false, false] rfl rfl (one_of HT_.out (by kernel_rfl)) (by decide) (fun K hK => ?_)
 refine goesT_ Try.func99 (by kernel_rfl) rfl #[.int .i64 (wrap64 (l * v)), .int .i64 (Moor.root a)] (by rfl) rfl rfl rfl (by simp only [List.map_toArray, List.map_cons, List.map_nil]; rfl) ?_
 with_reducible refine (mooring_rounds_3.calls _ _ y _ HQ1.out).mono ?_
 rintro e w' ⟨rfl, ⟨nd4, rfl⟩⟩
 refine ⟨_, rfl, ?_⟩
 refine hK.out _ _ ⟨((blk_cell BS.out 0).trans rfl), ((blk_cell BF.out 4).trans rfl), ((blk_cell BF.out 5).trans rfl), ((blk_cell BF.out 6).trans rfl), ((blk_cell BF.out 7).trans rfl)⟩ (fun hHeld => ?_)
 clear hK K
 refine norm_ (a' := ?_) ?_ ?_
 rotate_left
 ·show Act.put _ (some 81) _ = _
  simp only [Act.put, List.setIfInBounds_toArray, List.set_cons_zero, List.set_cons_succ, i64_w, i32_w]
  rfl
 refine pure_ (i := 45) (N := some 82) (v := ?_) (a' := ?_) #[true, true, true, true, true, true, true, true, true, true, true, true, true, true, true, true, true, true, true, true, true, true, true, true, true, true, true, true, true, true, true, true, true, true, true, true, true, true, true, true, true, true, true, true, true, true, false, false] rfl rfl (any_of HT_.out (by kernel_rfl)) (fun _ _ _ h => h) (Or.inl ⟨by rfl, ?_⟩) ?_ ?_
 rotate_left
 ·intro w'
  go_simp
  with_reducible rfl
 rotate_left
 ·simp only [Act.put, List.setIfInBounds_toArray, List.set_cons_zero, List.set_cons_succ, i64_w, i32_w]
  rfl
 refine pure_ (i := 46) (N := some 83) (v := ?_) (a' := ?_) #[true, true, true, true, true, true, true, true, true, true, true, true, true, true, true, true, true, true, true, true, true, true, true, true, true, true, true, true, true, true, true, true, true, true, true, true, true, true, true, true, true, true, true, true, true, true, true, false] rfl rfl (any_of HT_.out (by kernel_rfl)) (fun _ _ _ h => h) (Or.inl ⟨by rfl, ?_⟩) ?_ ?_
 rotate_left
 ·intro w'
  go_simp
  with_reducible rfl
 rotate_left
 ·simp only [Act.put, List.setIfInBounds_toArray, List.set_cons_zero, List.set_cons_succ, i64_w, i32_w]
  rfl
 refine one_ (i := 47) (N := none) #[true, true, true, true, true, true, true, true, true, true, true, true, true, true, true, true, true, true, true, true, true, true, true, true, true, true, true, true, true, true, true, true, true, true, true, true, true, true, true, true, true, true, true, true, true, true, true, true] rfl rfl (one_of HT_.out (by kernel_rfl)) (by decide) (fun K hK => ?_)
 clear hHeld
 have hz0 := (blk_cell BT.out 0).trans rfl
 have hz1 := (blk_cell BT.out 1).trans rfl
 have hf0 := blk_frozen BT.out 0
 have hf1 := blk_frozen BT.out 1
 refine skip_ (w1 := ?_) (by rfl) rfl ?_ ?_
 rotate_left
 ·go_simp
  rfl
 clear hz0 hz1 hf0 hf1
 have n1 := Aside0.mk (blk_far (p := ⟨gt, 1, none⟩) (blk_far (p := ⟨gt, 0, none⟩) (blk_drewN BS.out (nd + nd2 + nd3 + nd4)) NE1.out (.int .i64 x)) NE1.out (.int .i64 (if y < l then y else l)))
 have n2 := Aside0.mk (blk_far (p := ⟨gt, 1, none⟩) (blk_far (p := ⟨gt, 0, none⟩) (blk_drewN BF.out (nd + nd2 + nd3 + nd4)) NE2.out (.int .i64 x)) NE2.out (.int .i64 (if y < l then y else l)))
 have n3 := Aside0.mk (below_set (j := 1) (v := .int .i64 (if y < l then y else l)) (below_set (j := 0) (v := .int .i64 x) (pw_below_drewN HB.out (nd + nd2 + nd3 + nd4)) GE.out) GE.out)
 have n4 := Aside0.mk (blk_put (cs' := #[.int .i64 x, .int .i64 (if y < l then y else l)]) (blk_put (cs' := #[.int .i64 x, .int .i64 0]) (blk_drewN BT.out (nd + nd2 + nd3 + nd4)) 0 (.int .i64 x) rfl) 1 (.int .i64 (if y < l then y else l)) rfl)
 clear BS BF HB BT
 have BS := n1
 have BF := n2
 have HB := n3
 have BT := n4
 clear n1 n2 n3 n4
 refine hK.out _ _ ⟨((blk_cell BS.out 0).trans rfl), ((blk_cell BF.out 4).trans rfl), ((blk_cell BF.out 5).trans rfl), ((blk_cell BF.out 6).trans rfl), ((blk_cell BF.out 7).trans rfl)⟩ (fun hHeld => ?_)
 clear hK K
 refine done_ (done_of HT_.out (by kernel_rfl)) ?_
 clear hHeld
 rw [HZ.out] at BT HB ⊢
 go_wp2
 refine bodyPost_ret (results_cell_row rfl _ _ gt 57 _ (0, 0) _ rfl BT.out hu57 rfl (by kernel_rfl)) rfl ?_
 exact ⟨rfl, HB.out⟩
end Go.Proofs.Ytebcmhajbjkojaa.P
namespace Go.Proofs.Ytebcmhajbjkojaa.P
open Go.RowKit Go.Proofs.YtebcmhajbjkojaaW.PrintWords Go.Proofs.YtebcmhajbjkojaaW.PrintLast Go.Proofs.YtebcmhajbjkojaaW.PrintMore
attribute [local go_sem] max2_int min2_int max_two min_two max_three min_three max_four min_four   -- for this text's walks alone
set_option linter.unusedVariables false
set_option linter.unusedSimpArgs false
theorem mooring_gives_tension {d an fr : Int} {els : List S46} {cs : List S57} {A : Option Addr} {c gs : Nat} {free : Bool} {w : World} (h : IsShape w gs A c d an fr els (Moor.on els cs) (Moor.lifts els) (Moor.pulls free (Moor.on els cs))) (hk : Moor.Ok d els an fr cs) (hs : Moor.stands els = true) : Gives w 78 gs els.length (Moor.tensAt (Moor.pulls free (Moor.on els cs)) (Moor.lifts els)) := by
 refine ⟨⟨_, Try.func78, by kernel_rfl, rfl⟩, fun i hi w1 hb => ?_⟩
 obtain ⟨h1, h2, h3, h4, h5, h6⟩ := hk.at hs free hi
 exact mooring_tension.calls A c gs i _ _ w1 (h.below hb) h2 h3 h4
theorem mooring_gives_offset {d an fr : Int} {els : List S46} {cs : List S57} {A : Option Addr} {c gs : Nat} {free : Bool} {w : World} (h : IsShape w gs A c d an fr els (Moor.on els cs) (Moor.lifts els) (Moor.pulls free (Moor.on els cs))) (hk : Moor.Ok d els an fr cs) (hs : Moor.stands els = true) : Gives w 63 gs els.length (Moor.offsAt els (Moor.pulls free (Moor.on els cs)) (Moor.lifts els)) := by
 refine ⟨⟨_, Try.func63, by kernel_rfl, rfl⟩, fun i hi w1 hb => ?_⟩
 obtain ⟨h1, h2, h3, h4, h5, h6⟩ := hk.at hs free hi
 exact mooring_offset.calls A c gs i _ _ _ w1 (h.below hb) h1 h2 h3 h4 h5 h6
theorem mooring_gives_rise {d an fr : Int} {els : List S46} {cs : List S57} {A : Option Addr} {c gs : Nat} {free : Bool} {w : World} (h : IsShape w gs A c d an fr els (Moor.on els cs) (Moor.lifts els) (Moor.pulls free (Moor.on els cs))) (hk : Moor.Ok d els an fr cs) (hs : Moor.stands els = true) : Gives w 64 gs els.length (Moor.riseAt els (Moor.pulls free (Moor.on els cs)) (Moor.lifts els)) := by
 refine ⟨⟨_, Try.func64, by kernel_rfl, rfl⟩, fun i hi w1 hb => ?_⟩
 obtain ⟨h1, h2, h3, h4, h5, h6⟩ := hk.at hs free hi
 exact mooring_rise.calls A c gs i _ _ _ w1 (h.below hb) h1 h2 h3 h4 h5 h6
end Go.Proofs.Ytebcmhajbjkojaa.P
namespace Go.Proofs.Ytebcmhajbjkojaa.P
open Go.RowKit Go.Proofs.YtebcmhajbjkojaaW.PrintWords Go.Proofs.YtebcmhajbjkojaaW.PrintLast Go.Proofs.YtebcmhajbjkojaaW.PrintMore
attribute [local go_sem] max2_int min2_int max_two min_two max_three min_three max_four min_four   -- for this text's walks alone
set_option linter.unusedVariables false
set_option linter.unusedSimpArgs false
def PullRel (w : World) (gm : Nat) (free : Bool) (on : List S57) (kq : Nat) (v5 v7 v16 : Value) (w' : World) : Prop :=
 ∃ j : Nat, kq + j = on.length ∧ v7 = .int .i64 (Moor.most 0 (on.take j)) ∧ v16 = .int .i64 (j : Int) ∧
  w'.heap[gm]? = some (.cells #[.int .i64 (Moor.slo (on.take j)), .int .i64 (Moor.shi (on.take j))] 57 (0, 0)) ∧
  Kd.R k57 57 w' w.heap.size (fun k => k ≠ gm) v5 (Moor.pulls free (on.take j)) ∧ Below w.heap.size w w'
theorem PullRel.next {w w' : World} {gm : Nat} {free : Bool} {on : List S57} {kq j : Nat} {v5 : Value} {mo s0 s1 : Int} {p : S57} {i : Int}
  (hj : kq + (j + 1) = on.length) (hm : mo = Moor.most 0 (on.take (j + 1))) (hi : ((j + 1 : Nat) : Int) = i) (h0 : s0 = Moor.slo (on.take (j + 1))) (h1 : s1 = Moor.shi (on.take (j + 1)))
  (hb : w'.heap[gm]? = some (.cells #[.int .i64 s0, .int .i64 s1] 57 (0, 0)))
  (hp : Moor.pulls free (on.take (j + 1)) = Moor.pulls free (on.take j) ++ [p])
  (hr : Kd.R k57 57 w' w.heap.size (fun k => k ≠ gm) v5 (Moor.pulls free (on.take j) ++ [p])) (hB : Below w.heap.size w w') : PullRel w gm free on kq v5 (.int .i64 mo) (.int .i64 i) w' := by
 subst hm; subst hi; subst h0; subst h1
 rw [← hp] at hr
 exact ⟨j + 1, hj, rfl, rfl, hb, hr, hB⟩
theorem Moor.pulls_small {on : List S57} {free : Bool} {i : Nat} (h : on.length ≤ 40) : ((Moor.pulls free (on.take i)).length + 1) * 16 ≤ 140737488355328 := by
 rw [Moor.pulls_length, List.length_take]
 omega
set_option maxHeartbeats 16000000 in
set_option maxRecDepth 100000 in
theorem mooring_pulls.calls {d an fr : Int} {els : List S46} {on : List S57} {li : List Int} (A : Option Addr) (c : Nat) (g : Nat) (free : Bool) (w : World) (h : IsForces w g A c d an fr els on li) (h40 : on.length ≤ 40) (hon : ∀ x ∈ on, Moor.onB x) :
  Calls Try.prog 60 #[.pointer (some ⟨g, 0, none⟩), .bool free] w fun e w' => ∃ v, e = .returned v ∧ Kd.R k57 57 w' w.heap.size (fun _ => True) v (Moor.pulls free on) ∧ Below w.heap.size w w' := by
 have hu57 := Try.underlying57
 have hu98 := Try.underlying98
 obtain ⟨gh, A2, c2, A3, c3, h2, h3, h4, h5, h6, h7, h8⟩ := h
 have BF := Aside0.mk h2
 have HO := Aside0.mk h5
 have HON := Aside0.mk hon
 have hz8 := (blk_cell h2 8).trans rfl
 clear h2 h3 h4 h5 h6 h7 h8 hon
 go_enter Try.func60, Try.ntmps60
 go_wp2_with ((with_reducible refine gate_dst (N := 6) rfl ?_); refine box_event ?hg (N := 6) ?hd (cs := #[.int .i64 0, .int .i64 0]) (t := 57) ?hr ?_; (case hd => rfl); (case hg => rfl); (case hr => first | (go_simp; done) | (go_simp; rfl)); intro gm hgm w1 hbm hb0; have GE1 : Aside0 (w.heap.size ≤ gm) := ⟨Nat.le_of_eq hgm.symm⟩; have BM := Aside0.mk hbm; have HB := Aside0.mk hb0; have n1 := Aside0.mk (blk_below BF.out hb0); clear BF hgm hbm hb0 hz8; have BF := n1; clear n1; have hz8 := (blk_cell BF.out 8).trans rfl)
 go_loopg [5, 7, 16] on.length (fun kq v5 v7 v16 w' => PullRel w gm free on kq v5 v7 v16 w')
 case atStart => exact ⟨0, rfl, rfl, rfl, BM.out, Kd.R_nil _ _ _ _ _, HB.out⟩
 case round =>
  clear BM BF HB hz8
  obtain ⟨j, hj, rfl, rfl, BM0, RO0, HB0⟩ := hrel
  have BM := Aside0.mk BM0
  have RO := Aside0.mk RO0
  have HB := Aside0.mk HB0
  have HJ := Aside0.mk hj
  clear BM0 RO0 HB0 hj
  by_cases hlt : j < on.length
  ·have HLT := Aside0.mk hlt
   have c3 : decide ((j : Int) < (on.length : Int)) = true := decide_eq_true (by omega)
   have c3n : decide (j < on.length) = true := decide_eq_true hlt
   have p1 : (0 : Int) ≤ (j : Int) := by omega
   have q1 : (j : Int) < (on.length : Int) := by omega
   obtain ⟨ad1, e1, hx0, hx1⟩ := at_T57 HO.out (j : Int) p1 q1
   cases e1
   replace hx0 := (HB.out.cell (World.block_lt_of_cell? w _ hx0)).trans hx0
   replace hx1 := (HB.out.cell (World.block_lt_of_cell? w _ hx1)).trans hx1
   rw [Moor.rdS hlt] at hx0 hx1
   obtain ⟨x, hx⟩ : ∃ x, on[j]? = some x := ⟨_, List.getElem?_eq_getElem hlt⟩
   have hx2 : on[j] = x := by rw [List.getElem?_eq_getElem hlt] at hx; exact Option.some.inj hx
   rw [hx2] at hx0 hx1
   simp only [Int.toNat_natCast] at hx0 hx1
   have hxb := HON.out x (by rw [← hx2]; exact List.getElem_mem hlt)
   have HX := Aside0.mk hx
   have b1 := Moor.slo_bound (on := on.take j) (fun y hy => HON.out y (List.mem_of_mem_take hy))
   have b2 := Moor.most_bound (on := on.take j) (fun y hy => HON.out y (List.mem_of_mem_take hy)) 0 (by omega) (by omega)
   have b3 : (on.take j).length ≤ 40 := by rw [List.length_take]; omega
   obtain ⟨b4, b5, b6⟩ := hxb
   have T0 := Moor.slo_take HX.out
   have T1 := Moor.shi_take HX.out
   have T2 := Moor.most_take HX.out
   have T3 := Moor.pulls_take free HX.out
   generalize hsl : Moor.slo (on.take j) = sl at *
   generalize hsh : Moor.shi (on.take j) = sh at *
   generalize hmm : Moor.most 0 (on.take j) = m at *
   obtain ⟨s0, hs0⟩ : ∃ s0, s0 = sl + x.f0 := ⟨_, rfl⟩
   obtain ⟨s1, hs1⟩ : ∃ s1, s1 = sh + x.f1 := ⟨_, rfl⟩
   obtain ⟨t, ht⟩ : ∃ t, t = x.f0 + x.f1 := ⟨_, rfl⟩
   obtain ⟨mo, hmo⟩ : ∃ mo, mo = max m t := ⟨_, rfl⟩
   obtain ⟨u, hu⟩ : ∃ u, u = mo - s1 := ⟨_, rfl⟩
   obtain ⟨z, hz⟩ : ∃ z, z = max 0 u := ⟨_, rfl⟩
   have d0 : IntKind.i64.wrap (sl + x.f0) = s0 := by rw [i64_w, wrap_id (by omega) (by omega), hs0]
   have d1 : IntKind.i64.wrap (sh + x.f1) = s1 := by rw [i64_w, wrap_id (by omega) (by omega), hs1]
   have d2 : IntKind.i64.wrap (x.f0 + x.f1) = t := by rw [i64_w, wrap_id (by omega) (by omega), ht]
   have d3 : (if m < t then t else m) = mo := by
    by_cases c : m < t
    ·rw [if_pos c]; omega
    ·rw [if_neg c]; omega
   have d4 : IntKind.i64.wrap (mo - s1) = u := by rw [i64_w, wrap_id (by omega) (by omega), hu]
   have d5 : (if 0 < u then u else 0) = z := by
    by_cases c : 0 < u
    ·rw [if_pos c]; omega
    ·rw [if_neg c]; omega
   have T0 := Aside0.mk T0
   have T1 := Aside0.mk T1
   have T2 := Aside0.mk T2
   have T3 := Aside0.mk T3
   have HS0 := Aside0.mk hs0
   have HS1 := Aside0.mk hs1
   have HT := Aside0.mk ht
   have HMO := Aside0.mk hmo
   have HU := Aside0.mk hu
   have HZ := Aside0.mk hz
   clear hlt hx hx2 b1 b2 b3 b4 b5 b6 hsl hsh hmm hs0 hs1 ht hmo hu hz
   cases free with
   | true =>
    go_wp2_with (first | ((with_reducible refine gate_dst (N := 9) rfl ?_); refine box_event ?hg (N := 9) ?hd (cs := #[.int .i64 0, .int .i64 0]) (t := 57) ?hr ?_; (case hd => rfl); (case hg => rfl); (case hr => first | (go_simp; done) | (go_simp; rfl)); intro gx hgx w2 hbx hb2; have n1 := Aside0.mk (blk_below BM.out hb2); have n2 := Aside0.mk (below_step HB.out hb2); have n3 := Aside0.mk (Kd.R_below (Kd.R_mono (ok' := fun k => k ≠ gm ∧ k ≠ gx) (Kd.R_bound RO.out) (fun k hk => ⟨hk.1, by have := hk.2.2.1; omega⟩)) hb2); have BX := Aside0.mk hbx; have GE2 : Aside0 (w.heap.size ≤ gx) := ⟨by rw [hgx]; exact below_size HB.out⟩; have NE1 : Aside0 (gm ≠ gx) := ⟨by rw [hgx]; exact Nat.ne_of_lt (blk_lt BM.out)⟩; have NE2 : Aside0 (gx ≠ gm) := ⟨Ne.symm NE1.out⟩; clear BM HB RO hgx hbx hb2 hx0 hx1; have BM := n1; have HB := n2; have RO := n3; clear n1 n2 n3; have hn1 := NE1.out; have hn2 := NE2.out; have hz0 := (blk_cell BM.out 0).trans rfl; have hz1 := (blk_cell BM.out 1).trans rfl; have hz2 := (blk_cell BX.out 0).trans rfl; have hz3 := (blk_cell BX.out 1).trans rfl; have hf0 := blk_frozen BM.out 0; have hf1 := blk_frozen BM.out 1; have hf2 := blk_frozen BX.out 0; have hf3 := blk_frozen BX.out 1) | ((with_reducible refine gate_dst (N := 10) rfl ?_); refine box_event ?hg (N := 10) ?hd (cs := #[.int .i64 0, .int .i64 0]) (t := 57) ?hr ?_; (case hd => rfl); (case hg => rfl); (case hr => first | (go_simp; done) | (go_simp; rfl)); intro gp hgp w3 hbp hb3; have m1 := (blk_put (cs' := #[.int .i64 s0, .int .i64 s1]) (blk_put (cs' := #[.int .i64 s0, .int .i64 sh]) (blk_far (p := ⟨gx, 1, none⟩) (blk_far (p := ⟨gx, 0, none⟩) BM.out NE1.out (.int .i64 x.f0)) NE1.out (.int .i64 x.f1)) 0 (.int .i64 s0) rfl) 1 (.int .i64 s1) rfl); have m2 := (below_set (j := 1) (v := .int .i64 s1) (below_set (j := 0) (v := .int .i64 s0) (below_set (j := 1) (v := .int .i64 x.f1) (below_set (j := 0) (v := .int .i64 x.f0) HB.out GE2.out) GE2.out) GE1.out) GE1.out); have m3 := (Kd.R_far (p := ⟨gm, 1, none⟩) (Kd.R_far (p := ⟨gm, 0, none⟩) (Kd.R_far (p := ⟨gx, 1, none⟩) (Kd.R_far (p := ⟨gx, 0, none⟩) RO.out (fun _ hk => hk.2) (.int .i64 x.f0)) (fun _ hk => hk.2) (.int .i64 x.f1)) (fun _ hk => hk.1) (.int .i64 s0)) (fun _ hk => hk.1) (.int .i64 s1)); have n1 := Aside0.mk (blk_below m1 hb3); have n2 := Aside0.mk (below_step m2 hb3); have n3 := Aside0.mk (Kd.R_below (Kd.R_mono (ok' := fun k => k ≠ gm ∧ k ≠ gp) (Kd.R_bound m3) (fun k hk => ⟨hk.1.1, by have := hk.2.2.1; omega⟩)) hb3); have BP := Aside0.mk hbp; have GE3 : Aside0 (w.heap.size ≤ gp) := ⟨by rw [hgp]; exact below_size m2⟩; have NE3 : Aside0 (gm ≠ gp) := ⟨by rw [hgp]; exact Nat.ne_of_lt (blk_lt m1)⟩; have NE4 : Aside0 (gp ≠ gm) := ⟨Ne.symm NE3.out⟩; clear m1 m2 m3 BM HB RO BX hgp hbp hb3 hz0 hz1 hz2 hz3 hf0 hf1 hf2 hf3 hn1 hn2; have BM := n1; have HB := n2; have RO := n3; clear n1 n2 n3; have hn3 := NE3.out; have hn4 := NE4.out; have hz0 := (blk_cell BM.out 0).trans rfl; have hz1 := (blk_cell BM.out 1).trans rfl; have hz2 := (blk_cell BP.out 0).trans rfl; have hz3 := (blk_cell BP.out 1).trans rfl; have hf2 := blk_frozen BP.out 0; have hf3 := blk_frozen BP.out 1) | ((with_reducible refine gate_builtin (b := .append) (xs := #[.tmp 47, .tmp 49]) rfl ?_); at_builtin; have n1 := Aside0.mk (blk_far (p := ⟨gp, 0, none⟩) (blk_far (p := ⟨gp, 1, none⟩) (blk_far (p := ⟨gp, 0, none⟩) BM.out NE3.out (.int .i64 s0)) NE3.out (.int .i64 s1)) NE3.out (.int .i64 z)); have n2 := Aside0.mk (below_set (j := 0) (v := .int .i64 z) (below_set (j := 1) (v := .int .i64 s1) (below_set (j := 0) (v := .int .i64 s0) HB.out GE3.out) GE3.out) GE3.out); have n3 := Aside0.mk (Kd.R_mono (ok' := fun k => k ≠ gm) (Kd.R_far (p := ⟨gp, 0, none⟩) (Kd.R_far (p := ⟨gp, 1, none⟩) (Kd.R_far (p := ⟨gp, 0, none⟩) RO.out (fun _ hk => hk.2) (.int .i64 s0)) (fun _ hk => hk.2) (.int .i64 s1)) (fun _ hk => hk.2) (.int .i64 z)) (fun k hk => hk.1)); clear BM HB RO BP hz0 hz1 hz2 hz3 hf2 hf3 hn3 hn4; have BM := n1; have HB := n2; have RO := n3; clear n1 n2 n3; refine Kd.R_append k57 (w0 := w) w.heap.size rfl (.tmp 47) (.tmp 49) 48 57 (.agg #[(.int .i64 0), (.int .i64 0)]) 16 rfl Try.underlying48 info57 rfl (by decide) (by omega) u5 (Moor.pulls true (on.take j)) ⟨z, s1⟩ [.int .i64 z, .int .i64 s1] (fun k => k ≠ gm) (fun _ => False) rfl (by first | rfl | (go_simp; done) | (go_simp; rfl)) ?aP (fun _ hk => hk.elim) ?aF ?aO ?aB ?aS ?aL ?_; (case aP => exact k57_mkM _ _ _ ⟨z, s1⟩); (case aF => exact fun k hk => Ne.symm (Nat.ne_of_lt (Nat.lt_of_lt_of_le (blk_lt BM.out) hk))); (case aO => exact RO.out); (case aB => exact HB.out); (case aS => exact below_size HB.out); (case aL => exact Moor.pulls_small h40); intro v2 w10 ho hb hg hat; have n1 := Aside0.mk (blk_grown BM.out hg (fun e => RO.out.1 gm e.symm rfl)); have n2 := Aside0.mk hb; have n3 := Aside0.mk ho; clear BM HB RO ho hb hg hat; have BM := n1; have HB := n2; have RO := n3; clear n1 n2 n3))
    obtain ⟨k1, rfl⟩ : ∃ k1, gk = k1 + 1 := ⟨gk - 1, by have := HJ.out; have := HLT.out; omega⟩
    go_roundg k1
    case measure => omega
    case rel => exact PullRel.next (by have := HJ.out; omega) (HMO.out.trans (by rw [T2.out, HT.out])) rfl (HS0.out.trans T0.out.symm) (HS1.out.trans T1.out.symm) BM.out (by rw [T3.out]; simp only [if_true, Bool.false_eq_true, if_false]; rw [HZ.out, HU.out, HMO.out, HT.out, HS1.out]) RO.out HB.out
   | false =>
    go_wp2_with (first | ((with_reducible refine gate_dst (N := 9) rfl ?_); refine box_event ?hg (N := 9) ?hd (cs := #[.int .i64 0, .int .i64 0]) (t := 57) ?hr ?_; (case hd => rfl); (case hg => rfl); (case hr => first | (go_simp; done) | (go_simp; rfl)); intro gx hgx w2 hbx hb2; have n1 := Aside0.mk (blk_below BM.out hb2); have n2 := Aside0.mk (below_step HB.out hb2); have n3 := Aside0.mk (Kd.R_below (Kd.R_mono (ok' := fun k => k ≠ gm ∧ k ≠ gx) (Kd.R_bound RO.out) (fun k hk => ⟨hk.1, by have := hk.2.2.1; omega⟩)) hb2); have BX := Aside0.mk hbx; have GE2 : Aside0 (w.heap.size ≤ gx) := ⟨by rw [hgx]; exact below_size HB.out⟩; have NE1 : Aside0 (gm ≠ gx) := ⟨by rw [hgx]; exact Nat.ne_of_lt (blk_lt BM.out)⟩; have NE2 : Aside0 (gx ≠ gm) := ⟨Ne.symm NE1.out⟩; clear BM HB RO hgx hbx hb2 hx0 hx1; have BM := n1; have HB := n2; have RO := n3; clear n1 n2 n3; have hn1 := NE1.out; have hn2 := NE2.out; have hz0 := (blk_cell BM.out 0).trans rfl; have hz1 := (blk_cell BM.out 1).trans rfl; have hz2 := (blk_cell BX.out 0).trans rfl; have hz3 := (blk_cell BX.out 1).trans rfl; have hf0 := blk_frozen BM.out 0; have hf1 := blk_frozen BM.out 1; have hf2 := blk_frozen BX.out 0; have hf3 := blk_frozen BX.out 1) | ((with_reducible refine gate_dst (N := 10) rfl ?_); refine box_event ?hg (N := 10) ?hd (cs := #[.int .i64 0, .int .i64 0]) (t := 57) ?hr ?_; (case hd => rfl); (case hg => rfl); (case hr => first | (go_simp; done) | (go_simp; rfl)); intro gp hgp w3 hbp hb3; have m1 := (blk_put (cs' := #[.int .i64 s0, .int .i64 s1]) (blk_put (cs' := #[.int .i64 s0, .int .i64 sh]) (blk_far (p := ⟨gx, 1, none⟩) (blk_far (p := ⟨gx, 0, none⟩) BM.out NE1.out (.int .i64 x.f0)) NE1.out (.int .i64 x.f1)) 0 (.int .i64 s0) rfl) 1 (.int .i64 s1) rfl); have m2 := (below_set (j := 1) (v := .int .i64 s1) (below_set (j := 0) (v := .int .i64 s0) (below_set (j := 1) (v := .int .i64 x.f1) (below_set (j := 0) (v := .int .i64 x.f0) HB.out GE2.out) GE2.out) GE1.out) GE1.out); have m3 := (Kd.R_far (p := ⟨gm, 1, none⟩) (Kd.R_far (p := ⟨gm, 0, none⟩) (Kd.R_far (p := ⟨gx, 1, none⟩) (Kd.R_far (p := ⟨gx, 0, none⟩) RO.out (fun _ hk => hk.2) (.int .i64 x.f0)) (fun _ hk => hk.2) (.int .i64 x.f1)) (fun _ hk => hk.1) (.int .i64 s0)) (fun _ hk => hk.1) (.int .i64 s1)); have n1 := Aside0.mk (blk_below m1 hb3); have n2 := Aside0.mk (below_step m2 hb3); have n3 := Aside0.mk (Kd.R_below (Kd.R_mono (ok' := fun k => k ≠ gm ∧ k ≠ gp) (Kd.R_bound m3) (fun k hk => ⟨hk.1.1, by have := hk.2.2.1; omega⟩)) hb3); have BP := Aside0.mk hbp; have GE3 : Aside0 (w.heap.size ≤ gp) := ⟨by rw [hgp]; exact below_size m2⟩; have NE3 : Aside0 (gm ≠ gp) := ⟨by rw [hgp]; exact Nat.ne_of_lt (blk_lt m1)⟩; have NE4 : Aside0 (gp ≠ gm) := ⟨Ne.symm NE3.out⟩; clear m1 m2 m3 BM HB RO BX hgp hbp hb3 hz0 hz1 hz2 hz3 hf0 hf1 hf2 hf3 hn1 hn2; have BM := n1; have HB := n2; have RO := n3; clear n1 n2 n3; have hn3 := NE3.out; have hn4 := NE4.out; have hz0 := (blk_cell BM.out 0).trans rfl; have hz1 := (blk_cell BM.out 1).trans rfl; have hz2 := (blk_cell BP.out 0).trans rfl; have hz3 := (blk_cell BP.out 1).trans rfl; have hf2 := blk_frozen BP.out 0; have hf3 := blk_frozen BP.out 1) | ((with_reducible refine gate_builtin (b := .append) (xs := #[.tmp 47, .tmp 49]) rfl ?_); at_builtin; have n1 := Aside0.mk (blk_far (p := ⟨gp, 1, none⟩) (blk_far (p := ⟨gp, 0, none⟩) BM.out NE3.out (.int .i64 s0)) NE3.out (.int .i64 s1)); have n2 := Aside0.mk (below_set (j := 1) (v := .int .i64 s1) (below_set (j := 0) (v := .int .i64 s0) HB.out GE3.out) GE3.out); have n3 := Aside0.mk (Kd.R_mono (ok' := fun k => k ≠ gm) (Kd.R_far (p := ⟨gp, 1, none⟩) (Kd.R_far (p := ⟨gp, 0, none⟩) RO.out (fun _ hk => hk.2) (.int .i64 s0)) (fun _ hk => hk.2) (.int .i64 s1)) (fun k hk => hk.1)); clear BM HB RO BP hz0 hz1 hz2 hz3 hf2 hf3 hn3 hn4; have BM := n1; have HB := n2; have RO := n3; clear n1 n2 n3; refine Kd.R_append k57 (w0 := w) w.heap.size rfl (.tmp 47) (.tmp 49) 48 57 (.agg #[(.int .i64 0), (.int .i64 0)]) 16 rfl Try.underlying48 info57 rfl (by decide) (by omega) u5 (Moor.pulls false (on.take j)) ⟨s0, s1⟩ [.int .i64 s0, .int .i64 s1] (fun k => k ≠ gm) (fun _ => False) rfl (by first | rfl | (go_simp; done) | (go_simp; rfl)) ?aP (fun _ hk => hk.elim) ?aF ?aO ?aB ?aS ?aL ?_; (case aP => exact k57_mkM _ _ _ ⟨s0, s1⟩); (case aF => exact fun k hk => Ne.symm (Nat.ne_of_lt (Nat.lt_of_lt_of_le (blk_lt BM.out) hk))); (case aO => exact RO.out); (case aB => exact HB.out); (case aS => exact below_size HB.out); (case aL => exact Moor.pulls_small h40); intro v2 w10 ho hb hg hat; have n1 := Aside0.mk (blk_grown BM.out hg (fun e => RO.out.1 gm e.symm rfl)); have n2 := Aside0.mk hb; have n3 := Aside0.mk ho; clear BM HB RO ho hb hg hat; have BM := n1; have HB := n2; have RO := n3; clear n1 n2 n3))
    obtain ⟨k1, rfl⟩ : ∃ k1, gk = k1 + 1 := ⟨gk - 1, by have := HJ.out; have := HLT.out; omega⟩
    go_roundg k1
    case measure => omega
    case rel => exact PullRel.next (by have := HJ.out; omega) (HMO.out.trans (by rw [T2.out, HT.out])) rfl (HS0.out.trans T0.out.symm) (HS1.out.trans T1.out.symm) BM.out (by rw [T3.out]; simp only [if_true, Bool.false_eq_true, if_false]; rw [HS0.out, HS1.out]) RO.out HB.out
  ·have hje : j = on.length := by have := HJ.out; omega
   have c3 : decide ((j : Int) < (on.length : Int)) = false := decide_eq_false (by omega)
   have c3n : decide (j < on.length) = false := decide_eq_false hlt
   have HJE := Aside0.mk hje
   clear hlt hje
   obtain ⟨A5, n5, c5, rfl⟩ : ∃ A n c, u5 = .slice A n c := by
    obtain ⟨A, c, h⟩ := Kd.R_slice RO.out
    exact ⟨A, _, c, h⟩
   go_wp2
   go_ret
   refine ⟨_, rfl, ?_, HB.out⟩
   have h := Kd.R_mono (ok' := fun _ => True) RO.out (fun _ _ => trivial)
   rw [HJE.out, List.take_length] at h
   exact h
end Go.Proofs.Ytebcmhajbjkojaa.P
namespace Go.Proofs.Ytebcmhajbjkojaa.P
open Go.RowKit Go.Proofs.YtebcmhajbjkojaaW.PrintWords Go.Proofs.YtebcmhajbjkojaaW.PrintLast Go.Proofs.YtebcmhajbjkojaaW.PrintMore
attribute [local go_sem] max2_int min2_int max_two min_two max_three min_three max_four min_four   -- for this text's walks alone
set_option linter.unusedVariables false
set_option linter.unusedSimpArgs false
def NewShape (w : World) (A : Option Addr) (c : Nat) (d an fr : Int) (els : List S46) (cs : List S57) (free : Bool) (r : Int) (e : Ending) (w' : World) : Prop :=
 (r ≠ 0 ∧ e = .returned (.tuple #[.pointer none, .int .i64 r]) ∧ Below w.heap.size w w') ∨
 (r = 0 ∧ ∃ gs, e = .returned (.tuple #[.pointer (some ⟨gs, 0, none⟩), .int .i64 0]) ∧ IsShape w' gs A c d an fr els (Moor.on els cs) (Moor.lifts els) (Moor.pulls free (Moor.on els cs)) ∧ Below w.heap.size w w')
theorem NewForces.of_ne {w w' : World} {A : Option Addr} {c : Nat} {d an fr : Int} {els : List S46} {cs : List S57} {r : Int} {e : Ending} (h : NewForces w A c d an fr els cs r e w') (hr : r ≠ 0) : e = .returned (.tuple #[.pointer none, .int .i64 r]) ∧ Below w.heap.size w w' := by
 rcases h with ⟨_, h1, h2⟩ | ⟨h0, _⟩
 ·exact ⟨h1, h2⟩
 ·exact absurd h0 hr
theorem NewForces.of_zero {w w' : World} {A : Option Addr} {c : Nat} {d an fr : Int} {els : List S46} {cs : List S57} {e : Ending} (h : NewForces w A c d an fr els cs 0 e w') : ∃ g, e = .returned (.tuple #[.pointer (some ⟨g, 0, none⟩), .int .i64 0]) ∧ IsForces w' g A c d an fr els (Moor.on els cs) (Moor.lifts els) ∧ OwnForces w w' g (Moor.on els cs) (Moor.lifts els) ∧ Below w.heap.size w w' := by
 rcases h with ⟨h0, _⟩ | ⟨_, h1⟩
 ·exact absurd rfl h0
 ·exact h1
theorem NewShape.of_ne {w w' : World} {A : Option Addr} {c : Nat} {d an fr : Int} {els : List S46} {cs : List S57} {free : Bool} {r : Int} {e : Ending} (h : NewShape w A c d an fr els cs free r e w') (hr : r ≠ 0) : e = .returned (.tuple #[.pointer none, .int .i64 r]) ∧ Below w.heap.size w w' := by
 rcases h with ⟨_, h1, h2⟩ | ⟨h0, _⟩
 ·exact ⟨h1, h2⟩
 ·exact absurd h0 hr
theorem NewShape.of_zero {w w' : World} {A : Option Addr} {c : Nat} {d an fr : Int} {els : List S46} {cs : List S57} {free : Bool} {e : Ending} (h : NewShape w A c d an fr els cs free 0 e w') : ∃ gs, e = .returned (.tuple #[.pointer (some ⟨gs, 0, none⟩), .int .i64 0]) ∧ IsShape w' gs A c d an fr els (Moor.on els cs) (Moor.lifts els) (Moor.pulls free (Moor.on els cs)) ∧ Below w.heap.size w w' := by
 rcases h with ⟨h0, _⟩ | ⟨_, h1⟩
 ·exact absurd rfl h0
 ·exact h1
theorem NewShape.bad {w w' : World} {A : Option Addr} {c : Nat} {d an fr : Int} {els : List S46} {cs : List S57} {free : Bool} {r : Int} (h0 : r ≠ 0) (hb : Below w.heap.size w w') : NewShape w A c d an fr els cs free r (.returned (.tuple #[.pointer none, .int .i64 r])) w' := .inl ⟨h0, rfl, hb⟩
theorem NewShape.good {w w' : World} {A : Option Addr} {c : Nat} {d an fr : Int} {els : List S46} {cs : List S57} {free : Bool} {gs : Nat} (hs : IsShape w' gs A c d an fr els (Moor.on els cs) (Moor.lifts els) (Moor.pulls free (Moor.on els cs))) (hb : Below w.heap.size w w') : NewShape w A c d an fr els cs free 0 (.returned (.tuple #[.pointer (some ⟨gs, 0, none⟩), .int .i64 0])) w' := .inr ⟨rfl, gs, rfl, hs, hb⟩
set_option maxHeartbeats 8000000 in
set_option maxRecDepth 100000 in
theorem mooring_newShape.calls {d an fr : Int} {els : List S46} (A : Option Addr) (c : Nat) (A1 : Option Addr) (c1 : Nat) (cs : List S57) (free : Bool) (r : Int) (w : World) (hr0 : Kd.C k46 w A els.length els) (hc0 : els.length ≤ c) (hr1 : Kd.C k57 w A1 cs.length cs) (hc1 : cs.length ≤ c1) (hr : Moor.err d els an fr cs true = r) :
  Calls Try.prog 61 #[.agg #[.int .i64 d, .slice A els.length c, .int .i64 an, .int .i64 fr], .slice A1 cs.length c1, .bool free] w (NewShape w A c d an fr els cs free r) := by
 have hu37 := Try.underlying37
 have hu129 := Try.underlying129
 have NF := Aside0.mk (fun (w1 : World) (hb1 : Below w.heap.size w w1) => mooring_newForces.calls A c A1 c1 cs true r w1 (Kd.C_below hr0 hb1) hc0 (Kd.C_below hr1 hb1) hc1 hr)
 have HR := Aside0.mk hr
 clear hr0 hc0 hr1 hc1 hr
 by_cases c0 : r = 0
 ·subst c0
  have OKM := Aside0.mk (Moor.err_ok HR.out).1
  go_enter Try.func61, Try.ntmps61
  go_wp2_with (first | ((with_reducible refine gate_dst (N := 3) rfl ?_); refine box_event ?hg (N := 3) ?hd (cs := #[.int .i64 d, .slice A els.length c, .int .i64 an, .int .i64 fr]) (t := 37) ?hr ?_; (case hd => rfl); (case hg => rfl); (case hr => first | (go_simp; done) | (go_simp; rfl)); intro gm hgm w1 hbk hb0; have BM := Aside0.mk hbk; have HB := Aside0.mk hb0; have hz0 := (blk_cell hbk 0).trans rfl; have hz1 := (blk_cell hbk 1).trans rfl; have hz2 := (blk_cell hbk 2).trans rfl; have hz3 := (blk_cell hbk 3).trans rfl; clear hgm hbk hb0) | (go_at_call 58; (with_reducible refine (NF.out _ HB.out).mono ?_); (intro e w2 hnf); (obtain ⟨g, he, hf, -, hb1⟩ := NewForces.of_zero hnf); subst he; clear hnf; have n1 := Aside0.mk (below_step HB.out hb1); have FO := Aside0.mk hf; clear HB BM hz0 hz1 hz2 hz3 hf hb1; have HB := n1; clear n1) | (go_at_call 60; (with_reducible refine (mooring_pulls.calls A c g free _ FO.out ?p1 ?p2).mono ?_); (case p1 => exact (by rw [Moor.on_length OKM.out.len]; exact OKM.out.n40)); (case p2 => exact Moor.on_onB OKM.out.elok OKM.out.cur); rintro e w3 ⟨v, rfl, hp, hb1⟩; have n1 := Aside0.mk (below_step HB.out hb1); have n2 := Aside0.mk (FO.out.below hb1); obtain ⟨A5, c5, rfl, hl5, hC5⟩ := Kd.R_reads hp; have HP := Aside0.mk hC5; have HL := Aside0.mk hl5; clear HB FO hp hb1 hl5 hC5; have HB := n1; have FO := n2; clear n1 n2) | ((with_reducible refine gate_dst (N := 24) rfl ?_); refine box_event ?hg (N := 24) ?hd (cs := #[.pointer (some ⟨g, 0, none⟩), .slice A5 (Moor.pulls free (Moor.on els cs)).length c5]) (t := 129) ?hr ?_; (case hd => rfl); (case hg => rfl); (case hr => first | (go_simp; done) | (go_simp; rfl)); intro gs hgs w4 hbk hb0; have BS := Aside0.mk hbk; have n1 := Aside0.mk (below_step HB.out hb0); have n2 := Aside0.mk (FO.out.below hb0); have n3 := Aside0.mk (Kd.C_below HP.out hb0); clear HB FO HP hgs hbk hb0; have HB := n1; have FO := n2; have HP := n3; clear n1 n2 n3))
  go_ret2
  exact NewShape.good ⟨g, A5, c5, BS.out, FO.out, HP.out, HL.out⟩ HB.out
 ·have d1 : (r != 0) = true := bne_iff_ne.mpr c0
  have C0 := Aside0.mk c0
  clear c0
  go_enter Try.func61, Try.ntmps61
  go_wp2_with (first | ((with_reducible refine gate_dst (N := 3) rfl ?_); refine box_event ?hg (N := 3) ?hd (cs := #[.int .i64 d, .slice A els.length c, .int .i64 an, .int .i64 fr]) (t := 37) ?hr ?_; (case hd => rfl); (case hg => rfl); (case hr => first | (go_simp; done) | (go_simp; rfl)); intro gm hgm w1 hbk hb0; have BM := Aside0.mk hbk; have HB := Aside0.mk hb0; have hz0 := (blk_cell hbk 0).trans rfl; have hz1 := (blk_cell hbk 1).trans rfl; have hz2 := (blk_cell hbk 2).trans rfl; have hz3 := (blk_cell hbk 3).trans rfl; clear hgm hbk hb0) | (go_at_call 58; (with_reducible refine (NF.out _ HB.out).mono ?_); (intro e w2 hnf); (obtain ⟨he, hb1⟩ := NewForces.of_ne hnf C0.out); subst he; clear hnf; have n1 := Aside0.mk (below_step HB.out hb1); clear HB BM hz0 hz1 hz2 hz3 hb1; have HB := n1; clear n1))
  go_ret2
  exact NewShape.bad C0.out HB.out
end Go.Proofs.Ytebcmhajbjkojaa.P
namespace Go.Proofs.Ytebcmhajbjkojaa.P
open Go.RowKit Go.Proofs.YtebcmhajbjkojaaW.PrintWords Go.Proofs.YtebcmhajbjkojaaW.PrintLast Go.Proofs.YtebcmhajbjkojaaW.PrintMore
attribute [local go_sem] max2_int min2_int max_two min_two max_three min_three max_four min_four   -- for this text's walks alone
set_option linter.unusedVariables false
set_option linter.unusedSimpArgs false
set_option maxHeartbeats 8000000 in
set_option maxRecDepth 100000 in
theorem mooring_total.calls {d an fr : Int} {els : List S46} {on : List S57} {li : List Int} {ps : List S57} (A : Option Addr) (c : Nat) (gs : Nat) (F : FuncId) (val : Nat → S57) (w : World) (h : IsShape w gs A c d an fr els on li ps) (h40 : els.length ≤ 40) (hg : Gives w F gs els.length val) (hval : ∀ x ∈ Moor.list val els.length, Moor.midB x) :
  Calls Try.prog 65 #[.pointer (some ⟨gs, 0, none⟩), .func (.func F) #[.pointer (some ⟨gs, 0, none⟩)] #[]] w fun e w' => e = .returned (.agg #[.int .i64 (Moor.slo (Moor.list val els.length)), .int .i64 (Moor.shi (Moor.list val els.length))]) ∧ Below w.heap.size w w' := by
 have hu57 := Try.underlying57
 have EC := Aside0.mk (fun (w1 : World) (hb1 : Below w.heap.size w w1) => mooring_each.calls A c gs F val w1 (h.below hb1) h40 (hg.below hb1))
 clear h hg
 have hxl := Moor.list_length val els.length
 generalize Moor.list val els.length = xs at *
 have HVAL := Aside0.mk hval
 have h40x : xs.length ≤ 40 := by omega
 clear hval hxl
 go_enter Try.func65, Try.ntmps65
 go_wp2_with (first | ((with_reducible refine gate_dst (N := 4) rfl ?_); refine box_event ?hg (N := 4) ?hd (cs := #[.int .i64 0, .int .i64 0]) (t := 57) ?hr ?_; (case hd => rfl); (case hg => rfl); (case hr => first | (go_simp; done) | (go_simp; rfl)); intro gt hgt w1 hbt hb0; have GE0 : Aside0 (w.heap.size ≤ gt) := ⟨Nat.le_of_eq hgt.symm⟩; have BT := Aside0.mk hbt; have HB := Aside0.mk hb0; clear hgt hbt hb0) | ((with_reducible refine gate_dst (N := 5) rfl ?_); refine box_event ?hg (N := 5) ?hd (cs := #[.int .i64 0, .int .i64 0]) (t := 57) ?hr ?_; (case hd => rfl); (case hg => rfl); (case hr => first | (go_simp; done) | (go_simp; rfl)); intro gm hgm w2 hbm hb0; have GE1 : Aside0 (w.heap.size ≤ gm) := ⟨by rw [hgm]; exact below_size HB.out⟩; have NEM : Aside0 (gt ≠ gm) := ⟨by rw [hgm]; exact Nat.ne_of_lt (blk_lt BT.out)⟩; have BM := Aside0.mk hbm; have n1 := Aside0.mk (below_step HB.out hb0); have n2 := Aside0.mk (blk_below BT.out hb0); clear HB BT hgm hbm hb0; have HB := n1; have BT := n2; clear n1 n2) | (go_at_call 62; (with_reducible refine (EC.out _ HB.out).mono ?_); rintro e w3 ⟨v, rfl, hp, hb1⟩; have n1 := Aside0.mk (below_step HB.out hb1); have n2 := Aside0.mk (blk_below BM.out hb1); have n3 := Aside0.mk (blk_below BT.out hb1); have hp2 := (Kd.R_mono (ok' := fun k => k ≠ gm) (Kd.R_bound hp) (fun k hk => Ne.symm (Nat.ne_of_lt (Nat.lt_of_lt_of_le (blk_lt BM.out) hk.2.1)))); have hp3 := (Kd.R_lower hp2 (below_size HB.out)); obtain ⟨A5, c5, rfl⟩ := Kd.R_slice hp3; have HP := Aside0.mk hp3; clear HB BM BT hp hb1 hp2 hp3; have HB := n1; have BM := n2; have BT := n3; clear n1 n2 n3))
 go_loopg [12] xs.length (fun kq v12 w' => TotRel w gm gt xs (.slice A5 xs.length c5) kq v12 w')
 case atStart => exact ⟨0, rfl, rfl, BM.out, BT.out, HP.out, HB.out⟩
 case round =>
  clear BM BT HP HB
  obtain ⟨j, hj, rfl, BM0, BT0, HP0, HB0⟩ := hrel
  have BM := Aside0.mk BM0
  have BT := Aside0.mk BT0
  have HP := Aside0.mk HP0
  have HB := Aside0.mk HB0
  have HJ := Aside0.mk hj
  clear BM0 BT0 HP0 HB0 hj
  by_cases hlt : j < xs.length
  ·have HLT := Aside0.mk hlt
   have c3 : decide ((j : Int) < (xs.length : Int)) = true := decide_eq_true (by omega)
   have c3n : decide (j < xs.length) = true := decide_eq_true hlt
   have p1 : (0 : Int) ≤ (j : Int) := by omega
   have q1 : (j : Int) < (xs.length : Int) := by omega
   obtain ⟨ad1, e1, hx0, hx1⟩ := at_T57 (R_C HP.out) (j : Int) p1 q1
   cases e1
   rw [Moor.rdS hlt] at hx0 hx1
   obtain ⟨x, hx⟩ : ∃ x, xs[j]? = some x := ⟨_, List.getElem?_eq_getElem hlt⟩
   have hx2 : xs[j] = x := by rw [List.getElem?_eq_getElem hlt] at hx; exact Option.some.inj hx
   rw [hx2] at hx0 hx1
   simp only [Int.toNat_natCast] at hx0 hx1
   have hxb := HVAL.out x (by rw [← hx2]; exact List.getElem_mem hlt)
   have b1 := Moor.mid_bound (on := xs.take j) (fun y hy => HVAL.out y (List.mem_of_mem_take hy))
   have b3 : (xs.take j).length ≤ 40 := by rw [List.length_take]; omega
   obtain ⟨b4, b5, b6, b7⟩ := hxb
   have T0 := Moor.slo_take hx
   have T1 := Moor.shi_take hx
   generalize hsl : Moor.slo (xs.take j) = sl at *
   generalize hsh : Moor.shi (xs.take j) = sh at *
   obtain ⟨s0, hs0⟩ : ∃ s0, s0 = sl + x.f0 := ⟨_, rfl⟩
   obtain ⟨s1, hs1⟩ : ∃ s1, s1 = sh + x.f1 := ⟨_, rfl⟩
   have d0 : IntKind.i64.wrap (sl + x.f0) = s0 := by rw [i64_w, wrap_id (by omega) (by omega), hs0]
   have d1 : IntKind.i64.wrap (sh + x.f1) = s1 := by rw [i64_w, wrap_id (by omega) (by omega), hs1]
   have T0 := Aside0.mk T0
   have T1 := Aside0.mk T1
   have HS0 := Aside0.mk hs0
   have HS1 := Aside0.mk hs1
   clear hlt hx hx2 b1 b3 b4 b5 b6 b7 hsl hsh hs0 hs1
   go_wp2_with ((with_reducible refine gate_dst (N := 7) rfl ?_); refine box_event ?hg (N := 7) ?hd (cs := #[.int .i64 0, .int .i64 0]) (t := 57) ?hr ?_; (case hd => rfl); (case hg => rfl); (case hr => first | (go_simp; done) | (go_simp; rfl)); intro gx hgx w2 hbx hb2; have n1 := Aside0.mk (blk_below BM.out hb2); have n2 := Aside0.mk (blk_below BT.out hb2); have n3 := Aside0.mk (below_step HB.out hb2); have n4 := Aside0.mk (Kd.R_below (Kd.R_mono (ok' := fun k => k ≠ gm ∧ k ≠ gx) (Kd.R_bound HP.out) (fun k hk => ⟨hk.1, by have := hk.2.2.1; omega⟩)) hb2); have BX := Aside0.mk hbx; have GE2 : Aside0 (w.heap.size ≤ gx) := ⟨by rw [hgx]; exact below_size HB.out⟩; have NE1 : Aside0 (gm ≠ gx) := ⟨by rw [hgx]; exact Nat.ne_of_lt (blk_lt BM.out)⟩; have NE2 : Aside0 (gx ≠ gm) := ⟨Ne.symm NE1.out⟩; have NE3 : Aside0 (gt ≠ gx) := ⟨by rw [hgx]; exact Nat.ne_of_lt (blk_lt BT.out)⟩; clear BM BT HB HP hgx hbx hb2 hx0 hx1; have BM := n1; have BT := n2; have HB := n3; have HP := n4; clear n1 n2 n3 n4; have hn1 := NE1.out; have hn2 := NE2.out; have hz0 := (blk_cell BM.out 0).trans rfl; have hz1 := (blk_cell BM.out 1).trans rfl; have hz2 := (blk_cell BX.out 0).trans rfl; have hz3 := (blk_cell BX.out 1).trans rfl; have hf0 := blk_frozen BM.out 0; have hf1 := blk_frozen BM.out 1; have hf2 := blk_frozen BX.out 0; have hf3 := blk_frozen BX.out 1)
   obtain ⟨k1, rfl⟩ : ∃ k1, gk = k1 + 1 := ⟨gk - 1, by have := HJ.out; have := HLT.out; omega⟩
   go_roundg k1
   case measure => omega
   case rel => exact TotRel.next (by have := HJ.out; omega) rfl (HS0.out.trans T0.out.symm) (HS1.out.trans T1.out.symm) (blk_put (cs' := #[.int .i64 s0, .int .i64 s1]) (blk_put (cs' := #[.int .i64 s0, .int .i64 sh]) (blk_far (p := ⟨gx, 1, none⟩) (blk_far (p := ⟨gx, 0, none⟩) BM.out NE1.out (.int .i64 x.f0)) NE1.out (.int .i64 x.f1)) 0 (.int .i64 s0) rfl) 1 (.int .i64 s1) rfl) (blk_far (p := ⟨gm, 1, none⟩) (blk_far (p := ⟨gm, 0, none⟩) (blk_far (p := ⟨gx, 1, none⟩) (blk_far (p := ⟨gx, 0, none⟩) BT.out NE3.out (.int .i64 x.f0)) NE3.out (.int .i64 x.f1)) NEM.out (.int .i64 s0)) NEM.out (.int .i64 s1)) (Kd.R_mono (ok' := fun k => k ≠ gm) (Kd.R_far (p := ⟨gm, 1, none⟩) (Kd.R_far (p := ⟨gm, 0, none⟩) (Kd.R_far (p := ⟨gx, 1, none⟩) (Kd.R_far (p := ⟨gx, 0, none⟩) HP.out (fun _ hk => hk.2) (.int .i64 x.f0)) (fun _ hk => hk.2) (.int .i64 x.f1)) (fun _ hk => hk.1) (.int .i64 s0)) (fun _ hk => hk.1) (.int .i64 s1)) (fun k hk => hk.1)) (below_set (j := 1) (v := .int .i64 s1) (below_set (j := 0) (v := .int .i64 s0) (below_set (j := 1) (v := .int .i64 x.f1) (below_set (j := 0) (v := .int .i64 x.f0) HB.out GE2.out) GE2.out) GE1.out) GE1.out)
  ·have hje : j = xs.length := by have := HJ.out; omega
   have c3 : decide ((j : Int) < (xs.length : Int)) = false := decide_eq_false (by omega)
   have c3n : decide (j < xs.length) = false := decide_eq_false hlt
   have HJE := Aside0.mk hje
   clear hlt hje
   have bm := BM.out
   rw [HJE.out, List.take_length] at bm
   have BMM := Aside0.mk bm
   have hz0 := (blk_cell bm 0).trans rfl
   have hz1 := (blk_cell bm 1).trans rfl
   have hz2 := (blk_cell BT.out 0).trans rfl
   have hz3 := (blk_cell BT.out 1).trans rfl
   have hf2 := blk_frozen BT.out 0
   have hf3 := blk_frozen BT.out 1
   clear BM bm HP
   go_wp2
   refine bodyPost_ret (results_cell_row rfl _ _ gt 57 _ (0, 0) _ rfl (blk_put (cs' := #[.int .i64 (Moor.slo xs), .int .i64 (Moor.shi xs)]) (blk_put (cs' := #[.int .i64 (Moor.slo xs), .int .i64 0]) BT.out 0 (.int .i64 (Moor.slo xs)) rfl) 1 (.int .i64 (Moor.shi xs)) rfl) hu57 rfl (by kernel_rfl)) rfl ?_
   exact ⟨rfl, below_set (below_set HB.out GE0.out) GE0.out⟩
end Go.Proofs.Ytebcmhajbjkojaa.P
namespace Go.Proofs.Ytebcmhajbjkojaa.P
open Go.RowKit Go.Proofs.YtebcmhajbjkojaaW.PrintWords Go.Proofs.YtebcmhajbjkojaaW.PrintLast Go.Proofs.YtebcmhajbjkojaaW.PrintMore
attribute [local go_sem] max2_int min2_int max_two min_two max_three min_three max_four min_four   -- for this text's walks alone
set_option linter.unusedVariables false
set_option linter.unusedSimpArgs false
def mooring_Top.f (d : Int) (els : List S46) (an fr : Int) (cs : List S57) (free : Bool) : Option (Int × Int × Int) := if Moor.err d els an fr cs true = 0 then some (wrap64 (d - Moor.shi (Moor.list (Moor.riseAt els (Moor.pulls free (Moor.on els cs)) (Moor.lifts els)) els.length)), wrap64 (d - Moor.slo (Moor.list (Moor.riseAt els (Moor.pulls free (Moor.on els cs)) (Moor.lifts els)) els.length)), 0) else some (0, 0, Moor.err d els an fr cs true)
def Top.T4 : Bool × List (List Nat × List Nat) := (true, [([], []), ([0], [0]), ([], []), ([], []), ([3], [3]), ([2, 4], [2, 4]), ([1, 5, 5], [1, 5]), ([6, 6, 0, 1, 2, 3, 4, 5, 6], [6]), ([7, 0, 1, 2, 3, 4, 5, 6, 7], [])])
def Top.B4 : List Nat := [0, 1, 0, 0, 8, 28, 63, 127, 255]
theorem Top.tab4 : rtab .any (opsOf Try.f32 4) = Top.T4 := by kernel_rfl
theorem Top.bits4 : waitsOk Top.T4.2 Top.B4 = true := by kernel_rfl
set_option maxHeartbeats 8000000 in
set_option maxRecDepth 100000 in
theorem mooring_Top.calls (d : Int) (A : Option Addr) (c : Nat) (els : List S46) (an fr : Int) (A1 : Option Addr) (c1 : Nat) (cs : List S57) (free : Bool) (r1 : Int) (r2 : Int) (r3 : Int) (w : World) (hr0 : Kd.C k46 w A els.length els) (hc0 : els.length ≤ c) (hr1 : Kd.C k57 w A1 cs.length cs) (hc1 : cs.length ≤ c1) (h : mooring_Top.f d els an fr cs free = some (r1, r2, r3)) :
  Calls Try.prog 32 #[.agg #[.int .i64 d, .slice A els.length c, .int .i64 an, .int .i64 fr], .slice A1 cs.length c1, .bool free] w fun e w' => e = .returned (.tuple #[.agg #[.int .i64 r1, .int .i64 r2], .int .i64 r3]) ∧ Below w.heap.size w w' := by
 have hu37 := Try.underlying37
 have hu57 := Try.underlying57
 have hu98 := Try.underlying98
 have hu129 := Try.underlying129
 obtain ⟨r, hr⟩ : ∃ r, Moor.err d els an fr cs true = r := ⟨_, rfl⟩
 have NS := Aside0.mk (fun (w1 : World) (hb1 : Below w.heap.size w w1) => mooring_newShape.calls A c A1 c1 cs free r w1 (Kd.C_below hr0 hb1) hc0 (Kd.C_below hr1 hb1) hc1 hr)
 have HR := Aside0.mk hr
 unfold mooring_Top.f at h
 rw [hr] at h
 have HR0 := Aside0.mk hr0
 clear hr0 hc0 hr1 hc1 hr
 by_cases c0 : r = 0
 ·subst c0
  rw [if_pos rfl] at h
  have h := Option.some.inj h
  simp only [Prod.mk.injEq] at h
  obtain ⟨rfl, rfl, rfl⟩ := h
  have OKM := Aside0.mk (Moor.err_ok HR.out).1
  have STA := Aside0.mk ((Moor.err_ok HR.out).2 rfl)
  go_enter Try.func32, Try.ntmps32
  go_wp2_with (first | ((with_reducible refine gate_dst (N := 3) rfl ?_); refine box_event ?hg (N := 3) ?hd (cs := #[.int .i64 d, .slice A els.length c, .int .i64 an, .int .i64 fr]) (t := 37) ?hr ?_; (case hd => rfl); (case hg => rfl); (case hr => first | (go_simp; done) | (go_simp; rfl)); intro gm hgm w1 hbk hb0; have BM := Aside0.mk hbk; have HB := Aside0.mk hb0; have hz0 := (blk_cell hbk 0).trans rfl; have hz1 := (blk_cell hbk 1).trans rfl; have hz2 := (blk_cell hbk 2).trans rfl; have hz3 := (blk_cell hbk 3).trans rfl; clear hgm hbk hb0) | ((with_reducible refine gate_dst (N := 6) rfl ?_); refine box_event ?hg (N := 6) ?hd (cs := #[.int .i64 0, .int .i64 0]) (t := 57) ?hr ?_; (case hd => rfl); (case hg => rfl); (case hr => first | (go_simp; done) | (go_simp; rfl)); intro gt hgt w2 hbt hb0; have n1 := Aside0.mk (below_step HB.out hb0); have n2 := Aside0.mk (blk_below BM.out hb0); have BT := Aside0.mk hbt; have GE : Aside0 (w.heap.size ≤ gt) := ⟨by rw [hgt]; exact below_size HB.out⟩; have NEM : Aside0 (gm ≠ gt) := ⟨by rw [hgt]; exact Nat.ne_of_lt (blk_lt BM.out)⟩; clear HB BM hgt hbt hb0 hz0 hz1 hz2 hz3; have HB := n1; have BM := n2; clear n1 n2; have hz0 := (blk_cell BM.out 0).trans rfl; have hz1 := (blk_cell BM.out 1).trans rfl; have hz2 := (blk_cell BM.out 2).trans rfl; have hz3 := (blk_cell BM.out 3).trans rfl) | (go_at_call 61; (with_reducible refine (NS.out _ HB.out).mono ?_); intro e w3 hnf; obtain ⟨gs, he, hf, hb1⟩ := NewShape.of_zero hnf; subst he; have FO := Aside0.mk hf; have n1 := Aside0.mk (below_step HB.out hb1); have n3 := Aside0.mk (blk_below BM.out hb1); have n4 := Aside0.mk (blk_below BT.out hb1); clear HB BM BT hz0 hz1 hz2 hz3 hnf hb1 hf; have HB := n1; clear n1; have BM := n3; have BT := n4; clear n3 n4; ))
  have n1 := Aside0.mk (blk_drew BM.out)
  have n2 := Aside0.mk (blk_drew BT.out)
  have n3 := Aside0.mk (below_drew1 HB.out)
  have n4 := Aside0.mk (FO.out.below (below_drew1 (Below.refl _ _)))
  clear BM BT HB FO
  have BM := n1
  have BT := n2
  have HB := n3
  have FO := n4
  clear n1 n2 n3 n4
  have OFM := Aside0.mk (OKM.out.rises_mid STA.out free)
  generalize hs0 : Moor.slo (Moor.list (Moor.riseAt els (Moor.pulls free (Moor.on els cs)) (Moor.lifts els)) els.length) = s0 at *
  generalize hs1 : Moor.shi (Moor.list (Moor.riseAt els (Moor.pulls free (Moor.on els cs)) (Moor.lifts els)) els.length) = s1 at *
  have HS0 := Aside0.mk hs0
  have HS1 := Aside0.mk hs1
  clear hs0 hs1
  refine start_ (n := 9) (S := fun w' => w'.cell? ⟨gm, 0, none⟩ = some (.int .i64 d)) (ds := []) #[false, false, false, false, false, false, false, false, false] (by kernel_rfl) rfl rfl (((blk_cell BM.out 0).trans rfl)) (fun hHeld => ?_)
  refine with_tabW Top.tab4 Top.bits4 (fun HT_ HW_ => ?_)
  generalize World.drew _ = w4 at BM BT HB FO hHeld ⊢
  refine pure_ (i := 0) (N := some 21) (v := ?_) (a' := ?_) #[true, false, false, false, false, false, false, false, false] rfl rfl (any_of HT_.out (by kernel_rfl)) (fun _ _ _ h => h) (Or.inl ⟨by rfl, ?_⟩) ?_ ?_
  rotate_left
  ·intro w'
   go_simp
   with_reducible rfl
  rotate_left
  ·simp only [Act.put, List.setIfInBounds_toArray, List.set_cons_zero, List.set_cons_succ, i64_w, i32_w]
   rfl
  refine pure_ (i := 2) (N := some 23) (v := ?_) (a' := ?_) #[true, false, true, false, false, false, false, false, false] rfl rfl (any_of HT_.out (by kernel_rfl)) (fun _ _ _ h => h) (Or.inl ⟨by rfl, ?_⟩) ?_ ?_
  rotate_left
  ·intro w'
   go_simp
   with_reducible rfl
  rotate_left
  ·simp only [Act.put, List.setIfInBounds_toArray, List.set_cons_zero, List.set_cons_succ, i64_w, i32_w]
   rfl
  refine pure_ (i := 3) (N := some 24) (v := ?_) (a' := ?_) #[true, false, true, true, false, false, false, false, false] rfl rfl (any_of HT_.out (by kernel_rfl)) (fun _ _ _ h => h) (Or.inl ⟨by rfl, ?_⟩) ?_ ?_
  rotate_left
  ·intro w'
   go_simp
   with_reducible rfl
  rotate_left
  ·simp only [Act.put, List.setIfInBounds_toArray, List.set_cons_zero, List.set_cons_succ, i64_w, i32_w]
   rfl
  refine pure_ (i := 4) (N := some 25) (v := ?_) (a' := ?_) #[true, false, true, true, true, false, false, false, false] rfl rfl (any_of HT_.out (by kernel_rfl)) (fun _ _ _ h => h) (Or.inl ⟨by rfl, ?_⟩) ?_ ?_
  rotate_left
  ·intro w'
   go_simp
   with_reducible rfl
  rotate_left
  ·simp only [Act.put, List.setIfInBounds_toArray, List.set_cons_zero, List.set_cons_succ, i64_w, i32_w]
   rfl
  refine take_ (i := 1) (N := some 22) (v := ?_) (a' := ?_) #[true, true, true, true, true, false, false, false, false] rfl rfl (take_ofW HT_.out HW_.out (by kernel_rfl)) (fun _ _ _ h => h) (Or.inl ⟨by rfl, ?_⟩) hHeld ?_ ?_
  rotate_left
  ·intro w' s0
   go_simp
   with_reducible rfl
  rotate_left
  ·simp only [Act.put, List.setIfInBounds_toArray, List.set_cons_zero, List.set_cons_succ, i64_w, i32_w]
   rfl
  refine one_ (i := 5) (N := some 26) #[true, true, true, true, true, true, false, false, false] rfl rfl (one_of HT_.out (by kernel_rfl)) (by decide) (fun K hK => ?_)
  refine goes_ Try.func65 (by kernel_rfl) rfl #[.pointer (some ⟨gs, 0, none⟩), .func (.func 64) #[.pointer (some ⟨gs, 0, none⟩)] #[]] (by rfl) rfl rfl (by simp only [List.map_toArray, List.map_cons, List.map_nil]; rfl) ?_
  with_reducible refine (mooring_total.calls A c gs 64 (Moor.riseAt els (Moor.pulls free (Moor.on els cs)) (Moor.lifts els)) _ FO.out OKM.out.n40 (mooring_gives_rise FO.out OKM.out STA.out) OFM.out).mono ?_
  rintro e w5 ⟨rfl, hb1⟩
  refine ⟨_, rfl, ?_⟩
  rw [HS0.out, HS1.out]
  have n1 := Aside0.mk (below_step HB.out hb1)
  have n2 := Aside0.mk (blk_below BM.out hb1)
  have n3 := Aside0.mk (blk_below BT.out hb1)
  clear HB BM BT FO hb1
  have HB := n1
  have BM := n2
  have BT := n3
  clear n1 n2 n3
  refine hK.out _ _ (((blk_cell BM.out 0).trans rfl)) (fun hHeld => ?_)
  clear hK K
  refine norm_ (a' := ?_) ?_ ?_
  rotate_left
  ·show Act.put _ (some 26) _ = _
   simp only [Act.put, List.setIfInBounds_toArray, List.set_cons_zero, List.set_cons_succ, i64_w, i32_w]
   rfl
  refine one_ (i := 6) (N := some 27) #[true, true, true, true, true, true, true, false, false] rfl rfl (one_of HT_.out (by kernel_rfl)) (by decide) (fun K hK => ?_)
  refine goes_ Try.func73 (by kernel_rfl) rfl #[.int .i64 d, .agg #[.int .i64 s0, .int .i64 s1]] (by rfl) rfl rfl (by simp only [List.map_toArray, List.map_cons, List.map_nil]; rfl) ?_
  with_reducible refine (mooring_from.calls d s0 s1 (wrap64 (d - s1)) (wrap64 (d - s0)) _ rfl).mono ?_
  rintro e w6 ⟨rfl, hb1⟩
  refine ⟨_, rfl, ?_⟩
  have n1 := Aside0.mk (below_step HB.out hb1)
  have n2 := Aside0.mk (blk_below BM.out hb1)
  have n3 := Aside0.mk (blk_below BT.out hb1)
  clear HB BM BT hb1
  have HB := n1
  have BM := n2
  have BT := n3
  clear n1 n2 n3
  refine hK.out _ _ (((blk_cell BM.out 0).trans rfl)) (fun hHeld => ?_)
  clear hK K
  refine norm_ (a' := ?_) ?_ ?_
  rotate_left
  ·show Act.put _ (some 27) _ = _
   simp only [Act.put, List.setIfInBounds_toArray, List.set_cons_zero, List.set_cons_succ, i64_w, i32_w]
   rfl
  refine one_ (i := 7) (N := none) #[true, true, true, true, true, true, true, true, false] rfl rfl (one_of HT_.out (by kernel_rfl)) (by decide) (fun K hK => ?_)
  clear hHeld
  have hz0 := (blk_cell BT.out 0).trans rfl
  have hz1 := (blk_cell BT.out 1).trans rfl
  have hf0 := blk_frozen BT.out 0
  have hf1 := blk_frozen BT.out 1
  refine skip_ (w1 := ?_) (by rfl) rfl ?_ ?_
  rotate_left
  ·go_simp
   rfl
  clear hz0 hz1 hf0 hf1
  have n1 := Aside0.mk (blk_far (p := ⟨gt, 1, none⟩) (blk_far (p := ⟨gt, 0, none⟩) BM.out NEM.out (.int .i64 (wrap64 (d - s1)))) NEM.out (.int .i64 (wrap64 (d - s0))))
  have n2 := Aside0.mk (blk_put (cs' := #[.int .i64 (wrap64 (d - s1)), .int .i64 (wrap64 (d - s0))]) (blk_put (cs' := #[.int .i64 (wrap64 (d - s1)), .int .i64 0]) BT.out 0 (.int .i64 (wrap64 (d - s1))) rfl) 1 (.int .i64 (wrap64 (d - s0))) rfl)
  have n3 := Aside0.mk (below_set (j := 1) (v := .int .i64 (wrap64 (d - s0))) (below_set (j := 0) (v := .int .i64 (wrap64 (d - s1))) HB.out GE.out) GE.out)
  clear HB BM BT
  have BM := n1
  have BT := n2
  have HB := n3
  clear n1 n2 n3
  refine hK.out _ _ (((blk_cell BM.out 0).trans rfl)) (fun hHeld => ?_)
  clear hK K
  refine pure_ (i := 8) (N := some 7) (v := ?_) (a' := ?_) #[true, true, true, true, true, true, true, true, true] rfl rfl (any_of HT_.out (by kernel_rfl)) (fun _ _ _ h => h) (Or.inl ⟨by rfl, ?_⟩) ?_ ?_
  rotate_left
  ·intro w'
   go_simp
   with_reducible rfl
  rotate_left
  ·simp only [Act.put, List.setIfInBounds_toArray, List.set_cons_zero, List.set_cons_succ, i64_w, i32_w]
   rfl
  refine done_ (done_of HT_.out (by kernel_rfl)) ?_
  clear hHeld BM
  go_wp2
  refine bodyPost_ret (results_ct rfl _ _ gt 57 #[.int .i64 (wrap64 (d - s1)), .int .i64 (wrap64 (d - s0))] (0, 0) _ rfl BT.out hu57 rfl (by kernel_rfl)) rfl ?_
  refine ⟨?_, HB.out⟩
  first | rfl | (rw [HS0.out, HS1.out]; rfl)
 ·rw [if_neg c0] at h
  have h := Option.some.inj h
  simp only [Prod.mk.injEq] at h
  obtain ⟨rfl, rfl, rfl⟩ := h
  have d1 : (r != 0) = true := bne_iff_ne.mpr c0
  have C0 := Aside0.mk c0
  clear c0
  go_enter Try.func32, Try.ntmps32
  go_wp2_with (first | ((with_reducible refine gate_dst (N := 3) rfl ?_); refine box_event ?hg (N := 3) ?hd (cs := #[.int .i64 d, .slice A els.length c, .int .i64 an, .int .i64 fr]) (t := 37) ?hr ?_; (case hd => rfl); (case hg => rfl); (case hr => first | (go_simp; done) | (go_simp; rfl)); intro gm hgm w1 hbk hb0; have BM := Aside0.mk hbk; have HB := Aside0.mk hb0; have hz0 := (blk_cell hbk 0).trans rfl; have hz1 := (blk_cell hbk 1).trans rfl; have hz2 := (blk_cell hbk 2).trans rfl; have hz3 := (blk_cell hbk 3).trans rfl; clear hgm hbk hb0) | ((with_reducible refine gate_dst (N := 6) rfl ?_); refine box_event ?hg (N := 6) ?hd (cs := #[.int .i64 0, .int .i64 0]) (t := 57) ?hr ?_; (case hd => rfl); (case hg => rfl); (case hr => first | (go_simp; done) | (go_simp; rfl)); intro gt hgt w2 hbt hb0; have n1 := Aside0.mk (below_step HB.out hb0); have n2 := Aside0.mk (blk_below BM.out hb0); have BT := Aside0.mk hbt; have GE : Aside0 (w.heap.size ≤ gt) := ⟨by rw [hgt]; exact below_size HB.out⟩; have NEM : Aside0 (gm ≠ gt) := ⟨by rw [hgt]; exact Nat.ne_of_lt (blk_lt BM.out)⟩; clear HB BM hgt hbt hb0 hz0 hz1 hz2 hz3; have HB := n1; have BM := n2; clear n1 n2; have hz0 := (blk_cell BM.out 0).trans rfl; have hz1 := (blk_cell BM.out 1).trans rfl; have hz2 := (blk_cell BM.out 2).trans rfl; have hz3 := (blk_cell BM.out 3).trans rfl) | (go_at_call 61; (with_reducible refine (NS.out _ HB.out).mono ?_); intro e w3 hnf; obtain ⟨he, hb1⟩ := NewShape.of_ne hnf C0.out; subst he; have n1 := Aside0.mk (below_step HB.out hb1); have n3 := Aside0.mk (blk_below BM.out hb1); have n4 := Aside0.mk (blk_below BT.out hb1); clear HB BM BT hz0 hz1 hz2 hz3 hnf hb1; have HB := n1; clear n1; have BM := n3; have BT := n4; clear n3 n4; have hz2 := (blk_cell BT.out 0).trans rfl; have hz3 := (blk_cell BT.out 1).trans rfl; have hf2 := blk_frozen BT.out 0; have hf3 := blk_frozen BT.out 1; ))
  refine bodyPost_ret (results_ct rfl _ _ gt 57 #[.int .i64 0, .int .i64 0] (0, 0) _ rfl (blk_put (cs' := #[.int .i64 0, .int .i64 0]) (blk_put (cs' := #[.int .i64 0, .int .i64 0]) BT.out 0 (.int .i64 0) rfl) 1 (.int .i64 0) rfl) hu57 rfl (by kernel_rfl)) rfl ?_
  exact ⟨rfl, below_set (below_set HB.out GE.out) GE.out⟩
end Go.Proofs.Ytebcmhajbjkojaa.P
namespace Go.Proofs.Ytebcmhajbjkojaa.P
open Go.RowKit Go.Proofs.YtebcmhajbjkojaaW.PrintWords Go.Proofs.YtebcmhajbjkojaaW.PrintLast Go.Proofs.YtebcmhajbjkojaaW.PrintMore
attribute [local go_sem] max2_int min2_int max_two min_two max_three min_three max_four min_four   -- for this text's walks alone
set_option linter.unusedVariables false
set_option linter.unusedSimpArgs false
attribute [local go_sem high] eqA57
def isobathlaw02_fine.f (k : Nat)  : Option (Bool) := (isobathlaw02_Example.f).bind fun bt101 => ((mooring_Top.f bt101.1 bt101.2.1 bt101.2.2.1 bt101.2.2.2.1 bt101.2.2.2.2 false).bind fun bt111 => ((mooring_Spacing.f k (([0, 7, 56] : List Int))).bind fun bt118 => (if (wrap64 (bt111.2.2 + bt118.2)) = 0 then (if (bt111.1 == 2000 && (bt111.2.1 == 2936)) = true then (some (bt118.1 == 3)) else (some false)) else (some false))))
theorem isobathlaw02_fine.mono : ∀ k, LeO (isobathlaw02_fine.f k ) (isobathlaw02_fine.f (k + 1) ) := by
 intro  k
 unfold isobathlaw02_fine.f
 repeat' first
   | (with_reducible exact mooring_Spacing.mono _ _)
   | (with_reducible exact LeO.refl _)
   | (with_reducible exact LeO.none _)
   | (with_reducible refine LeO.ite ?_ ?_)
   | (with_reducible refine LeO.bind ?_ (fun _ => ?_))
   | exact mooring_Spacing.mono _ _
   | exact LeO.none _
   | refine LeO.ite ?_ ?_
   | refine LeO.bind ?_ (fun _ => ?_)
set_option maxHeartbeats 8000000 in
set_option maxRecDepth 100000 in
theorem isobathlaw02_fine.calls (k : Nat)  (r : Bool) (w : World) (h : isobathlaw02_fine.f k  = some r) :
  Calls Try.prog 14 #[] w fun e w' => e = .returned (.bool r) ∧ Below w.heap.size w w' := by
 have hu37 := Try.underlying37
 have hu57 := Try.underlying57
 have HB := Aside0.mk (Below.refl w.heap.size w)
 have H : ((isobathlaw02_Example.f).bind fun bt101 => ((mooring_Top.f bt101.1 bt101.2.1 bt101.2.2.1 bt101.2.2.2.1 bt101.2.2.2.2 false).bind fun bt111 => ((mooring_Spacing.f k (([0, 7, 56] : List Int))).bind fun bt118 => (if (wrap64 (bt111.2.2 + bt118.2)) = 0 then (if (bt111.1 == 2000 && (bt111.2.1 == 2936)) = true then (some (bt118.1 == 3)) else (some false)) else (some false))))) = some r := h
 clear h
 replace H := Option.bind_eq_some_iff.mp H
 obtain ⟨⟨t101, t102, t105, t106, t107⟩, A10, H⟩ := H
 replace H : ((mooring_Top.f t101 t102 t105 t106 t107 false).bind fun bt111 => ((mooring_Spacing.f k (([0, 7, 56] : List Int))).bind fun bt118 => (if (wrap64 (bt111.2.2 + bt118.2)) = 0 then (if (bt111.1 == 2000 && (bt111.2.1 == 2936)) = true then (some (bt118.1 == 3)) else (some false)) else (some false)))) = some r := H
 have A1 := Aside0.mk A10
 clear A10
 replace H := Option.bind_eq_some_iff.mp H
 obtain ⟨⟨t111, t112, t113⟩, A20, H⟩ := H
 replace H : ((mooring_Spacing.f k (([0, 7, 56] : List Int))).bind fun bt118 => (if (wrap64 (t113 + bt118.2)) = 0 then (if (t111 == 2000 && (t112 == 2936)) = true then (some (bt118.1 == 3)) else (some false)) else (some false))) = some r := H
 have A2 := Aside0.mk A20
 clear A20
 obtain ⟨y115, hy115⟩ : ∃ y_ : List Int, y_ = (([0, 7, 56] : List Int)) := ⟨_, rfl⟩
 replace H : ((mooring_Spacing.f k y115).bind fun bt118 => (if (wrap64 (t113 + bt118.2)) = 0 then (if (t111 == 2000 && (t112 == 2936)) = true then (some (bt118.1 == 3)) else (some false)) else (some false))) = some r := by first | (rw [hy115]; with_reducible exact H) | (have H2_ := (Option.bind_some _ _).symm.trans H; rw [hy115]; with_reducible exact H2_) | (have H2_ := (Option.bind_some _ _).symm.trans H; with_reducible exact H2_) | with_reducible exact H | (rw [hy115]; exact H) | exact H
 have Ny115 := Aside0.mk hy115
 clear hy115
 replace H := Option.bind_eq_some_iff.mp H
 obtain ⟨⟨t118, t119⟩, A30, H⟩ := H
 replace H : (if (wrap64 (t113 + t119)) = 0 then (if (t111 == 2000 && (t112 == 2936)) = true then (some (t118 == 3)) else (some false)) else (some false)) = some r := H
 have A3 := Aside0.mk A30
 clear A30
 by_cases c4 : (wrap64 (t113 + t119)) = 0
 ·rw [if_pos c4] at H
  have c4b0 : ((wrap64 (t113 + t119)) == 0) = true := beq_iff_eq.mpr c4
  have c4b1 : ((wrap64 (t113 + t119)) != 0) = false := bne_eq_false_iff_eq.mpr c4
  clear c4
  by_cases c5 : (t111 == 2000 && (t112 == 2936)) = true
  ·rw [if_pos c5] at H
   have c5b0 : (t111 == 2000 && (t112 == 2936)) = true := c5
   (try (have c5b1 : decide (t111 = 2000 && (t112 == 2936)) = true := by simpa using c5))
   (try (have c5b2 : (t111 == 2000 && (t112 == 2936)) = true := by simpa using c5))
   clear c5
   obtain rfl := Option.some.inj H
   go_enter Try.func14, Try.ntmps14
   go_wp2_with (first | ((with_reducible refine gate_callee (f := 51) rfl ?_); refine goesL_ (some 8) rfl rfl Try.func51 (by kernel_rfl) rfl #[] rfl (by (try simp only [List.map_toArray, List.map_cons, List.map_nil]); first | done | rfl | (simp only [List.length_drop, List.length_take]; rfl)) ?_; (with_reducible refine (isobathlaw02_Example.calls  t101 t102 t105 t106 t107 _ A1.out).mono ?_); rintro e w6 ⟨v103, v108, rfl, ho0, ho1, hb⟩; refine ⟨_, rfl, ?_⟩; have n0_ := Aside0.mk (Kd.R_lower ho0 (below_size (by repeat (first | (with_reducible first | exact HB.out | apply below_alloc | apply pw_below_drewN | apply below_drew1) | exact HB.out)))); have n1_ := Aside0.mk (Kd.R_lower ho1 (below_size (by repeat (first | (with_reducible first | exact HB.out | apply below_alloc | apply pw_below_drewN | apply below_drew1) | exact HB.out)))); have n2_ := Aside0.mk (below_step (by repeat (first | (with_reducible first | exact HB.out | apply below_alloc | apply pw_below_drewN | apply below_drew1) | exact HB.out)) hb); clear HB; have HO104 := n0_; have HO109 := n1_; have HB := n2_; clear n0_ n1_ n2_; (try clear hb); (try clear hb2); (try clear hk); (try clear hi); (try clear ho0); (try clear ho1)) | ((with_reducible refine gate_dst (N := 1) rfl ?_); refine box_event ?hg (N := 1) ?hd (cs := #[.int .i64 0, .slice none 0 0, .int .i64 0, .int .i64 0]) (t := 37) ?hr ?_; (case hd => rfl); (case hg => rfl); (case hr => first | (go_simp; done) | (go_simp; rfl)); intro gb110 hg w7 hbox hb; have n0_ := Aside0.mk (Kd.R_below (by (with_reducible repeat (first | apply Kd.R_alloc | apply Kd.R_drewN | apply Kd.R_drew)); exact HO104.out) hb); have n1_ := Aside0.mk (Kd.R_below (by (with_reducible repeat (first | apply Kd.R_alloc | apply Kd.R_drewN | apply Kd.R_drew)); exact HO109.out) hb); have n2_ := Aside0.mk (below_step (by repeat (first | (with_reducible first | exact HB.out | apply below_alloc | apply pw_below_drewN | apply below_drew1) | exact HB.out)) hb); have n3_ := Aside0.mk (hbox); have n4_ := Aside0.mk ((by rw [hg]; exact (below_size (by repeat (first | (with_reducible first | exact HB.out | apply below_alloc | apply pw_below_drewN | apply below_drew1) | exact HB.out))) : w.heap.size ≤ gb110)); have n5_ := Aside0.mk ((by rw [hg]; exact (below_size (by repeat (first | (with_reducible first | exact HB.out | apply below_alloc | apply pw_below_drewN | apply below_drew1) | exact HB.out))) : w.heap.size ≤ gb110)); clear HO104; clear HO109; clear HB; have HO104 := n0_; have HO109 := n1_; have HB := n2_; have BK110 := n3_; have GW110 := n4_; have GE110 := n5_; clear n0_ n1_ n2_ n3_ n4_ n5_; clear hb hbox hg; have hcz8_0 : w7.cell? ⟨gb110, 0, none⟩ = some (.int .i64 0) := (blk_cell BK110.out 0).trans rfl; have hcz8_1 : w7.cell? ⟨gb110, 1, none⟩ = some (.slice none 0 0) := (blk_cell BK110.out 1).trans rfl; have hcz8_2 : w7.cell? ⟨gb110, 2, none⟩ = some (.int .i64 0) := (blk_cell BK110.out 2).trans rfl; have hcz8_3 : w7.cell? ⟨gb110, 3, none⟩ = some (.int .i64 0) := (blk_cell BK110.out 3).trans rfl; have hfz8_0 := blk_frozen BK110.out 0; have hfz8_1 := blk_frozen BK110.out 1; have hfz8_2 := blk_frozen BK110.out 2; have hfz8_3 := blk_frozen BK110.out 3; obtain ⟨Ao9, co9, eo9⟩ := Kd.R_slice HO104.out; subst eo9; obtain ⟨Ao10, co10, eo10⟩ := Kd.R_slice HO109.out; subst eo10) | ((with_reducible refine gate_callee (f := 32) rfl ?_); refine goesL_ (some 14) rfl rfl Try.func32 (by kernel_rfl) rfl #[.agg #[.int .i64 t101, .slice Ao9 t102.length co9, .int .i64 t105, .int .i64 t106], .slice Ao10 t107.length co10, .bool false] rfl (by (try simp only [List.map_toArray, List.map_cons, List.map_nil]); first | done | rfl | (simp only [List.length_drop, List.length_take]; rfl)) ?_; (with_reducible refine (mooring_Top.calls t101 _ _ t102 t105 t106 _ _ t107 false t111 t112 t113 _ ?side1 ?side2 ?side3 ?side4 A2.out).mono ?_); (case side1 => refine (Kd.R_reads' (e := 46) (base := w.heap.size) (ok := fun k_ => True) (n := t102.length) (c := co9) ?_).2.2; exact (by (with_reducible repeat (first | apply Kd.R_alloc | apply Kd.R_drewN | apply Kd.R_drew)); exact (Kd.R_mono (Kd.R_far (p := ⟨gb110, 3, none⟩) (Kd.R_far (p := ⟨gb110, 2, none⟩) (Kd.R_far (p := ⟨gb110, 1, none⟩) (Kd.R_far (p := ⟨gb110, 0, none⟩) (Kd.R_types HO104.out BK110.out (by decide)) (fun _ hk => hk.2) (.int .i64 t101)) (fun _ hk => hk.2) (.slice Ao9 t102.length co9)) (fun _ hk => hk.2) (.int .i64 t105)) (fun _ hk => hk.2) (.int .i64 t106)) (fun _ h_ => h_.1)))); (case side2 => exact (Kd.R_reads' HO104.out).2.1); (case side3 => refine (Kd.R_reads' (e := 57) (base := w.heap.size) (ok := fun k_ => True) (n := t107.length) (c := co10) ?_).2.2; exact (by (with_reducible repeat (first | apply Kd.R_alloc | apply Kd.R_drewN | apply Kd.R_drew)); exact (Kd.R_mono (Kd.R_far (p := ⟨gb110, 3, none⟩) (Kd.R_far (p := ⟨gb110, 2, none⟩) (Kd.R_far (p := ⟨gb110, 1, none⟩) (Kd.R_far (p := ⟨gb110, 0, none⟩) (Kd.R_types HO109.out BK110.out (by decide)) (fun _ hk => hk.2) (.int .i64 t101)) (fun _ hk => hk.2) (.slice Ao9 t102.length co9)) (fun _ hk => hk.2) (.int .i64 t105)) (fun _ hk => hk.2) (.int .i64 t106)) (fun _ h_ => h_.1)))); (case side4 => exact (Kd.R_reads' HO109.out).2.1); rintro e w11 ⟨rfl, hb⟩; refine ⟨_, rfl, ?_⟩; have n0_ := Aside0.mk (Kd.R_below (by (with_reducible repeat (first | apply Kd.R_alloc | apply Kd.R_drewN | apply Kd.R_drew)); exact (Kd.R_mono (Kd.R_far (p := ⟨gb110, 3, none⟩) (Kd.R_far (p := ⟨gb110, 2, none⟩) (Kd.R_far (p := ⟨gb110, 1, none⟩) (Kd.R_far (p := ⟨gb110, 0, none⟩) (Kd.R_types HO104.out BK110.out (by decide)) (fun _ hk => hk.2) (.int .i64 t101)) (fun _ hk => hk.2) (.slice Ao9 t102.length co9)) (fun _ hk => hk.2) (.int .i64 t105)) (fun _ hk => hk.2) (.int .i64 t106)) (fun _ h_ => h_.1))) hb); have n1_ := Aside0.mk (Kd.R_below (by (with_reducible repeat (first | apply Kd.R_alloc | apply Kd.R_drewN | apply Kd.R_drew)); exact (Kd.R_mono (Kd.R_far (p := ⟨gb110, 3, none⟩) (Kd.R_far (p := ⟨gb110, 2, none⟩) (Kd.R_far (p := ⟨gb110, 1, none⟩) (Kd.R_far (p := ⟨gb110, 0, none⟩) (Kd.R_types HO109.out BK110.out (by decide)) (fun _ hk => hk.2) (.int .i64 t101)) (fun _ hk => hk.2) (.slice Ao9 t102.length co9)) (fun _ hk => hk.2) (.int .i64 t105)) (fun _ hk => hk.2) (.int .i64 t106)) (fun _ h_ => h_.1))) hb); have n2_ := Aside0.mk (blk_below (g := gb110) (o := .cells #[.int .i64 t101, .slice Ao9 t102.length co9, .int .i64 t105, .int .i64 t106] 37 (0, 0)) (by (with_reducible repeat (first | refine blk_drewN ?_ _ | refine blk_drew ?_ | refine blk_alloc ?_ _)); refine blk_put (cs := #[.int .i64 t101, .slice Ao9 t102.length co9, .int .i64 t105, .int .i64 0]) ?_ 3 _ rfl; (with_reducible repeat (first | refine blk_drewN ?_ _ | refine blk_drew ?_ | refine blk_alloc ?_ _)); refine blk_put (cs := #[.int .i64 t101, .slice Ao9 t102.length co9, .int .i64 0, .int .i64 0]) ?_ 2 _ rfl; (with_reducible repeat (first | refine blk_drewN ?_ _ | refine blk_drew ?_ | refine blk_alloc ?_ _)); refine blk_put (cs := #[.int .i64 t101, .slice none 0 0, .int .i64 0, .int .i64 0]) ?_ 1 _ rfl; (with_reducible repeat (first | refine blk_drewN ?_ _ | refine blk_drew ?_ | refine blk_alloc ?_ _)); refine blk_put (cs := #[.int .i64 0, .slice none 0 0, .int .i64 0, .int .i64 0]) ?_ 0 _ rfl; (with_reducible repeat (first | refine blk_drewN ?_ _ | refine blk_drew ?_ | refine blk_alloc ?_ _)); exact BK110.out) hb); have n3_ := Aside0.mk (below_step (by repeat (first | (with_reducible first | exact HB.out | apply below_alloc | apply pw_below_drewN | apply below_drew1 | refine below_set ?_ GE110.out) | exact HB.out)) hb); clear HO104; clear HO109; clear BK110; clear HB; have HO104 := n0_; have HO109 := n1_; have BK110 := n2_; have HB := n3_; clear n0_ n1_ n2_ n3_; (try clear hb); (try clear hb2); (try clear hk); (try clear hi)) | ((with_reducible refine gate_dst (N := 3) rfl ?_); refine box_event ?hg (N := 3) ?hd (cs := #[.int .i64 0, .int .i64 0]) (t := 57) ?hr ?_; (case hd => rfl); (case hg => rfl); (case hr => first | (go_simp; done) | (go_simp; rfl)); intro gb114 hg w12 hbox hb; have n0_ := Aside0.mk (Kd.R_below (by (with_reducible repeat (first | apply Kd.R_alloc | apply Kd.R_drewN | apply Kd.R_drew)); exact HO104.out) hb); have n1_ := Aside0.mk (Kd.R_below (Kd.R_elderB (by (with_reducible repeat (first | apply Kd.R_alloc | apply Kd.R_drewN | apply Kd.R_drew)); exact HO109.out) gb114 (Nat.le_of_eq hg.symm)) hb); have n2_ := Aside0.mk (blk_below (g := gb110) (o := .cells #[.int .i64 t101, .slice Ao9 t102.length co9, .int .i64 t105, .int .i64 t106] 37 (0, 0)) (by (with_reducible repeat (first | refine blk_drewN ?_ _ | refine blk_drew ?_ | refine blk_alloc ?_ _)); exact BK110.out) hb); have n3_ := Aside0.mk (below_step (by repeat (first | (with_reducible first | exact HB.out | apply below_alloc | apply pw_below_drewN | apply below_drew1 | refine below_set ?_ GE110.out) | exact HB.out)) hb); have n4_ := Aside0.mk (hbox); have n5_ := Aside0.mk ((by rw [hg]; exact (below_size (by repeat (first | (with_reducible first | exact HB.out | apply below_alloc | apply pw_below_drewN | apply below_drew1 | refine below_set ?_ GE110.out) | exact HB.out))) : w.heap.size ≤ gb114)); have n6_ := Aside0.mk ((by rw [hg]; exact (below_size (by repeat (first | (with_reducible first | exact HB.out | apply below_alloc | apply pw_below_drewN | apply below_drew1 | refine below_set ?_ GE110.out) | exact HB.out))) : w.heap.size ≤ gb114)); have n7_ := Aside0.mk ((by rw [hg]; exact Nat.ne_of_lt (blk_lt (g := gb110) (o := .cells #[.int .i64 t101, .slice Ao9 t102.length co9, .int .i64 t105, .int .i64 t106] 37 (0, 0)) (by (with_reducible repeat (first | refine blk_drewN ?_ _ | refine blk_drew ?_ | refine blk_alloc ?_ _)); exact BK110.out)) : gb110 ≠ gb114)); have n8_ := Aside0.mk ((by rw [hg]; exact Nat.ne_of_gt (blk_lt (g := gb110) (o := .cells #[.int .i64 t101, .slice Ao9 t102.length co9, .int .i64 t105, .int .i64 t106] 37 (0, 0)) (by (with_reducible repeat (first | refine blk_drewN ?_ _ | refine blk_drew ?_ | refine blk_alloc ?_ _)); exact BK110.out)) : gb114 ≠ gb110)); clear HO104; clear HO109; clear BK110; clear HB; have HO104 := n0_; have HO109 := n1_; have BK110 := n2_; have HB := n3_; have BK114 := n4_; have GW114 := n5_; have GE114 := n6_; have NB110_114 := n7_; have NB114_110 := n8_; clear n0_ n1_ n2_ n3_ n4_ n5_ n6_ n7_ n8_; clear hb hbox hg; have hnb13 := NB114_110.out; have hnc13 := NB110_114.out; have hcz14_0 : w12.cell? ⟨gb114, 0, none⟩ = some (.int .i64 0) := (blk_cell BK114.out 0).trans rfl; have hcz14_1 : w12.cell? ⟨gb114, 1, none⟩ = some (.int .i64 0) := (blk_cell BK114.out 1).trans rfl; have hfz14_0 := blk_frozen BK114.out 0; have hfz14_1 := blk_frozen BK114.out 1) | ((with_reducible refine gate_dst (N := 18) rfl ?_); refine Kd.R_lit (Kd.int .i64) _ 3 ?hg (N := 18) ?hd (xs := ([0, 7, 56] : List Int)) (inner := [.int .i64 0, .int .i64 7, .int .i64 56]) (ok := fun _ => True) (okp := fun _ => True) ?hr ?hp (fun _ hk => hk) trivial (Below.refl _ _) (Nat.le_refl _) (by simp) ?_; (case hd => rfl); (case hg => rfl); (case hr => first | (go_simp; done) | (go_simp; rfl)); (case hp => exact (Reps.one (show Kd.M (Kd.int .i64) _ _ _ 0 [.int .i64 0] from rfl) (Reps.one (show Kd.M (Kd.int .i64) _ _ _ 7 [.int .i64 7] from rfl) (Reps.one (show Kd.M (Kd.int .i64) _ _ _ 56 [.int .i64 56] from rfl) (Reps.none _ _))))); intro v116 w15 ho16 hb hg_ hnew_; clear hg_ hnew_; (first | rw [← Ny115.out] at ho16 | (simp only [Int.reduceToNat] at ho16; rw [← Ny115.out] at ho16)); have n0_ := Aside0.mk (Kd.R_below (by (with_reducible repeat (first | apply Kd.R_alloc | apply Kd.R_drewN | apply Kd.R_drew)); exact (Kd.R_mono (Kd.R_far (p := ⟨gb114, 1, none⟩) (Kd.R_far (p := ⟨gb114, 0, none⟩) (Kd.R_types HO104.out BK114.out (by decide)) (fun _ hk => hk.2) (.int .i64 t111)) (fun _ hk => hk.2) (.int .i64 t112)) (fun _ h_ => h_.1))) hb); have n1_ := Aside0.mk (Kd.R_below (by (with_reducible repeat (first | apply Kd.R_alloc | apply Kd.R_drewN | apply Kd.R_drew)); exact (Kd.R_mono (Kd.R_far (p := ⟨gb114, 1, none⟩) (Kd.R_far (p := ⟨gb114, 0, none⟩) (Kd.R_mono HO109.out (fun k_ hk => (⟨hk, hk.2⟩ : _ ∧ k_ ≠ gb114))) (fun _ hk => hk.2) (.int .i64 t111)) (fun _ hk => hk.2) (.int .i64 t112)) (fun _ h_ => h_.1))) hb); have n2_ := Aside0.mk (Kd.R_lower ho16 (below_size (by repeat (first | (with_reducible first | exact HB.out | apply below_alloc | apply pw_below_drewN | apply below_drew1 | refine below_set ?_ GE110.out | refine below_set ?_ GE114.out) | exact HB.out)))); have n3_ := Aside0.mk (blk_below (g := gb110) (o := .cells #[.int .i64 t101, .slice Ao9 t102.length co9, .int .i64 t105, .int .i64 t106] 37 (0, 0)) (by (with_reducible repeat (first | refine blk_drewN ?_ _ | refine blk_drew ?_ | refine blk_alloc ?_ _)); refine blk_far ?_ NB110_114.out _; (with_reducible repeat (first | refine blk_drewN ?_ _ | refine blk_drew ?_ | refine blk_alloc ?_ _)); refine blk_far ?_ NB110_114.out _; (with_reducible repeat (first | refine blk_drewN ?_ _ | refine blk_drew ?_ | refine blk_alloc ?_ _)); exact BK110.out) hb); have n4_ := Aside0.mk (blk_below (g := gb114) (o := .cells #[.int .i64 t111, .int .i64 t112] 57 (0, 0)) (by (with_reducible repeat (first | refine blk_drewN ?_ _ | refine blk_drew ?_ | refine blk_alloc ?_ _)); refine blk_put (cs := #[.int .i64 t111, .int .i64 0]) ?_ 1 _ rfl; (with_reducible repeat (first | refine blk_drewN ?_ _ | refine blk_drew ?_ | refine blk_alloc ?_ _)); refine blk_put (cs := #[.int .i64 0, .int .i64 0]) ?_ 0 _ rfl; (with_reducible repeat (first | refine blk_drewN ?_ _ | refine blk_drew ?_ | refine blk_alloc ?_ _)); exact BK114.out) hb); have n5_ := Aside0.mk (below_step (by repeat (first | (with_reducible first | exact HB.out | apply below_alloc | apply pw_below_drewN | apply below_drew1 | refine below_set ?_ GE110.out | refine below_set ?_ GE114.out) | exact HB.out)) hb); clear HO104; clear HO109; clear BK110; clear BK114; clear HB; have HO104 := n0_; have HO109 := n1_; have HO117 := n2_; have BK110 := n3_; have BK114 := n4_; have HB := n5_; clear n0_ n1_ n2_ n3_ n4_ n5_; clear hb ho16; obtain ⟨Ao17, co17, eo17⟩ := Kd.R_slice HO117.out; subst eo17) | ((with_reducible refine gate_callee (f := 15) rfl ?_); refine goesL_ (some 19) rfl rfl Try.func15 (by kernel_rfl) rfl #[.slice Ao17 y115.length co17] rfl (by (try simp only [List.map_toArray, List.map_cons, List.map_nil]); first | done | rfl | (simp only [List.length_drop, List.length_take]; rfl)) ?_; (with_reducible refine (mooring_Spacing.calls k _ _ y115 t118 t119 _ ?side1 ?side2 A3.out).mono ?_); (case side1 => repeat (first | exact (Kd.R_reads' HO117.out).2.2 | (with_reducible refine Kd.C_alloc ?_ _) | (with_reducible refine Kd.C_drewN ?_ _) | (with_reducible refine Kd.C_drew ?_))); (case side2 => exact (Kd.R_reads' HO117.out).2.1); rintro e w18 ⟨rfl, hb⟩; refine ⟨_, rfl, ?_⟩; have n0_ := Aside0.mk (Kd.R_below (by (with_reducible repeat (first | apply Kd.R_alloc | apply Kd.R_drewN | apply Kd.R_drew)); exact HO104.out) hb); have n1_ := Aside0.mk (Kd.R_below (by (with_reducible repeat (first | apply Kd.R_alloc | apply Kd.R_drewN | apply Kd.R_drew)); exact HO109.out) hb); have n2_ := Aside0.mk (Kd.R_below (by (with_reducible repeat (first | apply Kd.R_alloc | apply Kd.R_drewN | apply Kd.R_drew)); exact HO117.out) hb); have n3_ := Aside0.mk (blk_below (g := gb110) (o := .cells #[.int .i64 t101, .slice Ao9 t102.length co9, .int .i64 t105, .int .i64 t106] 37 (0, 0)) (by (with_reducible repeat (first | refine blk_drewN ?_ _ | refine blk_drew ?_ | refine blk_alloc ?_ _)); exact BK110.out) hb); have n4_ := Aside0.mk (blk_below (g := gb114) (o := .cells #[.int .i64 t111, .int .i64 t112] 57 (0, 0)) (by (with_reducible repeat (first | refine blk_drewN ?_ _ | refine blk_drew ?_ | refine blk_alloc ?_ _)); exact BK114.out) hb); have n5_ := Aside0.mk (below_step (by repeat (first | (with_reducible first | exact HB.out | apply below_alloc | apply pw_below_drewN | apply below_drew1 | refine below_set ?_ GE110.out | refine below_set ?_ GE114.out) | exact HB.out)) hb); clear HO104; clear HO109; clear HO117; clear BK110; clear BK114; clear HB; have HO104 := n0_; have HO109 := n1_; have HO117 := n2_; have BK110 := n3_; have BK114 := n4_; have HB := n5_; clear n0_ n1_ n2_ n3_ n4_ n5_; (try clear hb); (try clear hb2); (try clear hk); (try clear hi); have hcz19_0 : w18.cell? ⟨gb114, 0, none⟩ = some (.int .i64 t111) := (blk_cell BK114.out 0).trans rfl; have hcz19_1 : w18.cell? ⟨gb114, 1, none⟩ = some (.int .i64 t112) := (blk_cell BK114.out 1).trans rfl; have hfz19_0 := blk_frozen BK114.out 0; have hfz19_1 := blk_frozen BK114.out 1))
   go_ret
   exact ⟨by first | rfl | (simp [errW_none, errW_some] <;> rfl) | (simp [*, errW_none, errW_some] <;> rfl), by repeat (first | (with_reducible first | exact HB.out | apply below_alloc | apply pw_below_drewN | apply below_drew1 | refine below_set ?_ GE110.out | refine below_set ?_ GE114.out) | exact HB.out)⟩
  ·rw [if_neg c5] at H
   have c5b0 : (t111 == 2000 && (t112 == 2936)) = false := by simpa using c5
   (try (have c5b1 : decide (t111 = 2000 && (t112 == 2936)) = false := by simpa using c5))
   (try (have c5b2 : (t111 == 2000 && (t112 == 2936)) = false := by simpa using c5))
   (try (have c5b3 : ¬ (t111 = 2000 && (t112 == 2936)) := by simpa using c5))
   clear c5
   obtain rfl := Option.some.inj H
   go_enter Try.func14, Try.ntmps14
   go_wp2_with (first | ((with_reducible refine gate_callee (f := 51) rfl ?_); refine goesL_ (some 8) rfl rfl Try.func51 (by kernel_rfl) rfl #[] rfl (by (try simp only [List.map_toArray, List.map_cons, List.map_nil]); first | done | rfl | (simp only [List.length_drop, List.length_take]; rfl)) ?_; (with_reducible refine (isobathlaw02_Example.calls  t101 t102 t105 t106 t107 _ A1.out).mono ?_); rintro e w20 ⟨v103, v108, rfl, ho0, ho1, hb⟩; refine ⟨_, rfl, ?_⟩; have n0_ := Aside0.mk (Kd.R_lower ho0 (below_size (by repeat (first | (with_reducible first | exact HB.out | apply below_alloc | apply pw_below_drewN | apply below_drew1) | exact HB.out)))); have n1_ := Aside0.mk (Kd.R_lower ho1 (below_size (by repeat (first | (with_reducible first | exact HB.out | apply below_alloc | apply pw_below_drewN | apply below_drew1) | exact HB.out)))); have n2_ := Aside0.mk (below_step (by repeat (first | (with_reducible first | exact HB.out | apply below_alloc | apply pw_below_drewN | apply below_drew1) | exact HB.out)) hb); clear HB; have HO104 := n0_; have HO109 := n1_; have HB := n2_; clear n0_ n1_ n2_; (try clear hb); (try clear hb2); (try clear hk); (try clear hi); (try clear ho0); (try clear ho1)) | ((with_reducible refine gate_dst (N := 1) rfl ?_); refine box_event ?hg (N := 1) ?hd (cs := #[.int .i64 0, .slice none 0 0, .int .i64 0, .int .i64 0]) (t := 37) ?hr ?_; (case hd => rfl); (case hg => rfl); (case hr => first | (go_simp; done) | (go_simp; rfl)); intro gb110 hg w21 hbox hb; have n0_ := Aside0.mk (Kd.R_below (by (with_reducible repeat (first | apply Kd.R_alloc | apply Kd.R_drewN | apply Kd.R_drew)); exact HO104.out) hb); have n1_ := Aside0.mk (Kd.R_below (by (with_reducible repeat (first | apply Kd.R_alloc | apply Kd.R_drewN | apply Kd.R_drew)); exact HO109.out) hb); have n2_ := Aside0.mk (below_step (by repeat (first | (with_reducible first | exact HB.out | apply below_alloc | apply pw_below_drewN | apply below_drew1) | exact HB.out)) hb); have n3_ := Aside0.mk (hbox); have n4_ := Aside0.mk ((by rw [hg]; exact (below_size (by repeat (first | (with_reducible first | exact HB.out | apply below_alloc | apply pw_below_drewN | apply below_drew1) | exact HB.out))) : w.heap.size ≤ gb110)); have n5_ := Aside0.mk ((by rw [hg]; exact (below_size (by repeat (first | (with_reducible first | exact HB.out | apply below_alloc | apply pw_below_drewN | apply below_drew1) | exact HB.out))) : w.heap.size ≤ gb110)); clear HO104; clear HO109; clear HB; have HO104 := n0_; have HO109 := n1_; have HB := n2_; have BK110 := n3_; have GW110 := n4_; have GE110 := n5_; clear n0_ n1_ n2_ n3_ n4_ n5_; clear hb hbox hg; have hcz22_0 : w21.cell? ⟨gb110, 0, none⟩ = some (.int .i64 0) := (blk_cell BK110.out 0).trans rfl; have hcz22_1 : w21.cell? ⟨gb110, 1, none⟩ = some (.slice none 0 0) := (blk_cell BK110.out 1).trans rfl; have hcz22_2 : w21.cell? ⟨gb110, 2, none⟩ = some (.int .i64 0) := (blk_cell BK110.out 2).trans rfl; have hcz22_3 : w21.cell? ⟨gb110, 3, none⟩ = some (.int .i64 0) := (blk_cell BK110.out 3).trans rfl; have hfz22_0 := blk_frozen BK110.out 0; have hfz22_1 := blk_frozen BK110.out 1; have hfz22_2 := blk_frozen BK110.out 2; have hfz22_3 := blk_frozen BK110.out 3; obtain ⟨Ao23, co23, eo23⟩ := Kd.R_slice HO104.out; subst eo23; obtain ⟨Ao24, co24, eo24⟩ := Kd.R_slice HO109.out; subst eo24) | ((with_reducible refine gate_callee (f := 32) rfl ?_); refine goesL_ (some 14) rfl rfl Try.func32 (by kernel_rfl) rfl #[.agg #[.int .i64 t101, .slice Ao23 t102.length co23, .int .i64 t105, .int .i64 t106], .slice Ao24 t107.length co24, .bool false] rfl (by (try simp only [List.map_toArray, List.map_cons, List.map_nil]); first | done | rfl | (simp only [List.length_drop, List.length_take]; rfl)) ?_; (with_reducible refine (mooring_Top.calls t101 _ _ t102 t105 t106 _ _ t107 false t111 t112 t113 _ ?side1 ?side2 ?side3 ?side4 A2.out).mono ?_); (case side1 => refine (Kd.R_reads' (e := 46) (base := w.heap.size) (ok := fun k_ => True) (n := t102.length) (c := co23) ?_).2.2; exact (by (with_reducible repeat (first | apply Kd.R_alloc | apply Kd.R_drewN | apply Kd.R_drew)); exact (Kd.R_mono (Kd.R_far (p := ⟨gb110, 3, none⟩) (Kd.R_far (p := ⟨gb110, 2, none⟩) (Kd.R_far (p := ⟨gb110, 1, none⟩) (Kd.R_far (p := ⟨gb110, 0, none⟩) (Kd.R_types HO104.out BK110.out (by decide)) (fun _ hk => hk.2) (.int .i64 t101)) (fun _ hk => hk.2) (.slice Ao23 t102.length co23)) (fun _ hk => hk.2) (.int .i64 t105)) (fun _ hk => hk.2) (.int .i64 t106)) (fun _ h_ => h_.1)))); (case side2 => exact (Kd.R_reads' HO104.out).2.1); (case side3 => refine (Kd.R_reads' (e := 57) (base := w.heap.size) (ok := fun k_ => True) (n := t107.length) (c := co24) ?_).2.2; exact (by (with_reducible repeat (first | apply Kd.R_alloc | apply Kd.R_drewN | apply Kd.R_drew)); exact (Kd.R_mono (Kd.R_far (p := ⟨gb110, 3, none⟩) (Kd.R_far (p := ⟨gb110, 2, none⟩) (Kd.R_far (p := ⟨gb110, 1, none⟩) (Kd.R_far (p := ⟨gb110, 0, none⟩) (Kd.R_types HO109.out BK110.out (by decide)) (fun _ hk => hk.2) (.int .i64 t101)) (fun _ hk => hk.2) (.slice Ao23 t102.length co23)) (fun _ hk => hk.2) (.int .i64 t105)) (fun _ hk => hk.2) (.int .i64 t106)) (fun _ h_ => h_.1)))); (case side4 => exact (Kd.R_reads' HO109.out).2.1); rintro e w25 ⟨rfl, hb⟩; refine ⟨_, rfl, ?_⟩; have n0_ := Aside0.mk (Kd.R_below (by (with_reducible repeat (first | apply Kd.R_alloc | apply Kd.R_drewN | apply Kd.R_drew)); exact (Kd.R_mono (Kd.R_far (p := ⟨gb110, 3, none⟩) (Kd.R_far (p := ⟨gb110, 2, none⟩) (Kd.R_far (p := ⟨gb110, 1, none⟩) (Kd.R_far (p := ⟨gb110, 0, none⟩) (Kd.R_types HO104.out BK110.out (by decide)) (fun _ hk => hk.2) (.int .i64 t101)) (fun _ hk => hk.2) (.slice Ao23 t102.length co23)) (fun _ hk => hk.2) (.int .i64 t105)) (fun _ hk => hk.2) (.int .i64 t106)) (fun _ h_ => h_.1))) hb); have n1_ := Aside0.mk (Kd.R_below (by (with_reducible repeat (first | apply Kd.R_alloc | apply Kd.R_drewN | apply Kd.R_drew)); exact (Kd.R_mono (Kd.R_far (p := ⟨gb110, 3, none⟩) (Kd.R_far (p := ⟨gb110, 2, none⟩) (Kd.R_far (p := ⟨gb110, 1, none⟩) (Kd.R_far (p := ⟨gb110, 0, none⟩) (Kd.R_types HO109.out BK110.out (by decide)) (fun _ hk => hk.2) (.int .i64 t101)) (fun _ hk => hk.2) (.slice Ao23 t102.length co23)) (fun _ hk => hk.2) (.int .i64 t105)) (fun _ hk => hk.2) (.int .i64 t106)) (fun _ h_ => h_.1))) hb); have n2_ := Aside0.mk (blk_below (g := gb110) (o := .cells #[.int .i64 t101, .slice Ao23 t102.length co23, .int .i64 t105, .int .i64 t106] 37 (0, 0)) (by (with_reducible repeat (first | refine blk_drewN ?_ _ | refine blk_drew ?_ | refine blk_alloc ?_ _)); refine blk_put (cs := #[.int .i64 t101, .slice Ao23 t102.length co23, .int .i64 t105, .int .i64 0]) ?_ 3 _ rfl; (with_reducible repeat (first | refine blk_drewN ?_ _ | refine blk_drew ?_ | refine blk_alloc ?_ _)); refine blk_put (cs := #[.int .i64 t101, .slice Ao23 t102.length co23, .int .i64 0, .int .i64 0]) ?_ 2 _ rfl; (with_reducible repeat (first | refine blk_drewN ?_ _ | refine blk_drew ?_ | refine blk_alloc ?_ _)); refine blk_put (cs := #[.int .i64 t101, .slice none 0 0, .int .i64 0, .int .i64 0]) ?_ 1 _ rfl; (with_reducible repeat (first | refine blk_drewN ?_ _ | refine blk_drew ?_ | refine blk_alloc ?_ _)); refine blk_put (cs := #[.int .i64 0, .slice none 0 0, .int .i64 0, .int .i64 0]) ?_ 0 _ rfl; (with_reducible repeat (first | refine blk_drewN ?_ _ | refine blk_drew ?_ | refine blk_alloc ?_ _)); exact BK110.out) hb); have n3_ := Aside0.mk (below_step (by repeat (first | (with_reducible first | exact HB.out | apply below_alloc | apply pw_below_drewN | apply below_drew1 | refine below_set ?_ GE110.out) | exact HB.out)) hb); clear HO104; clear HO109; clear BK110; clear HB; have HO104 := n0_; have HO109 := n1_; have BK110 := n2_; have HB := n3_; clear n0_ n1_ n2_ n3_; (try clear hb); (try clear hb2); (try clear hk); (try clear hi)) | ((with_reducible refine gate_dst (N := 3) rfl ?_); refine box_event ?hg (N := 3) ?hd (cs := #[.int .i64 0, .int .i64 0]) (t := 57) ?hr ?_; (case hd => rfl); (case hg => rfl); (case hr => first | (go_simp; done) | (go_simp; rfl)); intro gb114 hg w26 hbox hb; have n0_ := Aside0.mk (Kd.R_below (by (with_reducible repeat (first | apply Kd.R_alloc | apply Kd.R_drewN | apply Kd.R_drew)); exact HO104.out) hb); have n1_ := Aside0.mk (Kd.R_below (Kd.R_elderB (by (with_reducible repeat (first | apply Kd.R_alloc | apply Kd.R_drewN | apply Kd.R_drew)); exact HO109.out) gb114 (Nat.le_of_eq hg.symm)) hb); have n2_ := Aside0.mk (blk_below (g := gb110) (o := .cells #[.int .i64 t101, .slice Ao23 t102.length co23, .int .i64 t105, .int .i64 t106] 37 (0, 0)) (by (with_reducible repeat (first | refine blk_drewN ?_ _ | refine blk_drew ?_ | refine blk_alloc ?_ _)); exact BK110.out) hb); have n3_ := Aside0.mk (below_step (by repeat (first | (with_reducible first | exact HB.out | apply below_alloc | apply pw_below_drewN | apply below_drew1 | refine below_set ?_ GE110.out) | exact HB.out)) hb); have n4_ := Aside0.mk (hbox); have n5_ := Aside0.mk ((by rw [hg]; exact (below_size (by repeat (first | (with_reducible first | exact HB.out | apply below_alloc | apply pw_below_drewN | apply below_drew1 | refine below_set ?_ GE110.out) | exact HB.out))) : w.heap.size ≤ gb114)); have n6_ := Aside0.mk ((by rw [hg]; exact (below_size (by repeat (first | (with_reducible first | exact HB.out | apply below_alloc | apply pw_below_drewN | apply below_drew1 | refine below_set ?_ GE110.out) | exact HB.out))) : w.heap.size ≤ gb114)); have n7_ := Aside0.mk ((by rw [hg]; exact Nat.ne_of_lt (blk_lt (g := gb110) (o := .cells #[.int .i64 t101, .slice Ao23 t102.length co23, .int .i64 t105, .int .i64 t106] 37 (0, 0)) (by (with_reducible repeat (first | refine blk_drewN ?_ _ | refine blk_drew ?_ | refine blk_alloc ?_ _)); exact BK110.out)) : gb110 ≠ gb114)); have n8_ := Aside0.mk ((by rw [hg]; exact Nat.ne_of_gt (blk_lt (g := gb110) (o := .cells #[.int .i64 t101, .slice Ao23 t102.length co23, .int .i64 t105, .int .i64 t106] 37 (0, 0)) (by (with_reducible repeat (first | refine blk_drewN ?_ _ | refine blk_drew ?_ | refine blk_alloc ?_ _)); exact BK110.out)) : gb114 ≠ gb110)); clear HO104; clear HO109; clear BK110; clear HB; have HO104 := n0_; have HO109 := n1_; have BK110 := n2_; have HB := n3_; have BK114 := n4_; have GW114 := n5_; have GE114 := n6_; have NB110_114 := n7_; have NB114_110 := n8_; clear n0_ n1_ n2_ n3_ n4_ n5_ n6_ n7_ n8_; clear hb hbox hg; have hnb27 := NB114_110.out; have hnc27 := NB110_114.out; have hcz28_0 : w26.cell? ⟨gb114, 0, none⟩ = some (.int .i64 0) := (blk_cell BK114.out 0).trans rfl; have hcz28_1 : w26.cell? ⟨gb114, 1, none⟩ = some (.int .i64 0) := (blk_cell BK114.out 1).trans rfl; have hfz28_0 := blk_frozen BK114.out 0; have hfz28_1 := blk_frozen BK114.out 1) | ((with_reducible refine gate_dst (N := 18) rfl ?_); refine Kd.R_lit (Kd.int .i64) _ 3 ?hg (N := 18) ?hd (xs := ([0, 7, 56] : List Int)) (inner := [.int .i64 0, .int .i64 7, .int .i64 56]) (ok := fun _ => True) (okp := fun _ => True) ?hr ?hp (fun _ hk => hk) trivial (Below.refl _ _) (Nat.le_refl _) (by simp) ?_; (case hd => rfl); (case hg => rfl); (case hr => first | (go_simp; done) | (go_simp; rfl)); (case hp => exact (Reps.one (show Kd.M (Kd.int .i64) _ _ _ 0 [.int .i64 0] from rfl) (Reps.one (show Kd.M (Kd.int .i64) _ _ _ 7 [.int .i64 7] from rfl) (Reps.one (show Kd.M (Kd.int .i64) _ _ _ 56 [.int .i64 56] from rfl) (Reps.none _ _))))); intro v116 w29 ho30 hb hg_ hnew_; clear hg_ hnew_; (first | rw [← Ny115.out] at ho30 | (simp only [Int.reduceToNat] at ho30; rw [← Ny115.out] at ho30)); have n0_ := Aside0.mk (Kd.R_below (by (with_reducible repeat (first | apply Kd.R_alloc | apply Kd.R_drewN | apply Kd.R_drew)); exact (Kd.R_mono (Kd.R_far (p := ⟨gb114, 1, none⟩) (Kd.R_far (p := ⟨gb114, 0, none⟩) (Kd.R_types HO104.out BK114.out (by decide)) (fun _ hk => hk.2) (.int .i64 t111)) (fun _ hk => hk.2) (.int .i64 t112)) (fun _ h_ => h_.1))) hb); have n1_ := Aside0.mk (Kd.R_below (by (with_reducible repeat (first | apply Kd.R_alloc | apply Kd.R_drewN | apply Kd.R_drew)); exact (Kd.R_mono (Kd.R_far (p := ⟨gb114, 1, none⟩) (Kd.R_far (p := ⟨gb114, 0, none⟩) (Kd.R_mono HO109.out (fun k_ hk => (⟨hk, hk.2⟩ : _ ∧ k_ ≠ gb114))) (fun _ hk => hk.2) (.int .i64 t111)) (fun _ hk => hk.2) (.int .i64 t112)) (fun _ h_ => h_.1))) hb); have n2_ := Aside0.mk (Kd.R_lower ho30 (below_size (by repeat (first | (with_reducible first | exact HB.out | apply below_alloc | apply pw_below_drewN | apply below_drew1 | refine below_set ?_ GE110.out | refine below_set ?_ GE114.out) | exact HB.out)))); have n3_ := Aside0.mk (blk_below (g := gb110) (o := .cells #[.int .i64 t101, .slice Ao23 t102.length co23, .int .i64 t105, .int .i64 t106] 37 (0, 0)) (by (with_reducible repeat (first | refine blk_drewN ?_ _ | refine blk_drew ?_ | refine blk_alloc ?_ _)); refine blk_far ?_ NB110_114.out _; (with_reducible repeat (first | refine blk_drewN ?_ _ | refine blk_drew ?_ | refine blk_alloc ?_ _)); refine blk_far ?_ NB110_114.out _; (with_reducible repeat (first | refine blk_drewN ?_ _ | refine blk_drew ?_ | refine blk_alloc ?_ _)); exact BK110.out) hb); have n4_ := Aside0.mk (blk_below (g := gb114) (o := .cells #[.int .i64 t111, .int .i64 t112] 57 (0, 0)) (by (with_reducible repeat (first | refine blk_drewN ?_ _ | refine blk_drew ?_ | refine blk_alloc ?_ _)); refine blk_put (cs := #[.int .i64 t111, .int .i64 0]) ?_ 1 _ rfl; (with_reducible repeat (first | refine blk_drewN ?_ _ | refine blk_drew ?_ | refine blk_alloc ?_ _)); refine blk_put (cs := #[.int .i64 0, .int .i64 0]) ?_ 0 _ rfl; (with_reducible repeat (first | refine blk_drewN ?_ _ | refine blk_drew ?_ | refine blk_alloc ?_ _)); exact BK114.out) hb); have n5_ := Aside0.mk (below_step (by repeat (first | (with_reducible first | exact HB.out | apply below_alloc | apply pw_below_drewN | apply below_drew1 | refine below_set ?_ GE110.out | refine below_set ?_ GE114.out) | exact HB.out)) hb); clear HO104; clear HO109; clear BK110; clear BK114; clear HB; have HO104 := n0_; have HO109 := n1_; have HO117 := n2_; have BK110 := n3_; have BK114 := n4_; have HB := n5_; clear n0_ n1_ n2_ n3_ n4_ n5_; clear hb ho30; obtain ⟨Ao31, co31, eo31⟩ := Kd.R_slice HO117.out; subst eo31) | ((with_reducible refine gate_callee (f := 15) rfl ?_); refine goesL_ (some 19) rfl rfl Try.func15 (by kernel_rfl) rfl #[.slice Ao31 y115.length co31] rfl (by (try simp only [List.map_toArray, List.map_cons, List.map_nil]); first | done | rfl | (simp only [List.length_drop, List.length_take]; rfl)) ?_; (with_reducible refine (mooring_Spacing.calls k _ _ y115 t118 t119 _ ?side1 ?side2 A3.out).mono ?_); (case side1 => repeat (first | exact (Kd.R_reads' HO117.out).2.2 | (with_reducible refine Kd.C_alloc ?_ _) | (with_reducible refine Kd.C_drewN ?_ _) | (with_reducible refine Kd.C_drew ?_))); (case side2 => exact (Kd.R_reads' HO117.out).2.1); rintro e w32 ⟨rfl, hb⟩; refine ⟨_, rfl, ?_⟩; have n0_ := Aside0.mk (Kd.R_below (by (with_reducible repeat (first | apply Kd.R_alloc | apply Kd.R_drewN | apply Kd.R_drew)); exact HO104.out) hb); have n1_ := Aside0.mk (Kd.R_below (by (with_reducible repeat (first | apply Kd.R_alloc | apply Kd.R_drewN | apply Kd.R_drew)); exact HO109.out) hb); have n2_ := Aside0.mk (Kd.R_below (by (with_reducible repeat (first | apply Kd.R_alloc | apply Kd.R_drewN | apply Kd.R_drew)); exact HO117.out) hb); have n3_ := Aside0.mk (blk_below (g := gb110) (o := .cells #[.int .i64 t101, .slice Ao23 t102.length co23, .int .i64 t105, .int .i64 t106] 37 (0, 0)) (by (with_reducible repeat (first | refine blk_drewN ?_ _ | refine blk_drew ?_ | refine blk_alloc ?_ _)); exact BK110.out) hb); have n4_ := Aside0.mk (blk_below (g := gb114) (o := .cells #[.int .i64 t111, .int .i64 t112] 57 (0, 0)) (by (with_reducible repeat (first | refine blk_drewN ?_ _ | refine blk_drew ?_ | refine blk_alloc ?_ _)); exact BK114.out) hb); have n5_ := Aside0.mk (below_step (by repeat (first | (with_reducible first | exact HB.out | apply below_alloc | apply pw_below_drewN | apply below_drew1 | refine below_set ?_ GE110.out | refine below_set ?_ GE114.out) | exact HB.out)) hb); clear HO104; clear HO109; clear HO117; clear BK110; clear BK114; clear HB; have HO104 := n0_; have HO109 := n1_; have HO117 := n2_; have BK110 := n3_; have BK114 := n4_; have HB := n5_; clear n0_ n1_ n2_ n3_ n4_ n5_; (try clear hb); (try clear hb2); (try clear hk); (try clear hi); have hcz33_0 : w32.cell? ⟨gb114, 0, none⟩ = some (.int .i64 t111) := (blk_cell BK114.out 0).trans rfl; have hcz33_1 : w32.cell? ⟨gb114, 1, none⟩ = some (.int .i64 t112) := (blk_cell BK114.out 1).trans rfl; have hfz33_0 := blk_frozen BK114.out 0; have hfz33_1 := blk_frozen BK114.out 1))
   go_ret
   exact ⟨by first | rfl | (simp [errW_none, errW_some] <;> rfl) | (simp [*, errW_none, errW_some] <;> rfl), by repeat (first | (with_reducible first | exact HB.out | apply below_alloc | apply pw_below_drewN | apply below_drew1 | refine below_set ?_ GE110.out | refine below_set ?_ GE114.out) | exact HB.out)⟩
 ·rw [if_neg c4] at H
  have c4b0 : ((wrap64 (t113 + t119)) == 0) = false := beq_eq_false_iff_ne.mpr c4
  have c4b1 : ((wrap64 (t113 + t119)) != 0) = true := bne_iff_ne.mpr c4
  obtain rfl := Option.some.inj H
  go_enter Try.func14, Try.ntmps14
  go_wp2_with (first | ((with_reducible refine gate_callee (f := 51) rfl ?_); refine goesL_ (some 8) rfl rfl Try.func51 (by kernel_rfl) rfl #[] rfl (by (try simp only [List.map_toArray, List.map_cons, List.map_nil]); first | done | rfl | (simp only [List.length_drop, List.length_take]; rfl)) ?_; (with_reducible refine (isobathlaw02_Example.calls  t101 t102 t105 t106 t107 _ A1.out).mono ?_); rintro e w34 ⟨v103, v108, rfl, ho0, ho1, hb⟩; refine ⟨_, rfl, ?_⟩; have n0_ := Aside0.mk (Kd.R_lower ho0 (below_size (by repeat (first | (with_reducible first | exact HB.out | apply below_alloc | apply pw_below_drewN | apply below_drew1) | exact HB.out)))); have n1_ := Aside0.mk (Kd.R_lower ho1 (below_size (by repeat (first | (with_reducible first | exact HB.out | apply below_alloc | apply pw_below_drewN | apply below_drew1) | exact HB.out)))); have n2_ := Aside0.mk (below_step (by repeat (first | (with_reducible first | exact HB.out | apply below_alloc | apply pw_below_drewN | apply below_drew1) | exact HB.out)) hb); clear HB; have HO104 := n0_; have HO109 := n1_; have HB := n2_; clear n0_ n1_ n2_; (try clear hb); (try clear hb2); (try clear hk); (try clear hi); (try clear ho0); (try clear ho1)) | ((with_reducible refine gate_dst (N := 1) rfl ?_); refine box_event ?hg (N := 1) ?hd (cs := #[.int .i64 0, .slice none 0 0, .int .i64 0, .int .i64 0]) (t := 37) ?hr ?_; (case hd => rfl); (case hg => rfl); (case hr => first | (go_simp; done) | (go_simp; rfl)); intro gb110 hg w35 hbox hb; have n0_ := Aside0.mk (Kd.R_below (by (with_reducible repeat (first | apply Kd.R_alloc | apply Kd.R_drewN | apply Kd.R_drew)); exact HO104.out) hb); have n1_ := Aside0.mk (Kd.R_below (by (with_reducible repeat (first | apply Kd.R_alloc | apply Kd.R_drewN | apply Kd.R_drew)); exact HO109.out) hb); have n2_ := Aside0.mk (below_step (by repeat (first | (with_reducible first | exact HB.out | apply below_alloc | apply pw_below_drewN | apply below_drew1) | exact HB.out)) hb); have n3_ := Aside0.mk (hbox); have n4_ := Aside0.mk ((by rw [hg]; exact (below_size (by repeat (first | (with_reducible first | exact HB.out | apply below_alloc | apply pw_below_drewN | apply below_drew1) | exact HB.out))) : w.heap.size ≤ gb110)); have n5_ := Aside0.mk ((by rw [hg]; exact (below_size (by repeat (first | (with_reducible first | exact HB.out | apply below_alloc | apply pw_below_drewN | apply below_drew1) | exact HB.out))) : w.heap.size ≤ gb110)); clear HO104; clear HO109; clear HB; have HO104 := n0_; have HO109 := n1_; have HB := n2_; have BK110 := n3_; have GW110 := n4_; have GE110 := n5_; clear n0_ n1_ n2_ n3_ n4_ n5_; clear hb hbox hg; have hcz36_0 : w35.cell? ⟨gb110, 0, none⟩ = some (.int .i64 0) := (blk_cell BK110.out 0).trans rfl; have hcz36_1 : w35.cell? ⟨gb110, 1, none⟩ = some (.slice none 0 0) := (blk_cell BK110.out 1).trans rfl; have hcz36_2 : w35.cell? ⟨gb110, 2, none⟩ = some (.int .i64 0) := (blk_cell BK110.out 2).trans rfl; have hcz36_3 : w35.cell? ⟨gb110, 3, none⟩ = some (.int .i64 0) := (blk_cell BK110.out 3).trans rfl; have hfz36_0 := blk_frozen BK110.out 0; have hfz36_1 := blk_frozen BK110.out 1; have hfz36_2 := blk_frozen BK110.out 2; have hfz36_3 := blk_frozen BK110.out 3; obtain ⟨Ao37, co37, eo37⟩ := Kd.R_slice HO104.out; subst eo37; obtain ⟨Ao38, co38, eo38⟩ := Kd.R_slice HO109.out; subst eo38) | ((with_reducible refine gate_callee (f := 32) rfl ?_); refine goesL_ (some 14) rfl rfl Try.func32 (by kernel_rfl) rfl #[.agg #[.int .i64 t101, .slice Ao37 t102.length co37, .int .i64 t105, .int .i64 t106], .slice Ao38 t107.length co38, .bool false] rfl (by (try simp only [List.map_toArray, List.map_cons, List.map_nil]); first | done | rfl | (simp only [List.length_drop, List.length_take]; rfl)) ?_; (with_reducible refine (mooring_Top.calls t101 _ _ t102 t105 t106 _ _ t107 false t111 t112 t113 _ ?side1 ?side2 ?side3 ?side4 A2.out).mono ?_); (case side1 => refine (Kd.R_reads' (e := 46) (base := w.heap.size) (ok := fun k_ => True) (n := t102.length) (c := co37) ?_).2.2; exact (by (with_reducible repeat (first | apply Kd.R_alloc | apply Kd.R_drewN | apply Kd.R_drew)); exact (Kd.R_mono (Kd.R_far (p := ⟨gb110, 3, none⟩) (Kd.R_far (p := ⟨gb110, 2, none⟩) (Kd.R_far (p := ⟨gb110, 1, none⟩) (Kd.R_far (p := ⟨gb110, 0, none⟩) (Kd.R_types HO104.out BK110.out (by decide)) (fun _ hk => hk.2) (.int .i64 t101)) (fun _ hk => hk.2) (.slice Ao37 t102.length co37)) (fun _ hk => hk.2) (.int .i64 t105)) (fun _ hk => hk.2) (.int .i64 t106)) (fun _ h_ => h_.1)))); (case side2 => exact (Kd.R_reads' HO104.out).2.1); (case side3 => refine (Kd.R_reads' (e := 57) (base := w.heap.size) (ok := fun k_ => True) (n := t107.length) (c := co38) ?_).2.2; exact (by (with_reducible repeat (first | apply Kd.R_alloc | apply Kd.R_drewN | apply Kd.R_drew)); exact (Kd.R_mono (Kd.R_far (p := ⟨gb110, 3, none⟩) (Kd.R_far (p := ⟨gb110, 2, none⟩) (Kd.R_far (p := ⟨gb110, 1, none⟩) (Kd.R_far (p := ⟨gb110, 0, none⟩) (Kd.R_types HO109.out BK110.out (by decide)) (fun _ hk => hk.2) (.int .i64 t101)) (fun _ hk => hk.2) (.slice Ao37 t102.length co37)) (fun _ hk => hk.2) (.int .i64 t105)) (fun _ hk => hk.2) (.int .i64 t106)) (fun _ h_ => h_.1)))); (case side4 => exact (Kd.R_reads' HO109.out).2.1); rintro e w39 ⟨rfl, hb⟩; refine ⟨_, rfl, ?_⟩; have n0_ := Aside0.mk (Kd.R_below (by (with_reducible repeat (first | apply Kd.R_alloc | apply Kd.R_drewN | apply Kd.R_drew)); exact (Kd.R_mono (Kd.R_far (p := ⟨gb110, 3, none⟩) (Kd.R_far (p := ⟨gb110, 2, none⟩) (Kd.R_far (p := ⟨gb110, 1, none⟩) (Kd.R_far (p := ⟨gb110, 0, none⟩) (Kd.R_types HO104.out BK110.out (by decide)) (fun _ hk => hk.2) (.int .i64 t101)) (fun _ hk => hk.2) (.slice Ao37 t102.length co37)) (fun _ hk => hk.2) (.int .i64 t105)) (fun _ hk => hk.2) (.int .i64 t106)) (fun _ h_ => h_.1))) hb); have n1_ := Aside0.mk (Kd.R_below (by (with_reducible repeat (first | apply Kd.R_alloc | apply Kd.R_drewN | apply Kd.R_drew)); exact (Kd.R_mono (Kd.R_far (p := ⟨gb110, 3, none⟩) (Kd.R_far (p := ⟨gb110, 2, none⟩) (Kd.R_far (p := ⟨gb110, 1, none⟩) (Kd.R_far (p := ⟨gb110, 0, none⟩) (Kd.R_types HO109.out BK110.out (by decide)) (fun _ hk => hk.2) (.int .i64 t101)) (fun _ hk => hk.2) (.slice Ao37 t102.length co37)) (fun _ hk => hk.2) (.int .i64 t105)) (fun _ hk => hk.2) (.int .i64 t106)) (fun _ h_ => h_.1))) hb); have n2_ := Aside0.mk (blk_below (g := gb110) (o := .cells #[.int .i64 t101, .slice Ao37 t102.length co37, .int .i64 t105, .int .i64 t106] 37 (0, 0)) (by (with_reducible repeat (first | refine blk_drewN ?_ _ | refine blk_drew ?_ | refine blk_alloc ?_ _)); refine blk_put (cs := #[.int .i64 t101, .slice Ao37 t102.length co37, .int .i64 t105, .int .i64 0]) ?_ 3 _ rfl; (with_reducible repeat (first | refine blk_drewN ?_ _ | refine blk_drew ?_ | refine blk_alloc ?_ _)); refine blk_put (cs := #[.int .i64 t101, .slice Ao37 t102.length co37, .int .i64 0, .int .i64 0]) ?_ 2 _ rfl; (with_reducible repeat (first | refine blk_drewN ?_ _ | refine blk_drew ?_ | refine blk_alloc ?_ _)); refine blk_put (cs := #[.int .i64 t101, .slice none 0 0, .int .i64 0, .int .i64 0]) ?_ 1 _ rfl; (with_reducible repeat (first | refine blk_drewN ?_ _ | refine blk_drew ?_ | refine blk_alloc ?_ _)); refine blk_put (cs := #[.int .i64 0, .slice none 0 0, .int .i64 0, .int .i64 0]) ?_ 0 _ rfl; (with_reducible repeat (first | refine blk_drewN ?_ _ | refine blk_drew ?_ | refine blk_alloc ?_ _)); exact BK110.out) hb); have n3_ := Aside0.mk (below_step (by repeat (first | (with_reducible first | exact HB.out | apply below_alloc | apply pw_below_drewN | apply below_drew1 | refine below_set ?_ GE110.out) | exact HB.out)) hb); clear HO104; clear HO109; clear BK110; clear HB; have HO104 := n0_; have HO109 := n1_; have BK110 := n2_; have HB := n3_; clear n0_ n1_ n2_ n3_; (try clear hb); (try clear hb2); (try clear hk); (try clear hi)) | ((with_reducible refine gate_dst (N := 3) rfl ?_); refine box_event ?hg (N := 3) ?hd (cs := #[.int .i64 0, .int .i64 0]) (t := 57) ?hr ?_; (case hd => rfl); (case hg => rfl); (case hr => first | (go_simp; done) | (go_simp; rfl)); intro gb114 hg w40 hbox hb; have n0_ := Aside0.mk (Kd.R_below (by (with_reducible repeat (first | apply Kd.R_alloc | apply Kd.R_drewN | apply Kd.R_drew)); exact HO104.out) hb); have n1_ := Aside0.mk (Kd.R_below (Kd.R_elderB (by (with_reducible repeat (first | apply Kd.R_alloc | apply Kd.R_drewN | apply Kd.R_drew)); exact HO109.out) gb114 (Nat.le_of_eq hg.symm)) hb); have n2_ := Aside0.mk (blk_below (g := gb110) (o := .cells #[.int .i64 t101, .slice Ao37 t102.length co37, .int .i64 t105, .int .i64 t106] 37 (0, 0)) (by (with_reducible repeat (first | refine blk_drewN ?_ _ | refine blk_drew ?_ | refine blk_alloc ?_ _)); exact BK110.out) hb); have n3_ := Aside0.mk (below_step (by repeat (first | (with_reducible first | exact HB.out | apply below_alloc | apply pw_below_drewN | apply below_drew1 | refine below_set ?_ GE110.out) | exact HB.out)) hb); have n4_ := Aside0.mk (hbox); have n5_ := Aside0.mk ((by rw [hg]; exact (below_size (by repeat (first | (with_reducible first | exact HB.out | apply below_alloc | apply pw_below_drewN | apply below_drew1 | refine below_set ?_ GE110.out) | exact HB.out))) : w.heap.size ≤ gb114)); have n6_ := Aside0.mk ((by rw [hg]; exact (below_size (by repeat (first | (with_reducible first | exact HB.out | apply below_alloc | apply pw_below_drewN | apply below_drew1 | refine below_set ?_ GE110.out) | exact HB.out))) : w.heap.size ≤ gb114)); have n7_ := Aside0.mk ((by rw [hg]; exact Nat.ne_of_lt (blk_lt (g := gb110) (o := .cells #[.int .i64 t101, .slice Ao37 t102.length co37, .int .i64 t105, .int .i64 t106] 37 (0, 0)) (by (with_reducible repeat (first | refine blk_drewN ?_ _ | refine blk_drew ?_ | refine blk_alloc ?_ _)); exact BK110.out)) : gb110 ≠ gb114)); have n8_ := Aside0.mk ((by rw [hg]; exact Nat.ne_of_gt (blk_lt (g := gb110) (o := .cells #[.int .i64 t101, .slice Ao37 t102.length co37, .int .i64 t105, .int .i64 t106] 37 (0, 0)) (by (with_reducible repeat (first | refine blk_drewN ?_ _ | refine blk_drew ?_ | refine blk_alloc ?_ _)); exact BK110.out)) : gb114 ≠ gb110)); clear HO104; clear HO109; clear BK110; clear HB; have HO104 := n0_; have HO109 := n1_; have BK110 := n2_; have HB := n3_; have BK114 := n4_; have GW114 := n5_; have GE114 := n6_; have NB110_114 := n7_; have NB114_110 := n8_; clear n0_ n1_ n2_ n3_ n4_ n5_ n6_ n7_ n8_; clear hb hbox hg; have hnb41 := NB114_110.out; have hnc41 := NB110_114.out; have hcz42_0 : w40.cell? ⟨gb114, 0, none⟩ = some (.int .i64 0) := (blk_cell BK114.out 0).trans rfl; have hcz42_1 : w40.cell? ⟨gb114, 1, none⟩ = some (.int .i64 0) := (blk_cell BK114.out 1).trans rfl; have hfz42_0 := blk_frozen BK114.out 0; have hfz42_1 := blk_frozen BK114.out 1) | ((with_reducible refine gate_dst (N := 18) rfl ?_); refine Kd.R_lit (Kd.int .i64) _ 3 ?hg (N := 18) ?hd (xs := ([0, 7, 56] : List Int)) (inner := [.int .i64 0, .int .i64 7, .int .i64 56]) (ok := fun _ => True) (okp := fun _ => True) ?hr ?hp (fun _ hk => hk) trivial (Below.refl _ _) (Nat.le_refl _) (by simp) ?_; (case hd => rfl); (case hg => rfl); (case hr => first | (go_simp; done) | (go_simp; rfl)); (case hp => exact (Reps.one (show Kd.M (Kd.int .i64) _ _ _ 0 [.int .i64 0] from rfl) (Reps.one (show Kd.M (Kd.int .i64) _ _ _ 7 [.int .i64 7] from rfl) (Reps.one (show Kd.M (Kd.int .i64) _ _ _ 56 [.int .i64 56] from rfl) (Reps.none _ _))))); intro v116 w43 ho44 hb hg_ hnew_; clear hg_ hnew_; (first | rw [← Ny115.out] at ho44 | (simp only [Int.reduceToNat] at ho44; rw [← Ny115.out] at ho44)); have n0_ := Aside0.mk (Kd.R_below (by (with_reducible repeat (first | apply Kd.R_alloc | apply Kd.R_drewN | apply Kd.R_drew)); exact (Kd.R_mono (Kd.R_far (p := ⟨gb114, 1, none⟩) (Kd.R_far (p := ⟨gb114, 0, none⟩) (Kd.R_types HO104.out BK114.out (by decide)) (fun _ hk => hk.2) (.int .i64 t111)) (fun _ hk => hk.2) (.int .i64 t112)) (fun _ h_ => h_.1))) hb); have n1_ := Aside0.mk (Kd.R_below (by (with_reducible repeat (first | apply Kd.R_alloc | apply Kd.R_drewN | apply Kd.R_drew)); exact (Kd.R_mono (Kd.R_far (p := ⟨gb114, 1, none⟩) (Kd.R_far (p := ⟨gb114, 0, none⟩) (Kd.R_mono HO109.out (fun k_ hk => (⟨hk, hk.2⟩ : _ ∧ k_ ≠ gb114))) (fun _ hk => hk.2) (.int .i64 t111)) (fun _ hk => hk.2) (.int .i64 t112)) (fun _ h_ => h_.1))) hb); have n2_ := Aside0.mk (Kd.R_lower ho44 (below_size (by repeat (first | (with_reducible first | exact HB.out | apply below_alloc | apply pw_below_drewN | apply below_drew1 | refine below_set ?_ GE110.out | refine below_set ?_ GE114.out) | exact HB.out)))); have n3_ := Aside0.mk (blk_below (g := gb110) (o := .cells #[.int .i64 t101, .slice Ao37 t102.length co37, .int .i64 t105, .int .i64 t106] 37 (0, 0)) (by (with_reducible repeat (first | refine blk_drewN ?_ _ | refine blk_drew ?_ | refine blk_alloc ?_ _)); refine blk_far ?_ NB110_114.out _; (with_reducible repeat (first | refine blk_drewN ?_ _ | refine blk_drew ?_ | refine blk_alloc ?_ _)); refine blk_far ?_ NB110_114.out _; (with_reducible repeat (first | refine blk_drewN ?_ _ | refine blk_drew ?_ | refine blk_alloc ?_ _)); exact BK110.out) hb); have n4_ := Aside0.mk (blk_below (g := gb114) (o := .cells #[.int .i64 t111, .int .i64 t112] 57 (0, 0)) (by (with_reducible repeat (first | refine blk_drewN ?_ _ | refine blk_drew ?_ | refine blk_alloc ?_ _)); refine blk_put (cs := #[.int .i64 t111, .int .i64 0]) ?_ 1 _ rfl; (with_reducible repeat (first | refine blk_drewN ?_ _ | refine blk_drew ?_ | refine blk_alloc ?_ _)); refine blk_put (cs := #[.int .i64 0, .int .i64 0]) ?_ 0 _ rfl; (with_reducible repeat (first | refine blk_drewN ?_ _ | refine blk_drew ?_ | refine blk_alloc ?_ _)); exact BK114.out) hb); have n5_ := Aside0.mk (below_step (by repeat (first | (with_reducible first | exact HB.out | apply below_alloc | apply pw_below_drewN | apply below_drew1 | refine below_set ?_ GE110.out | refine below_set ?_ GE114.out) | exact HB.out)) hb); clear HO104; clear HO109; clear BK110; clear BK114; clear HB; have HO104 := n0_; have HO109 := n1_; have HO117 := n2_; have BK110 := n3_; have BK114 := n4_; have HB := n5_; clear n0_ n1_ n2_ n3_ n4_ n5_; clear hb ho44; obtain ⟨Ao45, co45, eo45⟩ := Kd.R_slice HO117.out; subst eo45) | ((with_reducible refine gate_callee (f := 15) rfl ?_); refine goesL_ (some 19) rfl rfl Try.func15 (by kernel_rfl) rfl #[.slice Ao45 y115.length co45] rfl (by (try simp only [List.map_toArray, List.map_cons, List.map_nil]); first | done | rfl | (simp only [List.length_drop, List.length_take]; rfl)) ?_; (with_reducible refine (mooring_Spacing.calls k _ _ y115 t118 t119 _ ?side1 ?side2 A3.out).mono ?_); (case side1 => repeat (first | exact (Kd.R_reads' HO117.out).2.2 | (with_reducible refine Kd.C_alloc ?_ _) | (with_reducible refine Kd.C_drewN ?_ _) | (with_reducible refine Kd.C_drew ?_))); (case side2 => exact (Kd.R_reads' HO117.out).2.1); rintro e w46 ⟨rfl, hb⟩; refine ⟨_, rfl, ?_⟩; have n0_ := Aside0.mk (Kd.R_below (by (with_reducible repeat (first | apply Kd.R_alloc | apply Kd.R_drewN | apply Kd.R_drew)); exact HO104.out) hb); have n1_ := Aside0.mk (Kd.R_below (by (with_reducible repeat (first | apply Kd.R_alloc | apply Kd.R_drewN | apply Kd.R_drew)); exact HO109.out) hb); have n2_ := Aside0.mk (Kd.R_below (by (with_reducible repeat (first | apply Kd.R_alloc | apply Kd.R_drewN | apply Kd.R_drew)); exact HO117.out) hb); have n3_ := Aside0.mk (blk_below (g := gb110) (o := .cells #[.int .i64 t101, .slice Ao37 t102.length co37, .int .i64 t105, .int .i64 t106] 37 (0, 0)) (by (with_reducible repeat (first | refine blk_drewN ?_ _ | refine blk_drew ?_ | refine blk_alloc ?_ _)); exact BK110.out) hb); have n4_ := Aside0.mk (blk_below (g := gb114) (o := .cells #[.int .i64 t111, .int .i64 t112] 57 (0, 0)) (by (with_reducible repeat (first | refine blk_drewN ?_ _ | refine blk_drew ?_ | refine blk_alloc ?_ _)); exact BK114.out) hb); have n5_ := Aside0.mk (below_step (by repeat (first | (with_reducible first | exact HB.out | apply below_alloc | apply pw_below_drewN | apply below_drew1 | refine below_set ?_ GE110.out | refine below_set ?_ GE114.out) | exact HB.out)) hb); clear HO104; clear HO109; clear HO117; clear BK110; clear BK114; clear HB; have HO104 := n0_; have HO109 := n1_; have HO117 := n2_; have BK110 := n3_; have BK114 := n4_; have HB := n5_; clear n0_ n1_ n2_ n3_ n4_ n5_; (try clear hb); (try clear hb2); (try clear hk); (try clear hi)))
  go_ret
  exact ⟨by first | rfl | (simp [errW_none, errW_some] <;> rfl) | (simp [*, errW_none, errW_some] <;> rfl), by repeat (first | (with_reducible first | exact HB.out | apply below_alloc | apply pw_below_drewN | apply below_drew1 | refine below_set ?_ GE110.out | refine below_set ?_ GE114.out) | exact HB.out)⟩
end Go.Proofs.Ytebcmhajbjkojaa.P
