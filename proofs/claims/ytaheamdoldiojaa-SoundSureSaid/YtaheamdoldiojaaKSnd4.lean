/- .. Part 5 of 5. -/
-- Put together by wip/tools/shake.py, a program of this work: out of the words that the kit's print tool (print.sh) writes for a claim and what wip/tools/xprint.py prints, those that this claim reaches, and this work's own texts.
import Derived.Deep.Slices
import Derived.OpenShut
import Derived.Test.YtaheamdoldiojaaKSnd3
namespace Go.Proofs.Ytaheamdoldiojaa.P
open Go.RowKit Go.Proofs.YtaheamdoldiojaaW.PrintWords Go.Proofs.YtaheamdoldiojaaW.PrintLast Go.Proofs.YtaheamdoldiojaaW.PrintMore
attribute [local go_sem] max2_int min2_int max_two min_two max_three min_three max_four min_four   -- for this text's walks alone
set_option linter.unusedVariables false
set_option linter.unusedSimpArgs false
mutual
def isobathref07_region.l0 : Nat → List (S24) → Int → List (S29) → List (S29) → Int → List (S29) → Int → Int → Option ((List (S29)))
 | 0, _, _, _, _, _, _, _, _ => none
 | k + 1, x1, x3, x9, x10, x11, x102000, x102001, x102002 => if x11 < (x10.length : Int) then (if 0 ≤ x11 then ((isobathref07_region.f k x102000 x102001 x102002 x1 ((rd_T29 x10 x11).f0.f0) ((rd_T29 x10 x11).f0.f1) ((rd_T29 x10 x11).f1.f0) ((rd_T29 x10 x11).f1.f1) (wrap64 (x3 - 1))).bind fun t111 => (if x9.length + t111.length < 4398046511104 then (isobathref07_region.l0 k x1 x3 (x9 ++ t111) x10 (wrap64 (x11 + 1)) x102000 x102001 x102002) else (none))) else (none)) else (some x9)
def isobathref07_region.f : Nat → List (S29) → Int → Int → List (S24) → Int → Int → Int → Int → Int → Option ((List (S29)))
 | 0, _, _, _, _, _, _, _, _, _ => none
 | k + 1, l0_0, a0_1, a0_2, l1, a2_0, a2_1, a2_2, a2_3, a3 => (isobathref07_Out.f k l0_0 a0_1 a0_2 l1 a2_0 a2_1 a2_2 a2_3).bind fun t103 => (if t103 = true then (some ([] : List (S29))) else (if a3 = 0 then (some (([(⟨(⟨a2_0, a2_1⟩ : S24), (⟨a2_2, a2_3⟩ : S24)⟩ : S29)] : List (S29)))) else ((isobathref07_Parts.f k a2_0 a2_1 a2_2 a2_3).bind fun t107 => (isobathref07_region.l0 k l1 a3 ([] : List (S29)) t107 0 l0_0 a0_1 a0_2))))
end
def isobathref07_Region.f (k : Nat) (l0_0 : List (S29)) (a0_1 : Int) (a0_2 : Int) (l1 : List (S24)) (a2_0 : Int) (a2_1 : Int) (a2_2 : Int) (a2_3 : Int) (a3 : Int) : Option ((List (S29)) × Int) := (isobathref07_boxed.f k l0_0 a0_1 a0_2 l1 a2_0 a2_1 a2_2 a2_3).bind fun t103 => (if t103 = 0 then (if a3 < 0 then (some (([] : List (S29)), 3)) else (if a3 > 5 then (some (([] : List (S29)), 3)) else ((isobathref07_region.f k l0_0 a0_1 a0_2 l1 a2_0 a2_1 a2_2 a2_3 a3).bind fun t104 => (some (t104, 0))))) else ((isobathref07_boxed.f k l0_0 a0_1 a0_2 l1 a2_0 a2_1 a2_2 a2_3).bind fun t107 => (some (([] : List (S29)), t107))))
def Sp.half (a b : Int) : List S24 := if a = b then [⟨a, b⟩] else [⟨a, (a + b) / 2⟩, ⟨(a + b) / 2, b⟩]
def Sp.parts (b : S29) : List S29 := (Sp.half b.f1.f0 b.f1.f1).flatMap fun y => (Sp.half b.f0.f0 b.f0.f1).map fun x => ⟨x, y⟩
theorem Sp.half_eq {a b : Int} (h1 : -1073741824 ≤ a) (h2 : a ≤ 1073741824) (h3 : -1073741824 ≤ b) (h4 : b ≤ 1073741824) : Sd.half a b = Sp.half a b := by
 unfold Sd.half Sp.half
 rw [wrap_id (by omega) (by omega)]
theorem Sp.vb_bd {b : S29} (h : Sp.vb b = true) : b.f0.f0 ≤ b.f0.f1 ∧ b.f1.f0 ≤ b.f1.f1 ∧ -268435456 ≤ b.f0.f0 ∧ b.f0.f1 ≤ 268435456 ∧ -268435456 ≤ b.f1.f0 ∧ b.f1.f1 ≤ 268435456 := by
 have := (zod h : Bo.vb b.f0.f0 b.f0.f1 b.f1.f0 b.f1.f1)
 exact ⟨this.1.1, this.2.1.1, this.2.2.1, this.2.2.2.1, this.2.2.2.2.1, this.2.2.2.2.2⟩
theorem Sp.vb_mk {b : S29} (h : b.f0.f0 ≤ b.f0.f1 ∧ b.f1.f0 ≤ b.f1.f1 ∧ -268435456 ≤ b.f0.f0 ∧ b.f0.f1 ≤ 268435456 ∧ -268435456 ≤ b.f1.f0 ∧ b.f1.f1 ≤ 268435456) : Sp.vb b = true := by
 obtain ⟨h1, h2, h3, h4, h5, h6⟩ := h
 exact zdt ⟨⟨h1, by omega, by omega⟩, ⟨h2, by omega, by omega⟩, h3, h4, h5, h6⟩
theorem Sp.parts_eq {b : S29} (h : Sp.vb b = true) : Sd.parts b.f0.f0 b.f0.f1 b.f1.f0 b.f1.f1 = Sp.parts b := by
 have := Sp.vb_bd h
 unfold Sd.parts Sp.parts
 rw [Sp.half_eq (by omega) (by omega) (by omega) (by omega), Sp.half_eq (by omega) (by omega) (by omega) (by omega)]
 rfl
theorem Sp.half_in {a b : Int} (h : a ≤ b) {s : S24} (hs : s ∈ Sp.half a b) : a ≤ s.f0 ∧ s.f0 ≤ s.f1 ∧ s.f1 ≤ b := by
 unfold Sp.half at hs
 split at hs
 ·simp at hs
  subst hs
  exact ⟨Int.le_refl _, h, Int.le_refl _⟩
 simp at hs
 rcases hs with rfl | rfl
 ·dsimp only
  omega
 dsimp only
 omega
theorem Sp.part_in {b p : S29} (h : Sp.vb b = true) (hp : p ∈ Sp.parts b) : b.f0.f0 ≤ p.f0.f0 ∧ p.f0.f0 ≤ p.f0.f1 ∧ p.f0.f1 ≤ b.f0.f1 ∧ b.f1.f0 ≤ p.f1.f0 ∧ p.f1.f0 ≤ p.f1.f1 ∧ p.f1.f1 ≤ b.f1.f1 := by
 have B := Sp.vb_bd h
 unfold Sp.parts at hp
 obtain ⟨y, hy, hp⟩ := List.mem_flatMap.1 hp
 obtain ⟨x, hx, rfl⟩ := List.mem_map.1 hp
 have h1 := Sp.half_in B.1 hx
 have h2 := Sp.half_in B.2.1 hy
 exact ⟨h1.1, h1.2.1, h1.2.2, h2.1, h2.2.1, h2.2.2⟩
theorem Sp.part_vb {b p : S29} (h : Sp.vb b = true) (hp : p ∈ Sp.parts b) : Sp.vb p = true := by
 have B := Sp.vb_bd h
 have P := Sp.part_in h hp
 exact Sp.vb_mk (by omega)
theorem Sp.parts_len (b : S29) : 1 ≤ (Sp.parts b).length ∧ (Sp.parts b).length ≤ 4 := by
 unfold Sp.parts Sp.half
 split <;> split <;> simp
def Sp.in_ (st : List S29) (lo hi : Int) (at_ : List S24) (b : S29) : Bool := decide ((Sp.org st lo hi at_ b).1 ≤ (Sp.org st lo hi at_ b).2)
def Sp.reg (st : List S29) (lo hi : Int) (at_ : List S24) : Nat → S29 → List S29
 | 0, b => if Sp.in_ st lo hi at_ b = true then [b] else []
 | d + 1, b => if Sp.in_ st lo hi at_ b = true then (Sp.parts b).flatMap (Sp.reg st lo hi at_ d) else []
theorem Sp.all_map {f : S29 → Option (List S29)} {g : S29 → List S29} : ∀ xs : List S29, (∀ x ∈ xs, f x = some (g x)) → Sd.all f xs = some (xs.flatMap g)
 | [], _ => rfl
 | x :: xs, h => by
  rw [Sd.all, h x (by simp), Option.bind_some, Sp.all_map xs (fun y hy => h y (by simp [hy])), Option.bind_some, List.flatMap_cons]
theorem Sp.reg_b {st : List S29} {lo hi : Int} {at_ : List S24} (h : Sp.Acc st lo hi at_) {k : Nat} (hk : 20 ≤ k) : ∀ (d : Nat) (b : S29), Sp.vb b = true → Sd.region k st lo hi at_ d b = some (Sp.reg st lo hi at_ d b)
 | 0, b, hb => by
  rw [Sd.region, Sp.reg, Sp.org_b h hb hk, Option.bind_some]
  unfold Sp.in_
  split <;> rfl
 | d + 1, b, hb => by
  rw [Sd.region, Sp.reg, Sp.org_b h hb hk, Option.bind_some, Sp.parts_eq hb]
  unfold Sp.in_
  split
  ·exact Sp.all_map _ (fun x hx => Sp.reg_b h hk d x (Sp.part_vb hb hx))
  rfl
theorem Sp.reg_len (st : List S29) (lo hi : Int) (at_ : List S24) : ∀ (d : Nat) (b : S29), (Sp.reg st lo hi at_ d b).length ≤ 4 ^ d
 | 0, b => by
  rw [Sp.reg]
  split <;> simp
 | d + 1, b => by
  rw [Sp.reg]
  split
  ·have hl := (Sp.parts_len b).2
   have : ∀ xs : List S29, (xs.flatMap (Sp.reg st lo hi at_ d)).length ≤ xs.length * 4 ^ d := by
    intro xs
    induction xs with
    | nil => simp
    | cons x xs ih =>
     have := Sp.reg_len st lo hi at_ d x
     rw [List.flatMap_cons, List.length_append, List.length_cons, Nat.succ_mul]
     omega
   have h2 := this (Sp.parts b)
   have h3 := Nat.mul_le_mul_right (4 ^ d) hl
   rw [Nat.pow_succ]
   omega
  simp
def Sp.region (st : List S29) (lo hi : Int) (at_ : List S24) (b : S29) (d : Int) : List S29 × Int :=
 if Sp.heard st lo hi at_ b = 0 then (if 0 ≤ d ∧ d ≤ 5 then (Sp.reg st lo hi at_ d.toNat b, 0) else ([], 3)) else ([], Sp.heard st lo hi at_ b)
theorem Sp.region_b (st : List S29) (lo hi : Int) (at_ : List S24) (b : S29) (d : Int) {k : Nat} (hk : 60 ≤ k) : sound_Region.f k st lo hi at_ b.f0.f0 b.f0.f1 b.f1.f0 b.f1.f1 d = some (Sp.region st lo hi at_ b d) := by
 unfold sound_Region.f Sp.region
 rw [Sp.heard_b _ _ _ _ _ hk, Option.bind_some]
 by_cases h : Sp.heard st lo hi at_ b = 0
 ·obtain ⟨A, hb⟩ := Sp.heard_ok h
  rw [if_pos h, if_pos h]
  by_cases h1 : d < 0
  ·rw [if_pos h1, if_neg (by omega)]
  rw [if_neg h1]
  by_cases h2 : 5 < d
  ·rw [if_pos h2, if_neg (by omega)]
  rw [if_neg h2, if_pos (by omega)]
  have e := Sp.reg_b A (k := k) (by omega) d.toNat b hb
  have eb : (⟨⟨b.f0.f0, b.f0.f1⟩, ⟨b.f1.f0, b.f1.f1⟩⟩ : S29) = b := rfl
  rw [eb, e]
  rfl
 rw [if_neg h, if_neg h]
theorem Sp.halves_r (a b : Int) (h1 : -1073741824 ≤ a) (h2 : a ≤ 1073741824) (h3 : -1073741824 ≤ b) (h4 : b ≤ 1073741824) {k : Nat} (hk : 20 ≤ k) : isobathref07_halves.f k a b = some (Sp.half a b) := by
 unfold isobathref07_halves.f Sp.half
 by_cases c : a = b
 ·rw [if_pos c, if_pos c]
 rw [if_neg c, if_neg c, wrap_id (by omega) (by omega), Bo.down_f (by decide) (by omega) (by omega) (by decide) (by decide) hk, Bo.fl_pos (by decide)]
 rfl
def Sp.prow (xs : List S24) (y : S24) : List S29 := xs.map fun x => ⟨x, y⟩
theorem Sp.parts_l1 (xs ys : List S24) (hx : xs.length ≤ 2) (hy : ys.length ≤ 2) (j : Nat) (hj : j < ys.length) (acc : List S29) (ha : acc.length ≤ 4) : ∀ (n i K : Nat), i + n = xs.length → isobathref07_Parts.l1 (K + n + 1) (acc ++ Sp.prow (xs.take i) ys[j]) xs ys (j : Int) (i : Int) = isobathref07_Parts.l0 K (acc ++ Sp.prow xs ys[j]) xs ys ((j + 1 : Nat) : Int)
 | 0, i, K, hi => by
  rw [show K + 0 + 1 = K + 1 by omega, isobathref07_Parts.l1, if_neg (by omega), List.take_of_length_le (by omega), wrap_succ hj (by omega)]
 | n + 1, i, K, hi => by
  have hlt : i < xs.length := by omega
  have ih := Sp.parts_l1 xs ys hx hy j hj acc ha n (i + 1) K (by omega)
  rw [take_snoc hlt] at ih
  unfold Sp.prow at ih ⊢
  rw [List.map_append, ← List.append_assoc] at ih
  rw [show K + (n + 1) + 1 = (K + n + 1) + 1 by omega, isobathref07_Parts.l1, if_pos (by omega), if_pos (by omega), if_pos (by omega), if_pos (by omega), if_pos (by simp; omega), wrap_succ hlt (by omega), Sp.rdT xs i hlt, Sp.rdT ys j hj]
  exact ih
theorem Sp.parts_l0 (xs ys : List S24) (hx : xs.length ≤ 2) (hy : ys.length ≤ 2) : ∀ (n j K : Nat), j + n = ys.length → isobathref07_Parts.l0 (K + 1 + n * (xs.length + 2)) ((ys.take j).flatMap (Sp.prow xs)) xs ys (j : Int) = some (ys.flatMap (Sp.prow xs))
 | 0, j, K, hj => by
  rw [show K + 1 + 0 * (xs.length + 2) = K + 1 by omega, isobathref07_Parts.l0, if_neg (by omega), List.take_of_length_le (by omega)]
 | n + 1, j, K, hj => by
  have hlt : j < ys.length := by omega
  have ih := Sp.parts_l0 xs ys hx hy n (j + 1) K (by omega)
  have hacc : ((ys.take j).flatMap (Sp.prow xs)).length ≤ 4 := by
   have e : ∀ zs : List S24, (zs.flatMap (Sp.prow xs)).length = zs.length * xs.length := by
    intro zs
    induction zs with
    | nil => simp
    | cons z zs ih2 => rw [List.flatMap_cons, List.length_append, ih2, List.length_cons, Nat.succ_mul]; unfold Sp.prow; simp; omega
   rw [e, zlt]
   have := Nat.mul_le_mul (show min j ys.length ≤ 2 by omega) hx
   omega
  have h1 := Sp.parts_l1 xs ys hx hy j hlt ((ys.take j).flatMap (Sp.prow xs)) hacc xs.length 0 (K + 1 + n * (xs.length + 2)) (by omega)
  rw [take_snoc hlt, List.flatMap_append] at ih
  rw [show K + 1 + (n + 1) * (xs.length + 2) = (K + 1 + n * (xs.length + 2) + xs.length + 1) + 1 by rw [Nat.succ_mul]; omega, isobathref07_Parts.l0, if_pos (by omega)]
  have e0 : Sp.prow (xs.take 0) ys[j] = [] := by simp [Sp.prow]
  rw [e0, List.append_nil] at h1
  refine h1.trans ?_
  simpa using ih
theorem Sp.half_len (a b : Int) : (Sp.half a b).length ≤ 2 := by
 unfold Sp.half
 split <;> simp
theorem Sp.parts_r {b : S29} (h : Sp.vb b = true) {k : Nat} (hk : 20 ≤ k) : isobathref07_Parts.f k b.f0.f0 b.f0.f1 b.f1.f0 b.f1.f1 = some (Sp.parts b) := by
 have B := Sp.vb_bd h
 unfold isobathref07_Parts.f
 rw [Sp.halves_r _ _ (by omega) (by omega) (by omega) (by omega) hk, Option.bind_some, Sp.halves_r _ _ (by omega) (by omega) (by omega) (by omega) hk, Option.bind_some]
 have h1 := Sp.half_len b.f0.f0 b.f0.f1
 have h2 := Sp.half_len b.f1.f0 b.f1.f1
 have hm : (Sp.half b.f1.f0 b.f1.f1).length * ((Sp.half b.f0.f0 b.f0.f1).length + 2) ≤ 2 * 4 := Nat.mul_le_mul h2 (by omega)
 have g := Sp.parts_l0 (Sp.half b.f0.f0 b.f0.f1) (Sp.half b.f1.f0 b.f1.f1) h1 h2 (Sp.half b.f1.f0 b.f1.f1).length 0 (k - 1 - (Sp.half b.f1.f0 b.f1.f1).length * ((Sp.half b.f0.f0 b.f0.f1).length + 2)) (by omega)
 rw [show k - 1 - (Sp.half b.f1.f0 b.f1.f1).length * ((Sp.half b.f0.f0 b.f0.f1).length + 2) + 1 + (Sp.half b.f1.f0 b.f1.f1).length * ((Sp.half b.f0.f0 b.f0.f1).length + 2) = k by omega] at g
 exact g
theorem Sp.region_l0 {st : List S29} {lo hi : Int} {at_ : List S24} (d : Nat) (xs : List S29) (hx : xs.length ≤ 4) (hd : d ≤ 5) (K : Nat) (hr : ∀ x ∈ xs, ∀ k, K ≤ k → isobathref07_region.f k st lo hi at_ x.f0.f0 x.f0.f1 x.f1.f0 x.f1.f1 (d : Int) = some (Sp.reg st lo hi at_ d x)) : ∀ (n i k : Nat), i + n = xs.length → K + n + 1 ≤ k → isobathref07_region.l0 k at_ ((d : Int) + 1) ((xs.take i).flatMap (Sp.reg st lo hi at_ d)) xs (i : Int) st lo hi = some (xs.flatMap (Sp.reg st lo hi at_ d))
 | 0, i, k, hi', hk => by
  obtain ⟨k, rfl⟩ : ∃ m, k = m + 1 := ⟨k - 1, by omega⟩
  rw [isobathref07_region.l0, if_neg (by omega), List.take_of_length_le (by omega)]
 | n + 1, i, k, hi', hk => by
  obtain ⟨k, rfl⟩ : ∃ m, k = m + 1 := ⟨k - 1, by omega⟩
  have hlt : i < xs.length := by omega
  have ih := Sp.region_l0 d xs hx hd K hr n (i + 1) k (by omega) (by omega)
  have hlen : ((xs.take i).flatMap (Sp.reg st lo hi at_ d)).length + (Sp.reg st lo hi at_ d xs[i]).length < 4398046511104 := by
   have e : ∀ zs : List S29, (zs.flatMap (Sp.reg st lo hi at_ d)).length ≤ zs.length * 4 ^ d := by
    intro zs
    induction zs with
    | nil => simp
    | cons z zs ih2 =>
     have := Sp.reg_len st lo hi at_ d z
     rw [List.flatMap_cons, List.length_append, List.length_cons, Nat.succ_mul]
     omega
   have h1 := e (xs.take i)
   have h2 := Sp.reg_len st lo hi at_ d xs[i]
   have h3 : 4 ^ d ≤ 4 ^ 5 := Nat.pow_le_pow_right (by omega) hd
   have h4 : (xs.take i).length * 4 ^ d ≤ 4 * 4 ^ 5 := Nat.mul_le_mul (by simp; omega) h3
   omega
  rw [take_snoc hlt, List.flatMap_append] at ih
  rw [isobathref07_region.l0, if_pos (by omega), if_pos (by omega), Sp.rdB xs i hlt, wrap_id (n := (d : Int) + 1 - 1) (by omega) (by omega), show (d : Int) + 1 - 1 = (d : Int) by omega, hr _ (List.getElem_mem hlt) k (by omega), Option.bind_some, if_pos hlen, wrap_succ hlt (by omega)]
  simpa using ih
theorem Sp.reg_r {st : List S29} {lo hi : Int} {at_ : List S24} (h : Sp.Acc st lo hi at_) : ∀ (d : Nat), d ≤ 5 → ∀ b : S29, Sp.vb b = true → ∀ k, 80 + 8 * d ≤ k → isobathref07_region.f k st lo hi at_ b.f0.f0 b.f0.f1 b.f1.f0 b.f1.f1 (d : Int) = some (Sp.reg st lo hi at_ d b)
 | 0, _, b, hb, k, hk => by
  obtain ⟨k, rfl⟩ : ∃ m, k = m + 1 := ⟨k - 1, by omega⟩
  rw [isobathref07_region.f, Sp.out_r h hb (by omega), Option.bind_some, Sp.reg]
  unfold Sp.in_
  by_cases c : (Sp.org st lo hi at_ b).1 ≤ (Sp.org st lo hi at_ b).2
  ·rw [if_neg (by simpa using c), if_pos (by omega), if_pos (by simpa using c)]
  rw [if_pos (by simpa using c), if_neg (by simpa using c)]
 | d + 1, hd, b, hb, k, hk => by
  obtain ⟨k, rfl⟩ : ∃ m, k = m + 1 := ⟨k - 1, by omega⟩
  rw [isobathref07_region.f, Sp.out_r h hb (by omega), Option.bind_some, Sp.reg]
  unfold Sp.in_
  by_cases c : (Sp.org st lo hi at_ b).1 ≤ (Sp.org st lo hi at_ b).2
  ·rw [if_neg (by simpa using c), if_neg (by omega), if_pos (by simpa using c), Sp.parts_r hb (by omega), Option.bind_some]
   have hl := (Sp.parts_len b).2
   have g := Sp.region_l0 d (Sp.parts b) hl (by omega) (80 + 8 * d) (fun x hx k hk => Sp.reg_r h d (by omega) x (Sp.part_vb hb hx) k hk) (Sp.parts b).length 0 k (by omega) (by omega)
   have e : ((d + 1 : Nat) : Int) = (d : Int) + 1 := by omega
   rw [e]
   exact g
  rw [if_pos (by simpa using c), if_neg (by simpa using c)]
theorem Sp.region_r (st : List S29) (lo hi : Int) (at_ : List S24) (b : S29) (d : Int) {k : Nat} (hk : 200 ≤ k) : isobathref07_Region.f k st lo hi at_ b.f0.f0 b.f0.f1 b.f1.f0 b.f1.f1 d = some (Sp.region st lo hi at_ b d) := by
 unfold isobathref07_Region.f Sp.region
 rw [Sp.heard_r _ _ _ _ _ (by omega), Option.bind_some, Option.bind_some]
 by_cases h : Sp.heard st lo hi at_ b = 0
 ·obtain ⟨A, hb⟩ := Sp.heard_ok h
  rw [if_pos h, if_pos h]
  by_cases h1 : d < 0
  ·rw [if_pos h1, if_neg (by omega)]
  rw [if_neg h1]
  by_cases h2 : d > 5
  ·rw [if_pos h2, if_neg (by omega)]
  rw [if_neg h2, if_pos (by omega)]
  obtain ⟨m, rfl⟩ : ∃ m : Nat, d = (m : Int) := ⟨d.toNat, by omega⟩
  rw [Sp.reg_r A m (by omega) b hb k (by omega), Int.toNat_natCast]
  rfl
 rw [if_neg h, if_neg h]
theorem Sp.works_region : Sp.region [⟨⟨0, 0⟩, ⟨0, 0⟩⟩, ⟨⟨3000, 3000⟩, ⟨0, 0⟩⟩, ⟨⟨0, 0⟩, ⟨4000, 4000⟩⟩] 1500 1500 [⟨100, 100⟩, ⟨2100, 2100⟩, ⟨2767, 2767⟩] ⟨⟨0, 4000⟩, ⟨0, 4000⟩⟩ 1 = ([⟨⟨0, 2000⟩, ⟨0, 2000⟩⟩], 0) := by
 have h := Sp.region_r [⟨⟨0, 0⟩, ⟨0, 0⟩⟩, ⟨⟨3000, 3000⟩, ⟨0, 0⟩⟩, ⟨⟨0, 0⟩, ⟨4000, 4000⟩⟩] 1500 1500 [⟨100, 100⟩, ⟨2100, 2100⟩, ⟨2767, 2767⟩] ⟨⟨0, 4000⟩, ⟨0, 4000⟩⟩ 1 (k := 200) (by omega)
 have e : isobathref07_Region.f 200 [⟨⟨0, 0⟩, ⟨0, 0⟩⟩, ⟨⟨3000, 3000⟩, ⟨0, 0⟩⟩, ⟨⟨0, 0⟩, ⟨4000, 4000⟩⟩] 1500 1500 [⟨100, 100⟩, ⟨2100, 2100⟩, ⟨2767, 2767⟩] 0 4000 0 4000 1 = some ([⟨⟨0, 2000⟩, ⟨0, 2000⟩⟩], 0) := by
  with_unfolding_all rfl
 exact zsi (h.symm.trans e)
end Go.Proofs.Ytaheamdoldiojaa.P
namespace Go.Proofs.Ytaheamdoldiojaa.P
open Go.RowKit Go.Proofs.YtaheamdoldiojaaW.PrintWords Go.Proofs.YtaheamdoldiojaaW.PrintLast Go.Proofs.YtaheamdoldiojaaW.PrintMore
attribute [local go_sem] max2_int min2_int max_two min_two max_three min_three max_four min_four   -- for this text's walks alone
set_option linter.unusedVariables false
set_option linter.unusedSimpArgs false
attribute [local go_sem high] eqA24 eqA29
def isobathlaw07_Works.f (k : Nat) : Option (Bool) := if 300 ≤ k then some true else none
theorem isobathlaw07_Works.mono : ∀ k, LeO (isobathlaw07_Works.f k ) (isobathlaw07_Works.f (k + 1) ) := by
 intro k
 unfold isobathlaw07_Works.f
 by_cases h : 300 ≤ k
 ·rw [if_pos h, if_pos (by omega)]
  exact LeO.refl _
 rw [if_neg h]
 exact LeO.none _
theorem Sp.works {k : Nat} (hk : 300 ≤ k) : isobathlaw07_Works.f k = some true := by
 unfold isobathlaw07_Works.f
 rw [if_pos hk]
theorem isobathlaw07_Works.three {k : Nat} (hk : 300 ≤ k) : sound_Count.f k ([2, 1, 2, 0, 1] : List Int) 1 = some (1, 3, 0) ∧ sound_Region.f k [⟨⟨0, 0⟩, ⟨0, 0⟩⟩, ⟨⟨3000, 3000⟩, ⟨0, 0⟩⟩, ⟨⟨0, 0⟩, ⟨4000, 4000⟩⟩] 1500 1500 [⟨100, 100⟩, ⟨2100, 2100⟩, ⟨2767, 2767⟩] 0 4000 0 4000 1 = some ([⟨⟨0, 2000⟩, ⟨0, 2000⟩⟩], 0) ∧ sound_First.f k [⟨[⟨0, 1⟩, ⟨20, 30⟩, ⟨25, 40⟩]⟩, ⟨[⟨0, 5⟩, ⟨5, 25⟩, ⟨21, 22⟩]⟩] 20 2 1 = some (2, 2, 0) := by
 have e2 : Sp.count [2, 1, 2, 0, 1] 1 = (1, 3, 0) := by decide
 have e3 : sound_First.f 100 [⟨[⟨0, 1⟩, ⟨20, 30⟩, ⟨25, 40⟩]⟩, ⟨[⟨0, 5⟩, ⟨5, 25⟩, ⟨21, 22⟩]⟩] 20 2 1 = some (2, 2, 0) := by with_unfolding_all rfl
 have e4 := LeO.up (fun k => sound_First.mono [⟨[⟨0, 1⟩, ⟨20, 30⟩, ⟨25, 40⟩]⟩, ⟨[⟨0, 5⟩, ⟨5, 25⟩, ⟨21, 22⟩]⟩] 20 2 1 k) (show 100 ≤ k by omega) e3
 have e5 := Sp.region_b [⟨⟨0, 0⟩, ⟨0, 0⟩⟩, ⟨⟨3000, 3000⟩, ⟨0, 0⟩⟩, ⟨⟨0, 0⟩, ⟨4000, 4000⟩⟩] 1500 1500 [⟨100, 100⟩, ⟨2100, 2100⟩, ⟨2767, 2767⟩] ⟨⟨0, 4000⟩, ⟨0, 4000⟩⟩ 1 (k := k) (by omega)
 rw [Sp.works_region] at e5
 exact ⟨by rw [Sp.count_b _ _ hk, e2], e5, e4⟩
set_option maxHeartbeats 8000000 in
set_option maxRecDepth 100000 in
theorem isobathlaw07_Works.calls (k : Nat) (r : Bool) (w : World) (h : isobathlaw07_Works.f k = some r) :
  Calls Try.prog 14 #[] w fun e w' => e = .returned (.bool r) ∧ Below w.heap.size w w' := by
 have hu24 := Try.underlying24
 have hu26 := Try.underlying26
 have hu29 := Try.underlying29
 have hu39 := Try.underlying39
 have HB := zam (Below.refl w.heap.size w)
 have hk : 300 ≤ k ∧ r = true := by
  unfold isobathlaw07_Works.f at h
  split at h
  ·next q => exact ⟨q, (zsi h).symm⟩
  cases h
 obtain ⟨hk, hr⟩ := hk
 obtain ⟨q1, q2, q3⟩ := isobathlaw07_Works.three hk
 obtain ⟨t104, t105, t106, A10, d104, d105, d106⟩ : ∃ a b c : Int, sound_Count.f k ([2, 1, 2, 0, 1] : List Int) 1 = some (a, b, c) ∧ a = 1 ∧ b = 3 ∧ c = 0 := ⟨1, 3, 0, q1, rfl, rfl, rfl⟩
 obtain ⟨t108, t111, t112, t113, t117, t120, A20, A30, d117, d120⟩ : ∃ a b c d e f, isobathlaw07_Example.f = some (a, b, c, d) ∧ sound_Region.f k a b c d 0 4000 0 4000 1 = some (e, f) ∧ e = [⟨⟨0, 2000⟩, ⟨0, 2000⟩⟩] ∧ f = 0 := ⟨_, _, _, _, _, _, rfl, q2, rfl, rfl⟩
 obtain ⟨t121, t124, t125, t126, t128, t129, t130, A40, A50, d128, d129, d130⟩ : ∃ a b c d e f g, isobathlaw07_Gauges.f = some (a, b, c, d) ∧ sound_First.f k a b c d = some (e, f, g) ∧ e = 2 ∧ f = 2 ∧ g = 0 := ⟨_, _, _, _, _, _, _, rfl, q3, rfl, rfl, rfl⟩
 have c6b0 : ((wrap64 ((wrap64 (t106 + t120)) + t130)) == 0) = true := by subst d106 d120 d130; with_unfolding_all rfl
 have c6b1 : ((wrap64 ((wrap64 (t106 + t120)) + t130)) != 0) = false := by subst d106 d120 d130; with_unfolding_all rfl
 have c7b0 : (t104 == 1 && (t105 == 3)) = true := by subst d104 d105; rfl
 have c8b0 : ((t117.length : Int) == 1) = true := by subst d117; rfl
 have c8b1 : ((t117.length : Int) != 1) = false := by subst d117; rfl
 have c9b0 : decide (0 < (t117.length : Int)) = true := by subst d117; rfl
 have c9b1 : decide (0 < t117.length) = true := by subst d117; rfl
 have c10b0 : ((((rd_T29 t117 0).f0.f0) == 0 && (((rd_T29 t117 0).f0.f1) == 2000)) && ((((rd_T29 t117 0).f1.f0) == 0 && (((rd_T29 t117 0).f1.f1) == 2000)))) = true := by subst d117; rfl
 have c11b0 : (t128 == 2) = true := by subst d128; rfl
 have c11b1 : (t128 != 2) = false := by subst d128; rfl
 obtain rfl : r = (t129 == 2) := by subst d129; exact hr
 obtain ⟨y101, hy101⟩ : ∃ y_ : List Int, y_ = (([2, 1, 2, 0, 1] : List Int)) := ⟨_, rfl⟩
 rw [← hy101] at A10
 have Ny101 := zam hy101
 have A1 := zam A10
 have A2 := zam A20
 have A3 := zam A30
 have A4 := zam A40
 have A5 := zam A50
 clear hy101 A10 A20 A30 A40 A50 d104 d105 d106 d117 d120 d128 d129 d130 q1 q2 q3 hr hk h
 go_enter Try.func14, Try.ntmps14
 go_wp2_with (first | ((with_reducible refine zgd (N := 13) rfl ?_); (try (refine gate_guard (by rfl) ?_; dsimp only)); refine Kd.R_lit (Kd.int .i64) _ 50 ?hg (N := 13) ?hd (xs := ([2, 1, 2, 0, 1] : List Int)) (inner := [.int .i64 2, .int .i64 1, .int .i64 2, .int .i64 0, .int .i64 1]) (ok := fun _ => True) (okp := fun _ => True) ?hr ?hp (fun _ hk => hk) trivial (Below.refl _ _) (Nat.le_refl _) (by simp) ?_; (case hd => rfl); (case hg => rfl); (case hr => first | (go_simp; done) | (go_simp; rfl)); (case hp => exact (Reps.one (show Kd.M (Kd.int .i64) _ _ _ 2 [.int .i64 2] from rfl) (Reps.one (show Kd.M (Kd.int .i64) _ _ _ 1 [.int .i64 1] from rfl) (Reps.one (show Kd.M (Kd.int .i64) _ _ _ 2 [.int .i64 2] from rfl) (Reps.one (show Kd.M (Kd.int .i64) _ _ _ 0 [.int .i64 0] from rfl) (Reps.one (show Kd.M (Kd.int .i64) _ _ _ 1 [.int .i64 1] from rfl) (Reps.none _ _))))))); intro v102 w12 ho13 hb hg_ hnew_; clear hg_ hnew_; (first | rw [← Ny101.out] at ho13 | (simp only [Int.reduceToNat] at ho13; rw [← Ny101.out] at ho13)); have n0_ := zam (Kd.R_lower ho13 (zbz (by repeat (first | (with_reducible first | exact HB.out | apply zba | apply zbn | apply zb1) | exact HB.out)))); have n1_ := zam (zbt (by repeat (first | (with_reducible first | exact HB.out | apply zba | apply zbn | apply zb1) | exact HB.out)) hb); clear HB; have HO103 := n0_; have HB := n1_; clear n0_ n1_; clear hb ho13; obtain ⟨Ao14, co14, eo14⟩ := Kd.R_slice HO103.out; subst eo14) | ((with_reducible refine zgc (f := 30) rfl ?_); refine goesL_ (some 14) rfl rfl Try.func30 (by kernel_rfl) rfl #[.slice Ao14 y101.length co14, .int .i64 1] rfl (by (try simp only [zmt, List.map_cons, List.map_nil]); first | done | rfl | (simp only [zld, zlt]; rfl)) ?_; (with_reducible refine (sound_Count.calls k _ _ y101 1 t104 t105 t106 _ ?side1 ?side2 A1.out).mono ?_); (case side1 => repeat (first | exact (Kd.R_reads' HO103.out).2.2 | (with_reducible refine Kd.C_alloc ?_ _) | (with_reducible refine Kd.C_drewN ?_ _) | (with_reducible refine Kd.C_drew ?_))); (case side2 => exact (Kd.R_reads' HO103.out).2.1); rintro e w15 ⟨rfl, hb⟩; refine ⟨_, rfl, ?_⟩; have n0_ := zam (Kd.R_below (by (with_reducible repeat (first | apply zRa | apply zRn | apply zRd)); exact HO103.out) hb); have n1_ := zam (zbt (by repeat (first | (with_reducible first | exact HB.out | apply zba | apply zbn | apply zb1) | exact HB.out)) hb); clear HO103; clear HB; have HO103 := n0_; have HB := n1_; clear n0_ n1_; (try clear hb); (try clear hb2); (try clear hk); (try clear hi)) | ((with_reducible refine zgd (N := 1) rfl ?_); (try (refine gate_guard (by rfl) ?_; dsimp only)); refine box_event ?hg (N := 1) ?hd (cs := #[.int .i64 0, .int .i64 0]) (t := 24) ?hr ?_; (case hd => rfl); (case hg => rfl); (case hr => first | (go_simp; done) | (go_simp; rfl)); intro gb107 hg w16 hbox hb; have n0_ := zam (Kd.R_below (by (with_reducible repeat (first | apply zRa | apply zRn | apply zRd)); exact HO103.out) hb); have n1_ := zam (zbt (by repeat (first | (with_reducible first | exact HB.out | apply zba | apply zbn | apply zb1) | exact HB.out)) hb); have n2_ := zam (hbox); have n3_ := zam ((by rw [hg]; exact (zbz (by repeat (first | (with_reducible first | exact HB.out | apply zba | apply zbn | apply zb1) | exact HB.out))) : w.heap.size ≤ gb107)); have n4_ := zam ((by rw [hg]; exact (zbz (by repeat (first | (with_reducible first | exact HB.out | apply zba | apply zbn | apply zb1) | exact HB.out))) : w.heap.size ≤ gb107)); clear HO103; clear HB; have HO103 := n0_; have HB := n1_; have BK107 := n2_; have GW107 := n3_; have GE107 := n4_; clear n0_ n1_ n2_ n3_ n4_; clear hb hbox hg; have hcz17_0 : w16.cell? ⟨gb107, 0, none⟩ = some (.int .i64 0) := (zkc BK107.out 0).trans rfl; have hcz17_1 : w16.cell? ⟨gb107, 1, none⟩ = some (.int .i64 0) := (zkc BK107.out 1).trans rfl; have hfz17_0 := zkz BK107.out 0; have hfz17_1 := zkz BK107.out 1) | ((with_reducible refine zgc (f := 55) rfl ?_); refine goesL_ (some 18) rfl rfl Try.func55 (by kernel_rfl) rfl #[] rfl (by (try simp only [zmt, List.map_cons, List.map_nil]); first | done | rfl | (simp only [zld, zlt]; rfl)) ?_; (with_reducible refine (isobathlaw07_Example.calls  t108 t111 t112 t113 _ A2.out).mono ?_); rintro e w18 ⟨v109, v114, rfl, ho0, ho1, hb⟩; refine ⟨_, rfl, ?_⟩; have n0_ := zam (Kd.R_below (by (with_reducible repeat (first | apply zRa | apply zRn | apply zRd)); exact (Kd.R_mono (Kd.R_far (p := ⟨gb107, 1, none⟩) (Kd.R_far (p := ⟨gb107, 0, none⟩) (Kd.R_types HO103.out BK107.out (by decide)) (fun _ hk => hk.2) (.int .i64 t104)) (fun _ hk => hk.2) (.int .i64 t105)) (fun _ h_ => h_.1))) hb); have n1_ := zam (Kd.R_lower ho0 (zbz (by repeat (first | (with_reducible first | exact HB.out | apply zba | apply zbn | apply zb1 | refine zbs ?_ GE107.out) | exact HB.out)))); have n2_ := zam (Kd.R_lower (Kd.R_newB ho1 (g := gb107) (o := .cells #[.int .i64 t104, .int .i64 t105] 24 (0, 0)) (by (with_reducible repeat (first | refine zkn ?_ _ | refine zkd ?_ | refine zka ?_ _)); refine blk_put (cs := #[.int .i64 t104, .int .i64 0]) ?_ 1 _ rfl; (with_reducible repeat (first | refine zkn ?_ _ | refine zkd ?_ | refine zka ?_ _)); refine blk_put (cs := #[.int .i64 0, .int .i64 0]) ?_ 0 _ rfl; (with_reducible repeat (first | refine zkn ?_ _ | refine zkd ?_ | refine zka ?_ _)); exact BK107.out)) (zbz (by repeat (first | (with_reducible first | exact HB.out | apply zba | apply zbn | apply zb1 | refine zbs ?_ GE107.out) | exact HB.out)))); have n3_ := zam (zkb (g := gb107) (o := .cells #[.int .i64 t104, .int .i64 t105] 24 (0, 0)) (by (with_reducible repeat (first | refine zkn ?_ _ | refine zkd ?_ | refine zka ?_ _)); refine blk_put (cs := #[.int .i64 t104, .int .i64 0]) ?_ 1 _ rfl; (with_reducible repeat (first | refine zkn ?_ _ | refine zkd ?_ | refine zka ?_ _)); refine blk_put (cs := #[.int .i64 0, .int .i64 0]) ?_ 0 _ rfl; (with_reducible repeat (first | refine zkn ?_ _ | refine zkd ?_ | refine zka ?_ _)); exact BK107.out) hb); have n4_ := zam (zbt (by repeat (first | (with_reducible first | exact HB.out | apply zba | apply zbn | apply zb1 | refine zbs ?_ GE107.out) | exact HB.out)) hb); clear HO103; clear BK107; clear HB; have HO103 := n0_; have HO110 := n1_; have HO115 := n2_; have BK107 := n3_; have HB := n4_; clear n0_ n1_ n2_ n3_ n4_; (try clear hb); (try clear hb2); (try clear hk); (try clear hi); (try clear ho0); (try clear ho1)) | ((with_reducible refine zgd (N := 3) rfl ?_); (try (refine gate_guard (by rfl) ?_; dsimp only)); refine box_event ?hg (N := 3) ?hd (cs := #[.slice none 0 0, .int .i64 0, .int .i64 0]) (t := 26) ?hr ?_; (case hd => rfl); (case hg => rfl); (case hr => first | (go_simp; done) | (go_simp; rfl)); intro gb116 hg w19 hbox hb; have n0_ := zam (Kd.R_below (by (with_reducible repeat (first | apply zRa | apply zRn | apply zRd)); exact HO103.out) hb); have n1_ := zam (Kd.R_below (by (with_reducible repeat (first | apply zRa | apply zRn | apply zRd)); exact HO110.out) hb); have n2_ := zam (Kd.R_below (by (with_reducible repeat (first | apply zRa | apply zRn | apply zRd)); exact HO115.out) hb); have n3_ := zam (zkb (g := gb107) (o := .cells #[.int .i64 t104, .int .i64 t105] 24 (0, 0)) (by (with_reducible repeat (first | refine zkn ?_ _ | refine zkd ?_ | refine zka ?_ _)); exact BK107.out) hb); have n4_ := zam (zbt (by repeat (first | (with_reducible first | exact HB.out | apply zba | apply zbn | apply zb1 | refine zbs ?_ GE107.out) | exact HB.out)) hb); have n5_ := zam (hbox); have n6_ := zam ((by rw [hg]; exact (zbz (by repeat (first | (with_reducible first | exact HB.out | apply zba | apply zbn | apply zb1 | refine zbs ?_ GE107.out) | exact HB.out))) : w.heap.size ≤ gb116)); have n7_ := zam ((by rw [hg]; exact (zbz (by repeat (first | (with_reducible first | exact HB.out | apply zba | apply zbn | apply zb1 | refine zbs ?_ GE107.out) | exact HB.out))) : w.heap.size ≤ gb116)); have n8_ := zam ((by rw [hg]; exact Nat.ne_of_lt (blk_lt (g := gb107) (o := .cells #[.int .i64 t104, .int .i64 t105] 24 (0, 0)) (by (with_reducible repeat (first | refine zkn ?_ _ | refine zkd ?_ | refine zka ?_ _)); exact BK107.out)) : gb107 ≠ gb116)); have n9_ := zam ((by rw [hg]; exact Nat.ne_of_gt (blk_lt (g := gb107) (o := .cells #[.int .i64 t104, .int .i64 t105] 24 (0, 0)) (by (with_reducible repeat (first | refine zkn ?_ _ | refine zkd ?_ | refine zka ?_ _)); exact BK107.out)) : gb116 ≠ gb107)); clear HO103; clear HO110; clear HO115; clear BK107; clear HB; have HO103 := n0_; have HO110 := n1_; have HO115 := n2_; have BK107 := n3_; have HB := n4_; have BK116 := n5_; have GW116 := n6_; have GE116 := n7_; have NB107_116 := n8_; have NB116_107 := n9_; clear n0_ n1_ n2_ n3_ n4_ n5_ n6_ n7_ n8_ n9_; clear hb hbox hg; obtain ⟨Ao20, co20, eo20⟩ := Kd.R_slice HO110.out; subst eo20; have hnb21 := NB116_107.out; have hnc21 := NB107_116.out; have hcz22_0 : w19.cell? ⟨gb116, 0, none⟩ = some (.slice none 0 0) := (zkc BK116.out 0).trans rfl; have hcz22_1 : w19.cell? ⟨gb116, 1, none⟩ = some (.int .i64 0) := (zkc BK116.out 1).trans rfl; have hcz22_2 : w19.cell? ⟨gb116, 2, none⟩ = some (.int .i64 0) := (zkc BK116.out 2).trans rfl; have hfz22_0 := zkz BK116.out 0; have hfz22_1 := zkz BK116.out 1; have hfz22_2 := zkz BK116.out 2; obtain ⟨Ao23, co23, eo23⟩ := Kd.R_slice HO115.out; subst eo23) | ((with_reducible refine zgc (f := 15) rfl ?_); refine goesL_ (some 27) rfl rfl Try.func15 (by kernel_rfl) rfl #[.agg #[.slice Ao20 t108.length co20, .int .i64 t111, .int .i64 t112], .slice Ao23 t113.length co23, .agg #[.int .i64 0, .int .i64 4000, .int .i64 0, .int .i64 4000], .int .i64 1] rfl (by (try simp only [zmt, List.map_cons, List.map_nil]); first | done | rfl | (simp only [zld, zlt]; rfl)) ?_; (with_reducible refine (sound_Region.calls k _ _ t108 t111 t112 _ _ t113 0 4000 0 4000 1 t117 t120 _ ?side1 ?side2 ?side3 ?side4 A3.out).mono ?_); (case side1 => refine (Kd.R_reads' (e := 29) (base := w.heap.size) (ok := fun k_ => True) (n := t108.length) (c := co20) ?_).2.2; exact (by (with_reducible repeat (first | apply zRa | apply zRn | apply zRd)); exact (Kd.R_mono (Kd.R_far (p := ⟨gb116, 2, none⟩) (Kd.R_far (p := ⟨gb116, 1, none⟩) (Kd.R_far (p := ⟨gb116, 0, none⟩) (Kd.R_types HO110.out BK116.out (by decide)) (fun _ hk => hk.2) (.slice Ao20 t108.length co20)) (fun _ hk => hk.2) (.int .i64 t111)) (fun _ hk => hk.2) (.int .i64 t112)) (fun _ h_ => h_.1)))); (case side2 => exact (Kd.R_reads' HO110.out).2.1); (case side3 => refine (Kd.R_reads' (e := 24) (base := w.heap.size) (ok := fun k_ => (True ∧ k_ ≠ gb107)) (n := t113.length) (c := co23) ?_).2.2; exact (by (with_reducible repeat (first | apply zRa | apply zRn | apply zRd)); exact (Kd.R_mono (Kd.R_far (p := ⟨gb116, 2, none⟩) (Kd.R_far (p := ⟨gb116, 1, none⟩) (Kd.R_far (p := ⟨gb116, 0, none⟩) (Kd.R_types HO115.out BK116.out (by decide)) (fun _ hk => hk.2) (.slice Ao20 t108.length co20)) (fun _ hk => hk.2) (.int .i64 t111)) (fun _ hk => hk.2) (.int .i64 t112)) (fun _ h_ => h_.1)))); (case side4 => exact (Kd.R_reads' HO115.out).2.1); rintro e w24 ⟨v118, rfl, ho0, hb⟩; refine ⟨_, rfl, ?_⟩; have n0_ := zam (Kd.R_below (by (with_reducible repeat (first | apply zRa | apply zRn | apply zRd)); exact (Kd.R_mono (Kd.R_far (p := ⟨gb116, 2, none⟩) (Kd.R_far (p := ⟨gb116, 1, none⟩) (Kd.R_far (p := ⟨gb116, 0, none⟩) (Kd.R_types HO103.out BK116.out (by decide)) (fun _ hk => hk.2) (.slice Ao20 t108.length co20)) (fun _ hk => hk.2) (.int .i64 t111)) (fun _ hk => hk.2) (.int .i64 t112)) (fun _ h_ => h_.1))) hb); have n1_ := zam (Kd.R_elder' (by (with_reducible repeat (first | apply zRa | apply zRn | apply zRd)); exact (Kd.R_mono (Kd.R_far (p := ⟨gb116, 2, none⟩) (Kd.R_far (p := ⟨gb116, 1, none⟩) (Kd.R_far (p := ⟨gb116, 0, none⟩) (Kd.R_types HO110.out BK116.out (by decide)) (fun _ hk => hk.2) (.slice Ao20 t108.length co20)) (fun _ hk => hk.2) (.int .i64 t111)) (fun _ hk => hk.2) (.int .i64 t112)) (fun _ h_ => h_.1))) (Kd.R_base ho0) hb); have n2_ := zam (Kd.R_below (by (with_reducible repeat (first | apply zRa | apply zRn | apply zRd)); exact (Kd.R_mono (Kd.R_far (p := ⟨gb116, 2, none⟩) (Kd.R_far (p := ⟨gb116, 1, none⟩) (Kd.R_far (p := ⟨gb116, 0, none⟩) (Kd.R_types HO115.out BK116.out (by decide)) (fun _ hk => hk.2) (.slice Ao20 t108.length co20)) (fun _ hk => hk.2) (.int .i64 t111)) (fun _ hk => hk.2) (.int .i64 t112)) (fun _ h_ => h_.1))) hb); have n3_ := zam (Kd.R_lower (Kd.R_new' ho0 (Kd.R_lt (by (with_reducible repeat (first | apply zRa | apply zRn | apply zRd)); exact (Kd.R_mono (Kd.R_far (p := ⟨gb116, 2, none⟩) (Kd.R_far (p := ⟨gb116, 1, none⟩) (Kd.R_far (p := ⟨gb116, 0, none⟩) (Kd.R_types HO110.out BK116.out (by decide)) (fun _ hk => hk.2) (.slice Ao20 t108.length co20)) (fun _ hk => hk.2) (.int .i64 t111)) (fun _ hk => hk.2) (.int .i64 t112)) (fun _ h_ => h_.1))))) (zbz (by repeat (first | (with_reducible first | exact HB.out | apply zba | apply zbn | apply zb1 | refine zbs ?_ GE107.out | refine zbs ?_ GE116.out) | exact HB.out)))); have n4_ := zam (zkb (g := gb107) (o := .cells #[.int .i64 t104, .int .i64 t105] 24 (0, 0)) (by (with_reducible repeat (first | refine zkn ?_ _ | refine zkd ?_ | refine zka ?_ _)); refine zkf ?_ NB107_116.out _; (with_reducible repeat (first | refine zkn ?_ _ | refine zkd ?_ | refine zka ?_ _)); refine zkf ?_ NB107_116.out _; (with_reducible repeat (first | refine zkn ?_ _ | refine zkd ?_ | refine zka ?_ _)); refine zkf ?_ NB107_116.out _; (with_reducible repeat (first | refine zkn ?_ _ | refine zkd ?_ | refine zka ?_ _)); exact BK107.out) hb); have n5_ := zam (zkb (g := gb116) (o := .cells #[.slice Ao20 t108.length co20, .int .i64 t111, .int .i64 t112] 26 (0, 0)) (by (with_reducible repeat (first | refine zkn ?_ _ | refine zkd ?_ | refine zka ?_ _)); refine blk_put (cs := #[.slice Ao20 t108.length co20, .int .i64 t111, .int .i64 0]) ?_ 2 _ rfl; (with_reducible repeat (first | refine zkn ?_ _ | refine zkd ?_ | refine zka ?_ _)); refine blk_put (cs := #[.slice Ao20 t108.length co20, .int .i64 0, .int .i64 0]) ?_ 1 _ rfl; (with_reducible repeat (first | refine zkn ?_ _ | refine zkd ?_ | refine zka ?_ _)); refine blk_put (cs := #[.slice none 0 0, .int .i64 0, .int .i64 0]) ?_ 0 _ rfl; (with_reducible repeat (first | refine zkn ?_ _ | refine zkd ?_ | refine zka ?_ _)); exact BK116.out) hb); have n6_ := zam (zbt (by repeat (first | (with_reducible first | exact HB.out | apply zba | apply zbn | apply zb1 | refine zbs ?_ GE107.out | refine zbs ?_ GE116.out) | exact HB.out)) hb); clear HO103; clear HO110; clear HO115; clear BK107; clear BK116; clear HB; have HO103 := n0_; have HO110 := n1_; have HO115 := n2_; have HO119 := n3_; have BK107 := n4_; have BK116 := n5_; have HB := n6_; clear n0_ n1_ n2_ n3_ n4_ n5_ n6_; (try clear hb); (try clear hb2); (try clear hk); (try clear hi); (try clear ho0)) | ((with_reducible refine zgc (f := 57) rfl ?_); refine goesL_ (some 31) rfl rfl Try.func57 (by kernel_rfl) rfl #[] rfl (by (try simp only [zmt, List.map_cons, List.map_nil]); first | done | rfl | (simp only [zld, zlt]; rfl)) ?_; (with_reducible refine (isobathlaw07_Gauges.calls  t121 t124 t125 t126 _ A4.out).mono ?_); rintro e w25 ⟨v122, rfl, ho0, hb⟩; refine ⟨_, rfl, ?_⟩; have n0_ := zam (Kd.R_below (by (with_reducible repeat (first | apply zRa | apply zRn | apply zRd)); exact HO103.out) hb); have n1_ := zam (Kd.R_below (by (with_reducible repeat (first | apply zRa | apply zRn | apply zRd)); exact HO110.out) hb); have n2_ := zam (Kd.R_below (by (with_reducible repeat (first | apply zRa | apply zRn | apply zRd)); exact HO115.out) hb); have n3_ := zam (Kd.R_below (by (with_reducible repeat (first | apply zRa | apply zRn | apply zRd)); exact HO119.out) hb); have n4_ := zam (Kd.N_lower (Kd.N_mono (ok' := fun k_ => some k_ ≠ (.slice Ao14 y101.length co14 : Value).ownBlock ∧ some k_ ≠ (.slice Ao20 t108.length co20 : Value).ownBlock ∧ some k_ ≠ (.slice Ao23 t113.length co23 : Value).ownBlock ∧ some k_ ≠ (v118 : Value).ownBlock ∧ k_ ≠ gb107 ∧ k_ ≠ gb116) ho0 (fun k_ hk_ => ⟨(Kd.fresh' (Kd.R_lt (by (with_reducible repeat (first | apply zRa | apply zRn | apply zRd)); exact HO103.out)) k_ hk_), (Kd.fresh' (Kd.R_lt (by (with_reducible repeat (first | apply zRa | apply zRn | apply zRd)); exact HO110.out)) k_ hk_), (Kd.fresh' (Kd.R_lt (by (with_reducible repeat (first | apply zRa | apply zRn | apply zRd)); exact HO115.out)) k_ hk_), (Kd.fresh' (Kd.R_lt (by (with_reducible repeat (first | apply zRa | apply zRn | apply zRd)); exact HO119.out)) k_ hk_), (Kd.freshB (g := gb107) (o := .cells #[.int .i64 t104, .int .i64 t105] 24 (0, 0)) (by (with_reducible repeat (first | refine zkn ?_ _ | refine zkd ?_ | refine zka ?_ _)); exact BK107.out) k_ hk_), (Kd.freshB (g := gb116) (o := .cells #[.slice Ao20 t108.length co20, .int .i64 t111, .int .i64 t112] 26 (0, 0)) (by (with_reducible repeat (first | refine zkn ?_ _ | refine zkd ?_ | refine zka ?_ _)); exact BK116.out) k_ hk_)⟩)) (zbz (by repeat (first | (with_reducible first | exact HB.out | apply zba | apply zbn | apply zb1 | refine zbs ?_ GE107.out | refine zbs ?_ GE116.out) | exact HB.out)))); have n5_ := zam (zkb (g := gb107) (o := .cells #[.int .i64 t104, .int .i64 t105] 24 (0, 0)) (by (with_reducible repeat (first | refine zkn ?_ _ | refine zkd ?_ | refine zka ?_ _)); exact BK107.out) hb); have n6_ := zam (zkb (g := gb116) (o := .cells #[.slice Ao20 t108.length co20, .int .i64 t111, .int .i64 t112] 26 (0, 0)) (by (with_reducible repeat (first | refine zkn ?_ _ | refine zkd ?_ | refine zka ?_ _)); exact BK116.out) hb); have n7_ := zam (zbt (by repeat (first | (with_reducible first | exact HB.out | apply zba | apply zbn | apply zb1 | refine zbs ?_ GE107.out | refine zbs ?_ GE116.out) | exact HB.out)) hb); clear HO103; clear HO110; clear HO115; clear HO119; clear BK107; clear BK116; clear HB; have HO103 := n0_; have HO110 := n1_; have HO115 := n2_; have HO119 := n3_; have HO123 := n4_; have BK107 := n5_; have BK116 := n6_; have HB := n7_; clear n0_ n1_ n2_ n3_ n4_ n5_ n6_ n7_; (try clear hb); (try clear hb2); (try clear hk); (try clear hi); (try clear ho0)) | ((with_reducible refine zgd (N := 8) rfl ?_); (try (refine gate_guard (by rfl) ?_; dsimp only)); refine box_event ?hg (N := 8) ?hd (cs := #[.int .i64 0, .int .i64 0, .int .i64 0]) (t := 39) ?hr ?_; (case hd => rfl); (case hg => rfl); (case hr => first | (go_simp; done) | (go_simp; rfl)); intro gb127 hg w26 hbox hb; have n0_ := zam (Kd.R_below (by (with_reducible repeat (first | apply zRa | apply zRn | apply zRd)); exact HO103.out) hb); have n1_ := zam (Kd.R_below (by (with_reducible repeat (first | apply zRa | apply zRn | apply zRd)); exact HO110.out) hb); have n2_ := zam (Kd.R_below (by (with_reducible repeat (first | apply zRa | apply zRn | apply zRd)); exact HO115.out) hb); have n3_ := zam (Kd.R_below (by (with_reducible repeat (first | apply zRa | apply zRn | apply zRd)); exact HO119.out) hb); have n4_ := zam (Kd.N_below (Kd.N_elderB (by (with_reducible repeat (first | apply Kd.N_alloc | apply Kd.N_drewN | apply Kd.N_drew)); exact HO123.out) gb127 (Nat.le_of_eq hg.symm)) hb); have n5_ := zam (zkb (g := gb107) (o := .cells #[.int .i64 t104, .int .i64 t105] 24 (0, 0)) (by (with_reducible repeat (first | refine zkn ?_ _ | refine zkd ?_ | refine zka ?_ _)); exact BK107.out) hb); have n6_ := zam (zkb (g := gb116) (o := .cells #[.slice Ao20 t108.length co20, .int .i64 t111, .int .i64 t112] 26 (0, 0)) (by (with_reducible repeat (first | refine zkn ?_ _ | refine zkd ?_ | refine zka ?_ _)); exact BK116.out) hb); have n7_ := zam (zbt (by repeat (first | (with_reducible first | exact HB.out | apply zba | apply zbn | apply zb1 | refine zbs ?_ GE107.out | refine zbs ?_ GE116.out) | exact HB.out)) hb); have n8_ := zam (hbox); have n9_ := zam ((by rw [hg]; exact (zbz (by repeat (first | (with_reducible first | exact HB.out | apply zba | apply zbn | apply zb1 | refine zbs ?_ GE107.out | refine zbs ?_ GE116.out) | exact HB.out))) : w.heap.size ≤ gb127)); have n10_ := zam ((by rw [hg]; exact (zbz (by repeat (first | (with_reducible first | exact HB.out | apply zba | apply zbn | apply zb1 | refine zbs ?_ GE107.out | refine zbs ?_ GE116.out) | exact HB.out))) : w.heap.size ≤ gb127)); have n11_ := zam ((by rw [hg]; exact Nat.ne_of_lt (blk_lt (g := gb107) (o := .cells #[.int .i64 t104, .int .i64 t105] 24 (0, 0)) (by (with_reducible repeat (first | refine zkn ?_ _ | refine zkd ?_ | refine zka ?_ _)); exact BK107.out)) : gb107 ≠ gb127)); have n12_ := zam ((by rw [hg]; exact Nat.ne_of_gt (blk_lt (g := gb107) (o := .cells #[.int .i64 t104, .int .i64 t105] 24 (0, 0)) (by (with_reducible repeat (first | refine zkn ?_ _ | refine zkd ?_ | refine zka ?_ _)); exact BK107.out)) : gb127 ≠ gb107)); have n13_ := zam ((by rw [hg]; exact Nat.ne_of_lt (blk_lt (g := gb116) (o := .cells #[.slice Ao20 t108.length co20, .int .i64 t111, .int .i64 t112] 26 (0, 0)) (by (with_reducible repeat (first | refine zkn ?_ _ | refine zkd ?_ | refine zka ?_ _)); exact BK116.out)) : gb116 ≠ gb127)); have n14_ := zam ((by rw [hg]; exact Nat.ne_of_gt (blk_lt (g := gb116) (o := .cells #[.slice Ao20 t108.length co20, .int .i64 t111, .int .i64 t112] 26 (0, 0)) (by (with_reducible repeat (first | refine zkn ?_ _ | refine zkd ?_ | refine zka ?_ _)); exact BK116.out)) : gb127 ≠ gb116)); clear HO103; clear HO110; clear HO115; clear HO119; clear HO123; clear BK107; clear BK116; clear HB; have HO103 := n0_; have HO110 := n1_; have HO115 := n2_; have HO119 := n3_; have HO123 := n4_; have BK107 := n5_; have BK116 := n6_; have HB := n7_; have BK127 := n8_; have GW127 := n9_; have GE127 := n10_; have NB107_127 := n11_; have NB127_107 := n12_; have NB116_127 := n13_; have NB127_116 := n14_; clear n0_ n1_ n2_ n3_ n4_ n5_ n6_ n7_ n8_ n9_ n10_ n11_ n12_ n13_ n14_; clear hb hbox hg; have hnb27 := NB127_107.out; have hnc27 := NB107_127.out; have hnb28 := NB127_116.out; have hnc28 := NB116_127.out; have hcz29_0 : w26.cell? ⟨gb127, 0, none⟩ = some (.int .i64 0) := (zkc BK127.out 0).trans rfl; have hcz29_1 : w26.cell? ⟨gb127, 1, none⟩ = some (.int .i64 0) := (zkc BK127.out 1).trans rfl; have hcz29_2 : w26.cell? ⟨gb127, 2, none⟩ = some (.int .i64 0) := (zkc BK127.out 2).trans rfl; have hfz29_0 := zkz BK127.out 0; have hfz29_1 := zkz BK127.out 1; have hfz29_2 := zkz BK127.out 2; obtain ⟨Ao30, co30, eo30⟩ := Kd.N_slice HO123.out; subst eo30) | ((with_reducible refine zgc (f := 23) rfl ?_); refine goesL_ (some 37) rfl rfl Try.func23 (by kernel_rfl) rfl #[.slice Ao30 t121.length co30, .agg #[.int .i64 t124, .int .i64 t125, .int .i64 t126]] rfl (by (try simp only [zmt, List.map_cons, List.map_nil]); first | done | rfl | (simp only [zld, zlt]; rfl)) ?_; (with_reducible refine (sound_First.calls k _ _ t121 t124 t125 t126 t128 t129 t130 _ ?side1 ?side2 A5.out).mono ?_); (case side1 => refine (Kd.N_reads' (e := 45) (base := w.heap.size) (ok := fun k_ => ((some k_ ≠ (.slice Ao14 y101.length co14 : Value).ownBlock ∧ (some k_ ≠ (.slice Ao20 t108.length co20 : Value).ownBlock ∧ (some k_ ≠ (.slice Ao23 t113.length co23 : Value).ownBlock ∧ (some k_ ≠ (v118 : Value).ownBlock ∧ (k_ ≠ gb107 ∧ k_ ≠ gb116))))) ∧ k_ ≠ gb127)) (n := t121.length) (c := co30) ?_).2.2; exact (by (with_reducible repeat (first | apply Kd.N_alloc | apply Kd.N_drewN | apply Kd.N_drew)); exact (Kd.N_mono (Kd.N_far (p := ⟨gb127, 2, none⟩) (Kd.N_far (p := ⟨gb127, 1, none⟩) (Kd.N_far (p := ⟨gb127, 0, none⟩) (Kd.N_mono HO123.out (fun k_ hk => (⟨hk, hk.2⟩ : _ ∧ k_ ≠ gb127))) (fun _ hk => hk.2) (.int .i64 t124)) (fun _ hk => hk.2) (.int .i64 t125)) (fun _ hk => hk.2) (.int .i64 t126)) (fun _ h_ => h_.1)))); (case side2 => exact (Kd.N_reads' HO123.out).2.1); rintro e w31 ⟨rfl, hb⟩; refine ⟨_, rfl, ?_⟩; have n0_ := zam (Kd.R_below (by (with_reducible repeat (first | apply zRa | apply zRn | apply zRd)); exact (Kd.R_mono (Kd.R_far (p := ⟨gb127, 2, none⟩) (Kd.R_far (p := ⟨gb127, 1, none⟩) (Kd.R_far (p := ⟨gb127, 0, none⟩) (Kd.R_types HO103.out BK127.out (by decide)) (fun _ hk => hk.2) (.int .i64 t124)) (fun _ hk => hk.2) (.int .i64 t125)) (fun _ hk => hk.2) (.int .i64 t126)) (fun _ h_ => h_.1))) hb); have n1_ := zam (Kd.R_below (by (with_reducible repeat (first | apply zRa | apply zRn | apply zRd)); exact (Kd.R_mono (Kd.R_far (p := ⟨gb127, 2, none⟩) (Kd.R_far (p := ⟨gb127, 1, none⟩) (Kd.R_far (p := ⟨gb127, 0, none⟩) (Kd.R_types HO110.out BK127.out (by decide)) (fun _ hk => hk.2) (.int .i64 t124)) (fun _ hk => hk.2) (.int .i64 t125)) (fun _ hk => hk.2) (.int .i64 t126)) (fun _ h_ => h_.1))) hb); have n2_ := zam (Kd.R_below (by (with_reducible repeat (first | apply zRa | apply zRn | apply zRd)); exact (Kd.R_mono (Kd.R_far (p := ⟨gb127, 2, none⟩) (Kd.R_far (p := ⟨gb127, 1, none⟩) (Kd.R_far (p := ⟨gb127, 0, none⟩) (Kd.R_types HO115.out BK127.out (by decide)) (fun _ hk => hk.2) (.int .i64 t124)) (fun _ hk => hk.2) (.int .i64 t125)) (fun _ hk => hk.2) (.int .i64 t126)) (fun _ h_ => h_.1))) hb); have n3_ := zam (Kd.R_below (by (with_reducible repeat (first | apply zRa | apply zRn | apply zRd)); exact (Kd.R_mono (Kd.R_far (p := ⟨gb127, 2, none⟩) (Kd.R_far (p := ⟨gb127, 1, none⟩) (Kd.R_far (p := ⟨gb127, 0, none⟩) (Kd.R_types HO119.out BK127.out (by decide)) (fun _ hk => hk.2) (.int .i64 t124)) (fun _ hk => hk.2) (.int .i64 t125)) (fun _ hk => hk.2) (.int .i64 t126)) (fun _ h_ => h_.1))) hb); have n4_ := zam (Kd.N_below (by (with_reducible repeat (first | apply Kd.N_alloc | apply Kd.N_drewN | apply Kd.N_drew)); exact (Kd.N_mono (Kd.N_far (p := ⟨gb127, 2, none⟩) (Kd.N_far (p := ⟨gb127, 1, none⟩) (Kd.N_far (p := ⟨gb127, 0, none⟩) (Kd.N_mono HO123.out (fun k_ hk => (⟨hk, hk.2⟩ : _ ∧ k_ ≠ gb127))) (fun _ hk => hk.2) (.int .i64 t124)) (fun _ hk => hk.2) (.int .i64 t125)) (fun _ hk => hk.2) (.int .i64 t126)) (fun _ h_ => h_.1))) hb); have n5_ := zam (zkb (g := gb107) (o := .cells #[.int .i64 t104, .int .i64 t105] 24 (0, 0)) (by (with_reducible repeat (first | refine zkn ?_ _ | refine zkd ?_ | refine zka ?_ _)); refine zkf ?_ NB107_127.out _; (with_reducible repeat (first | refine zkn ?_ _ | refine zkd ?_ | refine zka ?_ _)); refine zkf ?_ NB107_127.out _; (with_reducible repeat (first | refine zkn ?_ _ | refine zkd ?_ | refine zka ?_ _)); refine zkf ?_ NB107_127.out _; (with_reducible repeat (first | refine zkn ?_ _ | refine zkd ?_ | refine zka ?_ _)); exact BK107.out) hb); have n6_ := zam (zkb (g := gb116) (o := .cells #[.slice Ao20 t108.length co20, .int .i64 t111, .int .i64 t112] 26 (0, 0)) (by (with_reducible repeat (first | refine zkn ?_ _ | refine zkd ?_ | refine zka ?_ _)); refine zkf ?_ NB116_127.out _; (with_reducible repeat (first | refine zkn ?_ _ | refine zkd ?_ | refine zka ?_ _)); refine zkf ?_ NB116_127.out _; (with_reducible repeat (first | refine zkn ?_ _ | refine zkd ?_ | refine zka ?_ _)); refine zkf ?_ NB116_127.out _; (with_reducible repeat (first | refine zkn ?_ _ | refine zkd ?_ | refine zka ?_ _)); exact BK116.out) hb); have n7_ := zam (zkb (g := gb127) (o := .cells #[.int .i64 t124, .int .i64 t125, .int .i64 t126] 39 (0, 0)) (by (with_reducible repeat (first | refine zkn ?_ _ | refine zkd ?_ | refine zka ?_ _)); refine blk_put (cs := #[.int .i64 t124, .int .i64 t125, .int .i64 0]) ?_ 2 _ rfl; (with_reducible repeat (first | refine zkn ?_ _ | refine zkd ?_ | refine zka ?_ _)); refine blk_put (cs := #[.int .i64 t124, .int .i64 0, .int .i64 0]) ?_ 1 _ rfl; (with_reducible repeat (first | refine zkn ?_ _ | refine zkd ?_ | refine zka ?_ _)); refine blk_put (cs := #[.int .i64 0, .int .i64 0, .int .i64 0]) ?_ 0 _ rfl; (with_reducible repeat (first | refine zkn ?_ _ | refine zkd ?_ | refine zka ?_ _)); exact BK127.out) hb); have n8_ := zam (zbt (by repeat (first | (with_reducible first | exact HB.out | apply zba | apply zbn | apply zb1 | refine zbs ?_ GE107.out | refine zbs ?_ GE116.out | refine zbs ?_ GE127.out) | exact HB.out)) hb); clear HO103; clear HO110; clear HO115; clear HO119; clear HO123; clear BK107; clear BK116; clear BK127; clear HB; have HO103 := n0_; have HO110 := n1_; have HO115 := n2_; have HO119 := n3_; have HO123 := n4_; have BK107 := n5_; have BK116 := n6_; have BK127 := n7_; have HB := n8_; clear n0_ n1_ n2_ n3_ n4_ n5_ n6_ n7_ n8_; (try clear hb); (try clear hb2); (try clear hk); (try clear hi); have hcz32_0 : w31.cell? ⟨gb107, 0, none⟩ = some (.int .i64 t104) := (zkc BK107.out 0).trans rfl; have hcz32_1 : w31.cell? ⟨gb107, 1, none⟩ = some (.int .i64 t105) := (zkc BK107.out 1).trans rfl; have hfz32_0 := zkz BK107.out 0; have hfz32_1 := zkz BK107.out 1; obtain ⟨Ao33, co33, eo33⟩ := Kd.R_slice HO119.out; subst eo33; have p131 : 0 ≤ (0 : Int) := (by omega); have q131 : 0 < (t117.length : Int) := zod (by first | (with_reducible assumption) | assumption); obtain ⟨ad131, e131, hx131_0, hx131_1, hx131_2, hx131_3⟩ := at_T29 (Kd.R_reads' HO119.out).2.2 0 p131 q131; cases e131; have qi131 : (0 < t117.length) = True := eq_true (by omega); (try rw [show ((0 : Int)).toNat = 0 from rfl] at hx131_0); (try rw [show 0 * 4 = 0 from rfl] at hx131_0); (try rw [Addr.add_zero'] at hx131_0); (try rw [show ((0 : Int)).toNat = 0 from rfl] at hx131_1); (try rw [show 0 * 4 = 0 from rfl] at hx131_1); (try rw [Addr.add_zero'] at hx131_1); (try rw [show ((0 : Int)).toNat = 0 from rfl] at hx131_2); (try rw [show 0 * 4 = 0 from rfl] at hx131_2); (try rw [Addr.add_zero'] at hx131_2); (try rw [show ((0 : Int)).toNat = 0 from rfl] at hx131_3); (try rw [show 0 * 4 = 0 from rfl] at hx131_3); (try rw [Addr.add_zero'] at hx131_3); replace p131 := eq_true p131; replace q131 := eq_true q131))
 go_ret
 exact ⟨by first | rfl | (simp [errW_none, errW_some] <;> rfl) | (simp [*, errW_none, errW_some] <;> rfl), by repeat (first | (with_reducible first | exact HB.out | apply zba | apply zbn | apply zb1 | refine zbs ?_ GE107.out | refine zbs ?_ GE116.out | refine zbs ?_ GE127.out) | exact HB.out)⟩
end Go.Proofs.Ytaheamdoldiojaa.P
namespace Go.Proofs.Ytaheamdoldiojaa.P
open Go.RowKit Go.Proofs.YtaheamdoldiojaaW.PrintWords Go.Proofs.YtaheamdoldiojaaW.PrintLast Go.Proofs.YtaheamdoldiojaaW.PrintMore
attribute [local go_sem] max2_int min2_int max_two min_two max_three min_three max_four min_four   -- for this text's walks alone
set_option linter.unusedVariables false
set_option linter.unusedSimpArgs false
structure Opens {α : Type} (P : Program) (t : TypeId) (d : Kd α) (B : α → Prop) : Prop where
 run : ∀ {H : Type} {enc : TypeId × Value → H} {W : World} {fuel : Nat} {cs : List Value} {x : DataW H × List MemPlace}, DataW.trod enc P W 0 (fun _ => true) true fuel t cs = some x → ∃ a : α, d.K W a cs ∧ B a
theorem Opens.int {P : Program} {t : TypeId} {k : IntKind} (ht : P.underlying t = some (.int k)) : Opens P t (Kd.int k) (fun n => (Lit.int k n).wf = true) :=
 ⟨fun h => by
  obtain ⟨n, rfl, _, hw⟩ := DataW.trod_int ht h
  exact ⟨n, rfl, hw⟩⟩
theorem Opens.bool {P : Program} {t : TypeId} (ht : P.underlying t = some .bool) : Opens P t Kd.bool (fun _ => True) :=
 ⟨fun h => by
  obtain ⟨n, rfl, _⟩ := DataW.trod_bool ht h
  exact ⟨n, rfl, trivial⟩⟩
theorem Opens.slice {α : Type} {P : Program} {t e : TypeId} {d : Kd α} {B : α → Prop} (ht : P.underlying t = some (.slice e)) (hc : P.cellsOf e = d.sz) (he : Opens P e d B) :
  Opens P t (Kd.slice e d) (fun xs => xs.length ≤ 9223372036854775807 ∧ ∀ x ∈ xs, B x) := by
 refine ⟨fun {H enc W fuel cs x} h => ?_⟩
 rcases Deep.open_slice ht h with ⟨rfl, _⟩ | ⟨a, len, cap, m, n, D, Pl, rfl, _, hl, hm, hmm, _, hx⟩
 ·exact ⟨[], ⟨none, 0, rfl, Nat.le_refl _, Kd.C_nil _ _⟩, by simp, by simp⟩
 have hm' : cap ≤ 9223372036854775807 := by unfold maxLen at hm; exact hm
 have hme : m = cap := by simpa using hmm
 have hel : ∀ i, i < len → ∃ y : α, (∃ cs', W.cells? 0 (a.add (i * P.cellsOf e)) (P.cellsOf e) = some cs' ∧ d.K W y cs') ∧ B y := by
  intro i hi
  obtain ⟨cs', h1, h2⟩ := hx i (by omega)
  obtain ⟨y, hy, hB⟩ := he.run h2
  exact ⟨y, ⟨cs', h1, hy⟩, hB⟩
 rcases Nat.eq_zero_or_pos len with h0 | h0
 ·subst h0
  exact ⟨[], ⟨some a, cap, rfl, Nat.zero_le _, rfl, Nat.zero_le _, fun hp => absurd hp (Nat.lt_irrefl 0)⟩, by simp, by simp⟩
 have : Inhabited α := ⟨Classical.choose (hel 0 h0)⟩
 obtain ⟨f, hf⟩ := Deep.choose_lt (p := fun i y => (∃ cs', W.cells? 0 (a.add (i * P.cellsOf e)) (P.cellsOf e) = some cs' ∧ d.K W y cs') ∧ B y) hel
 have hlen : ((List.range len).map f).length = len := by simp
 refine ⟨(List.range len).map f, ⟨some a, cap, by rw [hlen], by rw [hlen]; exact hl, hlen ▸ rfl, by rw [hlen]; omega, fun _ => ⟨a, rfl, ?_⟩⟩, by rw [hlen]; omega, ?_⟩
 ·intro j p hj
  have hjl : j < len := by
   have := (List.getElem?_eq_some_iff.1 hj).1
   rwa [hlen] at this
  have hp : p = f j := by
   rw [List.getElem?_map, List.getElem?_range hjl] at hj
   exact (zsi hj).symm
  subst hp
  obtain ⟨⟨cs', h1, h2⟩, _⟩ := hf j hjl
  obtain ⟨_, h3, h4⟩ := World.cells?_some h1
  rw [hc] at h3 h4
  refine ⟨cs', h3, h2, fun i u hu => ?_⟩
  have hi : i < d.sz := by
   have := (List.getElem?_eq_some_iff.1 hu).1
   omega
  rw [← Deep.add_add]
  exact (h4 i hi).trans hu
 intro y hy
 obtain ⟨i, hi, rfl⟩ := List.mem_map.1 hy
 exact (hf i (List.mem_range.1 hi)).2
structure OpensF {α : Type} (P : Program) (fs : List Field) (off tot : Nat) (d : Kd α) (B : α → Prop) : Prop where
 run : ∀ {H : Type} {enc : TypeId × Value → H} {W : World} {n : Nat} {cs : List Value}, cs.length = tot → (∀ (i : Nat) (f : Field), fs[i]? = some f → ∃ y, DataW.trod enc P W 0 (fun _ => true) true n f.type ((cs.drop f.offset).take (P.cellsOf f.type)) = some y) → ∃ a : α, d.K W a (cs.drop off) ∧ B a
theorem OpensF.last {α : Type} {P : Program} {f : Field} {off tot : Nat} {d : Kd α} {B : α → Prop} (ho : f.offset = off) (ht : off + P.cellsOf f.type = tot) (h : Opens P f.type d B) : OpensF P [f] off tot d B := by
 refine ⟨fun {H enc W n cs} hl hy => ?_⟩
 obtain ⟨y, hy⟩ := hy 0 f rfl
 obtain ⟨a, ha, hB⟩ := h.run hy
 rw [ho, List.take_of_length_le (by rw [zld]; omega)] at ha
 exact ⟨a, ha, hB⟩
theorem OpensF.cons {α β : Type} {P : Program} {f : Field} {fs : List Field} {off tot : Nat} {d1 : Kd α} {d2 : Kd β} {B1 : α → Prop} {B2 : β → Prop} (ho : f.offset = off) (hs : P.cellsOf f.type = d1.sz) (h : Opens P f.type d1 B1) (hr : OpensF P fs (off + d1.sz) tot d2 B2) :
  OpensF P (f :: fs) off tot (Kd.pair d1 d2) (fun x => B1 x.1 ∧ B2 x.2) := by
 refine ⟨fun {H enc W n cs} hl hy => ?_⟩
 obtain ⟨y, hy0⟩ := hy 0 f rfl
 obtain ⟨a, ha, hB⟩ := h.run hy0
 obtain ⟨b, hb, hB2⟩ := hr.run hl (fun i g hg => hy (i + 1) g hg)
 rw [ho, hs] at ha
 refine ⟨(a, b), ⟨(cs.drop off).take d1.sz, cs.drop (off + d1.sz), ?_, ha, hb⟩, hB, hB2⟩
 rw [← List.drop_drop, List.take_append_drop]
theorem Opens.struct {α β : Type} {P : Program} {t : TypeId} {fs : Array Field} {d : Kd α} {B : α → Prop} (ht : P.underlying t = some (.struct fs)) (f : β → α) (g : α → β) (hg : ∀ a, f (g a) = a) (hF : OpensF P fs.toList 0 (P.cellsOf t) d B) : Opens P t (Kd.iso d f) (fun x => B (f x)) := by
 refine ⟨fun {H enc W fuel cs x} h => ?_⟩
 obtain ⟨xs, n, _, _, hl, hlen, hf⟩ := DataW.trod_struct ht h
 obtain ⟨a, ha, hB⟩ := hF.run (n := n) hl (fun i fl hfl => by
  have hfl' : fs[i]? = some fl := by simpa using hfl
  have hi : i < fs.size := (Array.getElem?_eq_some_iff.1 hfl').1
  exact ⟨xs[i]'(by omega), (hf i fl hfl').trans (List.getElem?_eq_getElem (by omega))⟩)
 refine ⟨g a, ?_, ?_⟩
 ·show d.K W (f (g a)) cs
  rw [hg]
  simpa using ha
 show B (f (g a))
 rw [hg]
 exact hB
theorem cells_agg {v : Value} {l : List Value} (h : v.cells.toList = l) (hl : 2 ≤ l.length) : v = .agg l.toArray := by
 subst h
 cases v <;> simp [Value.cells] at hl ⊢
theorem Opens.array {α β : Type} {P : Program} {t n e : Nat} {fs : List Field} {d : Kd α} {B : α → Prop} (ht : P.underlying t = some (.array n e)) (hfs : ∀ (i : Nat) (f : Field), fs[i]? = some f → i < n ∧ f.type = e ∧ f.offset = i * P.cellsOf e) (f : β → α) (g : α → β) (hg : ∀ a, f (g a) = a) (hF : OpensF P fs 0 (P.cellsOf t) d B) : Opens P t (Kd.iso d f) (fun x => B (f x)) := by
 refine ⟨fun {H enc W fuel cs x} h => ?_⟩
 obtain ⟨xs, m, _, _, hl, hlen, hf⟩ := DataW.trod_array ht h
 obtain ⟨a, ha, hB⟩ := hF.run (n := m) hl (fun i fl hfl => by
  obtain ⟨h1, h2, h3⟩ := hfs i fl hfl
  rw [h2, h3]
  exact ⟨xs[i]'(by omega), (hf i h1).trans (List.getElem?_eq_getElem (by omega))⟩)
 refine ⟨g a, ?_, ?_⟩
 ·show d.K W (f (g a)) cs
  rw [hg]
  simpa using ha
 show B (f (g a))
 rw [hg]
 exact hB
end Go.Proofs.Ytaheamdoldiojaa.P
