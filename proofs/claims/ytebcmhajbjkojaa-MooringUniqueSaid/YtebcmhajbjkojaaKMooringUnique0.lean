/- MooringUnique returns true for every input and leaves it as it was: no condition beyond the row's own. Part 1 of 4. -/
import Derived.Test.YtebcmhajbjkojaaProg
import Derived.Below
import Derived.Deep.Draws
import Derived.Deep.AppendLies
import Derived.Maps.AppendAt
import Derived.OwnWalk
import Derived.Laws.BytesArg
import Derived.Laws.MakeOwn
import Derived.Laws.OwnMore
import Derived.Deep.OwnRows
import Derived.Tactics
import Derived.Lib.ConvBytes
import Derived.Laws.Slices
import Derived.WalkKit
import Derived.KernelRfl
import Derived.RowKit3
import Derived.Deep.LoopGhost
import Derived.Deep.QuietTactic
import Derived.BigQuiet
import Derived.WideLaws
import Derived.Deep.DeepCutAuto
import Derived.Deep.CutBlock
import Derived.Deep.RegionHeld3
import Derived.Laws.Rows
import Derived.Lib.AppendStr
import Derived.ArgAppend
import Derived.Laws.IdiomCopy
import Derived.OrdersHeld
import Derived.Laws.BitsLemmas
import Derived.RowKit
import Derived.Test.YtebcmhajbjkojaaWWords
import Derived.Test.YtebcmhajbjkojaaWLast
import Derived.Test.YtebcmhajbjkojaaWTab
import Derived.Test.YtebcmhajbjkojaaWFour
import Derived.Test.YtebcmhajbjkojaaWQPut
import Derived.Test.YtebcmhajbjkojaaWApart
import Derived.Test.YtebcmhajbjkojaaWArr
import Derived.Test.YtebcmhajbjkojaaWZeros
import Derived.Test.YtebcmhajbjkojaaWFoot
import Derived.Test.YtebcmhajbjkojaaWKept
import Derived.Test.YtebcmhajbjkojaaWShare
import Derived.Test.YtebcmhajbjkojaaWN
import Derived.Test.YtebcmhajbjkojaaWFootNe
import Derived.Test.YtebcmhajbjkojaaWAt
import Derived.Test.YtebcmhajbjkojaaWEqStruct
import Derived.Test.YtebcmhajbjkojaaWRepsOne
import Derived.Test.YtebcmhajbjkojaaWInv
import Derived.Test.YtebcmhajbjkojaaWInvWords
import Derived.Test.YtebcmhajbjkojaaWGuard
import Derived.Test.YtebcmhajbjkojaaWNEv
import Derived.Test.YtebcmhajbjkojaaWMore
namespace Go.Proofs.Ytebcmhajbjkojaa.P
open Go.RowKit Go.Proofs.YtebcmhajbjkojaaW.PrintWords Go.Proofs.YtebcmhajbjkojaaW.PrintLast Go.Proofs.YtebcmhajbjkojaaW.PrintMore
attribute [local go_sem] max2_int min2_int max_two min_two max_three min_three max_four min_four   -- for this text's walks alone
set_option linter.unusedVariables false
set_option linter.unusedSimpArgs false

def errW : Option Int → Value
  | none => .nilIface
  | some c => .iface 0 (.int .i64 c)
theorem errW_none : errW none = .nilIface := rfl
theorem errW_some (c : Int) : errW (some c) = .iface 0 (.int .i64 c) := rfl

theorem fld57_1 (w : World) (v0 v1 : Value) : (Instr.field 57 (.agg #[v0, v1]) 1).run Try.prog w = .ok v1 w := by kernel_rfl
theorem info2 : (Try.prog.info? 2).map (fun i => (i.zero, i.size, i.bytes)) = some (some (.int .i64 0), 1, 8) := by kernel_rfl
theorem info3 : (Try.prog.info? 3).map (fun i => (i.zero, i.size, i.bytes)) = some (some (.int .i64 0), 1, 8) := by kernel_rfl
theorem info4 : (Try.prog.info? 4).map (fun i => (i.zero, i.size, i.bytes)) = some (some (.bool false), 1, 1) := by kernel_rfl
theorem info46 : (Try.prog.info? 46).map (fun i => (i.zero, i.size, i.bytes)) = some (some (.agg #[(.int .i64 0), (.int .i64 0), (.int .i64 0), (.int .i64 0)]), 4, 32) := by kernel_rfl
theorem info57 : (Try.prog.info? 57).map (fun i => (i.zero, i.size, i.bytes)) = some (some (.agg #[(.int .i64 0), (.int .i64 0)]), 2, 16) := by kernel_rfl
theorem info79 : (Try.prog.info? 79).map (fun i => (i.zero, i.size, i.bytes)) = some (some (.agg #[(.int .i64 0), (.int .i64 0), (.int .i64 0), (.int .i64 0), (.slice none 0 0)]), 5, 56) := by kernel_rfl
-- the values' own types
/-! #### struct type 57 -/
structure S57 where
  f0 : Int
  f1 : Int
def z57 : S57 := ⟨(0 : Int), (0 : Int)⟩
def k57 : Kd S57 := Kd.iso (Kd.pair (Kd.int .i64) (Kd.int .i64)) (fun x : S57 => (x.f0, x.f1))
theorem k57_open {w : World} {x : S57} {cs : List Value} (h : k57.K w x cs) : cs = [.int .i64 x.f0, .int .i64 x.f1] := by
  obtain ⟨_, _, rfl, rfl, rfl⟩ := h
  exact rfl
theorem k57_openM {w : World} {base : Nat} {ok : Nat → Prop} {x : S57} {cs : List Value} (h : k57.M w base ok x cs) : cs = [.int .i64 x.f0, .int .i64 x.f1] := by
  obtain ⟨_, _, rfl, rfl, rfl⟩ := h
  exact rfl
theorem k57_mk (w : World) (x : S57)  : k57.K w x [.int .i64 x.f0, .int .i64 x.f1] := ⟨[.int .i64 x.f0], [.int .i64 x.f1], rfl, rfl, rfl⟩
theorem k57_mkM (w : World) (base : Nat) (ok : Nat → Prop) (x : S57)  : k57.M w base ok x [.int .i64 x.f0, .int .i64 x.f1] := ⟨[.int .i64 x.f0], [.int .i64 x.f1], rfl, rfl, rfl⟩
theorem k57_mkF (W : World) (ok : Nat → Prop) (x : S57) : Kd.FK k57 W ok x [.int .i64 x.f0, .int .i64 x.f1] := fun W2 _ => k57_mk W2 x
def rd_T57 (xs : List S57) (i : Int) : S57 := xs.getD i.toNat z57
theorem at_T57 {w : World} {A : Option Addr} {n : Nat} {xs : List S57} (h : Kd.C k57 w A n xs) (i : Int) (h0 : 0 ≤ i) (h1 : i < n) : ∃ ad , A = some ad ∧ w.cell? (ad.add (i.toNat * 2)) = some (.int .i64 (rd_T57 xs i).f0) ∧ w.cell? ⟨(ad.add (i.toNat * 2)).block, (ad.add (i.toNat * 2)).off + 1, none⟩ = some (.int .i64 (rd_T57 xs i).f1) := by
  obtain ⟨ad, c, e, _, hK, hc0⟩ := Kd.C_get h z57 i h0 h1
  have hc : ∀ j u, c[j]? = some u → w.cell? (ad.add (i.toNat * 2 + j)) = some u := hc0
  obtain rfl := k57_open hK
  exact ⟨ad, e, hc 0 _ rfl, by rw [← add_field _ _ 1 (by omega)]; exact hc 1 _ rfl⟩

/-! #### struct type 46 -/
structure S46 where
  f0 : Int
  f1 : Int
  f2 : Int
  f3 : Int
def z46 : S46 := ⟨(0 : Int), (0 : Int), (0 : Int), (0 : Int)⟩
def k46 : Kd S46 := Kd.iso (Kd.pair (Kd.int .i64) (Kd.pair (Kd.int .i64) (Kd.pair (Kd.int .i64) (Kd.int .i64)))) (fun x : S46 => (x.f0, x.f1, x.f2, x.f3))
theorem k46_open {w : World} {x : S46} {cs : List Value} (h : k46.K w x cs) : cs = [.int .i64 x.f0, .int .i64 x.f1, .int .i64 x.f2, .int .i64 x.f3] := by
  obtain ⟨_, _, rfl, rfl, ⟨_, _, rfl, rfl, ⟨_, _, rfl, rfl, rfl⟩⟩⟩ := h
  exact rfl
theorem k46_openM {w : World} {base : Nat} {ok : Nat → Prop} {x : S46} {cs : List Value} (h : k46.M w base ok x cs) : cs = [.int .i64 x.f0, .int .i64 x.f1, .int .i64 x.f2, .int .i64 x.f3] := by
  obtain ⟨_, _, rfl, rfl, ⟨_, _, rfl, rfl, ⟨_, _, rfl, rfl, rfl⟩⟩⟩ := h
  exact rfl
theorem k46_mk (w : World) (x : S46)  : k46.K w x [.int .i64 x.f0, .int .i64 x.f1, .int .i64 x.f2, .int .i64 x.f3] := ⟨[.int .i64 x.f0], [.int .i64 x.f1, .int .i64 x.f2, .int .i64 x.f3], rfl, rfl, ⟨[.int .i64 x.f1], [.int .i64 x.f2, .int .i64 x.f3], rfl, rfl, ⟨[.int .i64 x.f2], [.int .i64 x.f3], rfl, rfl, rfl⟩⟩⟩
theorem k46_mkM (w : World) (base : Nat) (ok : Nat → Prop) (x : S46)  : k46.M w base ok x [.int .i64 x.f0, .int .i64 x.f1, .int .i64 x.f2, .int .i64 x.f3] := ⟨[.int .i64 x.f0], [.int .i64 x.f1, .int .i64 x.f2, .int .i64 x.f3], rfl, rfl, ⟨[.int .i64 x.f1], [.int .i64 x.f2, .int .i64 x.f3], rfl, rfl, ⟨[.int .i64 x.f2], [.int .i64 x.f3], rfl, rfl, rfl⟩⟩⟩
theorem k46_mkF (W : World) (ok : Nat → Prop) (x : S46) : Kd.FK k46 W ok x [.int .i64 x.f0, .int .i64 x.f1, .int .i64 x.f2, .int .i64 x.f3] := fun W2 _ => k46_mk W2 x
def rd_T46 (xs : List S46) (i : Int) : S46 := xs.getD i.toNat z46
theorem at_T46 {w : World} {A : Option Addr} {n : Nat} {xs : List S46} (h : Kd.C k46 w A n xs) (i : Int) (h0 : 0 ≤ i) (h1 : i < n) : ∃ ad , A = some ad ∧ w.cell? (ad.add (i.toNat * 4)) = some (.int .i64 (rd_T46 xs i).f0) ∧ w.cell? ⟨(ad.add (i.toNat * 4)).block, (ad.add (i.toNat * 4)).off + 1, none⟩ = some (.int .i64 (rd_T46 xs i).f1) ∧ w.cell? ⟨(ad.add (i.toNat * 4)).block, (ad.add (i.toNat * 4)).off + 2, none⟩ = some (.int .i64 (rd_T46 xs i).f2) ∧ w.cell? ⟨(ad.add (i.toNat * 4)).block, (ad.add (i.toNat * 4)).off + 3, none⟩ = some (.int .i64 (rd_T46 xs i).f3) := by
  obtain ⟨ad, c, e, _, hK, hc0⟩ := Kd.C_get h z46 i h0 h1
  have hc : ∀ j u, c[j]? = some u → w.cell? (ad.add (i.toNat * 4 + j)) = some u := hc0
  obtain rfl := k46_open hK
  exact ⟨ad, e, hc 0 _ rfl, by rw [← add_field _ _ 1 (by omega)]; exact hc 1 _ rfl, by rw [← add_field _ _ 2 (by omega)]; exact hc 2 _ rfl, by rw [← add_field _ _ 3 (by omega)]; exact hc 3 _ rfl⟩

def rd_L3 (xs : List (List S46)) (i : Int) : (List S46) := xs.getD i.toNat ([] : List S46)
theorem at_L3 {w : World} {A : Option Addr} {n : Nat} {xs : List (List S46)} (h : Kd.C (Kd.slice 46 k46) w A n xs) (i : Int) (h0 : 0 ≤ i) (h1 : i < n) : ∃ ad A0 c0, A = some ad ∧ w.cell? (ad.add i.toNat) = some (.slice A0 (rd_L3 xs i).length c0) ∧ (rd_L3 xs i).length ≤ c0 ∧ k46.C w A0 (rd_L3 xs i).length (rd_L3 xs i) := by
  obtain ⟨ad, c, e, _, hK, hc0⟩ := Kd.C_get h ([] : List S46) i h0 h1
  have hc : ∀ j u, c[j]? = some u → w.cell? (ad.add (i.toNat * 1 + j)) = some u := hc0
  obtain ⟨A0, c0, rfl, l0, g0⟩ := hK
  exact ⟨ad, A0, c0, e, by have hq := hc 0 _ rfl; rwa [Nat.mul_one, Nat.add_zero] at hq, l0, g0⟩

/-! #### struct type 37 -/
structure S37 where
  f0 : Int
  f1 : (List S46)
  f2 : Int
  f3 : Int
def z37 : S37 := ⟨(0 : Int), ([] : List S46), (0 : Int), (0 : Int)⟩
def k37 : Kd S37 := Kd.iso (Kd.pair (Kd.int .i64) (Kd.pair (Kd.slice 46 k46) (Kd.pair (Kd.int .i64) (Kd.int .i64)))) (fun x : S37 => (x.f0, x.f1, x.f2, x.f3))
theorem k37_open {w : World} {x : S37} {cs : List Value} (h : k37.K w x cs) : ∃ A1 c1, cs = [.int .i64 x.f0, .slice A1 x.f1.length c1, .int .i64 x.f2, .int .i64 x.f3] ∧ x.f1.length ≤ c1 ∧ k46.C w A1 x.f1.length x.f1 := by
  obtain ⟨_, _, rfl, rfl, ⟨_, _, rfl, ⟨A1, c1, rfl, l1, g1⟩, ⟨_, _, rfl, rfl, rfl⟩⟩⟩ := h
  exact ⟨A1, c1, rfl, l1, g1⟩
theorem k37_openM {w : World} {base : Nat} {ok : Nat → Prop} {x : S37} {cs : List Value} (h : k37.M w base ok x cs) : ∃ v1, cs = [.int .i64 x.f0, v1, .int .i64 x.f2, .int .i64 x.f3] ∧ k46.R 46 w base ok v1 x.f1 := by
  obtain ⟨_, _, rfl, rfl, ⟨_, _, rfl, ⟨v1, rfl, g1⟩, ⟨_, _, rfl, rfl, rfl⟩⟩⟩ := h
  exact ⟨v1, rfl, g1⟩
theorem k37_mk (w : World) (x : S37) {A1 : Option Addr} {c1 : Nat} (l1 : x.f1.length ≤ c1) (g1 : k46.C w A1 x.f1.length x.f1) : k37.K w x [.int .i64 x.f0, .slice A1 x.f1.length c1, .int .i64 x.f2, .int .i64 x.f3] := ⟨[.int .i64 x.f0], [.slice A1 x.f1.length c1, .int .i64 x.f2, .int .i64 x.f3], rfl, rfl, ⟨[.slice A1 x.f1.length c1], [.int .i64 x.f2, .int .i64 x.f3], rfl, ⟨A1, c1, rfl, l1, g1⟩, ⟨[.int .i64 x.f2], [.int .i64 x.f3], rfl, rfl, rfl⟩⟩⟩
theorem k37_mkM (w : World) (base : Nat) (ok : Nat → Prop) (x : S37) {v1 : Value} (g1 : k46.R 46 w base ok v1 x.f1) : k37.M w base ok x [.int .i64 x.f0, v1, .int .i64 x.f2, .int .i64 x.f3] := ⟨[.int .i64 x.f0], [v1, .int .i64 x.f2, .int .i64 x.f3], rfl, rfl, ⟨[v1], [.int .i64 x.f2, .int .i64 x.f3], rfl, ⟨v1, rfl, g1⟩, ⟨[.int .i64 x.f2], [.int .i64 x.f3], rfl, rfl, rfl⟩⟩⟩
theorem k37_openF {W : World} {ok : Nat → Prop} {x : S37} {cs : List Value} (h : Kd.FK k37 W ok x cs) : ∃ A1 c1, cs = [.int .i64 x.f0, .slice A1 x.f1.length c1, .int .i64 x.f2, .int .i64 x.f3] ∧ x.f1.length ≤ c1 ∧ Kd.F k46 W ok A1 x.f1.length x.f1 := by
  obtain ⟨A1, c1, rfl, l1, _⟩ := k37_open (Kd.FK_now h)
  exact ⟨A1, c1, rfl, l1, (fun W' hW => by obtain ⟨A1_, c1_, he, l1_, g1_⟩ := k37_open (h W' hW); injection (Option.some.inj (show some (Value.slice A1 x.f1.length c1) = some (Value.slice A1_ x.f1.length c1_) from congrArg (fun l => l[1]?) he)) with ha_ _ _; rw [ha_]; exact g1_)⟩
theorem k37_mkF (W : World) (ok : Nat → Prop) (x : S37) {A1 : Option Addr} {c1 : Nat} (l1 : x.f1.length ≤ c1) (g1 : Kd.F k46 W ok A1 x.f1.length x.f1) : Kd.FK k37 W ok x [.int .i64 x.f0, .slice A1 x.f1.length c1, .int .i64 x.f2, .int .i64 x.f3] := fun W2 hW => k37_mk W2 x l1 (g1 W2 hW)
def rd_T37 (xs : List S37) (i : Int) : S37 := xs.getD i.toNat z37
theorem at_T37 {w : World} {A : Option Addr} {n : Nat} {xs : List S37} (h : Kd.C k37 w A n xs) (i : Int) (h0 : 0 ≤ i) (h1 : i < n) : ∃ ad A1 c1, A = some ad ∧ w.cell? (ad.add (i.toNat * 4)) = some (.int .i64 (rd_T37 xs i).f0) ∧ w.cell? ⟨(ad.add (i.toNat * 4)).block, (ad.add (i.toNat * 4)).off + 1, none⟩ = some (.slice A1 (rd_T37 xs i).f1.length c1) ∧ w.cell? ⟨(ad.add (i.toNat * 4)).block, (ad.add (i.toNat * 4)).off + 2, none⟩ = some (.int .i64 (rd_T37 xs i).f2) ∧ w.cell? ⟨(ad.add (i.toNat * 4)).block, (ad.add (i.toNat * 4)).off + 3, none⟩ = some (.int .i64 (rd_T37 xs i).f3) ∧ (rd_T37 xs i).f1.length ≤ c1 ∧ k46.C w A1 (rd_T37 xs i).f1.length (rd_T37 xs i).f1 := by
  obtain ⟨ad, c, e, _, hK, hc0⟩ := Kd.C_get h z37 i h0 h1
  have hc : ∀ j u, c[j]? = some u → w.cell? (ad.add (i.toNat * 4 + j)) = some u := hc0
  obtain ⟨A1, c1, rfl, l1, g1⟩ := k37_open hK
  exact ⟨ad, A1, c1, e, hc 0 _ rfl, by rw [← add_field _ _ 1 (by omega)]; exact hc 1 _ rfl, by rw [← add_field _ _ 2 (by omega)]; exact hc 2 _ rfl, by rw [← add_field _ _ 3 (by omega)]; exact hc 3 _ rfl, l1, g1⟩

def rd_L5 (xs : List (List S57)) (i : Int) : (List S57) := xs.getD i.toNat ([] : List S57)
theorem at_L5 {w : World} {A : Option Addr} {n : Nat} {xs : List (List S57)} (h : Kd.C (Kd.slice 57 k57) w A n xs) (i : Int) (h0 : 0 ≤ i) (h1 : i < n) : ∃ ad A0 c0, A = some ad ∧ w.cell? (ad.add i.toNat) = some (.slice A0 (rd_L5 xs i).length c0) ∧ (rd_L5 xs i).length ≤ c0 ∧ k57.C w A0 (rd_L5 xs i).length (rd_L5 xs i) := by
  obtain ⟨ad, c, e, _, hK, hc0⟩ := Kd.C_get h ([] : List S57) i h0 h1
  have hc : ∀ j u, c[j]? = some u → w.cell? (ad.add (i.toNat * 1 + j)) = some u := hc0
  obtain ⟨A0, c0, rfl, l0, g0⟩ := hK
  exact ⟨ad, A0, c0, e, by have hq := hc 0 _ rfl; rwa [Nat.mul_one, Nat.add_zero] at hq, l0, g0⟩

/-! #### struct type 69 -/
structure S69 where
  f0 : Int
  f1 : Int
  f2 : Int
  f3 : Int
  f4 : Int
  f5 : Int
  f6 : Int
  f7 : Int
  f8 : Int
def z69 : S69 := ⟨(0 : Int), (0 : Int), (0 : Int), (0 : Int), (0 : Int), (0 : Int), (0 : Int), (0 : Int), (0 : Int)⟩
def k69 : Kd S69 := Kd.iso (Kd.pair (Kd.int .u16) (Kd.pair (Kd.int .i16) (Kd.pair (Kd.int .u8) (Kd.pair (Kd.int .u16) (Kd.pair (Kd.int .u8) (Kd.pair (Kd.int .u8) (Kd.pair (Kd.int .u8) (Kd.pair (Kd.int .u8) (Kd.int .u8))))))))) (fun x : S69 => (x.f0, x.f1, x.f2, x.f3, x.f4, x.f5, x.f6, x.f7, x.f8))
theorem k69_open {w : World} {x : S69} {cs : List Value} (h : k69.K w x cs) : cs = [.int .u16 x.f0, .int .i16 x.f1, .int .u8 x.f2, .int .u16 x.f3, .int .u8 x.f4, .int .u8 x.f5, .int .u8 x.f6, .int .u8 x.f7, .int .u8 x.f8] := by
  obtain ⟨_, _, rfl, rfl, ⟨_, _, rfl, rfl, ⟨_, _, rfl, rfl, ⟨_, _, rfl, rfl, ⟨_, _, rfl, rfl, ⟨_, _, rfl, rfl, ⟨_, _, rfl, rfl, ⟨_, _, rfl, rfl, rfl⟩⟩⟩⟩⟩⟩⟩⟩ := h
  exact rfl
theorem k69_openM {w : World} {base : Nat} {ok : Nat → Prop} {x : S69} {cs : List Value} (h : k69.M w base ok x cs) : cs = [.int .u16 x.f0, .int .i16 x.f1, .int .u8 x.f2, .int .u16 x.f3, .int .u8 x.f4, .int .u8 x.f5, .int .u8 x.f6, .int .u8 x.f7, .int .u8 x.f8] := by
  obtain ⟨_, _, rfl, rfl, ⟨_, _, rfl, rfl, ⟨_, _, rfl, rfl, ⟨_, _, rfl, rfl, ⟨_, _, rfl, rfl, ⟨_, _, rfl, rfl, ⟨_, _, rfl, rfl, ⟨_, _, rfl, rfl, rfl⟩⟩⟩⟩⟩⟩⟩⟩ := h
  exact rfl
theorem k69_mk (w : World) (x : S69)  : k69.K w x [.int .u16 x.f0, .int .i16 x.f1, .int .u8 x.f2, .int .u16 x.f3, .int .u8 x.f4, .int .u8 x.f5, .int .u8 x.f6, .int .u8 x.f7, .int .u8 x.f8] := ⟨[.int .u16 x.f0], [.int .i16 x.f1, .int .u8 x.f2, .int .u16 x.f3, .int .u8 x.f4, .int .u8 x.f5, .int .u8 x.f6, .int .u8 x.f7, .int .u8 x.f8], rfl, rfl, ⟨[.int .i16 x.f1], [.int .u8 x.f2, .int .u16 x.f3, .int .u8 x.f4, .int .u8 x.f5, .int .u8 x.f6, .int .u8 x.f7, .int .u8 x.f8], rfl, rfl, ⟨[.int .u8 x.f2], [.int .u16 x.f3, .int .u8 x.f4, .int .u8 x.f5, .int .u8 x.f6, .int .u8 x.f7, .int .u8 x.f8], rfl, rfl, ⟨[.int .u16 x.f3], [.int .u8 x.f4, .int .u8 x.f5, .int .u8 x.f6, .int .u8 x.f7, .int .u8 x.f8], rfl, rfl, ⟨[.int .u8 x.f4], [.int .u8 x.f5, .int .u8 x.f6, .int .u8 x.f7, .int .u8 x.f8], rfl, rfl, ⟨[.int .u8 x.f5], [.int .u8 x.f6, .int .u8 x.f7, .int .u8 x.f8], rfl, rfl, ⟨[.int .u8 x.f6], [.int .u8 x.f7, .int .u8 x.f8], rfl, rfl, ⟨[.int .u8 x.f7], [.int .u8 x.f8], rfl, rfl, rfl⟩⟩⟩⟩⟩⟩⟩⟩
theorem k69_mkM (w : World) (base : Nat) (ok : Nat → Prop) (x : S69)  : k69.M w base ok x [.int .u16 x.f0, .int .i16 x.f1, .int .u8 x.f2, .int .u16 x.f3, .int .u8 x.f4, .int .u8 x.f5, .int .u8 x.f6, .int .u8 x.f7, .int .u8 x.f8] := ⟨[.int .u16 x.f0], [.int .i16 x.f1, .int .u8 x.f2, .int .u16 x.f3, .int .u8 x.f4, .int .u8 x.f5, .int .u8 x.f6, .int .u8 x.f7, .int .u8 x.f8], rfl, rfl, ⟨[.int .i16 x.f1], [.int .u8 x.f2, .int .u16 x.f3, .int .u8 x.f4, .int .u8 x.f5, .int .u8 x.f6, .int .u8 x.f7, .int .u8 x.f8], rfl, rfl, ⟨[.int .u8 x.f2], [.int .u16 x.f3, .int .u8 x.f4, .int .u8 x.f5, .int .u8 x.f6, .int .u8 x.f7, .int .u8 x.f8], rfl, rfl, ⟨[.int .u16 x.f3], [.int .u8 x.f4, .int .u8 x.f5, .int .u8 x.f6, .int .u8 x.f7, .int .u8 x.f8], rfl, rfl, ⟨[.int .u8 x.f4], [.int .u8 x.f5, .int .u8 x.f6, .int .u8 x.f7, .int .u8 x.f8], rfl, rfl, ⟨[.int .u8 x.f5], [.int .u8 x.f6, .int .u8 x.f7, .int .u8 x.f8], rfl, rfl, ⟨[.int .u8 x.f6], [.int .u8 x.f7, .int .u8 x.f8], rfl, rfl, ⟨[.int .u8 x.f7], [.int .u8 x.f8], rfl, rfl, rfl⟩⟩⟩⟩⟩⟩⟩⟩
theorem k69_mkF (W : World) (ok : Nat → Prop) (x : S69) : Kd.FK k69 W ok x [.int .u16 x.f0, .int .i16 x.f1, .int .u8 x.f2, .int .u16 x.f3, .int .u8 x.f4, .int .u8 x.f5, .int .u8 x.f6, .int .u8 x.f7, .int .u8 x.f8] := fun W2 _ => k69_mk W2 x
def rd_T69 (xs : List S69) (i : Int) : S69 := xs.getD i.toNat z69
theorem at_T69 {w : World} {A : Option Addr} {n : Nat} {xs : List S69} (h : Kd.C k69 w A n xs) (i : Int) (h0 : 0 ≤ i) (h1 : i < n) : ∃ ad , A = some ad ∧ w.cell? (ad.add (i.toNat * 9)) = some (.int .u16 (rd_T69 xs i).f0) ∧ w.cell? ⟨(ad.add (i.toNat * 9)).block, (ad.add (i.toNat * 9)).off + 1, none⟩ = some (.int .i16 (rd_T69 xs i).f1) ∧ w.cell? ⟨(ad.add (i.toNat * 9)).block, (ad.add (i.toNat * 9)).off + 2, none⟩ = some (.int .u8 (rd_T69 xs i).f2) ∧ w.cell? ⟨(ad.add (i.toNat * 9)).block, (ad.add (i.toNat * 9)).off + 3, none⟩ = some (.int .u16 (rd_T69 xs i).f3) ∧ w.cell? ⟨(ad.add (i.toNat * 9)).block, (ad.add (i.toNat * 9)).off + 4, none⟩ = some (.int .u8 (rd_T69 xs i).f4) ∧ w.cell? ⟨(ad.add (i.toNat * 9)).block, (ad.add (i.toNat * 9)).off + 5, none⟩ = some (.int .u8 (rd_T69 xs i).f5) ∧ w.cell? ⟨(ad.add (i.toNat * 9)).block, (ad.add (i.toNat * 9)).off + 6, none⟩ = some (.int .u8 (rd_T69 xs i).f6) ∧ w.cell? ⟨(ad.add (i.toNat * 9)).block, (ad.add (i.toNat * 9)).off + 7, none⟩ = some (.int .u8 (rd_T69 xs i).f7) ∧ w.cell? ⟨(ad.add (i.toNat * 9)).block, (ad.add (i.toNat * 9)).off + 8, none⟩ = some (.int .u8 (rd_T69 xs i).f8) := by
  obtain ⟨ad, c, e, _, hK, hc0⟩ := Kd.C_get h z69 i h0 h1
  have hc : ∀ j u, c[j]? = some u → w.cell? (ad.add (i.toNat * 9 + j)) = some u := hc0
  obtain rfl := k69_open hK
  exact ⟨ad, e, hc 0 _ rfl, by rw [← add_field _ _ 1 (by omega)]; exact hc 1 _ rfl, by rw [← add_field _ _ 2 (by omega)]; exact hc 2 _ rfl, by rw [← add_field _ _ 3 (by omega)]; exact hc 3 _ rfl, by rw [← add_field _ _ 4 (by omega)]; exact hc 4 _ rfl, by rw [← add_field _ _ 5 (by omega)]; exact hc 5 _ rfl, by rw [← add_field _ _ 6 (by omega)]; exact hc 6 _ rfl, by rw [← add_field _ _ 7 (by omega)]; exact hc 7 _ rfl, by rw [← add_field _ _ 8 (by omega)]; exact hc 8 _ rfl⟩

def rd_L11 (xs : List (List Int)) (i : Int) : (List Int) := xs.getD i.toNat ([] : List Int)
theorem at_L11 {w : World} {A : Option Addr} {n : Nat} {xs : List (List Int)} (h : Kd.C (Kd.slice 3 (Kd.int .i64)) w A n xs) (i : Int) (h0 : 0 ≤ i) (h1 : i < n) : ∃ ad A0 c0, A = some ad ∧ w.cell? (ad.add i.toNat) = some (.slice A0 (rd_L11 xs i).length c0) ∧ (rd_L11 xs i).length ≤ c0 ∧ (Kd.int .i64).C w A0 (rd_L11 xs i).length (rd_L11 xs i) := by
  obtain ⟨ad, c, e, _, hK, hc0⟩ := Kd.C_get h ([] : List Int) i h0 h1
  have hc : ∀ j u, c[j]? = some u → w.cell? (ad.add (i.toNat * 1 + j)) = some u := hc0
  obtain ⟨A0, c0, rfl, l0, g0⟩ := hK
  exact ⟨ad, A0, c0, e, by have hq := hc 0 _ rfl; rwa [Nat.mul_one, Nat.add_zero] at hq, l0, g0⟩

/-! #### struct type 79 -/
structure S79 where
  f0 : S57
  f1 : S57
  f2 : (List Int)
def z79 : S79 := ⟨z57, z57, ([] : List Int)⟩
def k79 : Kd S79 := Kd.iso (Kd.pair k57 (Kd.pair k57 (Kd.slice 3 (Kd.int .i64)))) (fun x : S79 => (x.f0, x.f1, x.f2))
theorem k79_open {w : World} {x : S79} {cs : List Value} (h : k79.K w x cs) : ∃ A4 c4, cs = [.int .i64 x.f0.f0, .int .i64 x.f0.f1, .int .i64 x.f1.f0, .int .i64 x.f1.f1, .slice A4 x.f2.length c4] ∧ x.f2.length ≤ c4 ∧ (Kd.int .i64).C w A4 x.f2.length x.f2 := by
  obtain ⟨_, _, rfl, s0, ⟨_, _, rfl, s2, ⟨A4, c4, rfl, l4, g4⟩⟩⟩ := h
  obtain rfl := k57_open s0
  obtain rfl := k57_open s2
  exact ⟨A4, c4, rfl, l4, g4⟩
theorem k79_openM {w : World} {base : Nat} {ok : Nat → Prop} {x : S79} {cs : List Value} (h : k79.M w base ok x cs) : ∃ v4, cs = [.int .i64 x.f0.f0, .int .i64 x.f0.f1, .int .i64 x.f1.f0, .int .i64 x.f1.f1, v4] ∧ (Kd.int .i64).R 3 w base ok v4 x.f2 := by
  obtain ⟨_, _, rfl, s0, ⟨_, _, rfl, s2, ⟨v4, rfl, g4⟩⟩⟩ := h
  obtain rfl := k57_openM s0
  obtain rfl := k57_openM s2
  exact ⟨v4, rfl, g4⟩
theorem k79_mk (w : World) (x : S79) {A4 : Option Addr} {c4 : Nat} (l4 : x.f2.length ≤ c4) (g4 : (Kd.int .i64).C w A4 x.f2.length x.f2) : k79.K w x [.int .i64 x.f0.f0, .int .i64 x.f0.f1, .int .i64 x.f1.f0, .int .i64 x.f1.f1, .slice A4 x.f2.length c4] := ⟨[.int .i64 x.f0.f0, .int .i64 x.f0.f1], [.int .i64 x.f1.f0, .int .i64 x.f1.f1, .slice A4 x.f2.length c4], rfl, (k57_mk w x.f0 ), ⟨[.int .i64 x.f1.f0, .int .i64 x.f1.f1], [.slice A4 x.f2.length c4], rfl, (k57_mk w x.f1 ), ⟨A4, c4, rfl, l4, g4⟩⟩⟩
theorem k79_mkM (w : World) (base : Nat) (ok : Nat → Prop) (x : S79) {v4 : Value} (g4 : (Kd.int .i64).R 3 w base ok v4 x.f2) : k79.M w base ok x [.int .i64 x.f0.f0, .int .i64 x.f0.f1, .int .i64 x.f1.f0, .int .i64 x.f1.f1, v4] := ⟨[.int .i64 x.f0.f0, .int .i64 x.f0.f1], [.int .i64 x.f1.f0, .int .i64 x.f1.f1, v4], rfl, (k57_mkM w base ok x.f0 ), ⟨[.int .i64 x.f1.f0, .int .i64 x.f1.f1], [v4], rfl, (k57_mkM w base ok x.f1 ), ⟨v4, rfl, g4⟩⟩⟩
theorem k79_openF {W : World} {ok : Nat → Prop} {x : S79} {cs : List Value} (h : Kd.FK k79 W ok x cs) : ∃ A4 c4, cs = [.int .i64 x.f0.f0, .int .i64 x.f0.f1, .int .i64 x.f1.f0, .int .i64 x.f1.f1, .slice A4 x.f2.length c4] ∧ x.f2.length ≤ c4 ∧ Kd.F (Kd.int .i64) W ok A4 x.f2.length x.f2 := by
  obtain ⟨A4, c4, rfl, l4, _⟩ := k79_open (Kd.FK_now h)
  exact ⟨A4, c4, rfl, l4, (fun W' hW => by obtain ⟨A4_, c4_, he, l4_, g4_⟩ := k79_open (h W' hW); injection (Option.some.inj (show some (Value.slice A4 x.f2.length c4) = some (Value.slice A4_ x.f2.length c4_) from congrArg (fun l => l[4]?) he)) with ha_ _ _; rw [ha_]; exact g4_)⟩
theorem k79_mkF (W : World) (ok : Nat → Prop) (x : S79) {A4 : Option Addr} {c4 : Nat} (l4 : x.f2.length ≤ c4) (g4 : Kd.F (Kd.int .i64) W ok A4 x.f2.length x.f2) : Kd.FK k79 W ok x [.int .i64 x.f0.f0, .int .i64 x.f0.f1, .int .i64 x.f1.f0, .int .i64 x.f1.f1, .slice A4 x.f2.length c4] := fun W2 hW => k79_mk W2 x l4 (g4 W2 hW)
def rd_T79 (xs : List S79) (i : Int) : S79 := xs.getD i.toNat z79
theorem at_T79 {w : World} {A : Option Addr} {n : Nat} {xs : List S79} (h : Kd.C k79 w A n xs) (i : Int) (h0 : 0 ≤ i) (h1 : i < n) : ∃ ad A4 c4, A = some ad ∧ w.cell? (ad.add (i.toNat * 5)) = some (.int .i64 (rd_T79 xs i).f0.f0) ∧ w.cell? ⟨(ad.add (i.toNat * 5)).block, (ad.add (i.toNat * 5)).off + 1, none⟩ = some (.int .i64 (rd_T79 xs i).f0.f1) ∧ w.cell? ⟨(ad.add (i.toNat * 5)).block, (ad.add (i.toNat * 5)).off + 2, none⟩ = some (.int .i64 (rd_T79 xs i).f1.f0) ∧ w.cell? ⟨(ad.add (i.toNat * 5)).block, (ad.add (i.toNat * 5)).off + 3, none⟩ = some (.int .i64 (rd_T79 xs i).f1.f1) ∧ w.cell? ⟨(ad.add (i.toNat * 5)).block, (ad.add (i.toNat * 5)).off + 4, none⟩ = some (.slice A4 (rd_T79 xs i).f2.length c4) ∧ (rd_T79 xs i).f2.length ≤ c4 ∧ (Kd.int .i64).C w A4 (rd_T79 xs i).f2.length (rd_T79 xs i).f2 := by
  obtain ⟨ad, c, e, _, hK, hc0⟩ := Kd.C_get h z79 i h0 h1
  have hc : ∀ j u, c[j]? = some u → w.cell? (ad.add (i.toNat * 5 + j)) = some u := hc0
  obtain ⟨A4, c4, rfl, l4, g4⟩ := k79_open hK
  exact ⟨ad, A4, c4, e, hc 0 _ rfl, by rw [← add_field _ _ 1 (by omega)]; exact hc 1 _ rfl, by rw [← add_field _ _ 2 (by omega)]; exact hc 2 _ rfl, by rw [← add_field _ _ 3 (by omega)]; exact hc 3 _ rfl, by rw [← add_field _ _ 4 (by omega)]; exact hc 4 _ rfl, l4, g4⟩

end Go.Proofs.Ytebcmhajbjkojaa.P

namespace Go.Proofs.Ytebcmhajbjkojaa.P
open Go.RowKit Go.Proofs.YtebcmhajbjkojaaW.PrintWords Go.Proofs.YtebcmhajbjkojaaW.PrintLast Go.Proofs.YtebcmhajbjkojaaW.PrintMore
attribute [local go_sem] max2_int min2_int max_two min_two max_three min_three max_four min_four   -- for this text's walks alone
set_option linter.unusedVariables false
set_option linter.unusedSimpArgs false

theorem eqA57 (d : Nat) (w : World) (x0 y0 : Int) (x1 y1 : Int) :
    (Op.equalIn (d + 2) 57 (.agg #[.int .i64 x0, .int .i64 x1]) (.agg #[.int .i64 y0, .int .i64 y1])).run Try.prog w = .ok (x0 == y0 && (x1 == y1)) w := by
  refine eqA_of Try.underlying57 (by kernel_rfl) ?_
  refine eqf_cons (by rfl) (by go_simp; rfl) (by go_simp; rfl) (by go_simp) ?_
  exact eqf_last (by rfl) (by go_simp; rfl) (by go_simp; rfl) (by go_simp)
end Go.Proofs.Ytebcmhajbjkojaa.P

namespace Go.Proofs.Ytebcmhajbjkojaa.P
open Go.RowKit Go.Proofs.YtebcmhajbjkojaaW.PrintWords Go.Proofs.YtebcmhajbjkojaaW.PrintLast Go.Proofs.YtebcmhajbjkojaaW.PrintMore
attribute [local go_sem] max2_int min2_int max_two min_two max_three min_three max_four min_four   -- for this text's walks alone
set_option linter.unusedVariables false
set_option linter.unusedSimpArgs false

/-! ### isobathlaw02_Example: function 51 -/
def isobathlaw02_Example.f  : Option (Int × (List (S46)) × Int × Int × (List (S57))) := some (10000, (([(⟨0, 1000, 400, 5000⟩ : S46), (⟨8000, (-200), 100, 2000⟩ : S46)] : List (S46))), 3000, 500, (([(⟨0, 1000⟩ : S57), (⟨500, 500⟩ : S57)] : List (S57))))
set_option maxHeartbeats 8000000 in
set_option maxRecDepth 100000 in
theorem isobathlaw02_Example.calls  (r1 : Int) (r2 : List (S46)) (r3 : Int) (r4 : Int) (r5 : List (S57)) (w : World) (h : isobathlaw02_Example.f  = some (r1, r2, r3, r4, r5)) :
    Calls Try.prog 51 #[] w fun e w' => ∃ v1_ v4_ : Value, e = .returned (.tuple #[.agg #[.int .i64 r1, v1_, .int .i64 r3, .int .i64 r4], v4_]) ∧ Kd.R k46 46 w' w.heap.size (fun _ => True) v1_ r2 ∧ Kd.R k57 57 w' w.heap.size (fun _ => True) v4_ r5 ∧ Below w.heap.size w w' := by
  have hu37 := Try.underlying37
  have hu46 := Try.underlying46
  have hu57 := Try.underlying57
  have HB := Aside0.mk (Below.refl w.heap.size w)
  have H : (some (10000, (([(⟨0, 1000, 400, 5000⟩ : S46), (⟨8000, (-200), 100, 2000⟩ : S46)] : List (S46))), 3000, 500, (([(⟨0, 1000⟩ : S57), (⟨500, 500⟩ : S57)] : List (S57))))) = some (r1, r2, r3, r4, r5) := h
  clear h
  obtain ⟨y102, hy102⟩ : ∃ y_ : List (S46), y_ = (([(⟨0, 1000, 400, 5000⟩ : S46), (⟨8000, (-200), 100, 2000⟩ : S46)] : List (S46))) := ⟨_, rfl⟩
  replace H : (some (10000, y102, 3000, 500, (([(⟨0, 1000⟩ : S57), (⟨500, 500⟩ : S57)] : List (S57))))) = some (r1, r2, r3, r4, r5) := by first | (rw [hy102]; with_reducible exact H) | (have H2_ := (Option.bind_some _ _).symm.trans H; rw [hy102]; with_reducible exact H2_) | (have H2_ := (Option.bind_some _ _).symm.trans H; with_reducible exact H2_) | with_reducible exact H | (rw [hy102]; exact H) | exact H
  have Ny102 := Aside0.mk hy102
  clear hy102
  obtain ⟨y106, hy106⟩ : ∃ y_ : List (S57), y_ = (([(⟨0, 1000⟩ : S57), (⟨500, 500⟩ : S57)] : List (S57))) := ⟨_, rfl⟩
  replace H : (some (10000, y102, 3000, 500, y106)) = some (r1, r2, r3, r4, r5) := by first | (rw [hy106]; with_reducible exact H) | (have H2_ := (Option.bind_some _ _).symm.trans H; rw [hy106]; with_reducible exact H2_) | (have H2_ := (Option.bind_some _ _).symm.trans H; with_reducible exact H2_) | with_reducible exact H | (rw [hy106]; exact H) | exact H
  have Ny106 := Aside0.mk hy106
  clear hy106
  simp only [Option.some.injEq, Prod.mk.injEq] at H
  obtain ⟨rfl, rfl, rfl, rfl, rfl⟩ := H
  go_enter Try.func51, Try.ntmps51
  go_wp2_with (first | ((with_reducible refine gate_dst (N := 0) rfl ?_); refine box_event ?hg (N := 0) ?hd (cs := #[.int .i64 0, .slice none 0 0, .int .i64 0, .int .i64 0]) (t := 37) ?hr ?_; (case hd => rfl); (case hg => rfl); (case hr => first | (go_simp; done) | (go_simp; rfl)); intro gb101 hg w1 hbox hb; have n0_ := Aside0.mk (below_step (by repeat (first | (with_reducible first | exact HB.out | apply below_alloc | apply pw_below_drewN | apply below_drew1) | exact HB.out)) hb); have n1_ := Aside0.mk (hbox); have n2_ := Aside0.mk ((by rw [hg]; exact (below_size (by repeat (first | (with_reducible first | exact HB.out | apply below_alloc | apply pw_below_drewN | apply below_drew1) | exact HB.out))) : w.heap.size ≤ gb101)); have n3_ := Aside0.mk ((by rw [hg]; exact (below_size (by repeat (first | (with_reducible first | exact HB.out | apply below_alloc | apply pw_below_drewN | apply below_drew1) | exact HB.out))) : w.heap.size ≤ gb101)); clear HB; have HB := n0_; have BK101 := n1_; have GW101 := n2_; have GE101 := n3_; clear n0_ n1_ n2_ n3_; clear hb hbox hg) | ((with_reducible refine gate_dst (N := 5) rfl ?_); refine Kd.R_lit k46 _ 46 ?hg (N := 5) ?hd (xs := ([(⟨0, 1000, 400, 5000⟩ : S46), (⟨8000, (-200), 100, 2000⟩ : S46)] : List (S46))) (inner := [.int .i64 0, .int .i64 1000, .int .i64 400, .int .i64 5000, .int .i64 8000, .int .i64 (-200), .int .i64 100, .int .i64 2000]) (ok := fun _ => True) (okp := fun _ => True) ?hr ?hp (fun _ hk => hk) trivial (Below.refl _ _) (Nat.le_refl _) (by simp) ?_; (case hd => rfl); (case hg => rfl); (case hr => first | (go_simp; done) | (go_simp; rfl)); (case hp => exact (Reps.c4 (show Kd.M k46 _ _ _ (⟨0, 1000, 400, 5000⟩ : S46) [.int .i64 0, .int .i64 1000, .int .i64 400, .int .i64 5000] from (k46_mkM _ _ _ (⟨0, 1000, 400, 5000⟩ : S46) )) (Reps.c4 (show Kd.M k46 _ _ _ (⟨8000, (-200), 100, 2000⟩ : S46) [.int .i64 8000, .int .i64 (-200), .int .i64 100, .int .i64 2000] from (k46_mkM _ _ _ (⟨8000, (-200), 100, 2000⟩ : S46) )) (Reps.none _ _)))); intro v103 w2 ho3 hb hg_ hnew_; clear hg_ hnew_; (first | rw [← Ny102.out] at ho3 | (simp only [Int.reduceToNat] at ho3; rw [← Ny102.out] at ho3)); have n0_ := Aside0.mk (Kd.R_lower ho3 (below_size (by repeat (first | (with_reducible first | exact HB.out | apply below_alloc | apply pw_below_drewN | apply below_drew1 | refine below_set ?_ GE101.out) | exact HB.out)))); have n1_ := Aside0.mk (blk_below (g := gb101) (o := .cells #[.int .i64 0, .slice none 0 0, .int .i64 0, .int .i64 0] 37 (0, 0)) (by (with_reducible repeat (first | refine blk_drewN ?_ _ | refine blk_drew ?_ | refine blk_alloc ?_ _)); exact BK101.out) hb); have n2_ := Aside0.mk (below_step (by repeat (first | (with_reducible first | exact HB.out | apply below_alloc | apply pw_below_drewN | apply below_drew1 | refine below_set ?_ GE101.out) | exact HB.out)) hb); clear BK101; clear HB; have HO104 := n0_; have BK101 := n1_; have HB := n2_; clear n0_ n1_ n2_; clear hb ho3; obtain ⟨Ao4, co4, eo4⟩ := Kd.R_slice HO104.out; subst eo4) | ((with_reducible refine gate_dst (N := 2) rfl ?_); refine box_event ?hg (N := 2) ?hd (cs := #[.int .i64 0, .slice none 0 0, .int .i64 0, .int .i64 0]) (t := 37) ?hr ?_; (case hd => rfl); (case hg => rfl); (case hr => first | (go_simp; done) | (go_simp; rfl)); intro gb105 hg w5 hbox hb; have n0_ := Aside0.mk (Kd.R_below (by (with_reducible repeat (first | apply Kd.R_alloc | apply Kd.R_drewN | apply Kd.R_drew)); exact HO104.out) hb); have n1_ := Aside0.mk (blk_below (g := gb101) (o := .cells #[.int .i64 0, .slice none 0 0, .int .i64 0, .int .i64 0] 37 (0, 0)) (by (with_reducible repeat (first | refine blk_drewN ?_ _ | refine blk_drew ?_ | refine blk_alloc ?_ _)); exact BK101.out) hb); have n2_ := Aside0.mk (below_step (by repeat (first | (with_reducible first | exact HB.out | apply below_alloc | apply pw_below_drewN | apply below_drew1 | refine below_set ?_ GE101.out) | exact HB.out)) hb); have n3_ := Aside0.mk (hbox); have n4_ := Aside0.mk ((by rw [hg]; exact (below_size (by repeat (first | (with_reducible first | exact HB.out | apply below_alloc | apply pw_below_drewN | apply below_drew1 | refine below_set ?_ GE101.out) | exact HB.out))) : w.heap.size ≤ gb105)); have n5_ := Aside0.mk ((by rw [hg]; exact (below_size (by repeat (first | (with_reducible first | exact HB.out | apply below_alloc | apply pw_below_drewN | apply below_drew1 | refine below_set ?_ GE101.out) | exact HB.out))) : w.heap.size ≤ gb105)); have n6_ := Aside0.mk ((by rw [hg]; exact Nat.ne_of_lt (blk_lt (g := gb101) (o := .cells #[.int .i64 0, .slice none 0 0, .int .i64 0, .int .i64 0] 37 (0, 0)) (by (with_reducible repeat (first | refine blk_drewN ?_ _ | refine blk_drew ?_ | refine blk_alloc ?_ _)); exact BK101.out)) : gb101 ≠ gb105)); have n7_ := Aside0.mk ((by rw [hg]; exact Nat.ne_of_gt (blk_lt (g := gb101) (o := .cells #[.int .i64 0, .slice none 0 0, .int .i64 0, .int .i64 0] 37 (0, 0)) (by (with_reducible repeat (first | refine blk_drewN ?_ _ | refine blk_drew ?_ | refine blk_alloc ?_ _)); exact BK101.out)) : gb105 ≠ gb101)); clear HO104; clear BK101; clear HB; have HO104 := n0_; have BK101 := n1_; have HB := n2_; have BK105 := n3_; have GW105 := n4_; have GE105 := n5_; have NB101_105 := n6_; have NB105_101 := n7_; clear n0_ n1_ n2_ n3_ n4_ n5_ n6_ n7_; clear hb hbox hg; have hnb6 := NB105_101.out; have hnc6 := NB101_105.out; have hcz7_0 : w5.cell? ⟨gb105, 0, none⟩ = some (.int .i64 0) := (blk_cell BK105.out 0).trans rfl; have hcz7_1 : w5.cell? ⟨gb105, 1, none⟩ = some (.slice none 0 0) := (blk_cell BK105.out 1).trans rfl; have hcz7_2 : w5.cell? ⟨gb105, 2, none⟩ = some (.int .i64 0) := (blk_cell BK105.out 2).trans rfl; have hcz7_3 : w5.cell? ⟨gb105, 3, none⟩ = some (.int .i64 0) := (blk_cell BK105.out 3).trans rfl; have hfz7_0 := blk_frozen BK105.out 0; have hfz7_1 := blk_frozen BK105.out 1; have hfz7_2 := blk_frozen BK105.out 2; have hfz7_3 := blk_frozen BK105.out 3) | ((with_reducible refine gate_dst (N := 10) rfl ?_); refine Kd.R_lit k57 _ 57 ?hg (N := 10) ?hd (xs := ([(⟨0, 1000⟩ : S57), (⟨500, 500⟩ : S57)] : List (S57))) (inner := [.int .i64 0, .int .i64 1000, .int .i64 500, .int .i64 500]) (ok := fun _ => True) (okp := fun _ => True) ?hr ?hp (fun _ hk => hk) trivial (Below.refl _ _) (Nat.le_refl _) (by simp) ?_; (case hd => rfl); (case hg => rfl); (case hr => first | (go_simp; done) | (go_simp; rfl)); (case hp => exact (Reps.c2 (show Kd.M k57 _ _ _ (⟨0, 1000⟩ : S57) [.int .i64 0, .int .i64 1000] from (k57_mkM _ _ _ (⟨0, 1000⟩ : S57) )) (Reps.c2 (show Kd.M k57 _ _ _ (⟨500, 500⟩ : S57) [.int .i64 500, .int .i64 500] from (k57_mkM _ _ _ (⟨500, 500⟩ : S57) )) (Reps.none _ _)))); intro v107 w8 ho9 hb hg_ hnew_; clear hg_ hnew_; (first | rw [← Ny106.out] at ho9 | (simp only [Int.reduceToNat] at ho9; rw [← Ny106.out] at ho9)); have n0_ := Aside0.mk (Kd.R_below (by (with_reducible repeat (first | apply Kd.R_alloc | apply Kd.R_drewN | apply Kd.R_drew)); exact (Kd.R_mono (Kd.R_far (p := ⟨gb105, 3, none⟩) (Kd.R_far (p := ⟨gb105, 2, none⟩) (Kd.R_far (p := ⟨gb105, 1, none⟩) (Kd.R_far (p := ⟨gb105, 0, none⟩) (Kd.R_types HO104.out BK105.out (by decide)) (fun _ hk => hk.2) (.int .i64 10000)) (fun _ hk => hk.2) (.slice Ao4 y102.length co4)) (fun _ hk => hk.2) (.int .i64 3000)) (fun _ hk => hk.2) (.int .i64 500)) (fun _ h_ => h_.1))) hb); have n1_ := Aside0.mk (Kd.R_lower ho9 (below_size (by repeat (first | (with_reducible first | exact HB.out | apply below_alloc | apply pw_below_drewN | apply below_drew1 | refine below_set ?_ GE101.out | refine below_set ?_ GE105.out) | exact HB.out)))); have n2_ := Aside0.mk (blk_below (g := gb101) (o := .cells #[.int .i64 0, .slice none 0 0, .int .i64 0, .int .i64 0] 37 (0, 0)) (by (with_reducible repeat (first | refine blk_drewN ?_ _ | refine blk_drew ?_ | refine blk_alloc ?_ _)); refine blk_far ?_ NB101_105.out _; (with_reducible repeat (first | refine blk_drewN ?_ _ | refine blk_drew ?_ | refine blk_alloc ?_ _)); refine blk_far ?_ NB101_105.out _; (with_reducible repeat (first | refine blk_drewN ?_ _ | refine blk_drew ?_ | refine blk_alloc ?_ _)); refine blk_far ?_ NB101_105.out _; (with_reducible repeat (first | refine blk_drewN ?_ _ | refine blk_drew ?_ | refine blk_alloc ?_ _)); refine blk_far ?_ NB101_105.out _; (with_reducible repeat (first | refine blk_drewN ?_ _ | refine blk_drew ?_ | refine blk_alloc ?_ _)); exact BK101.out) hb); have n3_ := Aside0.mk (blk_below (g := gb105) (o := .cells #[.int .i64 10000, .slice Ao4 y102.length co4, .int .i64 3000, .int .i64 500] 37 (0, 0)) (by (with_reducible repeat (first | refine blk_drewN ?_ _ | refine blk_drew ?_ | refine blk_alloc ?_ _)); refine blk_put (cs := #[.int .i64 10000, .slice Ao4 y102.length co4, .int .i64 3000, .int .i64 0]) ?_ 3 _ rfl; (with_reducible repeat (first | refine blk_drewN ?_ _ | refine blk_drew ?_ | refine blk_alloc ?_ _)); refine blk_put (cs := #[.int .i64 10000, .slice Ao4 y102.length co4, .int .i64 0, .int .i64 0]) ?_ 2 _ rfl; (with_reducible repeat (first | refine blk_drewN ?_ _ | refine blk_drew ?_ | refine blk_alloc ?_ _)); refine blk_put (cs := #[.int .i64 10000, .slice none 0 0, .int .i64 0, .int .i64 0]) ?_ 1 _ rfl; (with_reducible repeat (first | refine blk_drewN ?_ _ | refine blk_drew ?_ | refine blk_alloc ?_ _)); refine blk_put (cs := #[.int .i64 0, .slice none 0 0, .int .i64 0, .int .i64 0]) ?_ 0 _ rfl; (with_reducible repeat (first | refine blk_drewN ?_ _ | refine blk_drew ?_ | refine blk_alloc ?_ _)); exact BK105.out) hb); have n4_ := Aside0.mk (below_step (by repeat (first | (with_reducible first | exact HB.out | apply below_alloc | apply pw_below_drewN | apply below_drew1 | refine below_set ?_ GE101.out | refine below_set ?_ GE105.out) | exact HB.out)) hb); clear HO104; clear BK101; clear BK105; clear HB; have HO104 := n0_; have HO108 := n1_; have BK101 := n2_; have BK105 := n3_; have HB := n4_; clear n0_ n1_ n2_ n3_ n4_; clear hb ho9; have hcz10_0 : w8.cell? ⟨gb101, 0, none⟩ = some (.int .i64 0) := (blk_cell BK101.out 0).trans rfl; have hcz10_1 : w8.cell? ⟨gb101, 1, none⟩ = some (.slice none 0 0) := (blk_cell BK101.out 1).trans rfl; have hcz10_2 : w8.cell? ⟨gb101, 2, none⟩ = some (.int .i64 0) := (blk_cell BK101.out 2).trans rfl; have hcz10_3 : w8.cell? ⟨gb101, 3, none⟩ = some (.int .i64 0) := (blk_cell BK101.out 3).trans rfl; have hfz10_0 := blk_frozen BK101.out 0; have hfz10_1 := blk_frozen BK101.out 1; have hfz10_2 := blk_frozen BK101.out 2; have hfz10_3 := blk_frozen BK101.out 3))
  refine bodyPost_ret (results_ct rfl _ _ gb101 37 #[.int .i64 10000, .slice Ao4 y102.length co4, .int .i64 3000, .int .i64 500] (0, 0) _ rfl (by (with_reducible repeat (first | refine blk_drewN ?_ _ | refine blk_drew ?_ | refine blk_alloc ?_ _)); refine blk_put (cs := #[.int .i64 10000, .slice Ao4 y102.length co4, .int .i64 3000, .int .i64 0]) ?_ 3 _ rfl; (with_reducible repeat (first | refine blk_drewN ?_ _ | refine blk_drew ?_ | refine blk_alloc ?_ _)); refine blk_put (cs := #[.int .i64 10000, .slice Ao4 y102.length co4, .int .i64 0, .int .i64 0]) ?_ 2 _ rfl; (with_reducible repeat (first | refine blk_drewN ?_ _ | refine blk_drew ?_ | refine blk_alloc ?_ _)); refine blk_put (cs := #[.int .i64 10000, .slice none 0 0, .int .i64 0, .int .i64 0]) ?_ 1 _ rfl; (with_reducible repeat (first | refine blk_drewN ?_ _ | refine blk_drew ?_ | refine blk_alloc ?_ _)); refine blk_put (cs := #[.int .i64 0, .slice none 0 0, .int .i64 0, .int .i64 0]) ?_ 0 _ rfl; (with_reducible repeat (first | refine blk_drewN ?_ _ | refine blk_drew ?_ | refine blk_alloc ?_ _)); exact BK101.out) Try.underlying37 rfl (by kernel_rfl)) rfl ?_
  exact ⟨_, _, by first | rfl | (simp [errW_none, errW_some] <;> rfl) | (simp [*, errW_none, errW_some] <;> rfl), by (with_reducible repeat (first | apply Kd.R_alloc | apply Kd.R_drewN | apply Kd.R_drew)); exact Kd.R_mono (Kd.R_far (p := ⟨gb101, 3, none⟩) (Kd.R_far (p := ⟨gb101, 2, none⟩) (Kd.R_far (p := ⟨gb101, 1, none⟩) (Kd.R_far (p := ⟨gb101, 0, none⟩) (Kd.R_types HO104.out BK101.out (by decide)) (fun _ hk => hk.2) (.int .i64 10000)) (fun _ hk => hk.2) (.slice Ao4 y102.length co4)) (fun _ hk => hk.2) (.int .i64 3000)) (fun _ hk => hk.2) (.int .i64 500)) (fun _ hk => trivial), by (with_reducible repeat (first | apply Kd.R_alloc | apply Kd.R_drewN | apply Kd.R_drew)); exact Kd.R_mono (Kd.R_far (p := ⟨gb101, 3, none⟩) (Kd.R_far (p := ⟨gb101, 2, none⟩) (Kd.R_far (p := ⟨gb101, 1, none⟩) (Kd.R_far (p := ⟨gb101, 0, none⟩) (Kd.R_types HO108.out BK101.out (by decide)) (fun _ hk => hk.2) (.int .i64 10000)) (fun _ hk => hk.2) (.slice Ao4 y102.length co4)) (fun _ hk => hk.2) (.int .i64 3000)) (fun _ hk => hk.2) (.int .i64 500)) (fun _ hk => trivial), by repeat (first | (with_reducible first | exact HB.out | apply below_alloc | apply pw_below_drewN | apply below_drew1 | refine below_set ?_ GE101.out | refine below_set ?_ GE105.out) | exact HB.out)⟩

end Go.Proofs.Ytebcmhajbjkojaa.P

namespace Go.Proofs.Ytebcmhajbjkojaa.P
open Go.RowKit Go.Proofs.YtebcmhajbjkojaaW.PrintWords Go.Proofs.YtebcmhajbjkojaaW.PrintLast Go.Proofs.YtebcmhajbjkojaaW.PrintMore
attribute [local go_sem] max2_int min2_int max_two min_two max_three min_three max_four min_four   -- for this text's walks alone
set_option linter.unusedVariables false
set_option linter.unusedSimpArgs false

/-! ### mooring_apart: function 53 -/
def mooring_apart.l0 : Nat → Int → Int → Int → Int → Option (Int)
  | 0, _, _, _, _ => none
  | k + 1, x0, x1, x5, x7 => if x7 < 16 then (if 0 ≤ x7 then (mooring_apart.l0 k x0 x1 (wrap64 (x5 + (Go.bits .and .i64 (shr .i64 (Go.bits .xor .i64 x0 x1) x7) 1))) (wrap64 (x7 + 1))) else (none)) else (some x5)
def mooring_apart.f (k : Nat) (a0 : Int) (a1 : Int) : Option (Int) := mooring_apart.l0 k a0 a1 0 0
theorem mooring_apart.mono_l : ∀ k, (∀ y0 y1 y2 y3, LeO (mooring_apart.l0 k y0 y1 y2 y3) (mooring_apart.l0 (k + 1) y0 y1 y2 y3))
  | 0 => fun _ _ _ _ r h => by simp [mooring_apart.l0] at h
  | k + 1 => by
    have ih0 := mooring_apart.mono_l k
    · intro y0 y1 y2 y3
      unfold mooring_apart.l0
      repeat' first
      | (with_reducible exact ih0 _ _ _ _)
      | (with_reducible exact LeO.refl _)
      | (with_reducible exact LeO.none _)
      | (with_reducible refine LeO.ite ?_ ?_)
      | (with_reducible refine LeO.bind ?_ (fun _ => ?_))
      | exact ih0 _ _ _ _
      | exact LeO.none _
      | refine LeO.ite ?_ ?_
      | refine LeO.bind ?_ (fun _ => ?_)
theorem mooring_apart.mono : ∀ a0 a1 k, LeO (mooring_apart.f k a0 a1) (mooring_apart.f (k + 1) a0 a1) := by
  intro a0 a1 k
  have ih0 := mooring_apart.mono_l k
  unfold mooring_apart.f
  repeat' first
      | (with_reducible exact ih0 _ _ _ _)
      | (with_reducible exact LeO.refl _)
      | (with_reducible exact LeO.none _)
      | (with_reducible refine LeO.ite ?_ ?_)
      | (with_reducible refine LeO.bind ?_ (fun _ => ?_))
      | exact ih0 _ _ _ _
      | exact LeO.none _
      | refine LeO.ite ?_ ?_
      | refine LeO.bind ?_ (fun _ => ?_)
set_option maxHeartbeats 8000000 in
set_option maxRecDepth 100000 in
theorem mooring_apart.calls (k : Nat) (a0 : Int) (a1 : Int) (r : Int) (w : World) (h : mooring_apart.f k a0 a1 = some r) :
    Calls Try.prog 53 #[.int .i64 a0, .int .i64 a1] w fun e w' => e = .returned (.int .i64 r) ∧ Drawn0 w w' := by
  have H : (mooring_apart.l0 k a0 a1 0 0) = some r := h
  clear h
  have H' := Aside0.mk H
  clear H
  go_enter Try.func53, Try.ntmps53
  go_wp2
  go_loopg [5, 7] k (fun kq v5 v7 w' => ∃ (x5_1 : Int) (x7_1 : Int), v5 = .int .i64 x5_1 ∧ v7 = .int .i64 x7_1 ∧ Aside0 (mooring_apart.l0 kq a0 a1 x5_1 x7_1 = some r) ∧ Aside0 (kq ≤ k) ∧ Drawn0 w w')
  case atStart => exact ⟨(0), (0), (by first | rfl | (simp; done) | (simp [*]; done)), (by first | rfl | (simp; done) | (simp [*]; done)), H', ⟨Nat.le_refl _⟩, by repeat (first | exact Drawn0.refl _ | apply Drawn0.step)⟩
  case round =>
    clear H'
    try clear p2
    obtain ⟨x5_1, x7_1, rfl, rfl, HA, HK1, ⟨m1, rfl⟩⟩ := hrel
    cases gk with
    | zero => exact absurd HA.out (by simp [mooring_apart.l0])
    | succ k1 =>
      have H := HA.out
      clear HA
      simp only [mooring_apart.l0] at H
      by_cases c3 : x7_1 < 16
      · rw [if_pos c3] at H
        have c3b0 : decide (x7_1 < 16) = true := decide_eq_true c3
        clear c3
        by_cases c4 : 0 ≤ x7_1
        · rw [if_pos c4] at H
          have c4b0 := eq_true c4
          have c4b1 : decide (0 ≤ x7_1) = true := decide_eq_true c4
          clear c4
          obtain ⟨ji5, hji5⟩ : ∃ j_ : Int, (shr .i64 (Go.bits .xor .i64 a0 a1) x7_1) = j_ := ⟨_, rfl⟩
          replace H : (mooring_apart.l0 k1 a0 a1 (wrap64 (x5_1 + (Go.bits .and .i64 (ji5) 1))) (wrap64 (x7_1 + 1))) = some r := by first | (rw [hji5] at H; exact H) | (simp only [hji5] at H ⊢; exact H)
          have hji5_ : ((Go.bits .xor .i64 a0 a1) / 2 ^ min x7_1.toNat 64) = ji5 := hji5
          have hji5z : x7_1 ≤ 64 → ((Go.bits .xor .i64 a0 a1) / 2 ^ x7_1.toNat) = ji5 := shr_small hji5
          have H' := Aside0.mk H
          clear H
          go_wp2
          go_roundg k1
          case measure => have := HK1.out; omega
          case rel => exact ⟨(wrap64 (x5_1 + (Go.bits .and .i64 (ji5) 1))), (wrap64 (x7_1 + 1)), (by first | rfl | (simp; done) | (simp only [← hji5] <;> (first | rfl | simp)) | (simp [*]; done)), (by first | rfl | (simp; done) | (simp [*]; done)), H', ⟨by have := HK1.out; omega⟩, by repeat (first | exact Drawn0.refl _ | apply Drawn0.step)⟩
        · rw [if_neg c4] at H
          exact absurd H (by simp)
      · rw [if_neg c3] at H
        have c3b0 : decide (x7_1 < 16) = false := decide_eq_false c3
        clear c3
        obtain rfl := Option.some.inj H
        go_wp2
        go_ret
        exact ⟨by first | rfl | (simp; done) | (simp [*]; done), by repeat (first | exact Drawn0.refl _ | apply Drawn0.step)⟩

end Go.Proofs.Ytebcmhajbjkojaa.P

namespace Go.Proofs.Ytebcmhajbjkojaa.P
open Go.RowKit Go.Proofs.YtebcmhajbjkojaaW.PrintWords Go.Proofs.YtebcmhajbjkojaaW.PrintLast Go.Proofs.YtebcmhajbjkojaaW.PrintMore
attribute [local go_sem] max2_int min2_int max_two min_two max_three min_three max_four min_four   -- for this text's walks alone
set_option linter.unusedVariables false
set_option linter.unusedSimpArgs false

/-! ### mooring_isCode: function 55 -/
def mooring_isCode.f (a0 : Int) : Option (Bool) := if a0 ≥ 0 then (some (decide (a0 < 65536))) else (some false)
set_option maxHeartbeats 8000000 in
set_option maxRecDepth 100000 in
theorem mooring_isCode.calls (a0 : Int) (r : Bool) (w : World) (h : mooring_isCode.f a0 = some r) :
    Calls Try.prog 55 #[.int .i64 a0] w fun e w' => e = .returned (.bool r) ∧ Drawn0 w w' := by
  have H : (if a0 ≥ 0 then (some (decide (a0 < 65536))) else (some false)) = some r := h
  clear h
  by_cases c2 : a0 ≥ 0
  · rw [if_pos c2] at H
    have c2b0 : decide (0 ≤ a0) = true := decide_eq_true c2
    clear c2
    obtain rfl := Option.some.inj H
    go_enter Try.func55, Try.ntmps55
    go_wp2
    go_ret
    exact ⟨by first | rfl | (simp; done) | (simp [*]; done), by repeat (first | exact Drawn0.refl _ | apply Drawn0.step)⟩
  · rw [if_neg c2] at H
    have c2b0 : decide (0 ≤ a0) = false := decide_eq_false c2
    clear c2
    obtain rfl := Option.some.inj H
    go_enter Try.func55, Try.ntmps55
    go_wp2
    go_ret
    exact ⟨by first | rfl | (simp; done) | (simp [*]; done), by repeat (first | exact Drawn0.refl _ | apply Drawn0.step)⟩

end Go.Proofs.Ytebcmhajbjkojaa.P

namespace Go.Proofs.Ytebcmhajbjkojaa.P
open Go.RowKit Go.Proofs.YtebcmhajbjkojaaW.PrintWords Go.Proofs.YtebcmhajbjkojaaW.PrintLast Go.Proofs.YtebcmhajbjkojaaW.PrintMore
attribute [local go_sem] max2_int min2_int max_two min_two max_three min_three max_four min_four   -- for this text's walks alone
set_option linter.unusedVariables false
set_option linter.unusedSimpArgs false

/-! ### mooring_checkCodes_1: function 87 -/
def mooring_checkCodes_1.f (a0 : Int) : Option (Bool) := (mooring_isCode.f a0).bind fun t101 => (some (!t101))
set_option maxHeartbeats 8000000 in
set_option maxRecDepth 100000 in
theorem mooring_checkCodes_1.calls (a0 : Int) (r : Bool) (w : World) (h : mooring_checkCodes_1.f a0 = some r) :
    Calls Try.prog 87 #[.int .i64 a0] w fun e w' => e = .returned (.bool r) ∧ Drawn0 w w' := by
  have H : ((mooring_isCode.f a0).bind fun t101 => (some (!t101))) = some r := h
  clear h
  replace H := Option.bind_eq_some_iff.mp H
  obtain ⟨t101, A20, H⟩ := H
  replace H : (some (!t101)) = some r := H
  have A2 := Aside0.mk A20
  clear A20
  obtain rfl := Option.some.inj H
  go_enter Try.func87, Try.ntmps87
  go_wp2_with (first | ((with_reducible refine gate_callee (f := 55) rfl ?_); refine goesL_ (some 4) rfl rfl Try.func55 (by kernel_rfl) rfl #[.int .i64 a0] rfl (by (try simp only [List.map_toArray, List.map_cons, List.map_nil]); first | done | rfl | (simp only [List.length_drop, List.length_take]; rfl)) ?_; (with_reducible refine (mooring_isCode.calls a0 t101 _ A2.out).mono ?_); rintro e w' ⟨rfl, ⟨nd, rfl⟩⟩; refine ⟨_, rfl, ?_⟩))
  go_ret
  exact ⟨by first | rfl | (simp; done) | (simp [*]; done), by repeat (first | exact Drawn0.refl _ | apply Drawn0.step)⟩

end Go.Proofs.Ytebcmhajbjkojaa.P

namespace Go.Proofs.Ytebcmhajbjkojaa.P
open Go.RowKit Go.Proofs.YtebcmhajbjkojaaW.PrintWords Go.Proofs.YtebcmhajbjkojaaW.PrintLast Go.Proofs.YtebcmhajbjkojaaW.PrintMore
attribute [local go_sem] max2_int min2_int max_two min_two max_three min_three max_four min_four   -- for this text's walks alone
set_option linter.unusedVariables false
set_option linter.unusedSimpArgs false

/-! ### slices_IndexFunc_int_int_mooring_checkCodes_1: function 96 -/
def slices_IndexFunc_int_int_mooring_checkCodes_1.l0 : Nat → List Int → Int → Int → Option (Int)
  | 0, _, _, _ => none
  | k + 1, x0, x7, x8 => if x8 < x7 then (if 0 ≤ x8 then (if x8 < (x0.length : Int) then ((mooring_checkCodes_1.f (rd x0 x8)).bind fun t102 => (if t102 = true then (some x8) else (slices_IndexFunc_int_int_mooring_checkCodes_1.l0 k x0 x7 (wrap64 (x8 + 1))))) else (none)) else (none)) else (some (-1))
def slices_IndexFunc_int_int_mooring_checkCodes_1.f (k : Nat) (l0 : List Int)  : Option (Int) := slices_IndexFunc_int_int_mooring_checkCodes_1.l0 k l0 (l0.length : Int) 0
theorem slices_IndexFunc_int_int_mooring_checkCodes_1.mono_l : ∀ k, (∀ y0 y1 y2, LeO (slices_IndexFunc_int_int_mooring_checkCodes_1.l0 k y0 y1 y2) (slices_IndexFunc_int_int_mooring_checkCodes_1.l0 (k + 1) y0 y1 y2))
  | 0 => fun _ _ _ r h => by simp [slices_IndexFunc_int_int_mooring_checkCodes_1.l0] at h
  | k + 1 => by
    have ih0 := slices_IndexFunc_int_int_mooring_checkCodes_1.mono_l k
    · intro y0 y1 y2
      unfold slices_IndexFunc_int_int_mooring_checkCodes_1.l0
      repeat' first
      | (with_reducible exact ih0 _ _ _)
      | (with_reducible exact LeO.refl _)
      | (with_reducible exact LeO.none _)
      | (with_reducible refine LeO.ite ?_ ?_)
      | (with_reducible refine LeO.bind ?_ (fun _ => ?_))
      | exact ih0 _ _ _
      | exact LeO.none _
      | refine LeO.ite ?_ ?_
      | refine LeO.bind ?_ (fun _ => ?_)
theorem slices_IndexFunc_int_int_mooring_checkCodes_1.mono : ∀ a0 k, LeO (slices_IndexFunc_int_int_mooring_checkCodes_1.f k a0) (slices_IndexFunc_int_int_mooring_checkCodes_1.f (k + 1) a0) := by
  intro a0 k
  have ih0 := slices_IndexFunc_int_int_mooring_checkCodes_1.mono_l k
  unfold slices_IndexFunc_int_int_mooring_checkCodes_1.f
  repeat' first
      | (with_reducible exact ih0 _ _ _)
      | (with_reducible exact LeO.refl _)
      | (with_reducible exact LeO.none _)
      | (with_reducible refine LeO.ite ?_ ?_)
      | (with_reducible refine LeO.bind ?_ (fun _ => ?_))
      | exact ih0 _ _ _
      | exact LeO.none _
      | refine LeO.ite ?_ ?_
      | refine LeO.bind ?_ (fun _ => ?_)
set_option maxHeartbeats 8000000 in
set_option maxRecDepth 100000 in
theorem slices_IndexFunc_int_int_mooring_checkCodes_1.calls (k : Nat) (A0 : Option Addr) (c0 : Nat) (l0 : List Int)  (r : Int) (w : World) (hr0 : Kd.C (Kd.int .i64) w A0 l0.length l0) (hc0 : l0.length ≤ c0) (h : slices_IndexFunc_int_int_mooring_checkCodes_1.f k l0 = some r) :
    Calls Try.prog 96 #[.slice A0 l0.length c0, .func (.func 87) #[] #[]] w fun e w' => e = .returned (.int .i64 r) ∧ Drawn0 w w' := by
  have HR0 := Aside0.mk hr0
  have HC0 := Aside0.mk hc0
  clear hr0 hc0
  have H : (slices_IndexFunc_int_int_mooring_checkCodes_1.l0 k l0 (l0.length : Int) 0) = some r := h
  clear h
  have H' := Aside0.mk H
  clear H
  go_enter Try.func96, Try.ntmps96
  go_wp2
  go_loopg [8] k (fun kq v8 w' => ∃ (x8_1 : Int), v8 = .int .i64 x8_1 ∧ Aside0 (slices_IndexFunc_int_int_mooring_checkCodes_1.l0 kq l0 (l0.length : Int) x8_1 = some r) ∧ Aside0 (kq ≤ k) ∧ Drawn0 w w')
  case atStart => exact ⟨(0), (by first | rfl | (simp; done) | (simp [*]; done)), H', ⟨Nat.le_refl _⟩, by repeat (first | exact Drawn0.refl _ | apply Drawn0.step)⟩
  case round =>
    clear H'
    try clear p2
    obtain ⟨x8_1, rfl, HA, HK1, ⟨m1, rfl⟩⟩ := hrel
    cases gk with
    | zero => exact absurd HA.out (by simp [slices_IndexFunc_int_int_mooring_checkCodes_1.l0])
    | succ k1 =>
      have H := HA.out
      clear HA
      simp only [slices_IndexFunc_int_int_mooring_checkCodes_1.l0] at H
      by_cases c3 : x8_1 < (l0.length : Int)
      · rw [if_pos c3] at H
        have c3b0 : decide (x8_1 < (l0.length : Int)) = true := decide_eq_true c3
        clear c3
        by_cases c4 : 0 ≤ x8_1
        · rw [if_pos c4] at H
          have c4b0 : decide (0 ≤ x8_1) = true := decide_eq_true c4
          clear c4
          by_cases c5 : x8_1 < (l0.length : Int)
          · rw [if_pos c5] at H
            have c5b0 : decide (x8_1 < (l0.length : Int)) = true := decide_eq_true c5
            clear c5
            replace H := Option.bind_eq_some_iff.mp H
            obtain ⟨t102, A60, H⟩ := H
            replace H : (if t102 = true then (some x8_1) else (slices_IndexFunc_int_int_mooring_checkCodes_1.l0 k1 l0 (l0.length : Int) (wrap64 (x8_1 + 1)))) = some r := H
            have A6 := Aside0.mk A60
            clear A60
            by_cases c7 : t102 = true
            · subst c7
              have H1 : (some x8_1) = some r := by rw [if_pos rfl] at H; exact H
              clear H
              have H := H1
              clear H1
              obtain rfl := Option.some.inj H
              have p101 : 0 ≤ (x8_1 : Int) := of_decide_eq_true (by first | (with_reducible assumption) | assumption)
              have q101 : x8_1 < (l0.length : Int) := of_decide_eq_true (by first | (with_reducible assumption) | assumption)
              obtain ⟨ad101, e101, hx101_0⟩ := Kd.at_int HR0.out x8_1 p101 q101
              cases e101
              replace p101 := eq_true p101
              replace q101 := eq_true q101
              go_wp2_with (first | (go_at_call 87; (with_reducible refine (mooring_checkCodes_1.calls (rd l0 x8_1) true _ A6.out).mono ?_); rintro e w' ⟨rfl, ⟨nd, rfl⟩⟩))
              go_ret
              exact ⟨by first | rfl | (simp; done) | (simp [*]; done), by repeat (first | exact Drawn0.refl _ | apply Drawn0.step)⟩
            · replace c7 := Bool.eq_false_iff.mpr c7
              subst c7
              have H1 : (slices_IndexFunc_int_int_mooring_checkCodes_1.l0 k1 l0 (l0.length : Int) (wrap64 (x8_1 + 1))) = some r := by rw [if_neg (show ¬ (false = true) by decide)] at H; exact H
              clear H
              have H := H1
              clear H1
              have H' := Aside0.mk H
              clear H
              have p101 : 0 ≤ (x8_1 : Int) := of_decide_eq_true (by first | (with_reducible assumption) | assumption)
              have q101 : x8_1 < (l0.length : Int) := of_decide_eq_true (by first | (with_reducible assumption) | assumption)
              obtain ⟨ad101, e101, hx101_0⟩ := Kd.at_int HR0.out x8_1 p101 q101
              cases e101
              replace p101 := eq_true p101
              replace q101 := eq_true q101
              go_wp2_with (first | (go_at_call 87; (with_reducible refine (mooring_checkCodes_1.calls (rd l0 x8_1) false _ A6.out).mono ?_); rintro e w' ⟨rfl, ⟨nd, rfl⟩⟩))
              go_roundg k1
              case measure => have := HK1.out; omega
              case rel => exact ⟨(wrap64 (x8_1 + 1)), (by first | rfl | (simp; done) | (simp [*]; done)), H', ⟨by have := HK1.out; omega⟩, by repeat (first | exact Drawn0.refl _ | apply Drawn0.step)⟩
          · rw [if_neg c5] at H
            exact absurd H (by simp)
        · rw [if_neg c4] at H
          exact absurd H (by simp)
      · rw [if_neg c3] at H
        have c3b0 : decide (x8_1 < (l0.length : Int)) = false := decide_eq_false c3
        clear c3
        obtain rfl := Option.some.inj H
        go_wp2
        go_ret
        exact ⟨by first | rfl | (simp; done) | (simp [*]; done), by repeat (first | exact Drawn0.refl _ | apply Drawn0.step)⟩

end Go.Proofs.Ytebcmhajbjkojaa.P

namespace Go.Proofs.Ytebcmhajbjkojaa.P
open Go.RowKit Go.Proofs.YtebcmhajbjkojaaW.PrintWords Go.Proofs.YtebcmhajbjkojaaW.PrintLast Go.Proofs.YtebcmhajbjkojaaW.PrintMore
attribute [local go_sem] max2_int min2_int max_two min_two max_three min_three max_four min_four   -- for this text's walks alone
set_option linter.unusedVariables false
set_option linter.unusedSimpArgs false

/-! ### slices_ContainsFunc_int_int_mooring_checkCodes_1: function 86 -/
def slices_ContainsFunc_int_int_mooring_checkCodes_1.f (k : Nat) (l0 : List Int)  : Option (Bool) := (slices_IndexFunc_int_int_mooring_checkCodes_1.f k l0).bind fun t101 => (some (decide (t101 ≥ 0)))
theorem slices_ContainsFunc_int_int_mooring_checkCodes_1.mono : ∀ a0 k, LeO (slices_ContainsFunc_int_int_mooring_checkCodes_1.f k a0) (slices_ContainsFunc_int_int_mooring_checkCodes_1.f (k + 1) a0) := by
  intro a0 k
  unfold slices_ContainsFunc_int_int_mooring_checkCodes_1.f
  repeat' first
      | (with_reducible exact slices_IndexFunc_int_int_mooring_checkCodes_1.mono _ _)
      | (with_reducible exact LeO.refl _)
      | (with_reducible exact LeO.none _)
      | (with_reducible refine LeO.ite ?_ ?_)
      | (with_reducible refine LeO.bind ?_ (fun _ => ?_))
      | exact slices_IndexFunc_int_int_mooring_checkCodes_1.mono _ _
      | exact LeO.none _
      | refine LeO.ite ?_ ?_
      | refine LeO.bind ?_ (fun _ => ?_)
set_option maxHeartbeats 8000000 in
set_option maxRecDepth 100000 in
theorem slices_ContainsFunc_int_int_mooring_checkCodes_1.calls (k : Nat) (A0 : Option Addr) (c0 : Nat) (l0 : List Int)  (r : Bool) (w : World) (hr0 : Kd.C (Kd.int .i64) w A0 l0.length l0) (hc0 : l0.length ≤ c0) (h : slices_ContainsFunc_int_int_mooring_checkCodes_1.f k l0 = some r) :
    Calls Try.prog 86 #[.slice A0 l0.length c0, .func (.func 87) #[] #[]] w fun e w' => e = .returned (.bool r) ∧ Drawn0 w w' := by
  have HR0 := Aside0.mk hr0
  have HC0 := Aside0.mk hc0
  clear hr0 hc0
  have H : ((slices_IndexFunc_int_int_mooring_checkCodes_1.f k l0).bind fun t101 => (some (decide (t101 ≥ 0)))) = some r := h
  clear h
  replace H := Option.bind_eq_some_iff.mp H
  obtain ⟨t101, A30, H⟩ := H
  replace H : (some (decide (t101 ≥ 0))) = some r := H
  have A3 := Aside0.mk A30
  clear A30
  obtain rfl := Option.some.inj H
  go_enter Try.func86, Try.ntmps86
  go_wp2_with (first | ((with_reducible refine gate_callee (f := 96) rfl ?_); refine goesL_ (some 7) rfl rfl Try.func96 (by kernel_rfl) rfl #[.slice A0 l0.length c0, .func (.func 87) #[] #[]] rfl (by (try simp only [List.map_toArray, List.map_cons, List.map_nil]); first | done | rfl | (simp only [List.length_drop, List.length_take]; rfl)) ?_; (with_reducible refine (slices_IndexFunc_int_int_mooring_checkCodes_1.calls k _ _ l0  t101 _ ?side1 ?side2 A3.out).mono ?_); (case side1 => repeat (first | exact HR0.out | (with_reducible refine Kd.C_alloc ?_ _) | (with_reducible refine Kd.C_drewN ?_ _) | (with_reducible refine Kd.C_drew ?_))); (case side2 => exact HC0.out); rintro e w' ⟨rfl, ⟨nd, rfl⟩⟩; refine ⟨_, rfl, ?_⟩))
  go_ret
  exact ⟨by first | rfl | (simp; done) | (simp [*]; done), by repeat (first | exact Drawn0.refl _ | apply Drawn0.step)⟩

end Go.Proofs.Ytebcmhajbjkojaa.P

namespace Go.Proofs.Ytebcmhajbjkojaa.P
open Go.RowKit Go.Proofs.YtebcmhajbjkojaaW.PrintWords Go.Proofs.YtebcmhajbjkojaaW.PrintLast Go.Proofs.YtebcmhajbjkojaaW.PrintMore
attribute [local go_sem] max2_int min2_int max_two min_two max_three min_three max_four min_four   -- for this text's walks alone
set_option linter.unusedVariables false
set_option linter.unusedSimpArgs false

/-! ### mooring_checkCodes: function 52 -/
def mooring_checkCodes.f (k : Nat) (l0 : List Int) : Option (Int) := if (l0.length : Int) > 64 then (some 6) else ((slices_ContainsFunc_int_int_mooring_checkCodes_1.f k l0).bind fun t101 => (if t101 = true then (some 2) else (some 0)))
theorem mooring_checkCodes.mono : ∀ a0 k, LeO (mooring_checkCodes.f k a0) (mooring_checkCodes.f (k + 1) a0) := by
  intro a0 k
  unfold mooring_checkCodes.f
  repeat' first
      | (with_reducible exact slices_ContainsFunc_int_int_mooring_checkCodes_1.mono _ _)
      | (with_reducible exact LeO.refl _)
      | (with_reducible exact LeO.none _)
      | (with_reducible refine LeO.ite ?_ ?_)
      | (with_reducible refine LeO.bind ?_ (fun _ => ?_))
      | exact slices_ContainsFunc_int_int_mooring_checkCodes_1.mono _ _
      | exact LeO.none _
      | refine LeO.ite ?_ ?_
      | refine LeO.bind ?_ (fun _ => ?_)
set_option maxHeartbeats 8000000 in
set_option maxRecDepth 100000 in
theorem mooring_checkCodes.calls (k : Nat) (A0 : Option Addr) (c0 : Nat) (l0 : List Int) (r : Int) (w : World) (hr0 : Kd.C (Kd.int .i64) w A0 l0.length l0) (hc0 : l0.length ≤ c0) (h : mooring_checkCodes.f k l0 = some r) :
    Calls Try.prog 52 #[.slice A0 l0.length c0] w fun e w' => e = .returned (.int .i64 r) ∧ Drawn0 w w' := by
  have HR0 := Aside0.mk hr0
  have HC0 := Aside0.mk hc0
  clear hr0 hc0
  have H : (if (l0.length : Int) > 64 then (some 6) else ((slices_ContainsFunc_int_int_mooring_checkCodes_1.f k l0).bind fun t101 => (if t101 = true then (some 2) else (some 0)))) = some r := h
  clear h
  by_cases c2 : (l0.length : Int) > 64
  · rw [if_pos c2] at H
    have c2b0 : decide (64 < (l0.length : Int)) = true := decide_eq_true c2
    have c2b1 : decide (64 < l0.length) = true := decide_eq_true (by omega)
    clear c2
    obtain rfl := Option.some.inj H
    go_enter Try.func52, Try.ntmps52
    go_wp2
    go_ret
    exact ⟨by first | rfl | (simp; done) | (simp [*]; done), by repeat (first | exact Drawn0.refl _ | apply Drawn0.step)⟩
  · rw [if_neg c2] at H
    have c2b0 : decide (64 < (l0.length : Int)) = false := decide_eq_false c2
    have c2b1 : decide (64 < l0.length) = false := decide_eq_false (by omega)
    clear c2
    replace H := Option.bind_eq_some_iff.mp H
    obtain ⟨t101, A30, H⟩ := H
    replace H : (if t101 = true then (some 2) else (some 0)) = some r := H
    have A3 := Aside0.mk A30
    clear A30
    by_cases c4 : t101 = true
    · subst c4
      have H1 : (some 2) = some r := by rw [if_pos rfl] at H; exact H
      clear H
      have H := H1
      clear H1
      obtain rfl := Option.some.inj H
      go_enter Try.func52, Try.ntmps52
      go_wp2_with (first | ((with_reducible refine gate_callee (f := 86) rfl ?_); refine goesL_ (some 7) rfl rfl Try.func86 (by kernel_rfl) rfl #[.slice A0 l0.length c0, .func (.func 87) #[] #[]] rfl (by (try simp only [List.map_toArray, List.map_cons, List.map_nil]); first | done | rfl | (simp only [List.length_drop, List.length_take]; rfl)) ?_; (with_reducible refine (slices_ContainsFunc_int_int_mooring_checkCodes_1.calls k _ _ l0  true _ ?side1 ?side2 A3.out).mono ?_); (case side1 => repeat (first | exact HR0.out | (with_reducible refine Kd.C_alloc ?_ _) | (with_reducible refine Kd.C_drewN ?_ _) | (with_reducible refine Kd.C_drew ?_))); (case side2 => exact HC0.out); rintro e w' ⟨rfl, ⟨nd, rfl⟩⟩; refine ⟨_, rfl, ?_⟩))
      go_ret
      exact ⟨by first | rfl | (simp; done) | (simp [*]; done), by repeat (first | exact Drawn0.refl _ | apply Drawn0.step)⟩
    · replace c4 := Bool.eq_false_iff.mpr c4
      subst c4
      have H1 : (some 0) = some r := by rw [if_neg (show ¬ (false = true) by decide)] at H; exact H
      clear H
      have H := H1
      clear H1
      obtain rfl := Option.some.inj H
      go_enter Try.func52, Try.ntmps52
      go_wp2_with (first | ((with_reducible refine gate_callee (f := 86) rfl ?_); refine goesL_ (some 7) rfl rfl Try.func86 (by kernel_rfl) rfl #[.slice A0 l0.length c0, .func (.func 87) #[] #[]] rfl (by (try simp only [List.map_toArray, List.map_cons, List.map_nil]); first | done | rfl | (simp only [List.length_drop, List.length_take]; rfl)) ?_; (with_reducible refine (slices_ContainsFunc_int_int_mooring_checkCodes_1.calls k _ _ l0  false _ ?side1 ?side2 A3.out).mono ?_); (case side1 => repeat (first | exact HR0.out | (with_reducible refine Kd.C_alloc ?_ _) | (with_reducible refine Kd.C_drewN ?_ _) | (with_reducible refine Kd.C_drew ?_))); (case side2 => exact HC0.out); rintro e w' ⟨rfl, ⟨nd, rfl⟩⟩; refine ⟨_, rfl, ?_⟩))
      go_ret
      exact ⟨by first | rfl | (simp; done) | (simp [*]; done), by repeat (first | exact Drawn0.refl _ | apply Drawn0.step)⟩

end Go.Proofs.Ytebcmhajbjkojaa.P

namespace Go.Proofs.Ytebcmhajbjkojaa.P
open Go.RowKit Go.Proofs.YtebcmhajbjkojaaW.PrintWords Go.Proofs.YtebcmhajbjkojaaW.PrintLast Go.Proofs.YtebcmhajbjkojaaW.PrintMore
attribute [local go_sem] max2_int min2_int max_two min_two max_three min_three max_four min_four   -- for this text's walks alone
set_option linter.unusedVariables false
set_option linter.unusedSimpArgs false

/-! ### mooring_Spacing: function 15 -/
mutual
def mooring_Spacing.l0 : Nat → List Int → Int → List Int → Int → Int → Option (Int × Int)
  | 0, _, _, _, _, _ => none
  | k + 1, x0, x5, x18, x19, x20 => if x20 < x19 then (if 0 ≤ x20 then (if x20 < (x18.length : Int) then (if 0 ≤ (wrap64 (x20 + 1)) then (if (wrap64 (x20 + 1)) ≤ (x0.length : Int) then (mooring_Spacing.l1 k x0 x5 (rd x18 x20) x18 x19 x20 (x0.drop ((wrap64 (x20 + 1)) : Int).toNat) ((x0.drop ((wrap64 (x20 + 1)) : Int).toNat).length : Int) 0) else (none)) else (none)) else (none)) else (none)) else (some (x5, 0))
def mooring_Spacing.l1 : Nat → List Int → Int → Int → List Int → Int → Int → List Int → Int → Int → Option (Int × Int)
  | 0, _, _, _, _, _, _, _, _, _ => none
  | k + 1, x0, x5, x7, x18, x19, x20, x28, x29, x30 => if x30 < x29 then (if 0 ≤ x30 then (if x30 < (x28.length : Int) then ((mooring_apart.f k x7 (rd x28 x30)).bind fun t105 => (mooring_Spacing.l1 k x0 (mn x5 t105) x7 x18 x19 x20 x28 x29 (wrap64 (x30 + 1)))) else (none)) else (none)) else (mooring_Spacing.l0 k x0 x5 x18 x19 (wrap64 (x20 + 1)))
end
def mooring_Spacing.f (k : Nat) (l0 : List Int) : Option (Int × Int) := (mooring_checkCodes.f k l0).bind fun t101 => (if t101 = 0 then (if (l0.length : Int) < 2 then (some (0, 5)) else (mooring_Spacing.l0 k l0 16 l0 (l0.length : Int) 0)) else (some (0, t101)))
theorem mooring_Spacing.mono_l : ∀ k, (∀ y0 y1 y2 y3 y4, LeO (mooring_Spacing.l0 k y0 y1 y2 y3 y4) (mooring_Spacing.l0 (k + 1) y0 y1 y2 y3 y4)) ∧ (∀ y0 y1 y2 y3 y4 y5 y6 y7 y8, LeO (mooring_Spacing.l1 k y0 y1 y2 y3 y4 y5 y6 y7 y8) (mooring_Spacing.l1 (k + 1) y0 y1 y2 y3 y4 y5 y6 y7 y8))
  | 0 => ⟨fun _ _ _ _ _ r h => by simp [mooring_Spacing.l0] at h, fun _ _ _ _ _ _ _ _ _ r h => by simp [mooring_Spacing.l1] at h⟩
  | k + 1 => by
    obtain ⟨ih0, ih1⟩ := mooring_Spacing.mono_l k
    refine ⟨?_, ?_⟩
    · intro y0 y1 y2 y3 y4
      unfold mooring_Spacing.l0
      repeat' first
      | (with_reducible exact ih0 _ _ _ _ _)
      | (with_reducible exact ih1 _ _ _ _ _ _ _ _ _)
      | (with_reducible exact mooring_apart.mono _ _ _)
      | (with_reducible exact mooring_checkCodes.mono _ _)
      | (with_reducible exact LeO.refl _)
      | (with_reducible exact LeO.none _)
      | (with_reducible refine LeO.ite ?_ ?_)
      | (with_reducible refine LeO.bind ?_ (fun _ => ?_))
      | exact ih0 _ _ _ _ _
      | exact ih1 _ _ _ _ _ _ _ _ _
      | exact mooring_apart.mono _ _ _
      | exact mooring_checkCodes.mono _ _
      | exact LeO.none _
      | refine LeO.ite ?_ ?_
      | refine LeO.bind ?_ (fun _ => ?_)
    · intro y0 y1 y2 y3 y4 y5 y6 y7 y8
      unfold mooring_Spacing.l1
      repeat' first
      | (with_reducible exact ih0 _ _ _ _ _)
      | (with_reducible exact ih1 _ _ _ _ _ _ _ _ _)
      | (with_reducible exact mooring_apart.mono _ _ _)
      | (with_reducible exact mooring_checkCodes.mono _ _)
      | (with_reducible exact LeO.refl _)
      | (with_reducible exact LeO.none _)
      | (with_reducible refine LeO.ite ?_ ?_)
      | (with_reducible refine LeO.bind ?_ (fun _ => ?_))
      | exact ih0 _ _ _ _ _
      | exact ih1 _ _ _ _ _ _ _ _ _
      | exact mooring_apart.mono _ _ _
      | exact mooring_checkCodes.mono _ _
      | exact LeO.none _
      | refine LeO.ite ?_ ?_
      | refine LeO.bind ?_ (fun _ => ?_)
theorem mooring_Spacing.mono : ∀ a0 k, LeO (mooring_Spacing.f k a0) (mooring_Spacing.f (k + 1) a0) := by
  intro a0 k
  obtain ⟨ih0, ih1⟩ := mooring_Spacing.mono_l k
  unfold mooring_Spacing.f
  repeat' first
      | (with_reducible exact ih0 _ _ _ _ _)
      | (with_reducible exact ih1 _ _ _ _ _ _ _ _ _)
      | (with_reducible exact mooring_apart.mono _ _ _)
      | (with_reducible exact mooring_checkCodes.mono _ _)
      | (with_reducible exact LeO.refl _)
      | (with_reducible exact LeO.none _)
      | (with_reducible refine LeO.ite ?_ ?_)
      | (with_reducible refine LeO.bind ?_ (fun _ => ?_))
      | exact ih0 _ _ _ _ _
      | exact ih1 _ _ _ _ _ _ _ _ _
      | exact mooring_apart.mono _ _ _
      | exact mooring_checkCodes.mono _ _
      | exact LeO.none _
      | refine LeO.ite ?_ ?_
      | refine LeO.bind ?_ (fun _ => ?_)
set_option maxHeartbeats 8000000 in
set_option maxRecDepth 100000 in
theorem mooring_Spacing.calls (k : Nat) (A0 : Option Addr) (c0 : Nat) (l0 : List Int) (r1 : Int) (r2 : Int) (w : World) (hr0 : Kd.C (Kd.int .i64) w A0 l0.length l0) (hc0 : l0.length ≤ c0) (h : mooring_Spacing.f k l0 = some (r1, r2)) :
    Calls Try.prog 15 #[.slice A0 l0.length c0] w fun e w' => e = .returned (.tuple #[.int .i64 r1, .int .i64 r2]) ∧ Below w.heap.size w w' := by
  have HR0 := Aside0.mk hr0
  have HC0 := Aside0.mk hc0
  clear hr0 hc0
  have HB := Aside0.mk (Below.refl w.heap.size w)
  have H : ((mooring_checkCodes.f k l0).bind fun t101 => (if t101 = 0 then (if (l0.length : Int) < 2 then (some (0, 5)) else (mooring_Spacing.l0 k l0 16 l0 (l0.length : Int) 0)) else (some (0, t101)))) = some (r1, r2) := h
  clear h
  replace H := Option.bind_eq_some_iff.mp H
  obtain ⟨t101, A20, H⟩ := H
  replace H : (if t101 = 0 then (if (l0.length : Int) < 2 then (some (0, 5)) else (mooring_Spacing.l0 k l0 16 l0 (l0.length : Int) 0)) else (some (0, t101))) = some (r1, r2) := H
  have A2 := Aside0.mk A20
  clear A20
  by_cases c3 : t101 = 0
  · rw [if_pos c3] at H
    have c3b0 : (t101 == 0) = true := beq_iff_eq.mpr c3
    have c3b1 : (t101 != 0) = false := bne_eq_false_iff_eq.mpr c3
    clear c3
    by_cases c4 : (l0.length : Int) < 2
    · rw [if_pos c4] at H
      have c4b0 : decide ((l0.length : Int) < 2) = true := decide_eq_true c4
      have c4b1 : decide (l0.length < 2) = true := decide_eq_true (by omega)
      clear c4
      simp only [Option.some.injEq, Prod.mk.injEq] at H
      obtain ⟨rfl, rfl⟩ := H
      go_enter Try.func15, Try.ntmps15
      go_wp2_with (first | ((with_reducible refine gate_callee (f := 52) rfl ?_); refine goesL_ (some 11) rfl rfl Try.func52 (by kernel_rfl) rfl #[.slice A0 l0.length c0] rfl (by (try simp only [List.map_toArray, List.map_cons, List.map_nil]); first | done | rfl | (simp only [List.length_drop, List.length_take]; rfl)) ?_; (with_reducible refine (mooring_checkCodes.calls k _ _ l0 t101 _ ?side1 ?side2 A2.out).mono ?_); (case side1 => repeat (first | exact HR0.out | (with_reducible refine Kd.C_alloc ?_ _) | (with_reducible refine Kd.C_drewN ?_ _) | (with_reducible refine Kd.C_drew ?_))); (case side2 => exact HC0.out); rintro e w' ⟨rfl, ⟨nd, rfl⟩⟩; refine ⟨_, rfl, ?_⟩))
      go_ret2
      exact ⟨by first | rfl | (simp [errW_none, errW_some] <;> rfl) | (simp [*, errW_none, errW_some] <;> rfl), by repeat (first | (with_reducible first | exact HB.out | apply below_alloc | apply pw_below_drewN | apply below_drew1) | exact HB.out)⟩
    · rw [if_neg c4] at H
      have c4b0 : decide ((l0.length : Int) < 2) = false := decide_eq_false c4
      have c4b1 : decide (l0.length < 2) = false := decide_eq_false (by omega)
      clear c4
      have H' := Aside0.mk H
      clear H
      go_enter Try.func15, Try.ntmps15
      go_wp2_with (first | ((with_reducible refine gate_callee (f := 52) rfl ?_); refine goesL_ (some 11) rfl rfl Try.func52 (by kernel_rfl) rfl #[.slice A0 l0.length c0] rfl (by (try simp only [List.map_toArray, List.map_cons, List.map_nil]); first | done | rfl | (simp only [List.length_drop, List.length_take]; rfl)) ?_; (with_reducible refine (mooring_checkCodes.calls k _ _ l0 t101 _ ?side1 ?side2 A2.out).mono ?_); (case side1 => repeat (first | exact HR0.out | (with_reducible refine Kd.C_alloc ?_ _) | (with_reducible refine Kd.C_drewN ?_ _) | (with_reducible refine Kd.C_drew ?_))); (case side2 => exact HC0.out); rintro e w' ⟨rfl, ⟨nd, rfl⟩⟩; refine ⟨_, rfl, ?_⟩))
      go_loopg [5, 20] k (fun kq v5 v20 w' => ∃ (x5_1 : Int) (x20_1 : Int), v5 = .int .i64 x5_1 ∧ v20 = .int .i64 x20_1 ∧ Aside0 (mooring_Spacing.l0 kq l0 x5_1 l0 (l0.length : Int) x20_1 = some (r1, r2)) ∧ Aside0 (kq ≤ k) ∧ Aside0 (Below w.heap.size w w'))
      case atStart => exact ⟨(16), (0), (by first | rfl | (simp; done) | (simp [*]; done)), (by first | rfl | (simp; done) | (simp [*]; done)), H', ⟨Nat.le_refl _⟩, ⟨by repeat (first | (with_reducible first | exact HB.out | apply below_alloc | apply pw_below_drewN | apply below_drew1) | exact HB.out)⟩⟩
      case round =>
        clear H'
        try clear c1
        try clear p2
        try clear c3
        try clear c3b0
        try clear c3b1
        try clear c4
        try clear c4b0
        try clear c4b1
        obtain ⟨x5_1, x20_1, rfl, rfl, HA, HK1, HB⟩ := hrel
        cases gk with
        | zero => exact absurd HA.out (by simp [mooring_Spacing.l0])
        | succ k1 =>
          have H := HA.out
          clear HA
          simp only [mooring_Spacing.l0] at H
          by_cases c5 : x20_1 < (l0.length : Int)
          · rw [if_pos c5] at H
            have c5b0 : decide (x20_1 < (l0.length : Int)) = true := decide_eq_true c5
            clear c5
            by_cases c6 : 0 ≤ x20_1
            · rw [if_pos c6] at H
              have c6b0 : decide (0 ≤ x20_1) = true := decide_eq_true c6
              clear c6
              by_cases c7 : x20_1 < (l0.length : Int)
              · rw [if_pos c7] at H
                have c7b0 : decide (x20_1 < (l0.length : Int)) = true := decide_eq_true c7
                clear c7
                obtain ⟨ji8, hji8⟩ : ∃ j_ : Int, (wrap64 (x20_1 + 1)) = j_ := ⟨_, rfl⟩
                replace H : (if 0 ≤ (ji8) then (if (ji8) ≤ (l0.length : Int) then (mooring_Spacing.l1 k1 l0 x5_1 (rd l0 x20_1) l0 (l0.length : Int) x20_1 (l0.drop ((ji8) : Int).toNat) ((l0.drop ((ji8) : Int).toNat).length : Int) 0) else (none)) else (none)) = some (r1, r2) := by first | (rw [hji8] at H; exact H) | (simp only [hji8] at H ⊢; exact H)
                have hji8w : (IntKind.i64.wrap (x20_1 + 1)) = ji8 := (i64_w _).trans hji8
                by_cases c9 : 0 ≤ (ji8)
                · rw [if_pos c9] at H
                  have c9b0 := eq_true c9
                  have c9b1 : decide (0 ≤ (ji8)) = true := decide_eq_true c9
                  clear c9
                  by_cases c10 : (ji8) ≤ (l0.length : Int)
                  · rw [if_pos c10] at H
                    have c10b0 := eq_true c10
                    have c10b1 : decide ((ji8) ≤ (l0.length : Int)) = true := decide_eq_true c10
                    clear c10
                    have H' := Aside0.mk H
                    clear H
                    have p102 : 0 ≤ (x20_1 : Int) := of_decide_eq_true (by first | (with_reducible assumption) | assumption)
                    have q102 : x20_1 < (l0.length : Int) := of_decide_eq_true (by first | (with_reducible assumption) | assumption)
                    obtain ⟨ad102, e102, hx102_0⟩ := Kd.at_int HR0.out x20_1 p102 q102
                    cases e102
                    replace hx102_0 := (HB.out.cell (World.block_lt_of_cell? w _ hx102_0)).trans hx102_0
                    replace p102 := eq_true p102
                    replace q102 := eq_true q102
                    (try (have q102x := q102; simp only [List.length_drop, List.length_take] at q102x))
                    obtain ⟨i011, hi011, _, hsz11, _⟩ := info_parts info3
                    obtain ⟨A11, hcut11, hA11, hC11⟩ := print_drop_of (P := Try.prog) (Value.int .i64) 0 22 3 .i64 Try.underlying22 hi011 hsz11 (some ad102) c0 l0 (ji8) (of_decide_eq_true (by first | (with_reducible assumption) | assumption)) (of_decide_eq_true (by first | (with_reducible assumption) | assumption)) HC0.out
                    have HR103 := Aside0.mk (Kd.C_of_reads (h1 := fun _ => rfl) (hA11 _ (Kd.reads_of_C HR0.out)))
                    have HC103 := Aside0.mk hC11
                    clear hA11 hC11 hi011 hsz11
                    go_wp2
                    go_loopg [5, 30] k1 (fun kq v5 v30 w' => ∃ (x5_2 : Int) (x30_2 : Int), v5 = .int .i64 x5_2 ∧ v30 = .int .i64 x30_2 ∧ Aside0 (mooring_Spacing.l1 kq l0 x5_2 (rd l0 x20_1) l0 (l0.length : Int) x20_1 (l0.drop ((ji8) : Int).toNat) ((l0.drop ((ji8) : Int).toNat).length : Int) x30_2 = some (r1, r2)) ∧ Aside0 (kq ≤ k1) ∧ Aside0 (Below w.heap.size w w'))
                    case atStart => exact ⟨(x5_1), (0), (by first | rfl | (simp; done) | (simp [*]; done)), (by first | rfl | (simp; done) | (simp [*]; done)), H', ⟨Nat.le_refl _⟩, ⟨by repeat (first | (with_reducible first | exact HB.out | apply below_alloc | apply pw_below_drewN | apply below_drew1) | exact HB.out)⟩⟩
                    case round =>
                      clear H'
                      try clear c1
                      try clear p1
                      try clear q1
                      try clear hx1
                      try clear p2
                      try clear c3
                      try clear c3b0
                      try clear c3b1
                      try clear c4
                      try clear c4b0
                      try clear c4b1
                      try clear c5
                      try clear c5b0
                      try clear c6
                      try clear c6b0
                      try clear p6
                      try clear c7
                      try clear c7b0
                      try clear c9
                      try clear c9b0
                      try clear c9b1
                      try clear c10
                      try clear c10b0
                      try clear c10b1
                      try clear p10
                      try clear q10
                      try clear hx10
                      try clear hx102_0
                      try clear p102
                      try clear p2
                      try clear q102
                      obtain ⟨x5_2, x30_2, rfl, rfl, HA, HK2, HB⟩ := hrel
                      cases gk with
                      | zero => exact absurd HA.out (by simp [mooring_Spacing.l1])
                      | succ k2 =>
                        have H := HA.out
                        clear HA
                        simp only [mooring_Spacing.l1] at H
                        by_cases c12 : x30_2 < ((l0.drop ((ji8) : Int).toNat).length : Int)
                        · rw [if_pos c12] at H
                          have c12b0 : decide (x30_2 < ((l0.drop ((ji8) : Int).toNat).length : Int)) = true := decide_eq_true c12
                          (try (have c12b0x := c12b0; simp only [List.length_drop, List.length_take] at c12b0x))
                          clear c12
                          by_cases c13 : 0 ≤ x30_2
                          · rw [if_pos c13] at H
                            have c13b0 : decide (0 ≤ x30_2) = true := decide_eq_true c13
                            clear c13
                            by_cases c14 : x30_2 < ((l0.drop ((ji8) : Int).toNat).length : Int)
                            · rw [if_pos c14] at H
                              have c14b0 : decide (x30_2 < ((l0.drop ((ji8) : Int).toNat).length : Int)) = true := decide_eq_true c14
                              (try (have c14b0x := c14b0; simp only [List.length_drop, List.length_take] at c14b0x))
                              clear c14
                              replace H := Option.bind_eq_some_iff.mp H
                              obtain ⟨t105, A150, H⟩ := H
                              replace H : (mooring_Spacing.l1 k2 l0 (mn x5_2 t105) (rd l0 x20_1) l0 (l0.length : Int) x20_1 (l0.drop ((ji8) : Int).toNat) ((l0.drop ((ji8) : Int).toNat).length : Int) (wrap64 (x30_2 + 1))) = some (r1, r2) := H
                              have A15 := Aside0.mk A150
                              clear A150
                              obtain ⟨ji16, hji16⟩ : ∃ j_ : Int, (mn x5_2 t105) = j_ := ⟨_, rfl⟩
                              replace H : (mooring_Spacing.l1 k2 l0 ji16 (rd l0 x20_1) l0 (l0.length : Int) x20_1 (l0.drop ((ji8) : Int).toNat) ((l0.drop ((ji8) : Int).toNat).length : Int) (wrap64 (x30_2 + 1))) = some (r1, r2) := by first | (rw [hji16] at H; exact H) | (simp only [hji16] at H ⊢; exact H)
                              (try rw [hji16] at A15)
                              have hji16_ : (if t105 < x5_2 then t105 else x5_2) = ji16 := hji16
                              have H' := Aside0.mk H
                              clear H
                              have p104 : 0 ≤ (x30_2 : Int) := of_decide_eq_true (by first | (with_reducible assumption) | assumption)
                              have q104 : x30_2 < ((l0.drop ((ji8) : Int).toNat).length : Int) := of_decide_eq_true (by first | (with_reducible assumption) | assumption)
                              obtain ⟨ad104, e104, hx104_0⟩ := Kd.at_int HR103.out x30_2 p104 q104
                              cases e104
                              replace hx104_0 := (HB.out.cell (World.block_lt_of_cell? w _ hx104_0)).trans hx104_0
                              replace p104 := eq_true p104
                              replace q104 := eq_true q104
                              (try (have q104x := q104; simp only [List.length_drop, List.length_take] at q104x))
                              go_wp2_with (first | ((with_reducible refine gate_callee (f := 53) rfl ?_); refine goesL_ (some 37) rfl rfl Try.func53 (by kernel_rfl) rfl #[.int .i64 (rd l0 x20_1), .int .i64 (rd (l0.drop ((ji8) : Int).toNat) x30_2)] rfl (by (try simp only [List.map_toArray, List.map_cons, List.map_nil]); first | done | (simp only [hji8]; rfl) | rfl | (simp only [List.length_drop, List.length_take]; rfl)) ?_; (with_reducible refine (mooring_apart.calls k2 (rd l0 x20_1) (rd (l0.drop ((ji8) : Int).toNat) x30_2) t105 _ A15.out).mono ?_); rintro e w' ⟨rfl, ⟨nd, rfl⟩⟩; refine ⟨_, rfl, ?_⟩))
                              go_roundg k2
                              case measure => have := HK1.out; have := HK2.out; omega
                              case rel => exact ⟨(ji16), (wrap64 (x30_2 + 1)), (by first | rfl | (simp; done) | (simp only [← hji16] <;> (first | rfl | simp)) | (simp [*]; done)), (by first | rfl | (simp; done) | (simp [*]; done)), H', ⟨by have := HK1.out; have := HK2.out; omega⟩, ⟨by repeat (first | (with_reducible first | exact HB.out | apply below_alloc | apply pw_below_drewN | apply below_drew1) | exact HB.out)⟩⟩
                            · rw [if_neg c14] at H
                              exact absurd H (by simp)
                          · rw [if_neg c13] at H
                            exact absurd H (by simp)
                        · rw [if_neg c12] at H
                          have c12b0 : decide (x30_2 < ((l0.drop ((ji8) : Int).toNat).length : Int)) = false := decide_eq_false c12
                          (try (have c12b0x := c12b0; simp only [List.length_drop, List.length_take] at c12b0x))
                          clear c12
                          have H' := Aside0.mk H
                          clear H
                          go_wp2
                          go_roundg k2
                          case measure => have := HK1.out; have := HK2.out; omega
                          case rel => exact ⟨(x5_2), (wrap64 (x20_1 + 1)), (by first | rfl | (simp; done) | (simp [*]; done)), (by first | rfl | (simp; done) | (simp [*]; done)), H', ⟨by have := HK1.out; have := HK2.out; omega⟩, ⟨by repeat (first | (with_reducible first | exact HB.out | apply below_alloc | apply pw_below_drewN | apply below_drew1) | exact HB.out)⟩⟩
                  · rw [if_neg c10] at H
                    exact absurd H (by simp)
                · rw [if_neg c9] at H
                  exact absurd H (by simp)
              · rw [if_neg c7] at H
                exact absurd H (by simp)
            · rw [if_neg c6] at H
              exact absurd H (by simp)
          · rw [if_neg c5] at H
            have c5b0 : decide (x20_1 < (l0.length : Int)) = false := decide_eq_false c5
            clear c5
            simp only [Option.some.injEq, Prod.mk.injEq] at H
            obtain ⟨rfl, rfl⟩ := H
            go_wp2
            go_ret2
            exact ⟨by first | rfl | (simp [errW_none, errW_some] <;> rfl) | (simp [*, errW_none, errW_some] <;> rfl), by repeat (first | (with_reducible first | exact HB.out | apply below_alloc | apply pw_below_drewN | apply below_drew1) | exact HB.out)⟩
  · rw [if_neg c3] at H
    have c3b0 : (t101 == 0) = false := beq_eq_false_iff_ne.mpr c3
    have c3b1 : (t101 != 0) = true := bne_iff_ne.mpr c3
    simp only [Option.some.injEq, Prod.mk.injEq] at H
    obtain ⟨rfl, rfl⟩ := H
    go_enter Try.func15, Try.ntmps15
    go_wp2_with (first | ((with_reducible refine gate_callee (f := 52) rfl ?_); refine goesL_ (some 11) rfl rfl Try.func52 (by kernel_rfl) rfl #[.slice A0 l0.length c0] rfl (by (try simp only [List.map_toArray, List.map_cons, List.map_nil]); first | done | rfl | (simp only [List.length_drop, List.length_take]; rfl)) ?_; (with_reducible refine (mooring_checkCodes.calls k _ _ l0 t101 _ ?side1 ?side2 A2.out).mono ?_); (case side1 => repeat (first | exact HR0.out | (with_reducible refine Kd.C_alloc ?_ _) | (with_reducible refine Kd.C_drewN ?_ _) | (with_reducible refine Kd.C_drew ?_))); (case side2 => exact HC0.out); rintro e w' ⟨rfl, ⟨nd, rfl⟩⟩; refine ⟨_, rfl, ?_⟩))
    go_ret2
    exact ⟨by first | rfl | (simp [errW_none, errW_some] <;> rfl) | (simp [*, errW_none, errW_some] <;> rfl), by repeat (first | (with_reducible first | exact HB.out | apply below_alloc | apply pw_below_drewN | apply below_drew1) | exact HB.out)⟩

end Go.Proofs.Ytebcmhajbjkojaa.P

namespace Go.Proofs.Ytebcmhajbjkojaa.P
open Go.RowKit Go.Proofs.YtebcmhajbjkojaaW.PrintWords Go.Proofs.YtebcmhajbjkojaaW.PrintLast Go.Proofs.YtebcmhajbjkojaaW.PrintMore
attribute [local go_sem] max2_int min2_int max_two min_two max_three min_three max_four min_four   -- for this text's walks alone
set_option linter.unusedVariables false
set_option linter.unusedSimpArgs false

-- LIB
/-! ### plain lemmas for loops over lists -/
theorem wrap_id {n : Int} (h1 : -9223372036854775808 ≤ n) (h2 : n ≤ 9223372036854775807) : wrap64 n = n := by
  unfold wrap64
  omega
theorem wrap_succ {i n : Nat} (h : i < n) (hn : n ≤ 9223372036854775807) : wrap64 ((i : Int) + 1) = ((i + 1 : Nat) : Int) := by
  rw [wrap_id (by omega) (by omega)]
  omega
theorem rd_nat {xs : List Int} {i : Nat} (h : i < xs.length) : rd xs (i : Int) = xs[i] := by
  simp [rd, List.getD, h]
theorem LeO.up {α : Type} {f : Nat → Option α} (hm : ∀ k, LeO (f k) (f (k + 1))) {k k' : Nat} (hk : k ≤ k') {r : α} (h : f k = some r) : f k' = some r := by
  induction hk with
  | refl => exact h
  | step _ ih => exact hm _ _ ih
/-- A list's tail from a place on. -/
theorem drop_cons {α : Type} {xs : List α} {i : Nat} (h : i < xs.length) : xs.drop i = xs[i] :: xs.drop (i + 1) := List.drop_eq_getElem_cons h
theorem take_snoc {α : Type} {xs : List α} {i : Nat} (h : i < xs.length) : xs.take (i + 1) = xs.take i ++ [xs[i]] := by
  rw [List.take_succ_eq_append_getElem h]
theorem tdiv_pos {a b : Int} (ha : 0 ≤ a) : a.tdiv b = a / b := Int.tdiv_eq_ediv_of_nonneg ha

end Go.Proofs.Ytebcmhajbjkojaa.P

namespace Go.Proofs.Ytebcmhajbjkojaa.P
open Go.RowKit Go.Proofs.YtebcmhajbjkojaaW.PrintWords Go.Proofs.YtebcmhajbjkojaaW.PrintLast Go.Proofs.YtebcmhajbjkojaaW.PrintMore
attribute [local go_sem] max2_int min2_int max_two min_two max_three min_three max_four min_four   -- for this text's walks alone
set_option linter.unusedVariables false
set_option linter.unusedSimpArgs false

/-! ### mooring_outside: function 75 -/
def mooring_outside.f (a0 : Int) (a1 : Int) (a2 : Int) : Option (Bool) := if a0 < a1 then (some true) else (some (decide (a0 > a2)))
set_option maxHeartbeats 8000000 in
set_option maxRecDepth 100000 in
theorem mooring_outside.calls (a0 : Int) (a1 : Int) (a2 : Int) (r : Bool) (w : World) (h : mooring_outside.f a0 a1 a2 = some r) :
    Calls Try.prog 75 #[.int .i64 a0, .int .i64 a1, .int .i64 a2] w fun e w' => e = .returned (.bool r) ∧ Drawn0 w w' := by
  have H : (if a0 < a1 then (some true) else (some (decide (a0 > a2)))) = some r := h
  clear h
  by_cases c4 : a0 < a1
  · rw [if_pos c4] at H
    have c4b0 : decide (a0 < a1) = true := decide_eq_true c4
    clear c4
    obtain rfl := Option.some.inj H
    go_enter Try.func75, Try.ntmps75
    go_wp2
    go_ret
    exact ⟨by first | rfl | (simp; done) | (simp [*]; done), by repeat (first | exact Drawn0.refl _ | apply Drawn0.step)⟩
  · rw [if_neg c4] at H
    have c4b0 : decide (a0 < a1) = false := decide_eq_false c4
    clear c4
    obtain rfl := Option.some.inj H
    go_enter Try.func75, Try.ntmps75
    go_wp2
    go_ret
    exact ⟨by first | rfl | (simp; done) | (simp [*]; done), by repeat (first | exact Drawn0.refl _ | apply Drawn0.step)⟩

end Go.Proofs.Ytebcmhajbjkojaa.P

namespace Go.Proofs.Ytebcmhajbjkojaa.P
open Go.RowKit Go.Proofs.YtebcmhajbjkojaaW.PrintWords Go.Proofs.YtebcmhajbjkojaaW.PrintLast Go.Proofs.YtebcmhajbjkojaaW.PrintMore
attribute [local go_sem] max2_int min2_int max_two min_two max_three min_three max_four min_four   -- for this text's walks alone
set_option linter.unusedVariables false
set_option linter.unusedSimpArgs false

/-! ### mooring_Check: function 38 -/
mutual
def mooring_Check.j0 : Nat → Bool → Int → List (S46) → Int → Int → Option (Int)
  | 0, _, _, _, _, _ => none
  | k + 1, x27, x102000, x102001, x102002, x102003 => if x27 = true then (some 2) else (mooring_Check.l0 k x102001 (x102001.length : Int) 0)
def mooring_Check.l0 : Nat → List (S46) → Int → Int → Option (Int)
  | 0, _, _, _ => none
  | k + 1, x29, x30, x31 => if x31 < x30 then (if 0 ≤ x31 then (if x31 < (x29.length : Int) then ((mooring_outside.f ((rd_T46 x29 x31).f0) 0 1048576).bind fun t107 => (if t107 = true then (some 2) else ((mooring_outside.f ((rd_T46 x29 x31).f1) (-1048576) 1048576).bind fun t108 => (if t108 = true then (some 2) else ((mooring_outside.f ((rd_T46 x29 x31).f2) 0 65536).bind fun t109 => (if t109 = true then (some 2) else ((mooring_outside.f ((rd_T46 x29 x31).f3) 1 16777216).bind fun t110 => (if t110 = true then (some 2) else (mooring_Check.l0 k x29 x30 (wrap64 (x31 + 1))))))))))) else (none)) else (none)) else (some 0)
end
def mooring_Check.f (k : Nat) (a0_0 : Int) (l0_1 : List (S46)) (a0_2 : Int) (a0_3 : Int) : Option (Int) := if (l0_1.length : Int) > 40 then (some 6) else (if (l0_1.length : Int) = 0 then (mooring_Check.j0 k true a0_0 l0_1 a0_2 a0_3) else ((mooring_outside.f a0_0 1 1048576).bind fun t102 => (if t102 = true then (mooring_Check.j0 k true a0_0 l0_1 a0_2 a0_3) else ((mooring_outside.f a0_2 0 1048576).bind fun t103 => (if t103 = true then (mooring_Check.j0 k true a0_0 l0_1 a0_2 a0_3) else ((mooring_outside.f a0_3 0 1000).bind fun t104 => (mooring_Check.j0 k t104 a0_0 l0_1 a0_2 a0_3)))))))
theorem mooring_Check.mono_l : ∀ k, (∀ y0 y1 y2 y3 y4, LeO (mooring_Check.j0 k y0 y1 y2 y3 y4) (mooring_Check.j0 (k + 1) y0 y1 y2 y3 y4)) ∧ (∀ y0 y1 y2, LeO (mooring_Check.l0 k y0 y1 y2) (mooring_Check.l0 (k + 1) y0 y1 y2))
  | 0 => ⟨fun _ _ _ _ _ r h => by simp [mooring_Check.j0] at h, fun _ _ _ r h => by simp [mooring_Check.l0] at h⟩
  | k + 1 => by
    obtain ⟨ih0, ih1⟩ := mooring_Check.mono_l k
    refine ⟨?_, ?_⟩
    · intro y0 y1 y2 y3 y4
      unfold mooring_Check.j0
      repeat' first
      | (with_reducible exact ih0 _ _ _ _ _)
      | (with_reducible exact ih1 _ _ _)
      | (with_reducible exact LeO.refl _)
      | (with_reducible exact LeO.none _)
      | (with_reducible refine LeO.ite ?_ ?_)
      | (with_reducible refine LeO.bind ?_ (fun _ => ?_))
      | exact ih0 _ _ _ _ _
      | exact ih1 _ _ _
      | exact LeO.none _
      | refine LeO.ite ?_ ?_
      | refine LeO.bind ?_ (fun _ => ?_)
    · intro y0 y1 y2
      unfold mooring_Check.l0
      repeat' first
      | (with_reducible exact ih0 _ _ _ _ _)
      | (with_reducible exact ih1 _ _ _)
      | (with_reducible exact LeO.refl _)
      | (with_reducible exact LeO.none _)
      | (with_reducible refine LeO.ite ?_ ?_)
      | (with_reducible refine LeO.bind ?_ (fun _ => ?_))
      | exact ih0 _ _ _ _ _
      | exact ih1 _ _ _
      | exact LeO.none _
      | refine LeO.ite ?_ ?_
      | refine LeO.bind ?_ (fun _ => ?_)
theorem mooring_Check.mono : ∀ a0 a1 a2 a3 k, LeO (mooring_Check.f k a0 a1 a2 a3) (mooring_Check.f (k + 1) a0 a1 a2 a3) := by
  intro a0 a1 a2 a3 k
  obtain ⟨ih0, ih1⟩ := mooring_Check.mono_l k
  unfold mooring_Check.f
  repeat' first
      | (with_reducible exact ih0 _ _ _ _ _)
      | (with_reducible exact ih1 _ _ _)
      | (with_reducible exact LeO.refl _)
      | (with_reducible exact LeO.none _)
      | (with_reducible refine LeO.ite ?_ ?_)
      | (with_reducible refine LeO.bind ?_ (fun _ => ?_))
      | exact ih0 _ _ _ _ _
      | exact ih1 _ _ _
      | exact LeO.none _
      | refine LeO.ite ?_ ?_
      | refine LeO.bind ?_ (fun _ => ?_)
set_option maxHeartbeats 8000000 in
set_option maxRecDepth 100000 in
theorem mooring_Check.calls (k : Nat) (a0_0 : Int) (A0_1 : Option Addr) (c0_1 : Nat) (l0_1 : List (S46)) (a0_2 : Int) (a0_3 : Int) (r : Int) (w : World) (hr0_1 : Kd.C k46 w A0_1 l0_1.length l0_1) (hc0_1 : l0_1.length ≤ c0_1) (h : mooring_Check.f k a0_0 l0_1 a0_2 a0_3 = some r) :
    Calls Try.prog 38 #[.agg #[.int .i64 a0_0, .slice A0_1 l0_1.length c0_1, .int .i64 a0_2, .int .i64 a0_3]] w fun e w' => e = .returned (.int .i64 r) ∧ Below w.heap.size w w' := by
  have hu37 := Try.underlying37
  have hu46 := Try.underlying46
  have HR0_1 := Aside0.mk hr0_1
  have HC0_1 := Aside0.mk hc0_1
  clear hr0_1 hc0_1
  have HB := Aside0.mk (Below.refl w.heap.size w)
  have H : (if (l0_1.length : Int) > 40 then (some 6) else (if (l0_1.length : Int) = 0 then (mooring_Check.j0 k true a0_0 l0_1 a0_2 a0_3) else ((mooring_outside.f a0_0 1 1048576).bind fun t102 => (if t102 = true then (mooring_Check.j0 k true a0_0 l0_1 a0_2 a0_3) else ((mooring_outside.f a0_2 0 1048576).bind fun t103 => (if t103 = true then (mooring_Check.j0 k true a0_0 l0_1 a0_2 a0_3) else ((mooring_outside.f a0_3 0 1000).bind fun t104 => (mooring_Check.j0 k t104 a0_0 l0_1 a0_2 a0_3)))))))) = some r := h
  clear h
  by_cases c2 : (l0_1.length : Int) > 40
  · rw [if_pos c2] at H
    have c2b0 : decide (40 < (l0_1.length : Int)) = true := decide_eq_true c2
    have c2b1 : decide (40 < l0_1.length) = true := decide_eq_true (by omega)
    clear c2
    obtain rfl := Option.some.inj H
    go_enter Try.func38, Try.ntmps38
    go_wp2_with (first | ((with_reducible refine gate_dst (N := 1) rfl ?_); refine box_event ?hg (N := 1) ?hd (cs := #[.int .i64 a0_0, .slice A0_1 l0_1.length c0_1, .int .i64 a0_2, .int .i64 a0_3]) (t := 37) ?hr ?_; (case hd => rfl); (case hg => rfl); (case hr => first | (go_simp; done) | (go_simp; rfl)); intro gb101 hg w3 hbox hb; have n0_ := Aside0.mk (below_step (by repeat (first | (with_reducible first | exact HB.out | apply below_alloc | apply pw_below_drewN | apply below_drew1) | exact HB.out)) hb); have n1_ := Aside0.mk (hbox); have n2_ := Aside0.mk ((by rw [hg]; exact (below_size (by repeat (first | (with_reducible first | exact HB.out | apply below_alloc | apply pw_below_drewN | apply below_drew1) | exact HB.out))) : w.heap.size ≤ gb101)); have n3_ := Aside0.mk ((by rw [hg]; exact (below_size (by repeat (first | (with_reducible first | exact HB.out | apply below_alloc | apply pw_below_drewN | apply below_drew1) | exact HB.out))) : w.heap.size ≤ gb101)); clear HB; have HB := n0_; have BK101 := n1_; have GW101 := n2_; have GE101 := n3_; clear n0_ n1_ n2_ n3_; clear hb hbox hg; have hcz4_0 : w3.cell? ⟨gb101, 0, none⟩ = some (.int .i64 a0_0) := (blk_cell BK101.out 0).trans rfl; have hcz4_1 : w3.cell? ⟨gb101, 1, none⟩ = some (.slice A0_1 l0_1.length c0_1) := (blk_cell BK101.out 1).trans rfl; have hcz4_2 : w3.cell? ⟨gb101, 2, none⟩ = some (.int .i64 a0_2) := (blk_cell BK101.out 2).trans rfl; have hcz4_3 : w3.cell? ⟨gb101, 3, none⟩ = some (.int .i64 a0_3) := (blk_cell BK101.out 3).trans rfl; have hfz4_0 := blk_frozen BK101.out 0; have hfz4_1 := blk_frozen BK101.out 1; have hfz4_2 := blk_frozen BK101.out 2; have hfz4_3 := blk_frozen BK101.out 3))
    go_ret
    exact ⟨by first | rfl | (simp [errW_none, errW_some] <;> rfl) | (simp [*, errW_none, errW_some] <;> rfl), by repeat (first | (with_reducible first | exact HB.out | apply below_alloc | apply pw_below_drewN | apply below_drew1 | refine below_set ?_ GE101.out) | exact HB.out)⟩
  · rw [if_neg c2] at H
    have c2b0 : decide (40 < (l0_1.length : Int)) = false := decide_eq_false c2
    have c2b1 : decide (40 < l0_1.length) = false := decide_eq_false (by omega)
    clear c2
    have HC5 := Aside0.mk H
    clear H
    go_enter Try.func38, Try.ntmps38
    go_upto_region 3 with (first | ((with_reducible refine gate_dst (N := 1) rfl ?_); refine box_event ?hg (N := 1) ?hd (cs := #[.int .i64 a0_0, .slice A0_1 l0_1.length c0_1, .int .i64 a0_2, .int .i64 a0_3]) (t := 37) ?hr ?_; (case hd => rfl); (case hg => rfl); (case hr => first | (go_simp; done) | (go_simp; rfl)); intro gb101 hg w6 hbox hb; have n0_ := Aside0.mk (below_step (by repeat (first | (with_reducible first | exact HB.out | apply below_alloc | apply pw_below_drewN | apply below_drew1) | exact HB.out)) hb); have n1_ := Aside0.mk (hbox); have n2_ := Aside0.mk ((by rw [hg]; exact (below_size (by repeat (first | (with_reducible first | exact HB.out | apply below_alloc | apply pw_below_drewN | apply below_drew1) | exact HB.out))) : w.heap.size ≤ gb101)); have n3_ := Aside0.mk ((by rw [hg]; exact (below_size (by repeat (first | (with_reducible first | exact HB.out | apply below_alloc | apply pw_below_drewN | apply below_drew1) | exact HB.out))) : w.heap.size ≤ gb101)); clear HB; have HB := n0_; have BK101 := n1_; have GW101 := n2_; have GE101 := n3_; clear n0_ n1_ n2_ n3_; clear hb hbox hg; have hcz7_0 : w6.cell? ⟨gb101, 0, none⟩ = some (.int .i64 a0_0) := (blk_cell BK101.out 0).trans rfl; have hcz7_1 : w6.cell? ⟨gb101, 1, none⟩ = some (.slice A0_1 l0_1.length c0_1) := (blk_cell BK101.out 1).trans rfl; have hcz7_2 : w6.cell? ⟨gb101, 2, none⟩ = some (.int .i64 a0_2) := (blk_cell BK101.out 2).trans rfl; have hcz7_3 : w6.cell? ⟨gb101, 3, none⟩ = some (.int .i64 a0_3) := (blk_cell BK101.out 3).trans rfl; have hfz7_0 := blk_frozen BK101.out 0; have hfz7_1 := blk_frozen BK101.out 1; have hfz7_2 := blk_frozen BK101.out 2; have hfz7_3 := blk_frozen BK101.out 3))
    (try simp only [Act.put, List.setIfInBounds_toArray, List.set_cons_zero, List.set_cons_succ])
    go_cut [27] (fun v27 wc => ∃ (kq : Nat) (x27_4 : Bool), v27 = .bool x27_4 ∧ Aside0 (mooring_Check.j0 kq x27_4 a0_0 l0_1 a0_2 a0_3 = some r) ∧ Aside0 (kq ≤ k) ∧ Aside0 (wc.heap[gb101]? = some (.cells #[.int .i64 a0_0, (.slice A0_1 l0_1.length c0_1), .int .i64 a0_2, .int .i64 a0_3] 37 (0, 0))) ∧ Aside0 (Below w.heap.size w wc))
    case first =>
      have H := HC5.out
      clear HC5
      by_cases c8 : (l0_1.length : Int) = 0
      · rw [if_pos c8] at H
        have c8b0 : ((l0_1.length : Int) == 0) = true := beq_iff_eq.mpr c8
        have c8b1 : ((l0_1.length : Int) != 0) = false := bne_eq_false_iff_eq.mpr c8
        clear c8
        (first | rw [c8b0] | (simp only [i64_w, i32_w]; rw [c8b0]) | skip)
        have H' := Aside0.mk H
        clear H
        have hcz9_0 : w6.cell? ⟨gb101, 0, none⟩ = some (.int .i64 a0_0) := (blk_cell BK101.out 0).trans rfl
        have hcz9_1 : w6.cell? ⟨gb101, 1, none⟩ = some (.slice A0_1 l0_1.length c0_1) := (blk_cell BK101.out 1).trans rfl
        have hcz9_2 : w6.cell? ⟨gb101, 2, none⟩ = some (.int .i64 a0_2) := (blk_cell BK101.out 2).trans rfl
        have hcz9_3 : w6.cell? ⟨gb101, 3, none⟩ = some (.int .i64 a0_3) := (blk_cell BK101.out 3).trans rfl
        have hfz9_0 := blk_frozen BK101.out 0
        have hfz9_1 := blk_frozen BK101.out 1
        have hfz9_2 := blk_frozen BK101.out 2
        have hfz9_3 := blk_frozen BK101.out 3
        go_wp2
        go_meet
        case rel => exact ⟨_, (true), (by first | rfl | (simp; done) | (simp [*]; done)), H', ⟨by first | omega | exact Nat.le_refl _⟩, ⟨by (with_reducible repeat (first | refine blk_drewN ?_ _ | refine blk_drew ?_ | refine blk_alloc ?_ _)); exact BK101.out⟩, ⟨by repeat (first | (with_reducible first | exact HB.out | apply below_alloc | apply pw_below_drewN | apply below_drew1 | refine below_set ?_ GE101.out) | exact HB.out)⟩⟩
      · rw [if_neg c8] at H
        have c8b0 : ((l0_1.length : Int) == 0) = false := beq_eq_false_iff_ne.mpr c8
        have c8b1 : ((l0_1.length : Int) != 0) = true := bne_iff_ne.mpr c8
        have c8b2 : ¬ (l0_1 = []) := fun h_ => c8 (by rw [h_]; rfl)
        (first | rw [c8b0] | (simp only [i64_w, i32_w]; rw [c8b0]) | skip)
        replace H := Option.bind_eq_some_iff.mp H
        obtain ⟨t102, A100, H⟩ := H
        replace H : (if t102 = true then (mooring_Check.j0 k true a0_0 l0_1 a0_2 a0_3) else ((mooring_outside.f a0_2 0 1048576).bind fun t103 => (if t103 = true then (mooring_Check.j0 k true a0_0 l0_1 a0_2 a0_3) else ((mooring_outside.f a0_3 0 1000).bind fun t104 => (mooring_Check.j0 k t104 a0_0 l0_1 a0_2 a0_3))))) = some r := H
        have A10 := Aside0.mk A100
        clear A100
        by_cases c11 : t102 = true
        · subst c11
          have H1 : (mooring_Check.j0 k true a0_0 l0_1 a0_2 a0_3) = some r := by rw [if_pos rfl] at H; exact H
          clear H
          have H := H1
          clear H1
          have H' := Aside0.mk H
          clear H
          have hcz12_0 : w6.cell? ⟨gb101, 0, none⟩ = some (.int .i64 a0_0) := (blk_cell BK101.out 0).trans rfl
          have hcz12_1 : w6.cell? ⟨gb101, 1, none⟩ = some (.slice A0_1 l0_1.length c0_1) := (blk_cell BK101.out 1).trans rfl
          have hcz12_2 : w6.cell? ⟨gb101, 2, none⟩ = some (.int .i64 a0_2) := (blk_cell BK101.out 2).trans rfl
          have hcz12_3 : w6.cell? ⟨gb101, 3, none⟩ = some (.int .i64 a0_3) := (blk_cell BK101.out 3).trans rfl
          have hfz12_0 := blk_frozen BK101.out 0
          have hfz12_1 := blk_frozen BK101.out 1
          have hfz12_2 := blk_frozen BK101.out 2
          have hfz12_3 := blk_frozen BK101.out 3
          go_wp2_with (first | (go_at_call 75; (with_reducible refine (mooring_outside.calls a0_0 1 1048576 true _ A10.out).mono ?_); rintro e w' ⟨rfl, ⟨nd, rfl⟩⟩))
          go_meet
          case rel => exact ⟨_, (true), (by first | rfl | (simp; done) | (simp [*]; done)), H', ⟨by first | omega | exact Nat.le_refl _⟩, ⟨by (with_reducible repeat (first | refine blk_drewN ?_ _ | refine blk_drew ?_ | refine blk_alloc ?_ _)); exact BK101.out⟩, ⟨by repeat (first | (with_reducible first | exact HB.out | apply below_alloc | apply pw_below_drewN | apply below_drew1 | refine below_set ?_ GE101.out) | exact HB.out)⟩⟩
        · replace c11 := Bool.eq_false_iff.mpr c11
          subst c11
          have H1 : ((mooring_outside.f a0_2 0 1048576).bind fun t103 => (if t103 = true then (mooring_Check.j0 k true a0_0 l0_1 a0_2 a0_3) else ((mooring_outside.f a0_3 0 1000).bind fun t104 => (mooring_Check.j0 k t104 a0_0 l0_1 a0_2 a0_3)))) = some r := by rw [if_neg (show ¬ (false = true) by decide)] at H; exact H
          clear H
          have H := H1
          clear H1
          replace H := Option.bind_eq_some_iff.mp H
          obtain ⟨t103, A130, H⟩ := H
          replace H : (if t103 = true then (mooring_Check.j0 k true a0_0 l0_1 a0_2 a0_3) else ((mooring_outside.f a0_3 0 1000).bind fun t104 => (mooring_Check.j0 k t104 a0_0 l0_1 a0_2 a0_3))) = some r := H
          have A13 := Aside0.mk A130
          clear A130
          by_cases c14 : t103 = true
          · subst c14
            have H1 : (mooring_Check.j0 k true a0_0 l0_1 a0_2 a0_3) = some r := by rw [if_pos rfl] at H; exact H
            clear H
            have H := H1
            clear H1
            have H' := Aside0.mk H
            clear H
            have hcz15_0 : w6.cell? ⟨gb101, 0, none⟩ = some (.int .i64 a0_0) := (blk_cell BK101.out 0).trans rfl
            have hcz15_1 : w6.cell? ⟨gb101, 1, none⟩ = some (.slice A0_1 l0_1.length c0_1) := (blk_cell BK101.out 1).trans rfl
            have hcz15_2 : w6.cell? ⟨gb101, 2, none⟩ = some (.int .i64 a0_2) := (blk_cell BK101.out 2).trans rfl
            have hcz15_3 : w6.cell? ⟨gb101, 3, none⟩ = some (.int .i64 a0_3) := (blk_cell BK101.out 3).trans rfl
            have hfz15_0 := blk_frozen BK101.out 0
            have hfz15_1 := blk_frozen BK101.out 1
            have hfz15_2 := blk_frozen BK101.out 2
            have hfz15_3 := blk_frozen BK101.out 3
            go_wp2_with (first | (go_at_call 75; (with_reducible refine (mooring_outside.calls a0_0 1 1048576 false _ A10.out).mono ?_); rintro e w' ⟨rfl, ⟨nd, rfl⟩⟩) | (go_at_call 75; (with_reducible refine (mooring_outside.calls a0_2 0 1048576 true _ A13.out).mono ?_); rintro e w' ⟨rfl, ⟨nd, rfl⟩⟩))
            go_meet
            case rel => exact ⟨_, (true), (by first | rfl | (simp; done) | (simp [*]; done)), H', ⟨by first | omega | exact Nat.le_refl _⟩, ⟨by (with_reducible repeat (first | refine blk_drewN ?_ _ | refine blk_drew ?_ | refine blk_alloc ?_ _)); exact BK101.out⟩, ⟨by repeat (first | (with_reducible first | exact HB.out | apply below_alloc | apply pw_below_drewN | apply below_drew1 | refine below_set ?_ GE101.out) | exact HB.out)⟩⟩
          · replace c14 := Bool.eq_false_iff.mpr c14
            subst c14
            have H1 : ((mooring_outside.f a0_3 0 1000).bind fun t104 => (mooring_Check.j0 k t104 a0_0 l0_1 a0_2 a0_3)) = some r := by rw [if_neg (show ¬ (false = true) by decide)] at H; exact H
            clear H
            have H := H1
            clear H1
            replace H := Option.bind_eq_some_iff.mp H
            obtain ⟨t104, A160, H⟩ := H
            replace H : (mooring_Check.j0 k t104 a0_0 l0_1 a0_2 a0_3) = some r := H
            have A16 := Aside0.mk A160
            clear A160
            have H' := Aside0.mk H
            clear H
            have hcz17_0 : w6.cell? ⟨gb101, 0, none⟩ = some (.int .i64 a0_0) := (blk_cell BK101.out 0).trans rfl
            have hcz17_1 : w6.cell? ⟨gb101, 1, none⟩ = some (.slice A0_1 l0_1.length c0_1) := (blk_cell BK101.out 1).trans rfl
            have hcz17_2 : w6.cell? ⟨gb101, 2, none⟩ = some (.int .i64 a0_2) := (blk_cell BK101.out 2).trans rfl
            have hcz17_3 : w6.cell? ⟨gb101, 3, none⟩ = some (.int .i64 a0_3) := (blk_cell BK101.out 3).trans rfl
            have hfz17_0 := blk_frozen BK101.out 0
            have hfz17_1 := blk_frozen BK101.out 1
            have hfz17_2 := blk_frozen BK101.out 2
            have hfz17_3 := blk_frozen BK101.out 3
            go_wp2_with (first | (go_at_call 75; (with_reducible refine (mooring_outside.calls a0_0 1 1048576 false _ A10.out).mono ?_); rintro e w' ⟨rfl, ⟨nd, rfl⟩⟩) | (go_at_call 75; (with_reducible refine (mooring_outside.calls a0_2 0 1048576 false _ A13.out).mono ?_); rintro e w' ⟨rfl, ⟨nd, rfl⟩⟩) | (go_at_call 75; (with_reducible refine (mooring_outside.calls a0_3 0 1000 t104 _ A16.out).mono ?_); rintro e w' ⟨rfl, ⟨nd, rfl⟩⟩))
            go_meet
            case rel => exact ⟨_, (t104), (by first | rfl | (simp; done) | (simp [*]; done)), H', ⟨by first | omega | exact Nat.le_refl _⟩, ⟨by (with_reducible repeat (first | refine blk_drewN ?_ _ | refine blk_drew ?_ | refine blk_alloc ?_ _)); exact BK101.out⟩, ⟨by repeat (first | (with_reducible first | exact HB.out | apply below_alloc | apply pw_below_drewN | apply below_drew1 | refine below_set ?_ GE101.out) | exact HB.out)⟩⟩
    case rest =>
      clear HC5
      try clear c1
      try clear c2
      try clear c2b0
      try clear c2b1
      try clear p2
      try clear c3
      try clear c8
      try clear c8b0
      try clear c8b1
      try clear c8b2
      try clear c11
      try clear c14
      try clear hcz12_0
      try clear hcz12_1
      try clear hcz12_2
      try clear hcz12_3
      try clear hcz15_0
      try clear hcz15_1
      try clear hcz15_2
      try clear hcz15_3
      try clear hcz17_0
      try clear hcz17_1
      try clear hcz17_2
      try clear hcz17_3
      try clear hcz4_0
      try clear hcz4_1
      try clear hcz4_2
      try clear hcz4_3
      try clear hcz7_0
      try clear hcz7_1
      try clear hcz7_2
      try clear hcz7_3
      try clear hcz9_0
      try clear hcz9_1
      try clear hcz9_2
      try clear hcz9_3
      try clear hfz12_0
      try clear hfz12_1
      try clear hfz12_2
      try clear hfz12_3
      try clear hfz15_0
      try clear hfz15_1
      try clear hfz15_2
      try clear hfz15_3
      try clear hfz17_0
      try clear hfz17_1
      try clear hfz17_2
      try clear hfz17_3
      try clear hfz4_0
      try clear hfz4_1
      try clear hfz4_2
      try clear hfz4_3
      try clear hfz7_0
      try clear hfz7_1
      try clear hfz7_2
      try clear hfz7_3
      try clear hfz9_0
      try clear hfz9_1
      try clear hfz9_2
      try clear hfz9_3
      obtain ⟨kq, x27_4, rfl, HA, HJ4, BK101, HB⟩ := hcut
      cases kq with
      | zero => exact absurd HA.out (by simp [mooring_Check.j0])
      | succ kj4 =>
        have H := HA.out
        clear HA
        simp only [mooring_Check.j0] at H
        by_cases c18 : x27_4 = true
        · subst c18
          have H1 : (some 2) = some r := by rw [if_pos rfl] at H; exact H
          clear H
          have H := H1
          clear H1
          obtain rfl := Option.some.inj H
          go_wp2
          go_ret
          exact ⟨by first | rfl | (simp [errW_none, errW_some] <;> rfl) | (simp [*, errW_none, errW_some] <;> rfl), by repeat (first | (with_reducible first | exact HB.out | apply below_alloc | apply pw_below_drewN | apply below_drew1 | refine below_set ?_ GE101.out) | exact HB.out)⟩
        · replace c18 := Bool.eq_false_iff.mpr c18
          subst c18
          have H1 : (mooring_Check.l0 kj4 l0_1 (l0_1.length : Int) 0) = some r := by rw [if_neg (show ¬ (false = true) by decide)] at H; exact H
          clear H
          have H := H1
          clear H1
          have H' := Aside0.mk H
          clear H
          have hcz19_0 : wc.cell? ⟨gb101, 0, none⟩ = some (.int .i64 a0_0) := (blk_cell BK101.out 0).trans rfl
          have hcz19_1 : wc.cell? ⟨gb101, 1, none⟩ = some (.slice A0_1 l0_1.length c0_1) := (blk_cell BK101.out 1).trans rfl
          have hcz19_2 : wc.cell? ⟨gb101, 2, none⟩ = some (.int .i64 a0_2) := (blk_cell BK101.out 2).trans rfl
          have hcz19_3 : wc.cell? ⟨gb101, 3, none⟩ = some (.int .i64 a0_3) := (blk_cell BK101.out 3).trans rfl
          have hfz19_0 := blk_frozen BK101.out 0
          have hfz19_1 := blk_frozen BK101.out 1
          have hfz19_2 := blk_frozen BK101.out 2
          have hfz19_3 := blk_frozen BK101.out 3
          go_wp2
          go_loopg [31] kj4 (fun kq v31 w' => ∃ (x31_2 : Int), v31 = .int .i64 x31_2 ∧ Aside0 (mooring_Check.l0 kq l0_1 (l0_1.length : Int) x31_2 = some r) ∧ Aside0 (kq ≤ kj4) ∧ Aside0 (w'.heap[gb101]? = some (.cells #[.int .i64 a0_0, (.slice A0_1 l0_1.length c0_1), .int .i64 a0_2, .int .i64 a0_3] 37 (0, 0))) ∧ Aside0 (Below w.heap.size w w'))
          case atStart => exact ⟨(0), (by first | rfl | (simp; done) | (simp [*]; done)), H', ⟨Nat.le_refl _⟩, ⟨by (with_reducible repeat (first | refine blk_drewN ?_ _ | refine blk_drew ?_ | refine blk_alloc ?_ _)); exact BK101.out⟩, ⟨by repeat (first | (with_reducible first | exact HB.out | apply below_alloc | apply pw_below_drewN | apply below_drew1 | refine below_set ?_ GE101.out) | exact HB.out)⟩⟩
          case round =>
            clear H'
            try clear c1
            try clear c2
            try clear c2b0
            try clear c2b1
            try clear p2
            try clear c3
            try clear c8
            try clear c8b0
            try clear c8b1
            try clear c8b2
            try clear c11
            try clear c14
            try clear c18
            try clear hcz12_0
            try clear hcz12_1
            try clear hcz12_2
            try clear hcz12_3
            try clear hcz15_0
            try clear hcz15_1
            try clear hcz15_2
            try clear hcz15_3
            try clear hcz17_0
            try clear hcz17_1
            try clear hcz17_2
            try clear hcz17_3
            try clear hcz19_0
            try clear hcz19_1
            try clear hcz19_2
            try clear hcz19_3
            try clear hcz4_0
            try clear hcz4_1
            try clear hcz4_2
            try clear hcz4_3
            try clear hcz7_0
            try clear hcz7_1
            try clear hcz7_2
            try clear hcz7_3
            try clear hcz9_0
            try clear hcz9_1
            try clear hcz9_2
            try clear hcz9_3
            try clear hfz12_0
            try clear hfz12_1
            try clear hfz12_2
            try clear hfz12_3
            try clear hfz15_0
            try clear hfz15_1
            try clear hfz15_2
            try clear hfz15_3
            try clear hfz17_0
            try clear hfz17_1
            try clear hfz17_2
            try clear hfz17_3
            try clear hfz19_0
            try clear hfz19_1
            try clear hfz19_2
            try clear hfz19_3
            try clear hfz4_0
            try clear hfz4_1
            try clear hfz4_2
            try clear hfz4_3
            try clear hfz7_0
            try clear hfz7_1
            try clear hfz7_2
            try clear hfz7_3
            try clear hfz9_0
            try clear hfz9_1
            try clear hfz9_2
            try clear hfz9_3
            try clear p2
            obtain ⟨x31_2, rfl, HA, HK2, BK101, HB⟩ := hrel
            cases gk with
            | zero => exact absurd HA.out (by simp [mooring_Check.l0])
            | succ k2 =>
              have H := HA.out
              clear HA
              simp only [mooring_Check.l0] at H
              by_cases c20 : x31_2 < (l0_1.length : Int)
              · rw [if_pos c20] at H
                have c20b0 : decide (x31_2 < (l0_1.length : Int)) = true := decide_eq_true c20
                clear c20
                by_cases c21 : 0 ≤ x31_2
                · rw [if_pos c21] at H
                  have c21b0 : decide (0 ≤ x31_2) = true := decide_eq_true c21
                  clear c21
                  by_cases c22 : x31_2 < (l0_1.length : Int)
                  · rw [if_pos c22] at H
                    have c22b0 : decide (x31_2 < (l0_1.length : Int)) = true := decide_eq_true c22
                    clear c22
                    replace H := Option.bind_eq_some_iff.mp H
                    obtain ⟨t107, A230, H⟩ := H
                    replace H : (if t107 = true then (some 2) else ((mooring_outside.f ((rd_T46 l0_1 x31_2).f1) (-1048576) 1048576).bind fun t108 => (if t108 = true then (some 2) else ((mooring_outside.f ((rd_T46 l0_1 x31_2).f2) 0 65536).bind fun t109 => (if t109 = true then (some 2) else ((mooring_outside.f ((rd_T46 l0_1 x31_2).f3) 1 16777216).bind fun t110 => (if t110 = true then (some 2) else (mooring_Check.l0 k2 l0_1 (l0_1.length : Int) (wrap64 (x31_2 + 1)))))))))) = some r := H
                    have A23 := Aside0.mk A230
                    clear A230
                    by_cases c24 : t107 = true
                    · subst c24
                      have H1 : (some 2) = some r := by rw [if_pos rfl] at H; exact H
                      clear H
                      have H := H1
                      clear H1
                      obtain rfl := Option.some.inj H
                      have p105 : 0 ≤ (x31_2 : Int) := of_decide_eq_true (by first | (with_reducible assumption) | assumption)
                      have q105 : x31_2 < (l0_1.length : Int) := of_decide_eq_true (by first | (with_reducible assumption) | assumption)
                      obtain ⟨ad105, e105, hx105_0, hx105_1, hx105_2, hx105_3⟩ := at_T46 HR0_1.out x31_2 p105 q105
                      cases e105
                      replace hx105_0 := (HB.out.cell (World.block_lt_of_cell? w _ hx105_0)).trans hx105_0
                      replace hx105_1 := (HB.out.cell (World.block_lt_of_cell? w _ hx105_1)).trans hx105_1
                      replace hx105_2 := (HB.out.cell (World.block_lt_of_cell? w _ hx105_2)).trans hx105_2
                      replace hx105_3 := (HB.out.cell (World.block_lt_of_cell? w _ hx105_3)).trans hx105_3
                      replace p105 := eq_true p105
                      replace q105 := eq_true q105
                      go_wp2_with (first | ((with_reducible refine gate_dst (N := 4) rfl ?_); refine box_event ?hg (N := 4) ?hd (cs := #[.int .i64 0, .int .i64 0, .int .i64 0, .int .i64 0]) (t := 46) ?hr ?_; (case hd => rfl); (case hg => rfl); (case hr => first | (go_simp; done) | (go_simp; rfl)); intro gb106 hg w25 hbox hb; have n0_ := Aside0.mk (blk_below (g := gb101) (o := .cells #[.int .i64 a0_0, .slice (some ad105) l0_1.length c0_1, .int .i64 a0_2, .int .i64 a0_3] 37 (0, 0)) (by (with_reducible repeat (first | refine blk_drewN ?_ _ | refine blk_drew ?_ | refine blk_alloc ?_ _)); exact BK101.out) hb); have n1_ := Aside0.mk (below_step (by repeat (first | (with_reducible first | exact HB.out | apply below_alloc | apply pw_below_drewN | apply below_drew1 | refine below_set ?_ GE101.out) | exact HB.out)) hb); have n2_ := Aside0.mk (hbox); have n3_ := Aside0.mk ((by rw [hg]; exact (below_size (by repeat (first | (with_reducible first | exact HB.out | apply below_alloc | apply pw_below_drewN | apply below_drew1 | refine below_set ?_ GE101.out) | exact HB.out))) : w.heap.size ≤ gb106)); have n4_ := Aside0.mk ((by rw [hg]; exact (below_size (by repeat (first | (with_reducible first | exact HB.out | apply below_alloc | apply pw_below_drewN | apply below_drew1 | refine below_set ?_ GE101.out) | exact HB.out))) : w.heap.size ≤ gb106)); have n5_ := Aside0.mk ((by rw [hg]; exact Nat.ne_of_lt (blk_lt (g := gb101) (o := .cells #[.int .i64 a0_0, .slice (some ad105) l0_1.length c0_1, .int .i64 a0_2, .int .i64 a0_3] 37 (0, 0)) (by (with_reducible repeat (first | refine blk_drewN ?_ _ | refine blk_drew ?_ | refine blk_alloc ?_ _)); exact BK101.out)) : gb101 ≠ gb106)); have n6_ := Aside0.mk ((by rw [hg]; exact Nat.ne_of_gt (blk_lt (g := gb101) (o := .cells #[.int .i64 a0_0, .slice (some ad105) l0_1.length c0_1, .int .i64 a0_2, .int .i64 a0_3] 37 (0, 0)) (by (with_reducible repeat (first | refine blk_drewN ?_ _ | refine blk_drew ?_ | refine blk_alloc ?_ _)); exact BK101.out)) : gb106 ≠ gb101)); clear BK101; clear HB; have BK101 := n0_; have HB := n1_; have BK106 := n2_; have GW106 := n3_; have GE106 := n4_; have NB101_106 := n5_; have NB106_101 := n6_; clear n0_ n1_ n2_ n3_ n4_ n5_ n6_; clear hb hbox hg; have hnb26 := NB106_101.out; have hnc26 := NB101_106.out; have hcz27_0 : w25.cell? ⟨gb106, 0, none⟩ = some (.int .i64 0) := (blk_cell BK106.out 0).trans rfl; have hcz27_1 : w25.cell? ⟨gb106, 1, none⟩ = some (.int .i64 0) := (blk_cell BK106.out 1).trans rfl; have hcz27_2 : w25.cell? ⟨gb106, 2, none⟩ = some (.int .i64 0) := (blk_cell BK106.out 2).trans rfl; have hcz27_3 : w25.cell? ⟨gb106, 3, none⟩ = some (.int .i64 0) := (blk_cell BK106.out 3).trans rfl; have hfz27_0 := blk_frozen BK106.out 0; have hfz27_1 := blk_frozen BK106.out 1; have hfz27_2 := blk_frozen BK106.out 2; have hfz27_3 := blk_frozen BK106.out 3) | ((with_reducible refine gate_callee (f := 75) rfl ?_); refine goesL_ (some 37) rfl rfl Try.func75 (by kernel_rfl) rfl #[.int .i64 ((rd_T46 l0_1 x31_2).f0), .int .i64 0, .int .i64 1048576] rfl (by (try simp only [List.map_toArray, List.map_cons, List.map_nil]); first | done | rfl | (simp only [List.length_drop, List.length_take]; rfl)) ?_; (with_reducible refine (mooring_outside.calls ((rd_T46 l0_1 x31_2).f0) 0 1048576 true _ A23.out).mono ?_); rintro e w' ⟨rfl, ⟨nd, rfl⟩⟩; refine ⟨_, rfl, ?_⟩))
                      go_ret
                      exact ⟨by first | rfl | (simp [errW_none, errW_some] <;> rfl) | (simp [*, errW_none, errW_some] <;> rfl), by repeat (first | (with_reducible first | exact HB.out | apply below_alloc | apply pw_below_drewN | apply below_drew1 | refine below_set ?_ GE101.out | refine below_set ?_ GE106.out) | exact HB.out)⟩
                    · replace c24 := Bool.eq_false_iff.mpr c24
                      subst c24
                      have H1 : ((mooring_outside.f ((rd_T46 l0_1 x31_2).f1) (-1048576) 1048576).bind fun t108 => (if t108 = true then (some 2) else ((mooring_outside.f ((rd_T46 l0_1 x31_2).f2) 0 65536).bind fun t109 => (if t109 = true then (some 2) else ((mooring_outside.f ((rd_T46 l0_1 x31_2).f3) 1 16777216).bind fun t110 => (if t110 = true then (some 2) else (mooring_Check.l0 k2 l0_1 (l0_1.length : Int) (wrap64 (x31_2 + 1))))))))) = some r := by rw [if_neg (show ¬ (false = true) by decide)] at H; exact H
                      clear H
                      have H := H1
                      clear H1
                      replace H := Option.bind_eq_some_iff.mp H
                      obtain ⟨t108, A280, H⟩ := H
                      replace H : (if t108 = true then (some 2) else ((mooring_outside.f ((rd_T46 l0_1 x31_2).f2) 0 65536).bind fun t109 => (if t109 = true then (some 2) else ((mooring_outside.f ((rd_T46 l0_1 x31_2).f3) 1 16777216).bind fun t110 => (if t110 = true then (some 2) else (mooring_Check.l0 k2 l0_1 (l0_1.length : Int) (wrap64 (x31_2 + 1)))))))) = some r := H
                      have A28 := Aside0.mk A280
                      clear A280
                      by_cases c29 : t108 = true
                      · subst c29
                        have H1 : (some 2) = some r := by rw [if_pos rfl] at H; exact H
                        clear H
                        have H := H1
                        clear H1
                        obtain rfl := Option.some.inj H
                        have p105 : 0 ≤ (x31_2 : Int) := of_decide_eq_true (by first | (with_reducible assumption) | assumption)
                        have q105 : x31_2 < (l0_1.length : Int) := of_decide_eq_true (by first | (with_reducible assumption) | assumption)
                        obtain ⟨ad105, e105, hx105_0, hx105_1, hx105_2, hx105_3⟩ := at_T46 HR0_1.out x31_2 p105 q105
                        cases e105
                        replace hx105_0 := (HB.out.cell (World.block_lt_of_cell? w _ hx105_0)).trans hx105_0
                        replace hx105_1 := (HB.out.cell (World.block_lt_of_cell? w _ hx105_1)).trans hx105_1
                        replace hx105_2 := (HB.out.cell (World.block_lt_of_cell? w _ hx105_2)).trans hx105_2
                        replace hx105_3 := (HB.out.cell (World.block_lt_of_cell? w _ hx105_3)).trans hx105_3
                        replace p105 := eq_true p105
                        replace q105 := eq_true q105
                        go_wp2_with (first | ((with_reducible refine gate_dst (N := 4) rfl ?_); refine box_event ?hg (N := 4) ?hd (cs := #[.int .i64 0, .int .i64 0, .int .i64 0, .int .i64 0]) (t := 46) ?hr ?_; (case hd => rfl); (case hg => rfl); (case hr => first | (go_simp; done) | (go_simp; rfl)); intro gb106 hg w30 hbox hb; have n0_ := Aside0.mk (blk_below (g := gb101) (o := .cells #[.int .i64 a0_0, .slice (some ad105) l0_1.length c0_1, .int .i64 a0_2, .int .i64 a0_3] 37 (0, 0)) (by (with_reducible repeat (first | refine blk_drewN ?_ _ | refine blk_drew ?_ | refine blk_alloc ?_ _)); exact BK101.out) hb); have n1_ := Aside0.mk (below_step (by repeat (first | (with_reducible first | exact HB.out | apply below_alloc | apply pw_below_drewN | apply below_drew1 | refine below_set ?_ GE101.out) | exact HB.out)) hb); have n2_ := Aside0.mk (hbox); have n3_ := Aside0.mk ((by rw [hg]; exact (below_size (by repeat (first | (with_reducible first | exact HB.out | apply below_alloc | apply pw_below_drewN | apply below_drew1 | refine below_set ?_ GE101.out) | exact HB.out))) : w.heap.size ≤ gb106)); have n4_ := Aside0.mk ((by rw [hg]; exact (below_size (by repeat (first | (with_reducible first | exact HB.out | apply below_alloc | apply pw_below_drewN | apply below_drew1 | refine below_set ?_ GE101.out) | exact HB.out))) : w.heap.size ≤ gb106)); have n5_ := Aside0.mk ((by rw [hg]; exact Nat.ne_of_lt (blk_lt (g := gb101) (o := .cells #[.int .i64 a0_0, .slice (some ad105) l0_1.length c0_1, .int .i64 a0_2, .int .i64 a0_3] 37 (0, 0)) (by (with_reducible repeat (first | refine blk_drewN ?_ _ | refine blk_drew ?_ | refine blk_alloc ?_ _)); exact BK101.out)) : gb101 ≠ gb106)); have n6_ := Aside0.mk ((by rw [hg]; exact Nat.ne_of_gt (blk_lt (g := gb101) (o := .cells #[.int .i64 a0_0, .slice (some ad105) l0_1.length c0_1, .int .i64 a0_2, .int .i64 a0_3] 37 (0, 0)) (by (with_reducible repeat (first | refine blk_drewN ?_ _ | refine blk_drew ?_ | refine blk_alloc ?_ _)); exact BK101.out)) : gb106 ≠ gb101)); clear BK101; clear HB; have BK101 := n0_; have HB := n1_; have BK106 := n2_; have GW106 := n3_; have GE106 := n4_; have NB101_106 := n5_; have NB106_101 := n6_; clear n0_ n1_ n2_ n3_ n4_ n5_ n6_; clear hb hbox hg; have hnb31 := NB106_101.out; have hnc31 := NB101_106.out; have hcz32_0 : w30.cell? ⟨gb106, 0, none⟩ = some (.int .i64 0) := (blk_cell BK106.out 0).trans rfl; have hcz32_1 : w30.cell? ⟨gb106, 1, none⟩ = some (.int .i64 0) := (blk_cell BK106.out 1).trans rfl; have hcz32_2 : w30.cell? ⟨gb106, 2, none⟩ = some (.int .i64 0) := (blk_cell BK106.out 2).trans rfl; have hcz32_3 : w30.cell? ⟨gb106, 3, none⟩ = some (.int .i64 0) := (blk_cell BK106.out 3).trans rfl; have hfz32_0 := blk_frozen BK106.out 0; have hfz32_1 := blk_frozen BK106.out 1; have hfz32_2 := blk_frozen BK106.out 2; have hfz32_3 := blk_frozen BK106.out 3) | ((with_reducible refine gate_callee (f := 75) rfl ?_); refine goesL_ (some 37) rfl rfl Try.func75 (by kernel_rfl) rfl #[.int .i64 ((rd_T46 l0_1 x31_2).f0), .int .i64 0, .int .i64 1048576] rfl (by (try simp only [List.map_toArray, List.map_cons, List.map_nil]); first | done | rfl | (simp only [List.length_drop, List.length_take]; rfl)) ?_; (with_reducible refine (mooring_outside.calls ((rd_T46 l0_1 x31_2).f0) 0 1048576 false _ A23.out).mono ?_); rintro e w' ⟨rfl, ⟨nd, rfl⟩⟩; refine ⟨_, rfl, ?_⟩) | (go_at_call 75; (with_reducible refine (mooring_outside.calls ((rd_T46 l0_1 x31_2).f1) (-1048576) 1048576 true _ A28.out).mono ?_); rintro e w' ⟨rfl, ⟨nd, rfl⟩⟩))
                        go_ret
                        exact ⟨by first | rfl | (simp [errW_none, errW_some] <;> rfl) | (simp [*, errW_none, errW_some] <;> rfl), by repeat (first | (with_reducible first | exact HB.out | apply below_alloc | apply pw_below_drewN | apply below_drew1 | refine below_set ?_ GE101.out | refine below_set ?_ GE106.out) | exact HB.out)⟩
                      · replace c29 := Bool.eq_false_iff.mpr c29
                        subst c29
                        have H1 : ((mooring_outside.f ((rd_T46 l0_1 x31_2).f2) 0 65536).bind fun t109 => (if t109 = true then (some 2) else ((mooring_outside.f ((rd_T46 l0_1 x31_2).f3) 1 16777216).bind fun t110 => (if t110 = true then (some 2) else (mooring_Check.l0 k2 l0_1 (l0_1.length : Int) (wrap64 (x31_2 + 1))))))) = some r := by rw [if_neg (show ¬ (false = true) by decide)] at H; exact H
                        clear H
                        have H := H1
                        clear H1
                        replace H := Option.bind_eq_some_iff.mp H
                        obtain ⟨t109, A330, H⟩ := H
                        replace H : (if t109 = true then (some 2) else ((mooring_outside.f ((rd_T46 l0_1 x31_2).f3) 1 16777216).bind fun t110 => (if t110 = true then (some 2) else (mooring_Check.l0 k2 l0_1 (l0_1.length : Int) (wrap64 (x31_2 + 1)))))) = some r := H
                        have A33 := Aside0.mk A330
                        clear A330
                        by_cases c34 : t109 = true
                        · subst c34
                          have H1 : (some 2) = some r := by rw [if_pos rfl] at H; exact H
                          clear H
                          have H := H1
                          clear H1
                          obtain rfl := Option.some.inj H
                          have p105 : 0 ≤ (x31_2 : Int) := of_decide_eq_true (by first | (with_reducible assumption) | assumption)
                          have q105 : x31_2 < (l0_1.length : Int) := of_decide_eq_true (by first | (with_reducible assumption) | assumption)
                          obtain ⟨ad105, e105, hx105_0, hx105_1, hx105_2, hx105_3⟩ := at_T46 HR0_1.out x31_2 p105 q105
                          cases e105
                          replace hx105_0 := (HB.out.cell (World.block_lt_of_cell? w _ hx105_0)).trans hx105_0
                          replace hx105_1 := (HB.out.cell (World.block_lt_of_cell? w _ hx105_1)).trans hx105_1
                          replace hx105_2 := (HB.out.cell (World.block_lt_of_cell? w _ hx105_2)).trans hx105_2
                          replace hx105_3 := (HB.out.cell (World.block_lt_of_cell? w _ hx105_3)).trans hx105_3
                          replace p105 := eq_true p105
                          replace q105 := eq_true q105
                          go_wp2_with (first | ((with_reducible refine gate_dst (N := 4) rfl ?_); refine box_event ?hg (N := 4) ?hd (cs := #[.int .i64 0, .int .i64 0, .int .i64 0, .int .i64 0]) (t := 46) ?hr ?_; (case hd => rfl); (case hg => rfl); (case hr => first | (go_simp; done) | (go_simp; rfl)); intro gb106 hg w35 hbox hb; have n0_ := Aside0.mk (blk_below (g := gb101) (o := .cells #[.int .i64 a0_0, .slice (some ad105) l0_1.length c0_1, .int .i64 a0_2, .int .i64 a0_3] 37 (0, 0)) (by (with_reducible repeat (first | refine blk_drewN ?_ _ | refine blk_drew ?_ | refine blk_alloc ?_ _)); exact BK101.out) hb); have n1_ := Aside0.mk (below_step (by repeat (first | (with_reducible first | exact HB.out | apply below_alloc | apply pw_below_drewN | apply below_drew1 | refine below_set ?_ GE101.out) | exact HB.out)) hb); have n2_ := Aside0.mk (hbox); have n3_ := Aside0.mk ((by rw [hg]; exact (below_size (by repeat (first | (with_reducible first | exact HB.out | apply below_alloc | apply pw_below_drewN | apply below_drew1 | refine below_set ?_ GE101.out) | exact HB.out))) : w.heap.size ≤ gb106)); have n4_ := Aside0.mk ((by rw [hg]; exact (below_size (by repeat (first | (with_reducible first | exact HB.out | apply below_alloc | apply pw_below_drewN | apply below_drew1 | refine below_set ?_ GE101.out) | exact HB.out))) : w.heap.size ≤ gb106)); have n5_ := Aside0.mk ((by rw [hg]; exact Nat.ne_of_lt (blk_lt (g := gb101) (o := .cells #[.int .i64 a0_0, .slice (some ad105) l0_1.length c0_1, .int .i64 a0_2, .int .i64 a0_3] 37 (0, 0)) (by (with_reducible repeat (first | refine blk_drewN ?_ _ | refine blk_drew ?_ | refine blk_alloc ?_ _)); exact BK101.out)) : gb101 ≠ gb106)); have n6_ := Aside0.mk ((by rw [hg]; exact Nat.ne_of_gt (blk_lt (g := gb101) (o := .cells #[.int .i64 a0_0, .slice (some ad105) l0_1.length c0_1, .int .i64 a0_2, .int .i64 a0_3] 37 (0, 0)) (by (with_reducible repeat (first | refine blk_drewN ?_ _ | refine blk_drew ?_ | refine blk_alloc ?_ _)); exact BK101.out)) : gb106 ≠ gb101)); clear BK101; clear HB; have BK101 := n0_; have HB := n1_; have BK106 := n2_; have GW106 := n3_; have GE106 := n4_; have NB101_106 := n5_; have NB106_101 := n6_; clear n0_ n1_ n2_ n3_ n4_ n5_ n6_; clear hb hbox hg; have hnb36 := NB106_101.out; have hnc36 := NB101_106.out; have hcz37_0 : w35.cell? ⟨gb106, 0, none⟩ = some (.int .i64 0) := (blk_cell BK106.out 0).trans rfl; have hcz37_1 : w35.cell? ⟨gb106, 1, none⟩ = some (.int .i64 0) := (blk_cell BK106.out 1).trans rfl; have hcz37_2 : w35.cell? ⟨gb106, 2, none⟩ = some (.int .i64 0) := (blk_cell BK106.out 2).trans rfl; have hcz37_3 : w35.cell? ⟨gb106, 3, none⟩ = some (.int .i64 0) := (blk_cell BK106.out 3).trans rfl; have hfz37_0 := blk_frozen BK106.out 0; have hfz37_1 := blk_frozen BK106.out 1; have hfz37_2 := blk_frozen BK106.out 2; have hfz37_3 := blk_frozen BK106.out 3) | ((with_reducible refine gate_callee (f := 75) rfl ?_); refine goesL_ (some 37) rfl rfl Try.func75 (by kernel_rfl) rfl #[.int .i64 ((rd_T46 l0_1 x31_2).f0), .int .i64 0, .int .i64 1048576] rfl (by (try simp only [List.map_toArray, List.map_cons, List.map_nil]); first | done | rfl | (simp only [List.length_drop, List.length_take]; rfl)) ?_; (with_reducible refine (mooring_outside.calls ((rd_T46 l0_1 x31_2).f0) 0 1048576 false _ A23.out).mono ?_); rintro e w' ⟨rfl, ⟨nd, rfl⟩⟩; refine ⟨_, rfl, ?_⟩) | (go_at_call 75; (with_reducible refine (mooring_outside.calls ((rd_T46 l0_1 x31_2).f1) (-1048576) 1048576 false _ A28.out).mono ?_); rintro e w' ⟨rfl, ⟨nd, rfl⟩⟩) | (go_at_call 75; (with_reducible refine (mooring_outside.calls ((rd_T46 l0_1 x31_2).f2) 0 65536 true _ A33.out).mono ?_); rintro e w' ⟨rfl, ⟨nd, rfl⟩⟩))
                          go_ret
                          exact ⟨by first | rfl | (simp [errW_none, errW_some] <;> rfl) | (simp [*, errW_none, errW_some] <;> rfl), by repeat (first | (with_reducible first | exact HB.out | apply below_alloc | apply pw_below_drewN | apply below_drew1 | refine below_set ?_ GE101.out | refine below_set ?_ GE106.out) | exact HB.out)⟩
                        · replace c34 := Bool.eq_false_iff.mpr c34
                          subst c34
                          have H1 : ((mooring_outside.f ((rd_T46 l0_1 x31_2).f3) 1 16777216).bind fun t110 => (if t110 = true then (some 2) else (mooring_Check.l0 k2 l0_1 (l0_1.length : Int) (wrap64 (x31_2 + 1))))) = some r := by rw [if_neg (show ¬ (false = true) by decide)] at H; exact H
                          clear H
                          have H := H1
                          clear H1
                          replace H := Option.bind_eq_some_iff.mp H
                          obtain ⟨t110, A380, H⟩ := H
                          replace H : (if t110 = true then (some 2) else (mooring_Check.l0 k2 l0_1 (l0_1.length : Int) (wrap64 (x31_2 + 1)))) = some r := H
                          have A38 := Aside0.mk A380
                          clear A380
                          by_cases c39 : t110 = true
                          · subst c39
                            have H1 : (some 2) = some r := by rw [if_pos rfl] at H; exact H
                            clear H
                            have H := H1
                            clear H1
                            obtain rfl := Option.some.inj H
                            have p105 : 0 ≤ (x31_2 : Int) := of_decide_eq_true (by first | (with_reducible assumption) | assumption)
                            have q105 : x31_2 < (l0_1.length : Int) := of_decide_eq_true (by first | (with_reducible assumption) | assumption)
                            obtain ⟨ad105, e105, hx105_0, hx105_1, hx105_2, hx105_3⟩ := at_T46 HR0_1.out x31_2 p105 q105
                            cases e105
                            replace hx105_0 := (HB.out.cell (World.block_lt_of_cell? w _ hx105_0)).trans hx105_0
                            replace hx105_1 := (HB.out.cell (World.block_lt_of_cell? w _ hx105_1)).trans hx105_1
                            replace hx105_2 := (HB.out.cell (World.block_lt_of_cell? w _ hx105_2)).trans hx105_2
                            replace hx105_3 := (HB.out.cell (World.block_lt_of_cell? w _ hx105_3)).trans hx105_3
                            replace p105 := eq_true p105
                            replace q105 := eq_true q105
                            go_wp2_with (first | ((with_reducible refine gate_dst (N := 4) rfl ?_); refine box_event ?hg (N := 4) ?hd (cs := #[.int .i64 0, .int .i64 0, .int .i64 0, .int .i64 0]) (t := 46) ?hr ?_; (case hd => rfl); (case hg => rfl); (case hr => first | (go_simp; done) | (go_simp; rfl)); intro gb106 hg w40 hbox hb; have n0_ := Aside0.mk (blk_below (g := gb101) (o := .cells #[.int .i64 a0_0, .slice (some ad105) l0_1.length c0_1, .int .i64 a0_2, .int .i64 a0_3] 37 (0, 0)) (by (with_reducible repeat (first | refine blk_drewN ?_ _ | refine blk_drew ?_ | refine blk_alloc ?_ _)); exact BK101.out) hb); have n1_ := Aside0.mk (below_step (by repeat (first | (with_reducible first | exact HB.out | apply below_alloc | apply pw_below_drewN | apply below_drew1 | refine below_set ?_ GE101.out) | exact HB.out)) hb); have n2_ := Aside0.mk (hbox); have n3_ := Aside0.mk ((by rw [hg]; exact (below_size (by repeat (first | (with_reducible first | exact HB.out | apply below_alloc | apply pw_below_drewN | apply below_drew1 | refine below_set ?_ GE101.out) | exact HB.out))) : w.heap.size ≤ gb106)); have n4_ := Aside0.mk ((by rw [hg]; exact (below_size (by repeat (first | (with_reducible first | exact HB.out | apply below_alloc | apply pw_below_drewN | apply below_drew1 | refine below_set ?_ GE101.out) | exact HB.out))) : w.heap.size ≤ gb106)); have n5_ := Aside0.mk ((by rw [hg]; exact Nat.ne_of_lt (blk_lt (g := gb101) (o := .cells #[.int .i64 a0_0, .slice (some ad105) l0_1.length c0_1, .int .i64 a0_2, .int .i64 a0_3] 37 (0, 0)) (by (with_reducible repeat (first | refine blk_drewN ?_ _ | refine blk_drew ?_ | refine blk_alloc ?_ _)); exact BK101.out)) : gb101 ≠ gb106)); have n6_ := Aside0.mk ((by rw [hg]; exact Nat.ne_of_gt (blk_lt (g := gb101) (o := .cells #[.int .i64 a0_0, .slice (some ad105) l0_1.length c0_1, .int .i64 a0_2, .int .i64 a0_3] 37 (0, 0)) (by (with_reducible repeat (first | refine blk_drewN ?_ _ | refine blk_drew ?_ | refine blk_alloc ?_ _)); exact BK101.out)) : gb106 ≠ gb101)); clear BK101; clear HB; have BK101 := n0_; have HB := n1_; have BK106 := n2_; have GW106 := n3_; have GE106 := n4_; have NB101_106 := n5_; have NB106_101 := n6_; clear n0_ n1_ n2_ n3_ n4_ n5_ n6_; clear hb hbox hg; have hnb41 := NB106_101.out; have hnc41 := NB101_106.out; have hcz42_0 : w40.cell? ⟨gb106, 0, none⟩ = some (.int .i64 0) := (blk_cell BK106.out 0).trans rfl; have hcz42_1 : w40.cell? ⟨gb106, 1, none⟩ = some (.int .i64 0) := (blk_cell BK106.out 1).trans rfl; have hcz42_2 : w40.cell? ⟨gb106, 2, none⟩ = some (.int .i64 0) := (blk_cell BK106.out 2).trans rfl; have hcz42_3 : w40.cell? ⟨gb106, 3, none⟩ = some (.int .i64 0) := (blk_cell BK106.out 3).trans rfl; have hfz42_0 := blk_frozen BK106.out 0; have hfz42_1 := blk_frozen BK106.out 1; have hfz42_2 := blk_frozen BK106.out 2; have hfz42_3 := blk_frozen BK106.out 3) | ((with_reducible refine gate_callee (f := 75) rfl ?_); refine goesL_ (some 37) rfl rfl Try.func75 (by kernel_rfl) rfl #[.int .i64 ((rd_T46 l0_1 x31_2).f0), .int .i64 0, .int .i64 1048576] rfl (by (try simp only [List.map_toArray, List.map_cons, List.map_nil]); first | done | rfl | (simp only [List.length_drop, List.length_take]; rfl)) ?_; (with_reducible refine (mooring_outside.calls ((rd_T46 l0_1 x31_2).f0) 0 1048576 false _ A23.out).mono ?_); rintro e w' ⟨rfl, ⟨nd, rfl⟩⟩; refine ⟨_, rfl, ?_⟩) | (go_at_call 75; (with_reducible refine (mooring_outside.calls ((rd_T46 l0_1 x31_2).f1) (-1048576) 1048576 false _ A28.out).mono ?_); rintro e w' ⟨rfl, ⟨nd, rfl⟩⟩) | (go_at_call 75; (with_reducible refine (mooring_outside.calls ((rd_T46 l0_1 x31_2).f2) 0 65536 false _ A33.out).mono ?_); rintro e w' ⟨rfl, ⟨nd, rfl⟩⟩) | (go_at_call 75; (with_reducible refine (mooring_outside.calls ((rd_T46 l0_1 x31_2).f3) 1 16777216 true _ A38.out).mono ?_); rintro e w' ⟨rfl, ⟨nd, rfl⟩⟩))
                            go_ret
                            exact ⟨by first | rfl | (simp [errW_none, errW_some] <;> rfl) | (simp [*, errW_none, errW_some] <;> rfl), by repeat (first | (with_reducible first | exact HB.out | apply below_alloc | apply pw_below_drewN | apply below_drew1 | refine below_set ?_ GE101.out | refine below_set ?_ GE106.out) | exact HB.out)⟩
                          · replace c39 := Bool.eq_false_iff.mpr c39
                            subst c39
                            have H1 : (mooring_Check.l0 k2 l0_1 (l0_1.length : Int) (wrap64 (x31_2 + 1))) = some r := by rw [if_neg (show ¬ (false = true) by decide)] at H; exact H
                            clear H
                            have H := H1
                            clear H1
                            have H' := Aside0.mk H
                            clear H
                            have p105 : 0 ≤ (x31_2 : Int) := of_decide_eq_true (by first | (with_reducible assumption) | assumption)
                            have q105 : x31_2 < (l0_1.length : Int) := of_decide_eq_true (by first | (with_reducible assumption) | assumption)
                            obtain ⟨ad105, e105, hx105_0, hx105_1, hx105_2, hx105_3⟩ := at_T46 HR0_1.out x31_2 p105 q105
                            cases e105
                            replace hx105_0 := (HB.out.cell (World.block_lt_of_cell? w _ hx105_0)).trans hx105_0
                            replace hx105_1 := (HB.out.cell (World.block_lt_of_cell? w _ hx105_1)).trans hx105_1
                            replace hx105_2 := (HB.out.cell (World.block_lt_of_cell? w _ hx105_2)).trans hx105_2
                            replace hx105_3 := (HB.out.cell (World.block_lt_of_cell? w _ hx105_3)).trans hx105_3
                            replace p105 := eq_true p105
                            replace q105 := eq_true q105
                            go_wp2_with (first | ((with_reducible refine gate_dst (N := 4) rfl ?_); refine box_event ?hg (N := 4) ?hd (cs := #[.int .i64 0, .int .i64 0, .int .i64 0, .int .i64 0]) (t := 46) ?hr ?_; (case hd => rfl); (case hg => rfl); (case hr => first | (go_simp; done) | (go_simp; rfl)); intro gb106 hg w43 hbox hb; have n0_ := Aside0.mk (blk_below (g := gb101) (o := .cells #[.int .i64 a0_0, .slice (some ad105) l0_1.length c0_1, .int .i64 a0_2, .int .i64 a0_3] 37 (0, 0)) (by (with_reducible repeat (first | refine blk_drewN ?_ _ | refine blk_drew ?_ | refine blk_alloc ?_ _)); exact BK101.out) hb); have n1_ := Aside0.mk (below_step (by repeat (first | (with_reducible first | exact HB.out | apply below_alloc | apply pw_below_drewN | apply below_drew1 | refine below_set ?_ GE101.out) | exact HB.out)) hb); have n2_ := Aside0.mk (hbox); have n3_ := Aside0.mk ((by rw [hg]; exact (below_size (by repeat (first | (with_reducible first | exact HB.out | apply below_alloc | apply pw_below_drewN | apply below_drew1 | refine below_set ?_ GE101.out) | exact HB.out))) : w.heap.size ≤ gb106)); have n4_ := Aside0.mk ((by rw [hg]; exact (below_size (by repeat (first | (with_reducible first | exact HB.out | apply below_alloc | apply pw_below_drewN | apply below_drew1 | refine below_set ?_ GE101.out) | exact HB.out))) : w.heap.size ≤ gb106)); have n5_ := Aside0.mk ((by rw [hg]; exact Nat.ne_of_lt (blk_lt (g := gb101) (o := .cells #[.int .i64 a0_0, .slice (some ad105) l0_1.length c0_1, .int .i64 a0_2, .int .i64 a0_3] 37 (0, 0)) (by (with_reducible repeat (first | refine blk_drewN ?_ _ | refine blk_drew ?_ | refine blk_alloc ?_ _)); exact BK101.out)) : gb101 ≠ gb106)); have n6_ := Aside0.mk ((by rw [hg]; exact Nat.ne_of_gt (blk_lt (g := gb101) (o := .cells #[.int .i64 a0_0, .slice (some ad105) l0_1.length c0_1, .int .i64 a0_2, .int .i64 a0_3] 37 (0, 0)) (by (with_reducible repeat (first | refine blk_drewN ?_ _ | refine blk_drew ?_ | refine blk_alloc ?_ _)); exact BK101.out)) : gb106 ≠ gb101)); clear BK101; clear HB; have BK101 := n0_; have HB := n1_; have BK106 := n2_; have GW106 := n3_; have GE106 := n4_; have NB101_106 := n5_; have NB106_101 := n6_; clear n0_ n1_ n2_ n3_ n4_ n5_ n6_; clear hb hbox hg; have hnb44 := NB106_101.out; have hnc44 := NB101_106.out; have hcz45_0 : w43.cell? ⟨gb106, 0, none⟩ = some (.int .i64 0) := (blk_cell BK106.out 0).trans rfl; have hcz45_1 : w43.cell? ⟨gb106, 1, none⟩ = some (.int .i64 0) := (blk_cell BK106.out 1).trans rfl; have hcz45_2 : w43.cell? ⟨gb106, 2, none⟩ = some (.int .i64 0) := (blk_cell BK106.out 2).trans rfl; have hcz45_3 : w43.cell? ⟨gb106, 3, none⟩ = some (.int .i64 0) := (blk_cell BK106.out 3).trans rfl; have hfz45_0 := blk_frozen BK106.out 0; have hfz45_1 := blk_frozen BK106.out 1; have hfz45_2 := blk_frozen BK106.out 2; have hfz45_3 := blk_frozen BK106.out 3) | ((with_reducible refine gate_callee (f := 75) rfl ?_); refine goesL_ (some 37) rfl rfl Try.func75 (by kernel_rfl) rfl #[.int .i64 ((rd_T46 l0_1 x31_2).f0), .int .i64 0, .int .i64 1048576] rfl (by (try simp only [List.map_toArray, List.map_cons, List.map_nil]); first | done | rfl | (simp only [List.length_drop, List.length_take]; rfl)) ?_; (with_reducible refine (mooring_outside.calls ((rd_T46 l0_1 x31_2).f0) 0 1048576 false _ A23.out).mono ?_); rintro e w' ⟨rfl, ⟨nd, rfl⟩⟩; refine ⟨_, rfl, ?_⟩) | (go_at_call 75; (with_reducible refine (mooring_outside.calls ((rd_T46 l0_1 x31_2).f1) (-1048576) 1048576 false _ A28.out).mono ?_); rintro e w' ⟨rfl, ⟨nd, rfl⟩⟩) | (go_at_call 75; (with_reducible refine (mooring_outside.calls ((rd_T46 l0_1 x31_2).f2) 0 65536 false _ A33.out).mono ?_); rintro e w' ⟨rfl, ⟨nd, rfl⟩⟩) | (go_at_call 75; (with_reducible refine (mooring_outside.calls ((rd_T46 l0_1 x31_2).f3) 1 16777216 false _ A38.out).mono ?_); rintro e w' ⟨rfl, ⟨nd, rfl⟩⟩))
                            go_roundg k2
                            case measure => have := HJ4.out; have := HK2.out; omega
                            case rel => exact ⟨(wrap64 (x31_2 + 1)), (by first | rfl | (simp; done) | (simp [*]; done)), H', ⟨by have := HJ4.out; have := HK2.out; omega⟩, ⟨by (with_reducible repeat (first | refine blk_drewN ?_ _ | refine blk_drew ?_ | refine blk_alloc ?_ _)); refine blk_far ?_ NB101_106.out _; (with_reducible repeat (first | refine blk_drewN ?_ _ | refine blk_drew ?_ | refine blk_alloc ?_ _)); refine blk_far ?_ NB101_106.out _; (with_reducible repeat (first | refine blk_drewN ?_ _ | refine blk_drew ?_ | refine blk_alloc ?_ _)); refine blk_far ?_ NB101_106.out _; (with_reducible repeat (first | refine blk_drewN ?_ _ | refine blk_drew ?_ | refine blk_alloc ?_ _)); refine blk_far ?_ NB101_106.out _; (with_reducible repeat (first | refine blk_drewN ?_ _ | refine blk_drew ?_ | refine blk_alloc ?_ _)); exact BK101.out⟩, ⟨by repeat (first | (with_reducible first | exact HB.out | apply below_alloc | apply pw_below_drewN | apply below_drew1 | refine below_set ?_ GE101.out | refine below_set ?_ GE106.out) | exact HB.out)⟩⟩
                  · rw [if_neg c22] at H
                    exact absurd H (by simp)
                · rw [if_neg c21] at H
                  exact absurd H (by simp)
              · rw [if_neg c20] at H
                have c20b0 : decide (x31_2 < (l0_1.length : Int)) = false := decide_eq_false c20
                clear c20
                obtain rfl := Option.some.inj H
                go_wp2
                go_ret
                exact ⟨by first | rfl | (simp [errW_none, errW_some] <;> rfl) | (simp [*, errW_none, errW_some] <;> rfl), by repeat (first | (with_reducible first | exact HB.out | apply below_alloc | apply pw_below_drewN | apply below_drew1 | refine below_set ?_ GE101.out) | exact HB.out)⟩

end Go.Proofs.Ytebcmhajbjkojaa.P

namespace Go.Proofs.Ytebcmhajbjkojaa.P
open Go.RowKit Go.Proofs.YtebcmhajbjkojaaW.PrintWords Go.Proofs.YtebcmhajbjkojaaW.PrintLast Go.Proofs.YtebcmhajbjkojaaW.PrintMore
attribute [local go_sem] max2_int min2_int max_two min_two max_three min_three max_four min_four   -- for this text's walks alone
set_option linter.unusedVariables false
set_option linter.unusedSimpArgs false

/-! ### mooring_rounds_2: function 98 -/
def mooring_rounds_2.f (a0 : Int) (a1 : Int) : Option (Int) := if a1 = 0 then (none) else (some (wrap64 (Int.tdiv a0 a1)))
set_option maxHeartbeats 8000000 in
set_option maxRecDepth 100000 in
theorem mooring_rounds_2.calls (a0 : Int) (a1 : Int) (r : Int) (w : World) (h : mooring_rounds_2.f a0 a1 = some r) :
    Calls Try.prog 98 #[.int .i64 a0, .int .i64 a1] w fun e w' => e = .returned (.int .i64 r) ∧ Drawn0 w w' := by
  have H : (if a1 = 0 then (none) else (some (wrap64 (Int.tdiv a0 a1)))) = some r := h
  clear h
  by_cases c3 : a1 = 0
  · rw [if_pos c3] at H
    exact absurd H (by simp)
  · rw [if_neg c3] at H
    have c3b0 : (a1 == 0) = false := beq_eq_false_iff_ne.mpr c3
    have c3b1 : (a1 != 0) = true := bne_iff_ne.mpr c3
    obtain rfl := Option.some.inj H
    go_enter Try.func98, Try.ntmps98
    go_wp2
    go_ret
    exact ⟨by first | rfl | (simp; done) | (simp [*]; done), by repeat (first | exact Drawn0.refl _ | apply Drawn0.step)⟩

end Go.Proofs.Ytebcmhajbjkojaa.P

namespace Go.Proofs.Ytebcmhajbjkojaa.P
open Go.RowKit Go.Proofs.YtebcmhajbjkojaaW.PrintWords Go.Proofs.YtebcmhajbjkojaaW.PrintLast Go.Proofs.YtebcmhajbjkojaaW.PrintMore
attribute [local go_sem] max2_int min2_int max_two min_two max_three min_three max_four min_four   -- for this text's walks alone
set_option linter.unusedVariables false
set_option linter.unusedSimpArgs false

/-! ### mooring_rounds_3: function 99 -/
def mooring_rounds_3.f (a0 : Int) (a1 : Int) : Option (Int) := if a1 = 0 then (none) else (some (wrap64 (Int.tdiv (wrap64 ((wrap64 (a0 + a1)) - 1)) a1)))
set_option maxHeartbeats 8000000 in
set_option maxRecDepth 100000 in
theorem mooring_rounds_3.calls (a0 : Int) (a1 : Int) (r : Int) (w : World) (h : mooring_rounds_3.f a0 a1 = some r) :
    Calls Try.prog 99 #[.int .i64 a0, .int .i64 a1] w fun e w' => e = .returned (.int .i64 r) ∧ Drawn0 w w' := by
  have H : (if a1 = 0 then (none) else (some (wrap64 (Int.tdiv (wrap64 ((wrap64 (a0 + a1)) - 1)) a1)))) = some r := h
  clear h
  by_cases c3 : a1 = 0
  · rw [if_pos c3] at H
    exact absurd H (by simp)
  · rw [if_neg c3] at H
    have c3b0 : (a1 == 0) = false := beq_eq_false_iff_ne.mpr c3
    have c3b1 : (a1 != 0) = true := bne_iff_ne.mpr c3
    obtain rfl := Option.some.inj H
    go_enter Try.func99, Try.ntmps99
    go_wp2
    go_ret
    exact ⟨by first | rfl | (simp; done) | (simp [*]; done), by repeat (first | exact Drawn0.refl _ | apply Drawn0.step)⟩

end Go.Proofs.Ytebcmhajbjkojaa.P

namespace Go.Proofs.Ytebcmhajbjkojaa.P
open Go.RowKit Go.Proofs.YtebcmhajbjkojaaW.PrintWords Go.Proofs.YtebcmhajbjkojaaW.PrintLast Go.Proofs.YtebcmhajbjkojaaW.PrintMore
attribute [local go_sem] max2_int min2_int max_two min_two max_three min_three max_four min_four   -- for this text's walks alone
set_option linter.unusedVariables false
set_option linter.unusedSimpArgs false

-- LIB
-- WANT isobath/mooring.Check
/-! ### moorings, in closed form -/
def Moor.elB (e : S46) : Bool := decide (0 ≤ e.f0) && (decide (e.f0 ≤ 1048576) && (decide (-1048576 ≤ e.f1) && (decide (e.f1 ≤ 1048576) && (decide (0 ≤ e.f2) && (decide (e.f2 ≤ 65536) && (decide (1 ≤ e.f3) && decide (e.f3 ≤ 16777216)))))))
/-- What Check answers. -/
def Moor.chk (d : Int) (els : List S46) (an fr : Int) : Int :=
  if 40 < els.length then 6 else if els.length = 0 ∨ d < 1 ∨ 1048576 < d ∨ an < 0 ∨ 1048576 < an ∨ fr < 0 ∨ 1000 < fr then 2 else if els.all Moor.elB = true then 0 else 2
/-- The currents are valid. -/
def Moor.curB (s : S57) : Bool := decide (s.f0 ≤ s.f1) && (decide (0 ≤ s.f0) && decide (s.f1 ≤ 3000))
/-- The forces on the elements. -/
def Moor.force (e : S46) (s : S57) : S57 := ⟨e.f2 * s.f0 * s.f0 / 1000000, (e.f2 * s.f1 * s.f1 + 999999) / 1000000⟩
def Moor.on (els : List S46) (cs : List S57) : List S57 := List.zipWith Moor.force els cs
/-- The lifts below the elements, from a sum on. -/
def Moor.liftsFrom : Int → List S46 → List Int
  | _, [] => []
  | s, e :: es => (s + e.f1) :: Moor.liftsFrom (s + e.f1) es
def Moor.lifts (els : List S46) : List Int := Moor.liftsFrom 0 els
def Moor.stands (els : List S46) : Bool := (Moor.lifts els).all (fun x => decide (1 ≤ x))
/-- The error of the currents of a valid mooring, as many as its elements. -/
def Moor.err2 (els : List S46) (cs : List S57) (stand : Bool) : Int := if cs.all Moor.curB = true then (if stand = true ∧ Moor.stands els = false then 10 else 0) else 2
/-- The error of a mooring, its currents, and whether it has to stand. -/
def Moor.err (d : Int) (els : List S46) (an fr : Int) (cs : List S57) (stand : Bool) : Int :=
  if Moor.chk d els an fr ≠ 0 then Moor.chk d els an fr else if cs.length ≠ els.length then 17 else Moor.err2 els cs stand
theorem Moor.rdE {els : List S46} {i : Nat} (h : i < els.length) : rd_T46 els (i : Int) = els[i] := by
  simp [rd_T46, List.getD, h]
theorem Moor.rdS {cs : List S57} {i : Nat} (h : i < cs.length) : rd_T57 cs (i : Int) = cs[i] := by
  simp [rd_T57, List.getD, h]
theorem Moor.outside (x lo hi : Int) : mooring_outside.f x lo hi = some (decide (x < lo) || decide (hi < x)) := by
  unfold mooring_outside.f
  by_cases h : x < lo
  · simp [h]
  · simp [h]
theorem Moor.check_l0 {els : List S46} (hn : els.length ≤ 9223372036854775807) (n : Nat) : ∀ (k i : Nat), i + n = els.length → n < k →
    mooring_Check.l0 k els (els.length : Int) (i : Int) = some (if (els.drop i).all Moor.elB = true then 0 else 2) := by
  induction n with
  | zero =>
    intro k i hi hk
    obtain ⟨k, rfl⟩ : ∃ m, k = m + 1 := ⟨k - 1, by omega⟩
    simp only [mooring_Check.l0]
    rw [if_neg (by omega), List.drop_of_length_le (by omega)]
    rfl
  | succ n ih =>
    intro k i hi hk
    obtain ⟨k, rfl⟩ : ∃ m, k = m + 1 := ⟨k - 1, by omega⟩
    have hlt : i < els.length := by omega
    simp only [mooring_Check.l0]
    rw [if_pos (by omega), if_pos (by omega), if_pos (by omega), wrap_succ hlt hn, ih k (i + 1) (by omega) (by omega), Moor.rdE hlt, drop_cons hlt, List.all_cons]
    simp only [Moor.outside, Option.bind_some]
    generalize els[i] = e
    unfold Moor.elB
    by_cases h0 : e.f0 < 0 ∨ 1048576 < e.f0
    · rw [if_pos (by simpa using h0), if_neg (by simp; omega)]
    rw [if_neg (by simpa using h0)]
    by_cases h1 : e.f1 < -1048576 ∨ 1048576 < e.f1
    · rw [if_pos (by simpa using h1), if_neg (by simp; omega)]
    rw [if_neg (by simpa using h1)]
    by_cases h2 : e.f2 < 0 ∨ 65536 < e.f2
    · rw [if_pos (by simpa using h2), if_neg (by simp; omega)]
    rw [if_neg (by simpa using h2)]
    by_cases h3 : e.f3 < 1 ∨ 16777216 < e.f3
    · rw [if_pos (by simpa using h3), if_neg (by simp; omega)]
    rw [if_neg (by simpa using h3)]
    have : (decide (0 ≤ e.f0) && (decide (e.f0 ≤ 1048576) && (decide (-1048576 ≤ e.f1) && (decide (e.f1 ≤ 1048576) && (decide (0 ≤ e.f2) && (decide (e.f2 ≤ 65536) && (decide (1 ≤ e.f3) && decide (e.f3 ≤ 16777216)))))))) = true := by simp; omega
    rw [this, Bool.true_and]
theorem Moor.check {d : Int} {els : List S46} {an fr : Int} (hn : els.length ≤ 9223372036854775807) {k : Nat} (hk : 43 ≤ k) : mooring_Check.f k d els an fr = some (Moor.chk d els an fr) := by
  obtain ⟨k, rfl⟩ : ∃ m, k = m + 1 := ⟨k - 1, by omega⟩
  unfold mooring_Check.f Moor.chk
  by_cases h0 : 40 < els.length
  · rw [if_pos (by omega), if_pos h0]
  rw [if_neg (by omega), if_neg h0]
  have hj : ∀ b, mooring_Check.j0 (k + 1) b d els an fr = some (if b = true then 2 else if els.all Moor.elB = true then 0 else 2) := by
    intro b
    simp only [mooring_Check.j0]
    cases b with
    | true => rfl
    | false =>
      have h := Moor.check_l0 hn els.length k 0 (by omega) (by omega)
      rw [List.drop_zero] at h
      simpa using h
  simp only [Moor.outside, Option.bind_some]
  by_cases h1 : els.length = 0
  · rw [if_pos (by omega), hj, if_pos rfl, if_pos (by omega)]
  rw [if_neg (by omega)]
  by_cases h2 : d < 1 ∨ 1048576 < d
  · rw [if_pos (by simpa using h2), hj, if_pos rfl, if_pos (by omega)]
  rw [if_neg (by simpa using h2)]
  by_cases h3 : an < 0 ∨ 1048576 < an
  · rw [if_pos (by simpa using h3), hj, if_pos rfl, if_pos (by omega)]
  rw [if_neg (by simpa using h3), hj]
  by_cases h4 : fr < 0 ∨ 1000 < fr
  · have e : (decide (fr < 0) || decide (1000 < fr)) = true := by simpa using h4
    rw [if_pos e, if_pos (by omega)]
  · have e : ¬ (decide (fr < 0) || decide (1000 < fr)) = true := by simpa using h4
    have e2 : ¬ (els.length = 0 ∨ d < 1 ∨ 1048576 < d ∨ an < 0 ∨ 1048576 < an ∨ fr < 0 ∨ 1000 < fr) := by omega
    rw [if_neg e, if_neg e2]
theorem Moor.elB_iff {e : S46} : Moor.elB e = true ↔ 0 ≤ e.f0 ∧ e.f0 ≤ 1048576 ∧ -1048576 ≤ e.f1 ∧ e.f1 ≤ 1048576 ∧ 0 ≤ e.f2 ∧ e.f2 ≤ 65536 ∧ 1 ≤ e.f3 ∧ e.f3 ≤ 16777216 := by
  unfold Moor.elB
  simp
theorem Moor.chk_ok {d : Int} {els : List S46} {an fr : Int} (h : Moor.chk d els an fr = 0) : els.length ≤ 40 ∧ 0 < els.length ∧ 1 ≤ d ∧ d ≤ 1048576 ∧ 0 ≤ an ∧ an ≤ 1048576 ∧ 0 ≤ fr ∧ fr ≤ 1000 ∧ ∀ e ∈ els, Moor.elB e = true := by
  unfold Moor.chk at h
  by_cases h0 : 40 < els.length
  · rw [if_pos h0] at h; cases h
  rw [if_neg h0] at h
  by_cases h1 : els.length = 0 ∨ d < 1 ∨ 1048576 < d ∨ an < 0 ∨ 1048576 < an ∨ fr < 0 ∨ 1000 < fr
  · rw [if_pos h1] at h; cases h
  rw [if_neg h1] at h
  by_cases h2 : els.all Moor.elB = true
  · exact ⟨by omega, by omega, by omega, by omega, by omega, by omega, by omega, by omega, by simpa using h2⟩
  · rw [if_neg h2] at h; cases h
theorem Moor.on_length {els : List S46} {cs : List S57} (h : cs.length = els.length) : (Moor.on els cs).length = els.length := by
  unfold Moor.on
  rw [List.length_zipWith, h, Nat.min_self]
theorem Moor.on_take {els : List S46} {cs : List S57} {i : Nat} (h1 : i < els.length) (h2 : i < cs.length) : Moor.on (els.take (i + 1)) (cs.take (i + 1)) = Moor.on (els.take i) (cs.take i) ++ [Moor.force els[i] cs[i]] := by
  unfold Moor.on
  rw [take_snoc h1, take_snoc h2, List.zipWith_append (by rw [List.length_take, List.length_take]; omega)]
  rfl
def Moor.sumL : List S46 → Int
  | [] => 0
  | e :: es => e.f1 + Moor.sumL es
theorem Moor.sumL_app (a b : List S46) : Moor.sumL (a ++ b) = Moor.sumL a + Moor.sumL b := by
  induction a with
  | nil => simp [Moor.sumL]
  | cons x xs ih => rw [List.cons_append, Moor.sumL, Moor.sumL, ih]; omega
theorem Moor.liftsFrom_app (s : Int) (a b : List S46) : Moor.liftsFrom s (a ++ b) = Moor.liftsFrom s a ++ Moor.liftsFrom (s + Moor.sumL a) b := by
  induction a generalizing s with
  | nil => simp [Moor.liftsFrom, Moor.sumL]
  | cons x xs ih => rw [List.cons_append, Moor.liftsFrom, Moor.liftsFrom, ih, Moor.sumL, List.cons_append, Int.add_assoc]
theorem Moor.liftsFrom_length (s : Int) (a : List S46) : (Moor.liftsFrom s a).length = a.length := by
  induction a generalizing s with
  | nil => rfl
  | cons x xs ih => rw [Moor.liftsFrom, List.length_cons, List.length_cons, ih]
theorem Moor.lifts_length (a : List S46) : (Moor.lifts a).length = a.length := Moor.liftsFrom_length 0 a
theorem Moor.lifts_take {els : List S46} {i : Nat} (h : i < els.length) : Moor.lifts (els.take (i + 1)) = Moor.lifts (els.take i) ++ [Moor.sumL (els.take i) + els[i].f1] := by
  unfold Moor.lifts
  rw [take_snoc h, Moor.liftsFrom_app]
  simp [Moor.liftsFrom]
theorem Moor.sumL_take {els : List S46} {i : Nat} (h : i < els.length) : Moor.sumL (els.take (i + 1)) = Moor.sumL (els.take i) + els[i].f1 := by
  rw [take_snoc h, Moor.sumL_app]
  simp [Moor.sumL]
theorem Moor.sumL_bound {els : List S46} (h : ∀ e ∈ els, Moor.elB e = true) : -1048576 * (els.length : Int) ≤ Moor.sumL els ∧ Moor.sumL els ≤ 1048576 * (els.length : Int) := by
  induction els with
  | nil => simp [Moor.sumL]
  | cons e es ih =>
    have h1 := Moor.elB_iff.1 (h e List.mem_cons_self)
    have h2 := ih (fun x hx => h x (List.mem_cons_of_mem _ hx))
    rw [Moor.sumL, List.length_cons]
    omega
theorem Moor.sumL_take_bound {els : List S46} (h : ∀ e ∈ els, Moor.elB e = true) (hl : els.length ≤ 40) (i : Nat) : -41943040 ≤ Moor.sumL (els.take i) ∧ Moor.sumL (els.take i) ≤ 41943040 := by
  have h1 := Moor.sumL_bound (els := els.take i) (fun e he => h e (List.mem_of_mem_take he))
  have h2 : (els.take i).length ≤ 40 := by rw [List.length_take]; omega
  omega
/-- A product of three, bounded. -/
theorem Moor.prod_bound {a b : Int} (h0 : 0 ≤ a) (h1 : a ≤ 65536) (h2 : 0 ≤ b) (h3 : b ≤ 3000) : 0 ≤ a * b ∧ a * b ≤ 196608000 ∧ 0 ≤ a * b * b ∧ a * b * b ≤ 589824000000 := by
  have h4 : 0 ≤ a * b := Int.mul_nonneg h0 h2
  have h5 : a * b ≤ 65536 * 3000 := Int.mul_le_mul h1 h3 h2 (by omega)
  have h6 : 0 ≤ a * b * b := Int.mul_nonneg h4 h2
  have h7 : a * b * b ≤ 196608000 * 3000 := Int.mul_le_mul (by omega) h3 h2 (by omega)
  omega
theorem Moor.lo {a : Int} (h : 0 ≤ a) (h1 : a ≤ 9223372036854775807) : mooring_rounds_2.f a 1000000 = some (a / 1000000) := by
  unfold mooring_rounds_2.f
  rw [if_neg (by omega), tdiv_pos h, wrap_id (by omega) (by omega)]
theorem Moor.hi {a : Int} (h : 0 ≤ a) (h1 : a ≤ 9223372036853775807) : mooring_rounds_3.f a 1000000 = some ((a + 999999) / 1000000) := by
  unfold mooring_rounds_3.f
  rw [if_neg (by omega), wrap_id (n := a + 1000000) (by omega) (by omega), wrap_id (n := a + 1000000 - 1) (by omega) (by omega), tdiv_pos (by omega), wrap_id (by omega) (by omega), show a + 1000000 - 1 = a + 999999 by omega]
theorem Moor.on_take' {els : List S46} {cs : List S57} {i : Nat} {e : S46} {s : S57} (h1 : els[i]? = some e) (h2 : cs[i]? = some s) : Moor.on (els.take (i + 1)) (cs.take (i + 1)) = Moor.on (els.take i) (cs.take i) ++ [Moor.force e s] := by
  obtain ⟨h3, h4⟩ := List.getElem?_eq_some_iff.1 h1
  obtain ⟨h5, h6⟩ := List.getElem?_eq_some_iff.1 h2
  rw [Moor.on_take h3 h5, h4, h6]
theorem Moor.on_small {els : List S46} {cs : List S57} {i : Nat} (h : els.length ≤ 40) : ((Moor.on (els.take i) (cs.take i)).length + 1) * 16 ≤ 140737488355328 := by
  unfold Moor.on
  rw [List.length_zipWith, List.length_take]
  omega
theorem Moor.lifts_small {els : List S46} {i : Nat} (h : els.length ≤ 40) : ((Moor.lifts (els.take i)).length + 1) * 8 ≤ 140737488355328 := by
  rw [Moor.lifts_length, List.length_take]
  omega
theorem Moor.lifts_take' {els : List S46} {i : Nat} {e : S46} (h : els[i]? = some e) : Moor.lifts (els.take (i + 1)) = Moor.lifts (els.take i) ++ [Moor.sumL (els.take i) + e.f1] := by
  obtain ⟨h3, h4⟩ := List.getElem?_eq_some_iff.1 h
  rw [Moor.lifts_take h3, h4]
theorem Moor.sumL_take' {els : List S46} {i : Nat} {e : S46} (h : els[i]? = some e) : Moor.sumL (els.take (i + 1)) = Moor.sumL (els.take i) + e.f1 := by
  obtain ⟨h3, h4⟩ := List.getElem?_eq_some_iff.1 h
  rw [Moor.sumL_take h3, h4]

end Go.Proofs.Ytebcmhajbjkojaa.P

namespace Go.Proofs.Ytebcmhajbjkojaa.P
open Go.RowKit Go.Proofs.YtebcmhajbjkojaaW.PrintWords Go.Proofs.YtebcmhajbjkojaaW.PrintLast Go.Proofs.YtebcmhajbjkojaaW.PrintMore
attribute [local go_sem] max2_int min2_int max_two min_two max_three min_three max_four min_four   -- for this text's walks alone
set_option linter.unusedVariables false
set_option linter.unusedSimpArgs false

-- LIB
-- WANT isobath/bound.Check
-- WANT isobath/mooring.Check
/-! ### pulls, in closed form -/
def Moor.slo : List S57 → Int
  | [] => 0
  | x :: xs => x.f0 + Moor.slo xs
def Moor.shi : List S57 → Int
  | [] => 0
  | x :: xs => x.f1 + Moor.shi xs
def Moor.most : Int → List S57 → Int
  | m, [] => m
  | m, x :: xs => Moor.most (max m (x.f0 + x.f1)) xs
def Moor.pullsFrom (free : Bool) : Int → Int → Int → List S57 → List S57
  | _, _, _, [] => []
  | lo, hi, m, x :: xs => ⟨if free = true then max 0 (max m (x.f0 + x.f1) - (hi + x.f1)) else lo + x.f0, hi + x.f1⟩ :: Moor.pullsFrom free (lo + x.f0) (hi + x.f1) (max m (x.f0 + x.f1)) xs
def Moor.pulls (free : Bool) (on : List S57) : List S57 := Moor.pullsFrom free 0 0 0 on
theorem Moor.slo_app (a b : List S57) : Moor.slo (a ++ b) = Moor.slo a + Moor.slo b := by
  induction a with
  | nil => simp [Moor.slo]
  | cons x xs ih => rw [List.cons_append, Moor.slo, Moor.slo, ih]; omega
theorem Moor.shi_app (a b : List S57) : Moor.shi (a ++ b) = Moor.shi a + Moor.shi b := by
  induction a with
  | nil => simp [Moor.shi]
  | cons x xs ih => rw [List.cons_append, Moor.shi, Moor.shi, ih]; omega
theorem Moor.most_app (m : Int) (a b : List S57) : Moor.most m (a ++ b) = Moor.most (Moor.most m a) b := by
  induction a generalizing m with
  | nil => rfl
  | cons x xs ih => rw [List.cons_append, Moor.most, Moor.most, ih]
theorem Moor.pullsFrom_app (free : Bool) (lo hi m : Int) (a b : List S57) : Moor.pullsFrom free lo hi m (a ++ b) = Moor.pullsFrom free lo hi m a ++ Moor.pullsFrom free (lo + Moor.slo a) (hi + Moor.shi a) (Moor.most m a) b := by
  induction a generalizing lo hi m with
  | nil => simp [Moor.pullsFrom, Moor.slo, Moor.shi, Moor.most]
  | cons x xs ih => rw [List.cons_append, Moor.pullsFrom, Moor.pullsFrom, ih, Moor.slo, Moor.shi, Moor.most, List.cons_append, Int.add_assoc, Int.add_assoc]
theorem Moor.pullsFrom_length (free : Bool) (lo hi m : Int) (a : List S57) : (Moor.pullsFrom free lo hi m a).length = a.length := by
  induction a generalizing lo hi m with
  | nil => rfl
  | cons x xs ih => rw [Moor.pullsFrom, List.length_cons, List.length_cons, ih]
theorem Moor.pulls_length (free : Bool) (a : List S57) : (Moor.pulls free a).length = a.length := Moor.pullsFrom_length free 0 0 0 a
theorem take_snoc' {α : Type} {xs : List α} {i : Nat} {x : α} (h : xs[i]? = some x) : xs.take (i + 1) = xs.take i ++ [x] := by
  obtain ⟨h1, h2⟩ := List.getElem?_eq_some_iff.1 h
  rw [take_snoc h1, h2]
theorem Moor.pulls_take {on : List S57} {i : Nat} {x : S57} (free : Bool) (h : on[i]? = some x) : Moor.pulls free (on.take (i + 1)) = Moor.pulls free (on.take i) ++ [⟨if free = true then max 0 (max (Moor.most 0 (on.take i)) (x.f0 + x.f1) - (Moor.shi (on.take i) + x.f1)) else Moor.slo (on.take i) + x.f0, Moor.shi (on.take i) + x.f1⟩] := by
  unfold Moor.pulls
  rw [take_snoc' h, Moor.pullsFrom_app]
  simp [Moor.pullsFrom]
theorem Moor.slo_take {on : List S57} {i : Nat} {x : S57} (h : on[i]? = some x) : Moor.slo (on.take (i + 1)) = Moor.slo (on.take i) + x.f0 := by
  rw [take_snoc' h, Moor.slo_app]
  simp [Moor.slo]
theorem Moor.shi_take {on : List S57} {i : Nat} {x : S57} (h : on[i]? = some x) : Moor.shi (on.take (i + 1)) = Moor.shi (on.take i) + x.f1 := by
  rw [take_snoc' h, Moor.shi_app]
  simp [Moor.shi]
theorem Moor.most_take {on : List S57} {i : Nat} {x : S57} (h : on[i]? = some x) : Moor.most 0 (on.take (i + 1)) = max (Moor.most 0 (on.take i)) (x.f0 + x.f1) := by
  rw [take_snoc' h, Moor.most_app]
  rfl
/-- Forces are in order, and not too great. -/
def Moor.onB (x : S57) : Prop := 0 ≤ x.f0 ∧ x.f0 ≤ x.f1 ∧ x.f1 ≤ 600000
theorem Moor.slo_bound {on : List S57} (h : ∀ x ∈ on, Moor.onB x) : 0 ≤ Moor.slo on ∧ Moor.slo on ≤ 600000 * (on.length : Int) ∧ 0 ≤ Moor.shi on ∧ Moor.shi on ≤ 600000 * (on.length : Int) ∧ Moor.slo on ≤ Moor.shi on := by
  induction on with
  | nil => simp [Moor.slo, Moor.shi]
  | cons x xs ih =>
    have h1 := h x List.mem_cons_self
    have h2 := ih (fun y hy => h y (List.mem_cons_of_mem _ hy))
    unfold Moor.onB at h1
    rw [Moor.slo, Moor.shi, List.length_cons]
    omega
theorem Moor.most_bound {on : List S57} (h : ∀ x ∈ on, Moor.onB x) (m : Int) (h0 : 0 ≤ m) (h1 : m ≤ 1200000) : 0 ≤ Moor.most m on ∧ Moor.most m on ≤ 1200000 := by
  induction on generalizing m with
  | nil => exact ⟨h0, h1⟩
  | cons x xs ih =>
    have h2 := h x List.mem_cons_self
    unfold Moor.onB at h2
    exact ih (fun y hy => h y (List.mem_cons_of_mem _ hy)) _ (by omega) (by omega)
theorem Moor.force_onB {e : S46} {s : S57} (h : Moor.elB e = true) (hs : Moor.curB s = true) : Moor.onB (Moor.force e s) := by
  have h1 := Moor.elB_iff.1 h
  unfold Moor.curB at hs
  simp at hs
  obtain ⟨h2, h3, h4⟩ := hs
  have PB0 := Moor.prod_bound (a := e.f2) (b := s.f0) (by omega) (by omega) (by omega) (by omega)
  have PB1 := Moor.prod_bound (a := e.f2) (b := s.f1) (by omega) (by omega) (by omega) (by omega)
  have h5 : e.f2 * s.f0 ≤ e.f2 * s.f1 := Int.mul_le_mul_of_nonneg_left h2 (by omega)
  have h6 : e.f2 * s.f0 * s.f0 ≤ e.f2 * s.f1 * s.f1 := Int.mul_le_mul h5 h2 (by omega) (by omega)
  unfold Moor.onB Moor.force
  simp only
  omega
theorem Moor.on_onB {els : List S46} {cs : List S57} (h : ∀ e ∈ els, Moor.elB e = true) (hs : cs.all Moor.curB = true) : ∀ x ∈ Moor.on els cs, Moor.onB x := by
  induction els generalizing cs with
  | nil => intro x hx; simp [Moor.on] at hx
  | cons e es ih =>
    cases cs with
    | nil => intro x hx; simp [Moor.on] at hx
    | cons s ss =>
      rw [List.all_cons, Bool.and_eq_true] at hs
      intro x hx
      have hx' : x ∈ Moor.force e s :: Moor.on es ss := hx
      rcases List.mem_cons.1 hx' with rfl | hx'
      · exact Moor.force_onB (h e List.mem_cons_self) hs.1
      · exact ih (fun y hy => h y (List.mem_cons_of_mem _ hy)) hs.2 x hx'

end Go.Proofs.Ytebcmhajbjkojaa.P

namespace Go.Proofs.Ytebcmhajbjkojaa.P
open Go.RowKit Go.Proofs.YtebcmhajbjkojaaW.PrintWords Go.Proofs.YtebcmhajbjkojaaW.PrintLast Go.Proofs.YtebcmhajbjkojaaW.PrintMore
attribute [local go_sem] max2_int min2_int max_two min_two max_three min_three max_four min_four   -- for this text's walks alone
set_option linter.unusedVariables false
set_option linter.unusedSimpArgs false

/-! ### isobathref02_Root: function 72 -/
def isobathref02_Root.l0 : Nat → Int → Int → Int → Option (Int)
  | 0, _, _, _ => none
  | k + 1, x0, x3, x4 => if x3 < x4 then (if (wrap64 ((wrap64 (Int.tdiv (wrap64 ((wrap64 (x3 + x4)) + 1)) 2)) * (wrap64 (Int.tdiv (wrap64 ((wrap64 (x3 + x4)) + 1)) 2)))) ≤ x0 then (isobathref02_Root.l0 k x0 (wrap64 (Int.tdiv (wrap64 ((wrap64 (x3 + x4)) + 1)) 2)) x4) else (isobathref02_Root.l0 k x0 x3 (wrap64 ((wrap64 (Int.tdiv (wrap64 ((wrap64 (x3 + x4)) + 1)) 2)) - 1)))) else (some x3)
def isobathref02_Root.f (k : Nat) (a0 : Int) : Option (Int) := isobathref02_Root.l0 k a0 0 2147483648
theorem isobathref02_Root.mono_l : ∀ k, (∀ y0 y1 y2, LeO (isobathref02_Root.l0 k y0 y1 y2) (isobathref02_Root.l0 (k + 1) y0 y1 y2))
  | 0 => fun _ _ _ r h => by simp [isobathref02_Root.l0] at h
  | k + 1 => by
    have ih0 := isobathref02_Root.mono_l k
    · intro y0 y1 y2
      unfold isobathref02_Root.l0
      repeat' first
      | (with_reducible exact ih0 _ _ _)
      | (with_reducible exact LeO.refl _)
      | (with_reducible exact LeO.none _)
      | (with_reducible refine LeO.ite ?_ ?_)
      | (with_reducible refine LeO.bind ?_ (fun _ => ?_))
      | exact ih0 _ _ _
      | exact LeO.none _
      | refine LeO.ite ?_ ?_
      | refine LeO.bind ?_ (fun _ => ?_)
theorem isobathref02_Root.mono : ∀ a0 k, LeO (isobathref02_Root.f k a0) (isobathref02_Root.f (k + 1) a0) := by
  intro a0 k
  have ih0 := isobathref02_Root.mono_l k
  unfold isobathref02_Root.f
  repeat' first
      | (with_reducible exact ih0 _ _ _)
      | (with_reducible exact LeO.refl _)
      | (with_reducible exact LeO.none _)
      | (with_reducible refine LeO.ite ?_ ?_)
      | (with_reducible refine LeO.bind ?_ (fun _ => ?_))
      | exact ih0 _ _ _
      | exact LeO.none _
      | refine LeO.ite ?_ ?_
      | refine LeO.bind ?_ (fun _ => ?_)
set_option maxHeartbeats 8000000 in
set_option maxRecDepth 100000 in
theorem isobathref02_Root.calls (k : Nat) (a0 : Int) (r : Int) (w : World) (h : isobathref02_Root.f k a0 = some r) :
    Calls Try.prog 72 #[.int .i64 a0] w fun e w' => e = .returned (.int .i64 r) ∧ Drawn0 w w' := by
  have H : (isobathref02_Root.l0 k a0 0 2147483648) = some r := h
  clear h
  have H' := Aside0.mk H
  clear H
  go_enter Try.func72, Try.ntmps72
  go_wp2
  go_loopg [3, 4] k (fun kq v3 v4 w' => ∃ (x3_1 : Int) (x4_1 : Int), v3 = .int .i64 x3_1 ∧ v4 = .int .i64 x4_1 ∧ Aside0 (isobathref02_Root.l0 kq a0 x3_1 x4_1 = some r) ∧ Aside0 (kq ≤ k) ∧ Drawn0 w w')
  case atStart => exact ⟨(0), (2147483648), (by first | rfl | (simp; done) | (simp [*]; done)), (by first | rfl | (simp; done) | (simp [*]; done)), H', ⟨Nat.le_refl _⟩, by repeat (first | exact Drawn0.refl _ | apply Drawn0.step)⟩
  case round =>
    clear H'
    obtain ⟨x3_1, x4_1, rfl, rfl, HA, HK1, ⟨m1, rfl⟩⟩ := hrel
    cases gk with
    | zero => exact absurd HA.out (by simp [isobathref02_Root.l0])
    | succ k1 =>
      have H := HA.out
      clear HA
      simp only [isobathref02_Root.l0] at H
      by_cases c2 : x3_1 < x4_1
      · rw [if_pos c2] at H
        have c2b0 : decide (x3_1 < x4_1) = true := decide_eq_true c2
        clear c2
        by_cases c3 : (wrap64 ((wrap64 (Int.tdiv (wrap64 ((wrap64 (x3_1 + x4_1)) + 1)) 2)) * (wrap64 (Int.tdiv (wrap64 ((wrap64 (x3_1 + x4_1)) + 1)) 2)))) ≤ a0
        · rw [if_pos c3] at H
          have c3b0 : decide ((wrap64 ((wrap64 (Int.tdiv (wrap64 ((wrap64 (x3_1 + x4_1)) + 1)) 2)) * (wrap64 (Int.tdiv (wrap64 ((wrap64 (x3_1 + x4_1)) + 1)) 2)))) ≤ a0) = true := decide_eq_true c3
          clear c3
          have H' := Aside0.mk H
          clear H
          go_wp2
          go_roundg k1
          case measure => have := HK1.out; omega
          case rel => exact ⟨(wrap64 (Int.tdiv (wrap64 ((wrap64 (x3_1 + x4_1)) + 1)) 2)), (x4_1), (by first | rfl | (simp; done) | (simp [*]; done)), (by first | rfl | (simp; done) | (simp [*]; done)), H', ⟨by have := HK1.out; omega⟩, by repeat (first | exact Drawn0.refl _ | apply Drawn0.step)⟩
        · rw [if_neg c3] at H
          have c3b0 : decide ((wrap64 ((wrap64 (Int.tdiv (wrap64 ((wrap64 (x3_1 + x4_1)) + 1)) 2)) * (wrap64 (Int.tdiv (wrap64 ((wrap64 (x3_1 + x4_1)) + 1)) 2)))) ≤ a0) = false := decide_eq_false c3
          clear c3
          have H' := Aside0.mk H
          clear H
          go_wp2
          go_roundg k1
          case measure => have := HK1.out; omega
          case rel => exact ⟨(x3_1), (wrap64 ((wrap64 (Int.tdiv (wrap64 ((wrap64 (x3_1 + x4_1)) + 1)) 2)) - 1)), (by first | rfl | (simp; done) | (simp [*]; done)), (by first | rfl | (simp; done) | (simp [*]; done)), H', ⟨by have := HK1.out; omega⟩, by repeat (first | exact Drawn0.refl _ | apply Drawn0.step)⟩
      · rw [if_neg c2] at H
        have c2b0 : decide (x3_1 < x4_1) = false := decide_eq_false c2
        clear c2
        obtain rfl := Option.some.inj H
        go_wp2
        go_ret
        exact ⟨by first | rfl | (simp; done) | (simp [*]; done), by repeat (first | exact Drawn0.refl _ | apply Drawn0.step)⟩

end Go.Proofs.Ytebcmhajbjkojaa.P

namespace Go.Proofs.Ytebcmhajbjkojaa.P
open Go.RowKit Go.Proofs.YtebcmhajbjkojaaW.PrintWords Go.Proofs.YtebcmhajbjkojaaW.PrintLast Go.Proofs.YtebcmhajbjkojaaW.PrintMore
attribute [local go_sem] max2_int min2_int max_two min_two max_three min_three max_four min_four   -- for this text's walks alone
set_option linter.unusedVariables false
set_option linter.unusedSimpArgs false

/-! ### isobathref02_RootUp: function 70 -/
def isobathref02_RootUp.f (k : Nat) (a0 : Int) : Option (Int) := (isobathref02_Root.f k a0).bind fun t101 => (if (wrap64 (t101 * t101)) < a0 then (some (wrap64 (t101 + 1))) else (some t101))
theorem isobathref02_RootUp.mono : ∀ a0 k, LeO (isobathref02_RootUp.f k a0) (isobathref02_RootUp.f (k + 1) a0) := by
  intro a0 k
  unfold isobathref02_RootUp.f
  repeat' first
      | (with_reducible exact isobathref02_Root.mono _ _)
      | (with_reducible exact LeO.refl _)
      | (with_reducible exact LeO.none _)
      | (with_reducible refine LeO.ite ?_ ?_)
      | (with_reducible refine LeO.bind ?_ (fun _ => ?_))
      | exact isobathref02_Root.mono _ _
      | exact LeO.none _
      | refine LeO.ite ?_ ?_
      | refine LeO.bind ?_ (fun _ => ?_)
set_option maxHeartbeats 8000000 in
set_option maxRecDepth 100000 in
theorem isobathref02_RootUp.calls (k : Nat) (a0 : Int) (r : Int) (w : World) (h : isobathref02_RootUp.f k a0 = some r) :
    Calls Try.prog 70 #[.int .i64 a0] w fun e w' => e = .returned (.int .i64 r) ∧ Drawn0 w w' := by
  have H : ((isobathref02_Root.f k a0).bind fun t101 => (if (wrap64 (t101 * t101)) < a0 then (some (wrap64 (t101 + 1))) else (some t101))) = some r := h
  clear h
  replace H := Option.bind_eq_some_iff.mp H
  obtain ⟨t101, A20, H⟩ := H
  replace H : (if (wrap64 (t101 * t101)) < a0 then (some (wrap64 (t101 + 1))) else (some t101)) = some r := H
  have A2 := Aside0.mk A20
  clear A20
  by_cases c3 : (wrap64 (t101 * t101)) < a0
  · rw [if_pos c3] at H
    have c3b0 : decide ((wrap64 (t101 * t101)) < a0) = true := decide_eq_true c3
    clear c3
    obtain rfl := Option.some.inj H
    go_enter Try.func70, Try.ntmps70
    go_wp2_with (first | ((with_reducible refine gate_callee (f := 72) rfl ?_); refine goesL_ (some 5) rfl rfl Try.func72 (by kernel_rfl) rfl #[.int .i64 a0] rfl (by (try simp only [List.map_toArray, List.map_cons, List.map_nil]); first | done | rfl | (simp only [List.length_drop, List.length_take]; rfl)) ?_; (with_reducible refine (isobathref02_Root.calls k a0 t101 _ A2.out).mono ?_); rintro e w' ⟨rfl, ⟨nd, rfl⟩⟩; refine ⟨_, rfl, ?_⟩))
    go_ret
    exact ⟨by first | rfl | (simp; done) | (simp [*]; done), by repeat (first | exact Drawn0.refl _ | apply Drawn0.step)⟩
  · rw [if_neg c3] at H
    have c3b0 : decide ((wrap64 (t101 * t101)) < a0) = false := decide_eq_false c3
    clear c3
    obtain rfl := Option.some.inj H
    go_enter Try.func70, Try.ntmps70
    go_wp2_with (first | ((with_reducible refine gate_callee (f := 72) rfl ?_); refine goesL_ (some 5) rfl rfl Try.func72 (by kernel_rfl) rfl #[.int .i64 a0] rfl (by (try simp only [List.map_toArray, List.map_cons, List.map_nil]); first | done | rfl | (simp only [List.length_drop, List.length_take]; rfl)) ?_; (with_reducible refine (isobathref02_Root.calls k a0 t101 _ A2.out).mono ?_); rintro e w' ⟨rfl, ⟨nd, rfl⟩⟩; refine ⟨_, rfl, ?_⟩))
    go_ret
    exact ⟨by first | rfl | (simp; done) | (simp [*]; done), by repeat (first | exact Drawn0.refl _ | apply Drawn0.step)⟩

end Go.Proofs.Ytebcmhajbjkojaa.P

namespace Go.Proofs.Ytebcmhajbjkojaa.P
open Go.RowKit Go.Proofs.YtebcmhajbjkojaaW.PrintWords Go.Proofs.YtebcmhajbjkojaaW.PrintLast Go.Proofs.YtebcmhajbjkojaaW.PrintMore
attribute [local go_sem] max2_int min2_int max_two min_two max_three min_three max_four min_four   -- for this text's walks alone
set_option linter.unusedVariables false
set_option linter.unusedSimpArgs false

/-! ### mooring_rounds_1: function 97 -/
def mooring_rounds_1.l0 : Nat → Int → Int → Int → Option (Int)
  | 0, _, _, _ => none
  | k + 1, x0, x3, x4 => if x4 > 0 then (if (wrap64 ((wrap64 (x3 + x4)) * (wrap64 (x3 + x4)))) ≤ x0 then (mooring_rounds_1.l0 k x0 (wrap64 (x3 + x4)) (wrap64 (Int.tdiv x4 2))) else (mooring_rounds_1.l0 k x0 x3 (wrap64 (Int.tdiv x4 2)))) else (some x3)
def mooring_rounds_1.f (k : Nat) (a0 : Int) : Option (Int) := mooring_rounds_1.l0 k a0 0 1073741824
theorem mooring_rounds_1.mono_l : ∀ k, (∀ y0 y1 y2, LeO (mooring_rounds_1.l0 k y0 y1 y2) (mooring_rounds_1.l0 (k + 1) y0 y1 y2))
  | 0 => fun _ _ _ r h => by simp [mooring_rounds_1.l0] at h
  | k + 1 => by
    have ih0 := mooring_rounds_1.mono_l k
    · intro y0 y1 y2
      unfold mooring_rounds_1.l0
      repeat' first
      | (with_reducible exact ih0 _ _ _)
      | (with_reducible exact LeO.refl _)
      | (with_reducible exact LeO.none _)
      | (with_reducible refine LeO.ite ?_ ?_)
      | (with_reducible refine LeO.bind ?_ (fun _ => ?_))
      | exact ih0 _ _ _
      | exact LeO.none _
      | refine LeO.ite ?_ ?_
      | refine LeO.bind ?_ (fun _ => ?_)
theorem mooring_rounds_1.mono : ∀ a0 k, LeO (mooring_rounds_1.f k a0) (mooring_rounds_1.f (k + 1) a0) := by
  intro a0 k
  have ih0 := mooring_rounds_1.mono_l k
  unfold mooring_rounds_1.f
  repeat' first
      | (with_reducible exact ih0 _ _ _)
      | (with_reducible exact LeO.refl _)
      | (with_reducible exact LeO.none _)
      | (with_reducible refine LeO.ite ?_ ?_)
      | (with_reducible refine LeO.bind ?_ (fun _ => ?_))
      | exact ih0 _ _ _
      | exact LeO.none _
      | refine LeO.ite ?_ ?_
      | refine LeO.bind ?_ (fun _ => ?_)
set_option maxHeartbeats 8000000 in
set_option maxRecDepth 100000 in
theorem mooring_rounds_1.calls (k : Nat) (a0 : Int) (r : Int) (w : World) (h : mooring_rounds_1.f k a0 = some r) :
    Calls Try.prog 97 #[.int .i64 a0] w fun e w' => e = .returned (.int .i64 r) ∧ Drawn0 w w' := by
  have H : (mooring_rounds_1.l0 k a0 0 1073741824) = some r := h
  clear h
  have H' := Aside0.mk H
  clear H
  go_enter Try.func97, Try.ntmps97
  go_wp2
  go_loopg [3, 4] k (fun kq v3 v4 w' => ∃ (x3_1 : Int) (x4_1 : Int), v3 = .int .i64 x3_1 ∧ v4 = .int .i64 x4_1 ∧ Aside0 (mooring_rounds_1.l0 kq a0 x3_1 x4_1 = some r) ∧ Aside0 (kq ≤ k) ∧ Drawn0 w w')
  case atStart => exact ⟨(0), (1073741824), (by first | rfl | (simp; done) | (simp [*]; done)), (by first | rfl | (simp; done) | (simp [*]; done)), H', ⟨Nat.le_refl _⟩, by repeat (first | exact Drawn0.refl _ | apply Drawn0.step)⟩
  case round =>
    clear H'
    obtain ⟨x3_1, x4_1, rfl, rfl, HA, HK1, ⟨m1, rfl⟩⟩ := hrel
    cases gk with
    | zero => exact absurd HA.out (by simp [mooring_rounds_1.l0])
    | succ k1 =>
      have H := HA.out
      clear HA
      simp only [mooring_rounds_1.l0] at H
      by_cases c2 : x4_1 > 0
      · rw [if_pos c2] at H
        have c2b0 : decide (0 < x4_1) = true := decide_eq_true c2
        clear c2
        by_cases c3 : (wrap64 ((wrap64 (x3_1 + x4_1)) * (wrap64 (x3_1 + x4_1)))) ≤ a0
        · rw [if_pos c3] at H
          have c3b0 : decide ((wrap64 ((wrap64 (x3_1 + x4_1)) * (wrap64 (x3_1 + x4_1)))) ≤ a0) = true := decide_eq_true c3
          clear c3
          have H' := Aside0.mk H
          clear H
          go_wp2
          go_roundg k1
          case measure => have := HK1.out; omega
          case rel => exact ⟨(wrap64 (x3_1 + x4_1)), (wrap64 (Int.tdiv x4_1 2)), (by first | rfl | (simp; done) | (simp [*]; done)), (by first | rfl | (simp; done) | (simp [*]; done)), H', ⟨by have := HK1.out; omega⟩, by repeat (first | exact Drawn0.refl _ | apply Drawn0.step)⟩
        · rw [if_neg c3] at H
          have c3b0 : decide ((wrap64 ((wrap64 (x3_1 + x4_1)) * (wrap64 (x3_1 + x4_1)))) ≤ a0) = false := decide_eq_false c3
          clear c3
          have H' := Aside0.mk H
          clear H
          go_wp2
          go_roundg k1
          case measure => have := HK1.out; omega
          case rel => exact ⟨(x3_1), (wrap64 (Int.tdiv x4_1 2)), (by first | rfl | (simp; done) | (simp [*]; done)), (by first | rfl | (simp; done) | (simp [*]; done)), H', ⟨by have := HK1.out; omega⟩, by repeat (first | exact Drawn0.refl _ | apply Drawn0.step)⟩
      · rw [if_neg c2] at H
        have c2b0 : decide (0 < x4_1) = false := decide_eq_false c2
        clear c2
        obtain rfl := Option.some.inj H
        go_wp2
        go_ret
        exact ⟨by first | rfl | (simp; done) | (simp [*]; done), by repeat (first | exact Drawn0.refl _ | apply Drawn0.step)⟩

end Go.Proofs.Ytebcmhajbjkojaa.P

namespace Go.Proofs.Ytebcmhajbjkojaa.P
open Go.RowKit Go.Proofs.YtebcmhajbjkojaaW.PrintWords Go.Proofs.YtebcmhajbjkojaaW.PrintLast Go.Proofs.YtebcmhajbjkojaaW.PrintMore
attribute [local go_sem] max2_int min2_int max_two min_two max_three min_three max_four min_four   -- for this text's walks alone
set_option linter.unusedVariables false
set_option linter.unusedSimpArgs false

-- LIB
-- WANT isobath/mooring.rounds$1
-- WANT isobath/isobathref02.Root
-- WANT isobath/isobathref02.RootUp
/-! ### roots, in closed form -/
/-- r is the whole part of the root of n. -/
def Moor.IsRoot (n r : Int) : Prop := 0 ≤ r ∧ r * r ≤ n ∧ n < (r + 1) * (r + 1)
theorem sq_le_sq {a b : Int} (h : 0 ≤ a) (h1 : a ≤ b) : a * a ≤ b * b := Int.mul_le_mul h1 h1 h (by omega)
theorem sq_lt_sq {a b : Int} (h : 0 ≤ a) (h1 : a < b) : a * a < b * b := by
  have h2 := sq_le_sq (a := a + 1) (b := b) (by omega) (by omega)
  rw [Int.mul_add, Int.add_mul] at h2
  omega
theorem lt_of_sq {a b : Int} (hb : 0 ≤ b) (h : a * a < b * b) : a < b := by
  by_cases h1 : a < b
  · exact h1
  · have := sq_le_sq hb (show b ≤ a by omega)
    omega
theorem le_of_sq {a b : Int} (hb : 0 ≤ b) (h : a * a ≤ b * b) : a ≤ b := by
  by_cases h1 : a ≤ b
  · exact h1
  · have := sq_lt_sq hb (show b < a by omega)
    omega
theorem Moor.IsRoot.unique {n r s : Int} (h : Moor.IsRoot n r) (h' : Moor.IsRoot n s) : r = s := by
  obtain ⟨a1, a2, a3⟩ := h
  obtain ⟨b1, b2, b3⟩ := h'
  have h1 := lt_of_sq (a := r) (b := s + 1) (by omega) (by omega)
  have h2 := lt_of_sq (a := s) (b := r + 1) (by omega) (by omega)
  omega
theorem Moor.IsRoot.small {n r : Int} (h : Moor.IsRoot n r) (hn : n < 1152921504606846976) : r < 1073741824 :=
  lt_of_sq (by omega) (by have := h.2.1; omega)
theorem Moor.root_l0 {n : Int} (hn : n < 1152921504606846976) (j : Nat) : ∀ (k : Nat) (r : Int), 0 ≤ r → r * r ≤ n → j ≤ 30 → n < (r + 2 * 2 ^ j) * (r + 2 * 2 ^ j) → j + 2 ≤ k →
    ∃ s, mooring_rounds_1.l0 k n r ((2 : Int) ^ j) = some s ∧ Moor.IsRoot n s := by
  induction j with
  | zero =>
    intro k r h0 h1 _ h2 hk
    obtain ⟨k, rfl⟩ : ∃ m, k = m + 2 := ⟨k - 2, by omega⟩
    have hr : r < 1073741824 := lt_of_sq (by omega) (by omega)
    simp only [mooring_rounds_1.l0, Int.pow_zero]
    have e1 : wrap64 (r + 1) = r + 1 := wrap_id (by omega) (by omega)
    have hq := sq_le_sq (a := r + 1) (b := 1073741824) (by omega) (by omega)
    have hp := sq_le_sq (a := 0) (b := r + 1) (by omega) (by omega)
    have e2 : wrap64 ((r + 1) * (r + 1)) = (r + 1) * (r + 1) := wrap_id (by omega) (by omega)
    have e3 : wrap64 (Int.tdiv 1 2) = 0 := by
      rw [tdiv_pos (by omega)]
      unfold wrap64
      omega
    rw [e1, e2, e3, if_pos (show (1 : Int) > 0 by omega)]
    rw [if_neg (show ¬ (0 : Int) > 0 by omega), if_neg (show ¬ (0 : Int) > 0 by omega)]
    by_cases c : (r + 1) * (r + 1) ≤ n
    · rw [if_pos c]
      exact ⟨_, rfl, by omega, c, by simpa [Int.add_assoc] using h2⟩
    · rw [if_neg c]
      exact ⟨_, rfl, h0, h1, by omega⟩
  | succ j ih =>
    intro k r h0 h1 hj h2 hk
    obtain ⟨k, rfl⟩ : ∃ m, k = m + 1 := ⟨k - 1, by omega⟩
    have hr : r < 1073741824 := lt_of_sq (by omega) (by omega)
    have hp2 : (2 : Int) ^ (j + 1) = 2 * 2 ^ j := by rw [Int.pow_succ]; omega
    have hpos : (0 : Int) < 2 ^ j := Int.pow_pos (by omega)
    have hle : (2 : Int) ^ j ≤ 2 ^ 29 := by
      have := Nat.pow_le_pow_right (n := 2) (by omega) (show j ≤ 29 by omega)
      exact_mod_cast this
    have h29 : (2 : Int) ^ 29 = 536870912 := by decide
    rw [hp2] at h2 ⊢
    simp only [mooring_rounds_1.l0]
    generalize hb : (2 : Int) ^ j = b at *
    have e1 : wrap64 (r + 2 * b) = r + 2 * b := wrap_id (by omega) (by omega)
    have hq := sq_le_sq (a := r + 2 * b) (b := 2147483648) (by omega) (by omega)
    have hp := sq_le_sq (a := 0) (b := r + 2 * b) (by omega) (by omega)
    have e2 : wrap64 ((r + 2 * b) * (r + 2 * b)) = (r + 2 * b) * (r + 2 * b) := wrap_id (by omega) (by omega)
    have e3 : wrap64 (Int.tdiv (2 * b) 2) = b := by
      rw [tdiv_pos (by omega), wrap_id (by omega) (by omega)]
      omega
    rw [e1, e2, e3, if_pos (show 2 * b > 0 by omega)]
    by_cases c : (r + 2 * b) * (r + 2 * b) ≤ n
    · rw [if_pos c]
      exact ih k (r + 2 * b) (by omega) c (by omega) (by
        have e : r + 2 * b + 2 * b = r + 2 * (2 * b) := by omega
        rw [e]
        exact h2) (by omega)
    · rw [if_neg c]
      exact ih k r h0 h1 (by omega) (by omega) (by omega)
theorem Moor.root_ex {n : Int} (h0 : 0 ≤ n) (hn : n < 1152921504606846976) {k : Nat} (hk : 32 ≤ k) : ∃ s, mooring_rounds_1.f k n = some s ∧ Moor.IsRoot n s := by
  have h := Moor.root_l0 hn 30 k 0 (Int.le_refl _) (by omega) (by omega) (by
    have e : (0 + 2 * 2 ^ 30 : Int) * (0 + 2 * 2 ^ 30) = 4611686018427387904 := by decide
    rw [e]
    omega) (by omega)
  have e : (2 : Int) ^ 30 = 1073741824 := by decide
  rw [e] at h
  exact h
/-- The whole part of the root. -/
def Moor.root (n : Int) : Int := (mooring_rounds_1.f 32 n).getD 0
theorem Moor.root_is {n : Int} (h0 : 0 ≤ n) (hn : n < 1152921504606846976) : Moor.IsRoot n (Moor.root n) := by
  obtain ⟨s, h1, h2⟩ := Moor.root_ex h0 hn (Nat.le_refl 32)
  unfold Moor.root
  rw [h1]
  exact h2
theorem Moor.root_f {n : Int} (h0 : 0 ≤ n) (hn : n < 1152921504606846976) {k : Nat} (hk : 32 ≤ k) : mooring_rounds_1.f k n = some (Moor.root n) := by
  obtain ⟨s, h1, h2⟩ := Moor.root_ex h0 hn hk
  rw [h1, h2.unique (Moor.root_is h0 hn)]
/-- The root, rounded up. -/
def Moor.rootUp (n : Int) : Int := if Moor.root n * Moor.root n < n then Moor.root n + 1 else Moor.root n
theorem Moor.rootUp_is {n : Int} (h0 : 0 ≤ n) (hn : n < 1152921504606846976) : Moor.root n ≤ Moor.rootUp n ∧ Moor.rootUp n ≤ Moor.root n + 1 ∧ n ≤ Moor.rootUp n * Moor.rootUp n := by
  obtain ⟨h1, h2, h3⟩ := Moor.root_is h0 hn
  unfold Moor.rootUp
  by_cases c : Moor.root n * Moor.root n < n
  · rw [if_pos c]; omega
  · rw [if_neg c]; omega
theorem Moor.root_pos {n : Int} (h0 : 1 ≤ n) (hn : n < 1152921504606846976) : 1 ≤ Moor.root n ∧ Moor.root n < 1073741824 := by
  have h := Moor.root_is (n := n) (by omega) hn
  refine ⟨?_, h.small hn⟩
  obtain ⟨h1, h2, h3⟩ := h
  by_cases c : 1 ≤ Moor.root n
  · exact c
  · have e : Moor.root n = 0 := by omega
    rw [e] at h3
    omega
theorem Moor.rootUp_wrap {n : Int} (h0 : 0 ≤ n) (hn : n < 1152921504606846976) : (if wrap64 (Moor.root n * Moor.root n) < n then wrap64 (Moor.root n + 1) else Moor.root n) = Moor.rootUp n := by
  have h := Moor.root_is h0 hn
  have h1 := h.small hn
  obtain ⟨h2, h3, _⟩ := h
  have hp := sq_le_sq (a := 0) (b := Moor.root n) (by omega) h2
  rw [wrap_id (n := Moor.root n * Moor.root n) (by omega) (by omega), wrap_id (n := Moor.root n + 1) (by omega) (by omega)]
  rfl
theorem Moor.refRoot_l0 {n : Int} (h0 : 0 ≤ n) (j : Nat) : ∀ (k : Nat) (lo hi : Int), 0 ≤ lo → lo ≤ hi → hi ≤ 2147483648 → lo * lo ≤ n → n < (hi + 1) * (hi + 1) → hi - lo < 2 ^ j → j + 1 ≤ k →
    ∃ s, isobathref02_Root.l0 k n lo hi = some s ∧ Moor.IsRoot n s := by
  induction j with
  | zero =>
    intro k lo hi a1 a2 a3 a4 a5 a6 hk
    obtain ⟨k, rfl⟩ : ∃ m, k = m + 1 := ⟨k - 1, by omega⟩
    have e : lo = hi := by simp at a6; omega
    subst e
    simp only [isobathref02_Root.l0]
    rw [if_neg (by omega)]
    exact ⟨_, rfl, a1, a4, a5⟩
  | succ j ih =>
    intro k lo hi a1 a2 a3 a4 a5 a6 hk
    obtain ⟨k, rfl⟩ : ∃ m, k = m + 1 := ⟨k - 1, by omega⟩
    simp only [isobathref02_Root.l0]
    by_cases c : lo < hi
    · rw [if_pos c]
      have hp2 : (2 : Int) ^ (j + 1) = 2 * 2 ^ j := by rw [Int.pow_succ]; omega
      rw [hp2] at a6
      generalize (2 : Int) ^ j = b at *
      rw [wrap_id (n := lo + hi) (by omega) (by omega), wrap_id (n := lo + hi + 1) (by omega) (by omega), tdiv_pos (by omega), wrap_id (n := (lo + hi + 1) / 2) (by omega) (by omega)]
      generalize hm : (lo + hi + 1) / 2 = m
      have hq := sq_le_sq (a := m) (b := 2147483648) (by omega) (by omega)
      have hp := sq_le_sq (a := 0) (b := m) (by omega) (by omega)
      rw [wrap_id (n := m * m) (by omega) (by omega)]
      by_cases d : m * m ≤ n
      · rw [if_pos d]
        exact ih k m hi (by omega) (by omega) a3 d a5 (by omega) (by omega)
      · rw [if_neg d, wrap_id (n := m - 1) (by omega) (by omega)]
        exact ih k lo (m - 1) a1 (by omega) (by omega) a4 (by rw [show m - 1 + 1 = m by omega]; omega) (by omega) (by omega)
    · rw [if_neg c]
      have e : lo = hi := by omega
      subst e
      exact ⟨_, rfl, a1, a4, a5⟩
theorem Moor.refRoot {n : Int} (h0 : 0 ≤ n) (hn : n < 1152921504606846976) {k : Nat} (hk : 33 ≤ k) : isobathref02_Root.f k n = some (Moor.root n) := by
  obtain ⟨s, h1, h2⟩ := Moor.refRoot_l0 h0 32 k 0 2147483648 (by omega) (by omega) (by omega) (by omega) (by
    have e : (2147483648 + 1 : Int) * (2147483648 + 1) = 4611686022722355201 := by decide
    rw [e]
    omega) (by decide) (by omega)
  unfold isobathref02_Root.f
  rw [h1, h2.unique (Moor.root_is h0 hn)]
theorem Moor.refRootUp {n : Int} (h0 : 0 ≤ n) (hn : n < 1152921504606846976) {k : Nat} (hk : 33 ≤ k) : isobathref02_RootUp.f k n = some (Moor.rootUp n) := by
  unfold isobathref02_RootUp.f
  rw [Moor.refRoot h0 hn hk, Option.bind_some, ← Moor.rootUp_wrap h0 hn]
  by_cases c : wrap64 (Moor.root n * Moor.root n) < n
  · rw [if_pos c, if_pos c]
  · rw [if_neg c, if_neg c]

end Go.Proofs.Ytebcmhajbjkojaa.P

namespace Go.Proofs.Ytebcmhajbjkojaa.P
open Go.RowKit Go.Proofs.YtebcmhajbjkojaaW.PrintWords Go.Proofs.YtebcmhajbjkojaaW.PrintLast Go.Proofs.YtebcmhajbjkojaaW.PrintMore
attribute [local go_sem] max2_int min2_int max_two min_two max_three min_three max_four min_four   -- for this text's walks alone
set_option linter.unusedVariables false
set_option linter.unusedSimpArgs false

-- LIB
-- WANT isobath/mooring.rounds$1
-- WANT isobath/mooring.rounds$2
-- WANT isobath/mooring.rounds$3
/-! ### tension, offset and rise, in closed form -/
def Moor.sqL (p : S57) (v : Int) : Int := p.f0 * p.f0 + v * v
def Moor.sqH (p : S57) (v : Int) : Int := p.f1 * p.f1 + v * v
/-- A pull and a lift as they are in a mooring that stands. -/
def Moor.okB (p : S57) (v : Int) : Prop := 0 ≤ p.f0 ∧ p.f0 ≤ p.f1 ∧ p.f1 ≤ 24000000 ∧ 1 ≤ v ∧ v ≤ 41943040
def Moor.tens (p : S57) (v : Int) : S57 := ⟨Moor.root (Moor.sqL p v), Moor.rootUp (Moor.sqH p v)⟩
def Moor.offs (l : Int) (p : S57) (v : Int) : S57 := ⟨l * p.f0 / Moor.rootUp (Moor.sqL p v), min l ((l * p.f1 + Moor.root (Moor.sqH p v) - 1) / Moor.root (Moor.sqH p v))⟩
def Moor.rise (l : Int) (p : S57) (v : Int) : S57 := ⟨l * v / Moor.rootUp (Moor.sqH p v), min l ((l * v + Moor.root (Moor.sqL p v) - 1) / Moor.root (Moor.sqL p v))⟩
theorem Moor.sq_bound {p : S57} {v : Int} (h : Moor.okB p v) : 1 ≤ v * v ∧ v * v ≤ 1759218604441600 ∧ 0 ≤ p.f0 * p.f0 ∧ p.f0 * p.f0 ≤ p.f1 * p.f1 ∧ p.f1 * p.f1 ≤ 576000000000000 := by
  obtain ⟨h1, h2, h3, h4, h5⟩ := h
  have a1 := sq_le_sq (a := 1) (b := v) (by omega) h4
  have a2 := sq_le_sq (a := v) (b := 41943040) (by omega) h5
  have a3 := sq_le_sq (a := 0) (b := p.f0) (by omega) h1
  have a4 := sq_le_sq h1 h2
  have a5 := sq_le_sq (a := p.f1) (b := 24000000) (by omega) h3
  omega
theorem Moor.sq_range {p : S57} {v : Int} (h : Moor.okB p v) : 1 ≤ Moor.sqL p v ∧ Moor.sqL p v < 1152921504606846976 ∧ 1 ≤ Moor.sqH p v ∧ Moor.sqH p v < 1152921504606846976 ∧ Moor.sqL p v ≤ Moor.sqH p v := by
  have := Moor.sq_bound h
  unfold Moor.sqL Moor.sqH
  omega
theorem Moor.sqL_wrap {p : S57} {v : Int} (h : Moor.okB p v) : wrap64 (wrap64 (p.f0 * p.f0) + wrap64 (v * v)) = Moor.sqL p v := by
  have := Moor.sq_bound h
  rw [wrap_id (n := p.f0 * p.f0) (by omega) (by omega), wrap_id (n := v * v) (by omega) (by omega), wrap_id (by omega) (by omega)]
  rfl
theorem Moor.sqH_wrap {p : S57} {v : Int} (h : Moor.okB p v) : wrap64 (wrap64 (p.f1 * p.f1) + wrap64 (v * v)) = Moor.sqH p v := by
  have := Moor.sq_bound h
  rw [wrap_id (n := p.f1 * p.f1) (by omega) (by omega), wrap_id (n := v * v) (by omega) (by omega), wrap_id (by omega) (by omega)]
  rfl
theorem Moor.lo_f {a b : Int} (h : 0 ≤ a) (h1 : a ≤ 9223372036854775807) (hb : 1 ≤ b) : mooring_rounds_2.f a b = some (a / b) := by
  have h2 : a / b ≤ a := Int.ediv_le_self _ h
  have h3 : 0 ≤ a / b := Int.ediv_nonneg h (by omega)
  unfold mooring_rounds_2.f
  rw [if_neg (by omega), tdiv_pos h, wrap_id (by omega) (by omega)]
theorem Moor.hi_f {a b : Int} (h : 0 ≤ a) (h1 : a ≤ 1152921504606846976) (hb : 1 ≤ b) (h2 : b ≤ 1152921504606846976) : mooring_rounds_3.f a b = some ((a + b - 1) / b) := by
  have h4 : (a + b - 1) / b ≤ a + b - 1 := Int.ediv_le_self _ (by omega)
  have h3 : 0 ≤ (a + b - 1) / b := Int.ediv_nonneg (by omega) (by omega)
  unfold mooring_rounds_3.f
  rw [if_neg (by omega), wrap_id (n := a + b) (by omega) (by omega), wrap_id (n := a + b - 1) (by omega) (by omega), tdiv_pos (by omega), wrap_id (by omega) (by omega)]
theorem Moor.prod_range {l x : Int} (h0 : 0 ≤ l) (h1 : l ≤ 1048576) (h2 : 0 ≤ x) (h3 : x ≤ 41943040) : 0 ≤ l * x ∧ l * x ≤ 43980465111040 := by
  have a1 := Int.mul_nonneg h0 h2
  have a2 : l * x ≤ 1048576 * 41943040 := Int.mul_le_mul h1 h3 h2 (by omega)
  omega

end Go.Proofs.Ytebcmhajbjkojaa.P

namespace Go.Proofs.Ytebcmhajbjkojaa.P
open Go.RowKit Go.Proofs.YtebcmhajbjkojaaW.PrintWords Go.Proofs.YtebcmhajbjkojaaW.PrintLast Go.Proofs.YtebcmhajbjkojaaW.PrintMore
attribute [local go_sem] max2_int min2_int max_two min_two max_three min_three max_four min_four   -- for this text's walks alone
set_option linter.unusedVariables false
set_option linter.unusedSimpArgs false

-- LIB
-- WANT isobath/mooring.rounds$1
-- WANT isobath/bound.Check
-- WANT isobath/mooring.Check
/-! ### shapes of whole moorings, in closed form -/
theorem Moor.liftsFrom_bound {els : List S46} (h : ∀ e ∈ els, Moor.elB e = true) (s : Int) : ∀ v ∈ Moor.liftsFrom s els, v ≤ s + 1048576 * (els.length : Int) := by
  induction els generalizing s with
  | nil => intro v hv; cases hv
  | cons e es ih =>
    intro v hv
    have h1 := Moor.elB_iff.1 (h e List.mem_cons_self)
    rw [List.length_cons]
    rcases List.mem_cons.1 hv with rfl | hv
    · have : (0 : Int) ≤ es.length := by omega
      omega
    · have := ih (fun x hx => h x (List.mem_cons_of_mem _ hx)) (s + e.f1) v hv
      omega
theorem Moor.lifts_range {els : List S46} (h : ∀ e ∈ els, Moor.elB e = true) (hl : els.length ≤ 40) (hs : Moor.stands els = true) : ∀ v ∈ Moor.lifts els, 1 ≤ v ∧ v ≤ 41943040 := by
  intro v hv
  have h1 := Moor.liftsFrom_bound h 0 v hv
  unfold Moor.stands at hs
  have h2 := List.all_eq_true.1 hs v hv
  simp only [decide_eq_true_eq] at h2
  omega
theorem Moor.pullsFrom_range {free : Bool} {on : List S57} (h : ∀ x ∈ on, Moor.onB x) (lo hi m : Int) (h0 : 0 ≤ lo) (h1 : lo ≤ hi) (h2 : m ≤ 2 * hi) : ∀ p ∈ Moor.pullsFrom free lo hi m on, 0 ≤ p.f0 ∧ p.f0 ≤ p.f1 ∧ p.f1 ≤ hi + 600000 * (on.length : Int) := by
  induction on generalizing lo hi m with
  | nil => intro p hp; cases hp
  | cons x xs ih =>
    intro p hp
    have hx := h x List.mem_cons_self
    unfold Moor.onB at hx
    rw [List.length_cons]
    rcases List.mem_cons.1 hp with rfl | hp
    · have hn : (0 : Int) ≤ xs.length := by omega
      cases free with
      | true => simp only [if_true]; omega
      | false => simp only [Bool.false_eq_true, if_false]; omega
    · have := ih (fun y hy => h y (List.mem_cons_of_mem _ hy)) (lo + x.f0) (hi + x.f1) (max m (x.f0 + x.f1)) (by omega) (by omega) (by omega) p hp
      omega
theorem Moor.pulls_range {free : Bool} {on : List S57} (h : ∀ x ∈ on, Moor.onB x) (hl : on.length ≤ 40) : ∀ p ∈ Moor.pulls free on, 0 ≤ p.f0 ∧ p.f0 ≤ p.f1 ∧ p.f1 ≤ 24000000 := by
  intro p hp
  have := Moor.pullsFrom_range h 0 0 0 (by omega) (by omega) (by omega) p hp
  omega
def Moor.tensAt (ps : List S57) (li : List Int) (i : Nat) : S57 := Moor.tens (rd_T57 ps (i : Int)) (rd li (i : Int))
def Moor.offsAt (els : List S46) (ps : List S57) (li : List Int) (i : Nat) : S57 := Moor.offs (rd_T46 els (i : Int)).f0 (rd_T57 ps (i : Int)) (rd li (i : Int))
def Moor.riseAt (els : List S46) (ps : List S57) (li : List Int) (i : Nat) : S57 := Moor.rise (rd_T46 els (i : Int)).f0 (rd_T57 ps (i : Int)) (rd li (i : Int))
def Moor.list (val : Nat → S57) (n : Nat) : List S57 := (List.range n).map val
theorem Moor.list_succ (val : Nat → S57) (n : Nat) : Moor.list val (n + 1) = Moor.list val n ++ [val n] := by
  unfold Moor.list
  rw [List.range_succ, List.map_append]
  rfl
theorem Moor.list_length (val : Nat → S57) (n : Nat) : (Moor.list val n).length = n := by
  unfold Moor.list
  rw [List.length_map, List.length_range]
theorem Moor.list_small {val : Nat → S57} {j n : Nat} (h : n ≤ 40) (hj : j < n) : ((Moor.list val j).length + 1) * 16 ≤ 140737488355328 := by
  rw [Moor.list_length]
  omega
def Moor.midB (x : S57) : Prop := 0 ≤ x.f0 ∧ x.f0 ≤ 70368744177664 ∧ 0 ≤ x.f1 ∧ x.f1 ≤ 70368744177664
theorem Moor.mid_bound {on : List S57} (h : ∀ x ∈ on, Moor.midB x) : 0 ≤ Moor.slo on ∧ Moor.slo on ≤ 70368744177664 * (on.length : Int) ∧ 0 ≤ Moor.shi on ∧ Moor.shi on ≤ 70368744177664 * (on.length : Int) := by
  induction on with
  | nil => simp [Moor.slo, Moor.shi]
  | cons x xs ih =>
    have h1 := h x List.mem_cons_self
    have h2 := ih (fun y hy => h y (List.mem_cons_of_mem _ hy))
    unfold Moor.midB at h1
    rw [Moor.slo, Moor.shi, List.length_cons]
    omega
theorem Moor.rise_mid {l v : Int} {p : S57} (hl0 : 0 ≤ l) (hl1 : l ≤ 1048576) (hb : Moor.okB p v) : Moor.midB (Moor.rise l p v) := by
  obtain ⟨r1, r2, r3, r4, _⟩ := Moor.sq_range hb
  obtain ⟨b1, b2, b3, b4, b5⟩ := hb
  have m := Moor.prod_range hl0 hl1 (x := v) (by omega) (by omega)
  have u1 := Moor.root_pos (n := Moor.sqL p v) (by omega) (by omega)
  have u2 := Moor.rootUp_is (n := Moor.sqH p v) (by omega) (by omega)
  have u3 := Moor.root_pos (n := Moor.sqH p v) (by omega) (by omega)
  have e1 := Int.ediv_nonneg (a := l * v) (b := Moor.rootUp (Moor.sqH p v)) (by omega) (by omega)
  have e2 := Int.ediv_le_self (a := l * v) (Moor.rootUp (Moor.sqH p v)) (by omega)
  have e3 := Int.ediv_nonneg (a := l * v + Moor.root (Moor.sqL p v) - 1) (b := Moor.root (Moor.sqL p v)) (by omega) (by omega)
  unfold Moor.midB Moor.rise
  simp only
  omega
theorem Moor.offs_mid {l v : Int} {p : S57} (hl0 : 0 ≤ l) (hl1 : l ≤ 1048576) (hb : Moor.okB p v) : Moor.midB (Moor.offs l p v) := by
  obtain ⟨r1, r2, r3, r4, _⟩ := Moor.sq_range hb
  obtain ⟨b1, b2, b3, b4, b5⟩ := hb
  have m := Moor.prod_range hl0 hl1 (x := p.f0) (by omega) (by omega)
  have m' := Moor.prod_range hl0 hl1 (x := p.f1) (by omega) (by omega)
  have u1 := Moor.root_pos (n := Moor.sqH p v) (by omega) (by omega)
  have u2 := Moor.rootUp_is (n := Moor.sqL p v) (by omega) (by omega)
  have u3 := Moor.root_pos (n := Moor.sqL p v) (by omega) (by omega)
  have e1 := Int.ediv_nonneg (a := l * p.f0) (b := Moor.rootUp (Moor.sqL p v)) (by omega) (by omega)
  have e2 := Int.ediv_le_self (a := l * p.f0) (Moor.rootUp (Moor.sqL p v)) (by omega)
  have e3 := Int.ediv_nonneg (a := l * p.f1 + Moor.root (Moor.sqH p v) - 1) (b := Moor.root (Moor.sqH p v)) (by omega) (by omega)
  unfold Moor.midB Moor.offs
  simp only
  omega
/-- The sum of the lengths. -/
def Moor.long : List S46 → Int
  | [] => 0
  | e :: es => e.f0 + Moor.long es
theorem Moor.long_app (a b : List S46) : Moor.long (a ++ b) = Moor.long a + Moor.long b := by
  induction a with
  | nil => simp [Moor.long]
  | cons x xs ih => rw [List.cons_append, Moor.long, Moor.long, ih]; omega
theorem Moor.long_take {els : List S46} {i : Nat} {e : S46} (h : els[i]? = some e) : Moor.long (els.take (i + 1)) = Moor.long (els.take i) + e.f0 := by
  rw [take_snoc' h, Moor.long_app]
  simp [Moor.long]
theorem Moor.long_bound {els : List S46} (h : ∀ e ∈ els, Moor.elB e = true) : 0 ≤ Moor.long els ∧ Moor.long els ≤ 1048576 * (els.length : Int) := by
  induction els with
  | nil => simp [Moor.long]
  | cons e es ih =>
    have h1 := Moor.elB_iff.1 (h e List.mem_cons_self)
    have h2 := ih (fun x hx => h x (List.mem_cons_of_mem _ hx))
    rw [Moor.long, List.length_cons]
    omega
/-- What is known of a mooring that stands. -/
structure Moor.Ok (d : Int) (els : List S46) (an fr : Int) (cs : List S57) : Prop where
  n40 : els.length ≤ 40
  n0 : 0 < els.length
  elok : ∀ e ∈ els, Moor.elB e = true
  len : cs.length = els.length
  cur : cs.all Moor.curB = true
  chk : Moor.chk d els an fr = 0
theorem Moor.err_ok {d an fr : Int} {els : List S46} {cs : List S57} {stand : Bool} (h : Moor.err d els an fr cs stand = 0) : Moor.Ok d els an fr cs ∧ (stand = true → Moor.stands els = true) := by
  unfold Moor.err at h
  by_cases h1 : Moor.chk d els an fr = 0
  · rw [if_neg (by simpa using h1)] at h
    obtain ⟨h40, hn0, _, _, _, _, _, _, hel⟩ := Moor.chk_ok h1
    by_cases h2 : cs.length = els.length
    · rw [if_neg (by simpa using h2)] at h
      unfold Moor.err2 at h
      by_cases h3 : cs.all Moor.curB = true
      · rw [if_pos h3] at h
        refine ⟨⟨h40, hn0, hel, h2, h3, h1⟩, fun hs => ?_⟩
        by_cases h4 : stand = true ∧ Moor.stands els = false
        · rw [if_pos h4] at h; cases h
        · cases h5 : Moor.stands els with
          | true => rfl
          | false => exact absurd ⟨hs, h5⟩ h4
      · rw [if_neg h3] at h; cases h
    · rw [if_pos h2] at h; cases h
  · rw [if_pos h1] at h; exact absurd h h1
theorem Moor.Ok.onlen {d an fr : Int} {els : List S46} {cs : List S57} (h : Moor.Ok d els an fr cs) : (Moor.on els cs).length = els.length := Moor.on_length h.len
theorem Moor.Ok.pulllen {d an fr : Int} {els : List S46} {cs : List S57} (h : Moor.Ok d els an fr cs) (free : Bool) : (Moor.pulls free (Moor.on els cs)).length = els.length := by rw [Moor.pulls_length, h.onlen]
theorem Moor.Ok.at {d an fr : Int} {els : List S46} {cs : List S57} (h : Moor.Ok d els an fr cs) (hs : Moor.stands els = true) (free : Bool) {i : Nat} (hi : i < els.length) :
    els[i]? = some (rd_T46 els (i : Int)) ∧ (Moor.pulls free (Moor.on els cs))[i]? = some (rd_T57 (Moor.pulls free (Moor.on els cs)) (i : Int)) ∧ (Moor.lifts els)[i]? = some (rd (Moor.lifts els) (i : Int)) ∧ Moor.okB (rd_T57 (Moor.pulls free (Moor.on els cs)) (i : Int)) (rd (Moor.lifts els) (i : Int)) ∧ 0 ≤ (rd_T46 els (i : Int)).f0 ∧ (rd_T46 els (i : Int)).f0 ≤ 1048576 := by
  have hp : i < (Moor.pulls free (Moor.on els cs)).length := by rw [h.pulllen]; exact hi
  have hl : i < (Moor.lifts els).length := by rw [Moor.lifts_length]; exact hi
  rw [Moor.rdE hi, Moor.rdS hp, rd_nat hl]
  have h1 := Moor.pulls_range (free := free) (Moor.on_onB h.elok h.cur) (by rw [h.onlen]; exact h.n40) _ (List.getElem_mem hp)
  have h2 := Moor.lifts_range h.elok h.n40 hs _ (List.getElem_mem hl)
  have h3 := Moor.elB_iff.1 (h.elok _ (List.getElem_mem hi))
  exact ⟨List.getElem?_eq_getElem hi, List.getElem?_eq_getElem hp, List.getElem?_eq_getElem hl, ⟨h1.1, h1.2.1, h1.2.2, h2.1, h2.2⟩, h3.1, h3.2.1⟩
theorem Moor.Ok.rises_mid {d an fr : Int} {els : List S46} {cs : List S57} (h : Moor.Ok d els an fr cs) (hs : Moor.stands els = true) (free : Bool) : ∀ x ∈ Moor.list (Moor.riseAt els (Moor.pulls free (Moor.on els cs)) (Moor.lifts els)) els.length, Moor.midB x := by
  intro x hx
  unfold Moor.list at hx
  obtain ⟨i, hi, rfl⟩ := List.mem_map.1 hx
  obtain ⟨-, -, -, h4, h5, h6⟩ := h.at hs free (List.mem_range.1 hi)
  exact Moor.rise_mid h5 h6 h4
theorem Moor.Ok.offs_mid {d an fr : Int} {els : List S46} {cs : List S57} (h : Moor.Ok d els an fr cs) (hs : Moor.stands els = true) (free : Bool) : ∀ x ∈ Moor.list (Moor.offsAt els (Moor.pulls free (Moor.on els cs)) (Moor.lifts els)) els.length, Moor.midB x := by
  intro x hx
  unfold Moor.list at hx
  obtain ⟨i, hi, rfl⟩ := List.mem_map.1 hx
  obtain ⟨-, -, -, h4, h5, h6⟩ := h.at hs free (List.mem_range.1 hi)
  exact Moor.offs_mid h5 h6 h4

end Go.Proofs.Ytebcmhajbjkojaa.P

namespace Go.Proofs.Ytebcmhajbjkojaa.P
open Go.RowKit Go.Proofs.YtebcmhajbjkojaaW.PrintWords Go.Proofs.YtebcmhajbjkojaaW.PrintLast Go.Proofs.YtebcmhajbjkojaaW.PrintMore
attribute [local go_sem] max2_int min2_int max_two min_two max_three min_three max_four min_four   -- for this text's walks alone
set_option linter.unusedVariables false
set_option linter.unusedSimpArgs false

/-! ### mooring_from: function 73 -/
def mooring_from.f (a0 : Int) (a1_0 : Int) (a1_1 : Int) : Option (Int × Int) := some (wrap64 (a0 - a1_1), wrap64 (a0 - a1_0))
set_option maxHeartbeats 8000000 in
set_option maxRecDepth 100000 in
theorem mooring_from.calls (a0 : Int) (a1_0 : Int) (a1_1 : Int) (r1 : Int) (r2 : Int) (w : World) (h : mooring_from.f a0 a1_0 a1_1 = some (r1, r2)) :
    Calls Try.prog 73 #[.int .i64 a0, .agg #[.int .i64 a1_0, .int .i64 a1_1]] w fun e w' => e = .returned (.agg #[.int .i64 r1, .int .i64 r2]) ∧ Below w.heap.size w w' := by
  have hu57 := Try.underlying57
  have HB := Aside0.mk (Below.refl w.heap.size w)
  have H : (some (wrap64 (a0 - a1_1), wrap64 (a0 - a1_0))) = some (r1, r2) := h
  clear h
  simp only [Option.some.injEq, Prod.mk.injEq] at H
  obtain ⟨rfl, rfl⟩ := H
  go_enter Try.func73, Try.ntmps73
  go_wp2_with (first | ((with_reducible refine gate_dst (N := 3) rfl ?_); refine box_event ?hg (N := 3) ?hd (cs := #[.int .i64 a1_0, .int .i64 a1_1]) (t := 57) ?hr ?_; (case hd => rfl); (case hg => rfl); (case hr => first | (go_simp; done) | (go_simp; rfl)); intro gb101 hg w3 hbox hb; have n0_ := Aside0.mk (below_step (by repeat (first | (with_reducible first | exact HB.out | apply below_alloc | apply pw_below_drewN | apply below_drew1) | exact HB.out)) hb); have n1_ := Aside0.mk (hbox); have n2_ := Aside0.mk ((by rw [hg]; exact (below_size (by repeat (first | (with_reducible first | exact HB.out | apply below_alloc | apply pw_below_drewN | apply below_drew1) | exact HB.out))) : w.heap.size ≤ gb101)); have n3_ := Aside0.mk ((by rw [hg]; exact (below_size (by repeat (first | (with_reducible first | exact HB.out | apply below_alloc | apply pw_below_drewN | apply below_drew1) | exact HB.out))) : w.heap.size ≤ gb101)); clear HB; have HB := n0_; have BK101 := n1_; have GW101 := n2_; have GE101 := n3_; clear n0_ n1_ n2_ n3_; clear hb hbox hg) | ((with_reducible refine gate_dst (N := 4) rfl ?_); refine box_event ?hg (N := 4) ?hd (cs := #[.int .i64 0, .int .i64 0]) (t := 57) ?hr ?_; (case hd => rfl); (case hg => rfl); (case hr => first | (go_simp; done) | (go_simp; rfl)); intro gb102 hg w4 hbox hb; have n0_ := Aside0.mk (blk_below (g := gb101) (o := .cells #[.int .i64 a1_0, .int .i64 a1_1] 57 (0, 0)) (by (with_reducible repeat (first | refine blk_drewN ?_ _ | refine blk_drew ?_ | refine blk_alloc ?_ _)); exact BK101.out) hb); have n1_ := Aside0.mk (below_step (by repeat (first | (with_reducible first | exact HB.out | apply below_alloc | apply pw_below_drewN | apply below_drew1 | refine below_set ?_ GE101.out) | exact HB.out)) hb); have n2_ := Aside0.mk (hbox); have n3_ := Aside0.mk ((by rw [hg]; exact (below_size (by repeat (first | (with_reducible first | exact HB.out | apply below_alloc | apply pw_below_drewN | apply below_drew1 | refine below_set ?_ GE101.out) | exact HB.out))) : w.heap.size ≤ gb102)); have n4_ := Aside0.mk ((by rw [hg]; exact (below_size (by repeat (first | (with_reducible first | exact HB.out | apply below_alloc | apply pw_below_drewN | apply below_drew1 | refine below_set ?_ GE101.out) | exact HB.out))) : w.heap.size ≤ gb102)); have n5_ := Aside0.mk ((by rw [hg]; exact Nat.ne_of_lt (blk_lt (g := gb101) (o := .cells #[.int .i64 a1_0, .int .i64 a1_1] 57 (0, 0)) (by (with_reducible repeat (first | refine blk_drewN ?_ _ | refine blk_drew ?_ | refine blk_alloc ?_ _)); exact BK101.out)) : gb101 ≠ gb102)); have n6_ := Aside0.mk ((by rw [hg]; exact Nat.ne_of_gt (blk_lt (g := gb101) (o := .cells #[.int .i64 a1_0, .int .i64 a1_1] 57 (0, 0)) (by (with_reducible repeat (first | refine blk_drewN ?_ _ | refine blk_drew ?_ | refine blk_alloc ?_ _)); exact BK101.out)) : gb102 ≠ gb101)); clear BK101; clear HB; have BK101 := n0_; have HB := n1_; have BK102 := n2_; have GW102 := n3_; have GE102 := n4_; have NB101_102 := n5_; have NB102_101 := n6_; clear n0_ n1_ n2_ n3_ n4_ n5_ n6_; clear hb hbox hg; have hnb5 := NB101_102.out; have hnc5 := NB102_101.out; have hcz6_0 : w4.cell? ⟨gb101, 0, none⟩ = some (.int .i64 a1_0) := (blk_cell BK101.out 0).trans rfl; have hcz6_1 : w4.cell? ⟨gb101, 1, none⟩ = some (.int .i64 a1_1) := (blk_cell BK101.out 1).trans rfl; have hfz6_0 := blk_frozen BK101.out 0; have hfz6_1 := blk_frozen BK101.out 1; have hcz7_0 : w4.cell? ⟨gb102, 0, none⟩ = some (.int .i64 0) := (blk_cell BK102.out 0).trans rfl; have hcz7_1 : w4.cell? ⟨gb102, 1, none⟩ = some (.int .i64 0) := (blk_cell BK102.out 1).trans rfl; have hfz7_0 := blk_frozen BK102.out 0; have hfz7_1 := blk_frozen BK102.out 1))
  refine bodyPost_ret (results_cell_row rfl _ _ gb102 57 #[.int .i64 (wrap64 (a0 - a1_1)), .int .i64 (wrap64 (a0 - a1_0))] (0, 0) _ rfl (by (with_reducible repeat (first | refine blk_drewN ?_ _ | refine blk_drew ?_ | refine blk_alloc ?_ _)); refine blk_put (cs := #[.int .i64 (wrap64 (a0 - a1_1)), .int .i64 0]) ?_ 1 _ rfl; (with_reducible repeat (first | refine blk_drewN ?_ _ | refine blk_drew ?_ | refine blk_alloc ?_ _)); refine blk_put (cs := #[.int .i64 0, .int .i64 0]) ?_ 0 _ rfl; (with_reducible repeat (first | refine blk_drewN ?_ _ | refine blk_drew ?_ | refine blk_alloc ?_ _)); exact BK102.out) Try.underlying57 rfl (by kernel_rfl)) rfl ?_
  exact ⟨by first | rfl | (simp [errW_none, errW_some] <;> rfl) | (simp [*, errW_none, errW_some] <;> rfl), by repeat (first | (with_reducible first | exact HB.out | apply below_alloc | apply pw_below_drewN | apply below_drew1 | refine below_set ?_ GE101.out | refine below_set ?_ GE102.out) | exact HB.out)⟩

end Go.Proofs.Ytebcmhajbjkojaa.P

namespace Go.Proofs.Ytebcmhajbjkojaa.P
open Go.RowKit Go.Proofs.YtebcmhajbjkojaaW.PrintWords Go.Proofs.YtebcmhajbjkojaaW.PrintLast Go.Proofs.YtebcmhajbjkojaaW.PrintMore
attribute [local go_sem] max2_int min2_int max_two min_two max_three min_three max_four min_four   -- for this text's walks alone
set_option linter.unusedVariables false
set_option linter.unusedSimpArgs false

-- LIB
/-! ### calls of function values; what a row's own block is not -/
section
variable {P : Program} {ops : Array Oper} {Q : Exit → Act → World → Prop}
/-- A call through a place that holds a function value, as one step of a region that draws. -/
theorem goesT_ {oi : Oper} {N : Option Tmp} {a : Act} {w : World} {K : Act → World → Prop} {f : FuncId} {fn : Func} {c : Operand} {az : Array Operand} {ts : Array TypeId} {fi cap : Array Value} (hf : P.funcs[f]? = some fn) (hname : (fn.name == "runtime.NumGoroutine") = false) (hb : fn.body.isSome = true) (args : Array Value)
    (hw : Region.wanted oi (yielded ops a.tmps) = true) (hN : oi.dst = N) (hop : oi.op = .call { callee := .value c, args := az, argTypes := ts }) (hc : a.eval c = .func (.func f) fi cap) (hargs : fi ++ az.map a.eval ++ cap = args)
    (h : Calls P f args w fun e w' => ∃ v, e = .returned v ∧ K (a.put N v) w') : if Region.wanted oi (yielded ops a.tmps) = true then Oper.wp P oi a w K Q else K (a.put N undef) w := by
  refine call_ f args hw hN ?_ h
  have he := enters_ hf hname hb args w
  unfold execOp
  simp [hop, resolve, hc, Deferred.ofValue, invoke, hargs, he]
/-- .. in a plain region. -/
theorem goesTL_ {rest : List Oper} {oi : Oper} {a : Act} {w : World} (N : Option Tmp) (hd : oi.dst = N) (hg : oi.guard = none) {f : FuncId} {fn : Func} {c : Operand} {az : Array Operand} {ts : Array TypeId} {fi cap : Array Value} (hf : P.funcs[f]? = some fn) (hname : (fn.name == "runtime.NumGoroutine") = false) (hb : fn.body.isSome = true) (args : Array Value)
    (hop : oi.op = .call { callee := .value c, args := az, argTypes := ts }) (hc : a.eval c = .func (.func f) fi cap) (hargs : fi ++ az.map a.eval ++ cap = args)
    (h : Calls P f args w fun e w' => ∃ v, e = .returned v ∧ wpList P ops Q rest (a.put N v) w') : wpList P ops Q (oi :: rest) a w := by
  refine wpList_plain hg fun K hK => ?_
  have he := enters_ hf hname hb args w
  have hrun : (execOp a.eval oi).run P w = .ok (.enter f args) w := by
    unfold execOp
    simp [hop, resolve, hc, Deferred.ofValue, invoke, hargs, he]
  unfold Oper.wp
  rw [hrun, Oper.upon_enter]
  refine h.mono fun e w'' hh => ?_
  obtain ⟨v, rfl, hk⟩ := hh
  subst hd
  exact hK _ _ hk
end
theorem R_lt {α : Type} {d : Kd α} {e : Nat} {w : World} {base : Nat} {ok : Nat → Prop} {v : Value} {xs : List α} (h : d.R e w base ok v xs) : ∀ k, v.ownBlock = some k → k < w.heap.size := fun k hk => ((Kd.R_bound h).1 k hk).2.2.1
theorem R_new_ne {α : Type} {d : Kd α} {e : Nat} {w : World} {base : Nat} {ok : Nat → Prop} {v : Value} {xs : List α} (h : d.R e w base ok v xs) {g : Nat} (hg : w.heap.size ≤ g) : some g ≠ v.ownBlock := fun e => by
  have := R_lt h g e.symm
  omega
/-- Another row of another type has been written. -/
theorem R_beside {α β : Type} {d : Kd α} {d' : Kd β} {e e' : Nat} {w w1 : World} {base base' : Nat} {ok' : Nat → Prop} {v u : Value} {xs : List α} {ys : List β} (h : d.R e w base (fun _ => True) v xs) (h' : d'.R e' w base' ok' u ys) (ht : ∀ q, q ∈ e :: d.E → q ≠ e') (hg : w.grownBy w1 u.ownBlock) : d.R e w1 base (fun _ => True) v xs :=
  Kd.R_mono (Kd.R_grown (Kd.R_apart' h (Kd.R_typed h') ht) hg (fun _ hk => hk.2)) (fun _ _ => trivial)

end Go.Proofs.Ytebcmhajbjkojaa.P

namespace Go.Proofs.Ytebcmhajbjkojaa.P
open Go.RowKit Go.Proofs.YtebcmhajbjkojaaW.PrintWords Go.Proofs.YtebcmhajbjkojaaW.PrintLast Go.Proofs.YtebcmhajbjkojaaW.PrintMore
attribute [local go_sem] max2_int min2_int max_two min_two max_three min_three max_four min_four   -- for this text's walks alone
set_option linter.unusedVariables false
set_option linter.unusedSimpArgs false

/-! ### bound_check: function 101 -/
def bound_check.l0 : Nat → List (S57) → Int → Int → Option (Int)
  | 0, _, _, _ => none
  | k + 1, x5, x6, x7 => if x7 < x6 then (if 0 ≤ x7 then (if x7 < (x5.length : Int) then (if ((rd_T57 x5 x7).f0) > ((rd_T57 x5 x7).f1) then (some 2) else (if ((rd_T57 x5 x7).f0) < (-1073741824) then (some 2) else (if ((rd_T57 x5 x7).f1) > 1073741824 then (some 2) else (bound_check.l0 k x5 x6 (wrap64 (x7 + 1)))))) else (none)) else (none)) else (some 0)
def bound_check.f (k : Nat) (l0 : List (S57)) : Option (Int) := bound_check.l0 k l0 (l0.length : Int) 0
theorem bound_check.mono_l : ∀ k, (∀ y0 y1 y2, LeO (bound_check.l0 k y0 y1 y2) (bound_check.l0 (k + 1) y0 y1 y2))
  | 0 => fun _ _ _ r h => by simp [bound_check.l0] at h
  | k + 1 => by
    have ih0 := bound_check.mono_l k
    · intro y0 y1 y2
      unfold bound_check.l0
      repeat' first
      | (with_reducible exact ih0 _ _ _)
      | (with_reducible exact LeO.refl _)
      | (with_reducible exact LeO.none _)
      | (with_reducible refine LeO.ite ?_ ?_)
      | (with_reducible refine LeO.bind ?_ (fun _ => ?_))
      | exact ih0 _ _ _
      | exact LeO.none _
      | refine LeO.ite ?_ ?_
      | refine LeO.bind ?_ (fun _ => ?_)
theorem bound_check.mono : ∀ a0 k, LeO (bound_check.f k a0) (bound_check.f (k + 1) a0) := by
  intro a0 k
  have ih0 := bound_check.mono_l k
  unfold bound_check.f
  repeat' first
      | (with_reducible exact ih0 _ _ _)
      | (with_reducible exact LeO.refl _)
      | (with_reducible exact LeO.none _)
      | (with_reducible refine LeO.ite ?_ ?_)
      | (with_reducible refine LeO.bind ?_ (fun _ => ?_))
      | exact ih0 _ _ _
      | exact LeO.none _
      | refine LeO.ite ?_ ?_
      | refine LeO.bind ?_ (fun _ => ?_)
set_option maxHeartbeats 8000000 in
set_option maxRecDepth 100000 in
theorem bound_check.calls (k : Nat) (A0 : Option Addr) (c0 : Nat) (l0 : List (S57)) (r : Int) (w : World) (hr0 : Kd.C k57 w A0 l0.length l0) (hc0 : l0.length ≤ c0) (h : bound_check.f k l0 = some r) :
    Calls Try.prog 101 #[.slice A0 l0.length c0] w fun e w' => e = .returned (.int .i64 r) ∧ Below w.heap.size w w' := by
  have hu57 := Try.underlying57
  have HR0 := Aside0.mk hr0
  have HC0 := Aside0.mk hc0
  clear hr0 hc0
  have HB := Aside0.mk (Below.refl w.heap.size w)
  have H : (bound_check.l0 k l0 (l0.length : Int) 0) = some r := h
  clear h
  have H' := Aside0.mk H
  clear H
  go_enter Try.func101, Try.ntmps101
  go_wp2
  go_loopg [7] k (fun kq v7 w' => ∃ (x7_1 : Int), v7 = .int .i64 x7_1 ∧ Aside0 (bound_check.l0 kq l0 (l0.length : Int) x7_1 = some r) ∧ Aside0 (kq ≤ k) ∧ Aside0 (Below w.heap.size w w'))
  case atStart => exact ⟨(0), (by first | rfl | (simp; done) | (simp [*]; done)), H', ⟨Nat.le_refl _⟩, ⟨by repeat (first | (with_reducible first | exact HB.out | apply below_alloc | apply pw_below_drewN | apply below_drew1) | exact HB.out)⟩⟩
  case round =>
    clear H'
    try clear c1
    obtain ⟨x7_1, rfl, HA, HK1, HB⟩ := hrel
    cases gk with
    | zero => exact absurd HA.out (by simp [bound_check.l0])
    | succ k1 =>
      have H := HA.out
      clear HA
      simp only [bound_check.l0] at H
      by_cases c2 : x7_1 < (l0.length : Int)
      · rw [if_pos c2] at H
        have c2b0 : decide (x7_1 < (l0.length : Int)) = true := decide_eq_true c2
        clear c2
        by_cases c3 : 0 ≤ x7_1
        · rw [if_pos c3] at H
          have c3b0 : decide (0 ≤ x7_1) = true := decide_eq_true c3
          clear c3
          by_cases c4 : x7_1 < (l0.length : Int)
          · rw [if_pos c4] at H
            have c4b0 : decide (x7_1 < (l0.length : Int)) = true := decide_eq_true c4
            clear c4
            by_cases c5 : ((rd_T57 l0 x7_1).f0) > ((rd_T57 l0 x7_1).f1)
            · rw [if_pos c5] at H
              have c5b0 : decide (((rd_T57 l0 x7_1).f1) < ((rd_T57 l0 x7_1).f0)) = true := decide_eq_true c5
              clear c5
              obtain rfl := Option.some.inj H
              have p101 : 0 ≤ (x7_1 : Int) := of_decide_eq_true (by first | (with_reducible assumption) | assumption)
              have q101 : x7_1 < (l0.length : Int) := of_decide_eq_true (by first | (with_reducible assumption) | assumption)
              obtain ⟨ad101, e101, hx101_0, hx101_1⟩ := at_T57 HR0.out x7_1 p101 q101
              cases e101
              replace hx101_0 := (HB.out.cell (World.block_lt_of_cell? w _ hx101_0)).trans hx101_0
              replace hx101_1 := (HB.out.cell (World.block_lt_of_cell? w _ hx101_1)).trans hx101_1
              replace p101 := eq_true p101
              replace q101 := eq_true q101
              go_wp2_with (first | ((with_reducible refine gate_dst (N := 4) rfl ?_); refine box_event ?hg (N := 4) ?hd (cs := #[.int .i64 0, .int .i64 0]) (t := 57) ?hr ?_; (case hd => rfl); (case hg => rfl); (case hr => first | (go_simp; done) | (go_simp; rfl)); intro gb102 hg w6 hbox hb; have n0_ := Aside0.mk (below_step (by repeat (first | (with_reducible first | exact HB.out | apply below_alloc | apply pw_below_drewN | apply below_drew1) | exact HB.out)) hb); have n1_ := Aside0.mk (hbox); have n2_ := Aside0.mk ((by rw [hg]; exact (below_size (by repeat (first | (with_reducible first | exact HB.out | apply below_alloc | apply pw_below_drewN | apply below_drew1) | exact HB.out))) : w.heap.size ≤ gb102)); have n3_ := Aside0.mk ((by rw [hg]; exact (below_size (by repeat (first | (with_reducible first | exact HB.out | apply below_alloc | apply pw_below_drewN | apply below_drew1) | exact HB.out))) : w.heap.size ≤ gb102)); clear HB; have HB := n0_; have BK102 := n1_; have GW102 := n2_; have GE102 := n3_; clear n0_ n1_ n2_ n3_; clear hb hbox hg; have hcz7_0 : w6.cell? ⟨gb102, 0, none⟩ = some (.int .i64 0) := (blk_cell BK102.out 0).trans rfl; have hcz7_1 : w6.cell? ⟨gb102, 1, none⟩ = some (.int .i64 0) := (blk_cell BK102.out 1).trans rfl; have hfz7_0 := blk_frozen BK102.out 0; have hfz7_1 := blk_frozen BK102.out 1))
              go_ret
              exact ⟨by first | rfl | (simp [errW_none, errW_some] <;> rfl) | (simp [*, errW_none, errW_some] <;> rfl), by repeat (first | (with_reducible first | exact HB.out | apply below_alloc | apply pw_below_drewN | apply below_drew1 | refine below_set ?_ GE102.out) | exact HB.out)⟩
            · rw [if_neg c5] at H
              have c5b0 : decide (((rd_T57 l0 x7_1).f1) < ((rd_T57 l0 x7_1).f0)) = false := decide_eq_false c5
              clear c5
              by_cases c8 : ((rd_T57 l0 x7_1).f0) < (-1073741824)
              · rw [if_pos c8] at H
                have c8b0 : decide (((rd_T57 l0 x7_1).f0) < (-1073741824)) = true := decide_eq_true c8
                clear c8
                obtain rfl := Option.some.inj H
                have p101 : 0 ≤ (x7_1 : Int) := of_decide_eq_true (by first | (with_reducible assumption) | assumption)
                have q101 : x7_1 < (l0.length : Int) := of_decide_eq_true (by first | (with_reducible assumption) | assumption)
                obtain ⟨ad101, e101, hx101_0, hx101_1⟩ := at_T57 HR0.out x7_1 p101 q101
                cases e101
                replace hx101_0 := (HB.out.cell (World.block_lt_of_cell? w _ hx101_0)).trans hx101_0
                replace hx101_1 := (HB.out.cell (World.block_lt_of_cell? w _ hx101_1)).trans hx101_1
                replace p101 := eq_true p101
                replace q101 := eq_true q101
                go_wp2_with (first | ((with_reducible refine gate_dst (N := 4) rfl ?_); refine box_event ?hg (N := 4) ?hd (cs := #[.int .i64 0, .int .i64 0]) (t := 57) ?hr ?_; (case hd => rfl); (case hg => rfl); (case hr => first | (go_simp; done) | (go_simp; rfl)); intro gb102 hg w9 hbox hb; have n0_ := Aside0.mk (below_step (by repeat (first | (with_reducible first | exact HB.out | apply below_alloc | apply pw_below_drewN | apply below_drew1) | exact HB.out)) hb); have n1_ := Aside0.mk (hbox); have n2_ := Aside0.mk ((by rw [hg]; exact (below_size (by repeat (first | (with_reducible first | exact HB.out | apply below_alloc | apply pw_below_drewN | apply below_drew1) | exact HB.out))) : w.heap.size ≤ gb102)); have n3_ := Aside0.mk ((by rw [hg]; exact (below_size (by repeat (first | (with_reducible first | exact HB.out | apply below_alloc | apply pw_below_drewN | apply below_drew1) | exact HB.out))) : w.heap.size ≤ gb102)); clear HB; have HB := n0_; have BK102 := n1_; have GW102 := n2_; have GE102 := n3_; clear n0_ n1_ n2_ n3_; clear hb hbox hg; have hcz10_0 : w9.cell? ⟨gb102, 0, none⟩ = some (.int .i64 0) := (blk_cell BK102.out 0).trans rfl; have hcz10_1 : w9.cell? ⟨gb102, 1, none⟩ = some (.int .i64 0) := (blk_cell BK102.out 1).trans rfl; have hfz10_0 := blk_frozen BK102.out 0; have hfz10_1 := blk_frozen BK102.out 1))
                go_ret
                exact ⟨by first | rfl | (simp [errW_none, errW_some] <;> rfl) | (simp [*, errW_none, errW_some] <;> rfl), by repeat (first | (with_reducible first | exact HB.out | apply below_alloc | apply pw_below_drewN | apply below_drew1 | refine below_set ?_ GE102.out) | exact HB.out)⟩
              · rw [if_neg c8] at H
                have c8b0 : decide (((rd_T57 l0 x7_1).f0) < (-1073741824)) = false := decide_eq_false c8
                clear c8
                by_cases c11 : ((rd_T57 l0 x7_1).f1) > 1073741824
                · rw [if_pos c11] at H
                  have c11b0 : decide (1073741824 < ((rd_T57 l0 x7_1).f1)) = true := decide_eq_true c11
                  clear c11
                  obtain rfl := Option.some.inj H
                  have p101 : 0 ≤ (x7_1 : Int) := of_decide_eq_true (by first | (with_reducible assumption) | assumption)
                  have q101 : x7_1 < (l0.length : Int) := of_decide_eq_true (by first | (with_reducible assumption) | assumption)
                  obtain ⟨ad101, e101, hx101_0, hx101_1⟩ := at_T57 HR0.out x7_1 p101 q101
                  cases e101
                  replace hx101_0 := (HB.out.cell (World.block_lt_of_cell? w _ hx101_0)).trans hx101_0
                  replace hx101_1 := (HB.out.cell (World.block_lt_of_cell? w _ hx101_1)).trans hx101_1
                  replace p101 := eq_true p101
                  replace q101 := eq_true q101
                  go_wp2_with (first | ((with_reducible refine gate_dst (N := 4) rfl ?_); refine box_event ?hg (N := 4) ?hd (cs := #[.int .i64 0, .int .i64 0]) (t := 57) ?hr ?_; (case hd => rfl); (case hg => rfl); (case hr => first | (go_simp; done) | (go_simp; rfl)); intro gb102 hg w12 hbox hb; have n0_ := Aside0.mk (below_step (by repeat (first | (with_reducible first | exact HB.out | apply below_alloc | apply pw_below_drewN | apply below_drew1) | exact HB.out)) hb); have n1_ := Aside0.mk (hbox); have n2_ := Aside0.mk ((by rw [hg]; exact (below_size (by repeat (first | (with_reducible first | exact HB.out | apply below_alloc | apply pw_below_drewN | apply below_drew1) | exact HB.out))) : w.heap.size ≤ gb102)); have n3_ := Aside0.mk ((by rw [hg]; exact (below_size (by repeat (first | (with_reducible first | exact HB.out | apply below_alloc | apply pw_below_drewN | apply below_drew1) | exact HB.out))) : w.heap.size ≤ gb102)); clear HB; have HB := n0_; have BK102 := n1_; have GW102 := n2_; have GE102 := n3_; clear n0_ n1_ n2_ n3_; clear hb hbox hg; have hcz13_0 : w12.cell? ⟨gb102, 0, none⟩ = some (.int .i64 0) := (blk_cell BK102.out 0).trans rfl; have hcz13_1 : w12.cell? ⟨gb102, 1, none⟩ = some (.int .i64 0) := (blk_cell BK102.out 1).trans rfl; have hfz13_0 := blk_frozen BK102.out 0; have hfz13_1 := blk_frozen BK102.out 1))
                  go_ret
                  exact ⟨by first | rfl | (simp [errW_none, errW_some] <;> rfl) | (simp [*, errW_none, errW_some] <;> rfl), by repeat (first | (with_reducible first | exact HB.out | apply below_alloc | apply pw_below_drewN | apply below_drew1 | refine below_set ?_ GE102.out) | exact HB.out)⟩
                · rw [if_neg c11] at H
                  have c11b0 : decide (1073741824 < ((rd_T57 l0 x7_1).f1)) = false := decide_eq_false c11
                  clear c11
                  have H' := Aside0.mk H
                  clear H
                  have p101 : 0 ≤ (x7_1 : Int) := of_decide_eq_true (by first | (with_reducible assumption) | assumption)
                  have q101 : x7_1 < (l0.length : Int) := of_decide_eq_true (by first | (with_reducible assumption) | assumption)
                  obtain ⟨ad101, e101, hx101_0, hx101_1⟩ := at_T57 HR0.out x7_1 p101 q101
                  cases e101
                  replace hx101_0 := (HB.out.cell (World.block_lt_of_cell? w _ hx101_0)).trans hx101_0
                  replace hx101_1 := (HB.out.cell (World.block_lt_of_cell? w _ hx101_1)).trans hx101_1
                  replace p101 := eq_true p101
                  replace q101 := eq_true q101
                  go_wp2_with (first | ((with_reducible refine gate_dst (N := 4) rfl ?_); refine box_event ?hg (N := 4) ?hd (cs := #[.int .i64 0, .int .i64 0]) (t := 57) ?hr ?_; (case hd => rfl); (case hg => rfl); (case hr => first | (go_simp; done) | (go_simp; rfl)); intro gb102 hg w14 hbox hb; have n0_ := Aside0.mk (below_step (by repeat (first | (with_reducible first | exact HB.out | apply below_alloc | apply pw_below_drewN | apply below_drew1) | exact HB.out)) hb); have n1_ := Aside0.mk (hbox); have n2_ := Aside0.mk ((by rw [hg]; exact (below_size (by repeat (first | (with_reducible first | exact HB.out | apply below_alloc | apply pw_below_drewN | apply below_drew1) | exact HB.out))) : w.heap.size ≤ gb102)); have n3_ := Aside0.mk ((by rw [hg]; exact (below_size (by repeat (first | (with_reducible first | exact HB.out | apply below_alloc | apply pw_below_drewN | apply below_drew1) | exact HB.out))) : w.heap.size ≤ gb102)); clear HB; have HB := n0_; have BK102 := n1_; have GW102 := n2_; have GE102 := n3_; clear n0_ n1_ n2_ n3_; clear hb hbox hg; have hcz15_0 : w14.cell? ⟨gb102, 0, none⟩ = some (.int .i64 0) := (blk_cell BK102.out 0).trans rfl; have hcz15_1 : w14.cell? ⟨gb102, 1, none⟩ = some (.int .i64 0) := (blk_cell BK102.out 1).trans rfl; have hfz15_0 := blk_frozen BK102.out 0; have hfz15_1 := blk_frozen BK102.out 1))
                  go_roundg k1
                  case measure => have := HK1.out; omega
                  case rel => exact ⟨(wrap64 (x7_1 + 1)), (by first | rfl | (simp; done) | (simp [*]; done)), H', ⟨by have := HK1.out; omega⟩, ⟨by repeat (first | (with_reducible first | exact HB.out | apply below_alloc | apply pw_below_drewN | apply below_drew1 | refine below_set ?_ GE102.out) | exact HB.out)⟩⟩
          · rw [if_neg c4] at H
            exact absurd H (by simp)
        · rw [if_neg c3] at H
          exact absurd H (by simp)
      · rw [if_neg c2] at H
        have c2b0 : decide (x7_1 < (l0.length : Int)) = false := decide_eq_false c2
        clear c2
        obtain rfl := Option.some.inj H
        go_wp2
        go_ret
        exact ⟨by first | rfl | (simp [errW_none, errW_some] <;> rfl) | (simp [*, errW_none, errW_some] <;> rfl), by repeat (first | (with_reducible first | exact HB.out | apply below_alloc | apply pw_below_drewN | apply below_drew1) | exact HB.out)⟩

end Go.Proofs.Ytebcmhajbjkojaa.P

namespace Go.Proofs.Ytebcmhajbjkojaa.P
open Go.RowKit Go.Proofs.YtebcmhajbjkojaaW.PrintWords Go.Proofs.YtebcmhajbjkojaaW.PrintLast Go.Proofs.YtebcmhajbjkojaaW.PrintMore
attribute [local go_sem] max2_int min2_int max_two min_two max_three min_three max_four min_four   -- for this text's walks alone
set_option linter.unusedVariables false
set_option linter.unusedSimpArgs false

/-! ### bound_Check: function 89 -/
def bound_Check.f (k : Nat) (a0_0 : Int) (a0_1 : Int) : Option (Int) := (bound_check.f k (([(⟨a0_0, a0_1⟩ : S57)] : List (S57)))).bind fun t105 => (some t105)
theorem bound_Check.mono : ∀ a0 a1 k, LeO (bound_Check.f k a0 a1) (bound_Check.f (k + 1) a0 a1) := by
  intro a0 a1 k
  unfold bound_Check.f
  repeat' first
      | (with_reducible exact bound_check.mono _ _)
      | (with_reducible exact LeO.refl _)
      | (with_reducible exact LeO.none _)
      | (with_reducible refine LeO.ite ?_ ?_)
      | (with_reducible refine LeO.bind ?_ (fun _ => ?_))
      | exact bound_check.mono _ _
      | exact LeO.none _
      | refine LeO.ite ?_ ?_
      | refine LeO.bind ?_ (fun _ => ?_)
set_option maxHeartbeats 8000000 in
set_option maxRecDepth 100000 in
theorem bound_Check.calls (k : Nat) (a0_0 : Int) (a0_1 : Int) (r : Int) (w : World) (h : bound_Check.f k a0_0 a0_1 = some r) :
    Calls Try.prog 89 #[.agg #[.int .i64 a0_0, .int .i64 a0_1]] w fun e w' => e = .returned (.int .i64 r) ∧ Below w.heap.size w w' := by
  have hu57 := Try.underlying57
  have HB := Aside0.mk (Below.refl w.heap.size w)
  have H : ((bound_check.f k (([(⟨a0_0, a0_1⟩ : S57)] : List (S57)))).bind fun t105 => (some t105)) = some r := h
  clear h
  obtain ⟨y102, hy102⟩ : ∃ y_ : List (S57), y_ = (([(⟨a0_0, a0_1⟩ : S57)] : List (S57))) := ⟨_, rfl⟩
  replace H : ((bound_check.f k y102).bind fun t105 => (some t105)) = some r := by first | (rw [hy102]; with_reducible exact H) | (have H2_ := (Option.bind_some _ _).symm.trans H; rw [hy102]; with_reducible exact H2_) | (have H2_ := (Option.bind_some _ _).symm.trans H; with_reducible exact H2_) | with_reducible exact H | (rw [hy102]; exact H) | exact H
  have Ny102 := Aside0.mk hy102
  clear hy102
  replace H := Option.bind_eq_some_iff.mp H
  obtain ⟨t105, A20, H⟩ := H
  replace H : (some t105) = some r := H
  have A2 := Aside0.mk A20
  clear A20
  obtain rfl := Option.some.inj H
  go_enter Try.func89, Try.ntmps89
  go_wp2_with (first | ((with_reducible refine gate_dst (N := 1) rfl ?_); refine box_event ?hg (N := 1) ?hd (cs := #[.int .i64 a0_0, .int .i64 a0_1]) (t := 57) ?hr ?_; (case hd => rfl); (case hg => rfl); (case hr => first | (go_simp; done) | (go_simp; rfl)); intro gb101 hg w3 hbox hb; have n0_ := Aside0.mk (below_step (by repeat (first | (with_reducible first | exact HB.out | apply below_alloc | apply pw_below_drewN | apply below_drew1) | exact HB.out)) hb); have n1_ := Aside0.mk (hbox); have n2_ := Aside0.mk ((by rw [hg]; exact (below_size (by repeat (first | (with_reducible first | exact HB.out | apply below_alloc | apply pw_below_drewN | apply below_drew1) | exact HB.out))) : w.heap.size ≤ gb101)); have n3_ := Aside0.mk ((by rw [hg]; exact (below_size (by repeat (first | (with_reducible first | exact HB.out | apply below_alloc | apply pw_below_drewN | apply below_drew1) | exact HB.out))) : w.heap.size ≤ gb101)); clear HB; have HB := n0_; have BK101 := n1_; have GW101 := n2_; have GE101 := n3_; clear n0_ n1_ n2_ n3_; clear hb hbox hg; have hcz4_0 : w3.cell? ⟨gb101, 0, none⟩ = some (.int .i64 a0_0) := (blk_cell BK101.out 0).trans rfl; have hcz4_1 : w3.cell? ⟨gb101, 1, none⟩ = some (.int .i64 a0_1) := (blk_cell BK101.out 1).trans rfl; have hfz4_0 := blk_frozen BK101.out 0; have hfz4_1 := blk_frozen BK101.out 1) | ((with_reducible refine gate_dst (N := 4) rfl ?_); refine Kd.R_lit k57 _ 57 ?hg (N := 4) ?hd (xs := ([(⟨a0_0, a0_1⟩ : S57)] : List (S57))) (inner := [.int .i64 a0_0, .int .i64 a0_1]) (ok := fun _ => True) (okp := fun _ => True) ?hr ?hp (fun _ hk => hk) trivial (Below.refl _ _) (Nat.le_refl _) (by simp) ?_; (case hd => rfl); (case hg => rfl); (case hr => first | (go_simp; done) | (go_simp; rfl)); (case hp => exact (Reps.c2 (show Kd.M k57 _ _ _ (⟨a0_0, a0_1⟩ : S57) [.int .i64 a0_0, .int .i64 a0_1] from (k57_mkM _ _ _ (⟨a0_0, a0_1⟩ : S57) )) (Reps.none _ _))); intro v103 w5 ho6 hb hg_ hnew_; clear hg_ hnew_; (first | rw [← Ny102.out] at ho6 | (simp only [Int.reduceToNat] at ho6; rw [← Ny102.out] at ho6)); have n0_ := Aside0.mk (Kd.R_lower (Kd.R_newB ho6 (g := gb101) (o := .cells #[.int .i64 a0_0, .int .i64 a0_1] 57 (0, 0)) (by (with_reducible repeat (first | refine blk_drewN ?_ _ | refine blk_drew ?_ | refine blk_alloc ?_ _)); exact BK101.out)) (below_size (by repeat (first | (with_reducible first | exact HB.out | apply below_alloc | apply pw_below_drewN | apply below_drew1 | refine below_set ?_ GE101.out) | exact HB.out)))); have n1_ := Aside0.mk (blk_below (g := gb101) (o := .cells #[.int .i64 a0_0, .int .i64 a0_1] 57 (0, 0)) (by (with_reducible repeat (first | refine blk_drewN ?_ _ | refine blk_drew ?_ | refine blk_alloc ?_ _)); exact BK101.out) hb); have n2_ := Aside0.mk (below_step (by repeat (first | (with_reducible first | exact HB.out | apply below_alloc | apply pw_below_drewN | apply below_drew1 | refine below_set ?_ GE101.out) | exact HB.out)) hb); clear BK101; clear HB; have HO104 := n0_; have BK101 := n1_; have HB := n2_; clear n0_ n1_ n2_; clear hb ho6; obtain ⟨Ao7, co7, eo7⟩ := Kd.R_slice HO104.out; subst eo7) | ((with_reducible refine gate_callee (f := 101) rfl ?_); refine goesL_ (some 5) rfl rfl Try.func101 (by kernel_rfl) rfl #[.slice Ao7 y102.length co7] rfl (by (try simp only [List.map_toArray, List.map_cons, List.map_nil]); first | done | rfl | (simp only [List.length_drop, List.length_take]; rfl)) ?_; (with_reducible refine (bound_check.calls k _ _ y102 t105 _ ?side1 ?side2 A2.out).mono ?_); (case side1 => repeat (first | exact (Kd.R_reads' HO104.out).2.2 | (with_reducible refine Kd.C_alloc ?_ _) | (with_reducible refine Kd.C_drewN ?_ _) | (with_reducible refine Kd.C_drew ?_))); (case side2 => exact (Kd.R_reads' HO104.out).2.1); rintro e w8 ⟨rfl, hb⟩; refine ⟨_, rfl, ?_⟩; have n0_ := Aside0.mk (Kd.R_below (by (with_reducible repeat (first | apply Kd.R_alloc | apply Kd.R_drewN | apply Kd.R_drew)); exact HO104.out) hb); have n1_ := Aside0.mk (blk_below (g := gb101) (o := .cells #[.int .i64 a0_0, .int .i64 a0_1] 57 (0, 0)) (by (with_reducible repeat (first | refine blk_drewN ?_ _ | refine blk_drew ?_ | refine blk_alloc ?_ _)); exact BK101.out) hb); have n2_ := Aside0.mk (below_step (by repeat (first | (with_reducible first | exact HB.out | apply below_alloc | apply pw_below_drewN | apply below_drew1 | refine below_set ?_ GE101.out) | exact HB.out)) hb); clear HO104; clear BK101; clear HB; have HO104 := n0_; have BK101 := n1_; have HB := n2_; clear n0_ n1_ n2_; (try clear hb); (try clear hb2); (try clear hk); (try clear hi)))
  go_ret
  exact ⟨by first | rfl | (simp [errW_none, errW_some] <;> rfl) | (simp [*, errW_none, errW_some] <;> rfl), by repeat (first | (with_reducible first | exact HB.out | apply below_alloc | apply pw_below_drewN | apply below_drew1 | refine below_set ?_ GE101.out) | exact HB.out)⟩

end Go.Proofs.Ytebcmhajbjkojaa.P

namespace Go.Proofs.Ytebcmhajbjkojaa.P
open Go.RowKit Go.Proofs.YtebcmhajbjkojaaW.PrintWords Go.Proofs.YtebcmhajbjkojaaW.PrintLast Go.Proofs.YtebcmhajbjkojaaW.PrintMore
attribute [local go_sem] max2_int min2_int max_two min_two max_three min_three max_four min_four   -- for this text's walks alone
set_option linter.unusedVariables false
set_option linter.unusedSimpArgs false

-- LIB
-- WANT isobath/bound.Check
/-! ### bound.Check at one span -/
def Bnd.chk (lo hi : Int) : Int := if lo ≤ hi ∧ -1073741824 ≤ lo ∧ hi ≤ 1073741824 then 0 else 2
theorem Bnd.check1 (lo hi : Int) : bound_Check.f 3 lo hi = some (Bnd.chk lo hi) := by
  unfold bound_Check.f bound_check.f Bnd.chk
  have e0 : rd_T57 [(⟨lo, hi⟩ : S57)] 0 = ⟨lo, hi⟩ := rfl
  simp only [bound_check.l0, List.length_singleton, e0]
  rw [if_pos (by omega), if_pos (by omega), if_pos (by omega)]
  by_cases h1 : lo > hi
  · rw [if_pos h1, if_neg (show ¬ (lo ≤ hi ∧ -1073741824 ≤ lo ∧ hi ≤ 1073741824) by omega)]; rfl
  rw [if_neg h1]
  by_cases h2 : lo < -1073741824
  · rw [if_pos h2, if_neg (show ¬ (lo ≤ hi ∧ -1073741824 ≤ lo ∧ hi ≤ 1073741824) by omega)]; rfl
  rw [if_neg h2]
  by_cases h3 : hi > 1073741824
  · rw [if_pos h3, if_neg (show ¬ (lo ≤ hi ∧ -1073741824 ≤ lo ∧ hi ≤ 1073741824) by omega)]; rfl
  rw [if_neg h3, if_pos (show lo ≤ hi ∧ -1073741824 ≤ lo ∧ hi ≤ 1073741824 by omega), if_neg (by unfold wrap64; omega)]
  rfl

end Go.Proofs.Ytebcmhajbjkojaa.P
