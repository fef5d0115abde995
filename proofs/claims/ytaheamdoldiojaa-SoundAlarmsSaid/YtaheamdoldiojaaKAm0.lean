/- The abstract machine, part 0: what a function of the program does is told by a run on plain data; the one theorem is that this run tells the truth (Go.Am.call_ok), whatever the world is. -/
import Derived.OrdersIn
import Derived.LoopNIn
import Derived.RangeFuncLeaves
import Derived.Below
import Derived.KernelRfl
import Derived.Laws.AppendOwn
import Derived.Laws.Append
import Derived.Laws.CopyRow
import Derived.Laws.Cells
import Derived.Laws.Entries
import Derived.Laws.StructEq
import Derived.Laws.Tables
import Derived.Great.BuildSlice
import Derived.Laws.MakeOwn
import Derived.RangeFuncRecord
import Derived.RangeFuncNested
import Derived.TacticsIn
set_option linter.unusedVariables false
set_option linter.unusedSimpArgs false
namespace Go.Am
open Go

/-! ### Types of cells, rows of cells, and what they hold -/
mutual
inductive CT
  | int (k : IntKind)
  | bool
  | str
  | sl (r : Row)
inductive Row
  | one (c : CT)
  | cons (c : CT) (r : Row)
end

mutual
@[reducible] def CT.T : CT → Type
  | .int _ => Int
  | .bool => Bool
  | .str => ByteArray
  | .sl r => List r.T
@[reducible] def Row.T : Row → Type
  | .one c => c.T
  | .cons c r => c.T × r.T
end

mutual
def CT.dec : (a b : CT) → Decidable (a = b)
  | .int k, .int l => if h : k = l then .isTrue (by rw [h]) else .isFalse (fun e => h (by injection e))
  | .bool, .bool => .isTrue rfl
  | .str, .str => .isTrue rfl
  | .sl r, .sl s => match Row.dec r s with
    | .isTrue h => .isTrue (by rw [h])
    | .isFalse h => .isFalse (fun e => h (by injection e))
  | .int _, .bool | .int _, .str | .int _, .sl _ | .bool, .int _ | .bool, .str | .bool, .sl _ | .str, .int _ | .str, .bool | .str, .sl _ | .sl _, .int _ | .sl _, .bool | .sl _, .str =>
    .isFalse (fun e => by cases e)
def Row.dec : (a b : Row) → Decidable (a = b)
  | .one c, .one d => match CT.dec c d with
    | .isTrue h => .isTrue (by rw [h])
    | .isFalse h => .isFalse (fun e => h (by injection e))
  | .cons c r, .cons d s => match CT.dec c d, Row.dec r s with
    | .isTrue h, .isTrue h' => .isTrue (by rw [h, h'])
    | .isFalse h, _ => .isFalse (fun e => h (by injection e))
    | _, .isFalse h => .isFalse (fun e => h (by injection e))
  | .one _, .cons _ _ | .cons _ _, .one _ => .isFalse (fun e => by cases e)
end
instance : DecidableEq Row := Row.dec

def Row.size : Row → Nat
  | .one _ => 1
  | .cons _ r => r.size + 1

mutual
def CT.dflt : (c : CT) → c.T
  | .int _ => (0 : Int)
  | .bool => false
  | .str => ByteArray.empty
  | .sl r => ([] : List r.T)
def Row.dflt : (r : Row) → r.T
  | .one c => c.dflt
  | .cons c r => (c.dflt, r.dflt)
end

/-- Whether a slice may be appended to: no; it is nil; it is the latest of a token's. -/
inductive Tok
  | no
  | fresh
  | own (t : Nat)

/-- A value. -/
inductive D
  | any
  | int (k : IntKind) (n : Int)
  | bool (b : Bool)
  | str (s : ByteArray)
  | flt (k : FloatKind) (n : Nat)
  | sl (r : Row) (xs : List r.T) (t : Tok)
  | ref (id off len : Nat)
  | ptr (id off : Nat)
  | bp (id i j : Nat)
  | ep (r : Row) (x : r.T) (j : Nat)
  | nilp
  | fn (f : FuncId) (first captured : List D)
  | yld (id : Nat)
  | nilf
  | agg (l : List D)
  | tup (l : List D)

/-- What an abstract block holds. -/
inductive Ent
  | free
  | box (l : List D)
  | buf (r : Row) (xs : List r.T)
  | tok (r : Row) (n : Nat)
  | loop (f : FuncId) (tm : List D) (ps : List Tmp) (assign body : Code) (s : LoopState) (pend : Option Code)

abbrev Res := D × List Ent

structure St where
  tm : List D
  σ : List Ent

/-! ### Cells -/
def CT.d : (c : CT) → c.T → D
  | .int k, n => .int k n
  | .bool, b => .bool b
  | .str, s => .str s
  | .sl r, xs => .sl r xs .no
def Row.ds : (r : Row) → r.T → List D
  | .one c, x => [c.d x]
  | .cons c r, x => c.d x.1 :: r.ds x.2

def Row.cast {r s : Row} (h : r = s) (xs : List r.T) : List s.T := h ▸ xs
def CT.of : (c : CT) → D → Option c.T
  | .int k, .int l n => if k = l then some n else none
  | .bool, .bool b => some b
  | .str, .str s => some s
  | .sl r, .sl s xs _ => match Row.dec s r with
    | .isTrue h => some (Row.cast h xs)
    | .isFalse _ => none
  | _, _ => none
def Row.of : (r : Row) → List D → Option r.T
  | .one c, [d] => c.of d
  | .cons c r, d :: ds => (c.of d).bind fun x => (Row.of r ds).map fun y => (x, y)
  | _, _ => none

/-- As many rows as there are. -/
def Row.ofs (r : Row) : Nat → List D → Option (List r.T)
  | 0, [] => some []
  | 0, _ :: _ => none
  | n + 1, ds => (r.of (ds.take r.size)).bind fun x => (Row.ofs r n (ds.drop r.size)).map (x :: ·)

/-- The cells of a value. -/
def D.cells : D → Option (List D)
  | .any | .tup _ => none
  | .agg l => some l
  | d => some [d]
/-- It is a value of one cell, and known. -/
def D.one : D → Bool
  | .any | .tup _ | .agg _ => false
  | _ => true

mutual
/-- All blocks that a value names lie below n. -/
def D.lt (n : Nat) : D → Bool
  | .sl _ _ (.own t) => decide (t < n)
  | .ref id _ _ | .ptr id _ | .bp id _ _ | .yld id => decide (id < n)
  | .fn _ a b => D.lts n a && D.lts n b
  | .agg l | .tup l => D.lts n l
  | _ => true
def D.lts (n : Nat) : List D → Bool
  | [] => true
  | d :: l => D.lt n d && D.lts n l
end

def Ent.lt (n : Nat) : Ent → Bool
  | .box l => D.lts n l
  | .loop _ tm _ _ _ _ _ => D.lts n tm
  | _ => true
def Ent.lts (n : Nat) : List Ent → Bool
  | [] => true
  | e :: l => e.lt n && Ent.lts n l

mutual
/-- Block numbers moved up. -/
def D.shift (m : Nat) : D → D
  | .sl r xs (.own t) => .sl r xs (.own (m + t))
  | .ref id o l => .ref (m + id) o l
  | .ptr id o => .ptr (m + id) o
  | .bp id i j => .bp (m + id) i j
  | .yld id => .yld (m + id)
  | .fn f a b => .fn f (D.shifts m a) (D.shifts m b)
  | .agg l => .agg (D.shifts m l)
  | .tup l => .tup (D.shifts m l)
  | d => d
def D.shifts (m : Nat) : List D → List D
  | [] => []
  | d :: l => D.shift m d :: D.shifts m l
end
def Ent.shift (m : Nat) : Ent → Ent
  | .box l => .box (D.shifts m l)
  | .loop f tm ps a b s p => .loop f (D.shifts m tm) ps a b s p
  | e => e

mutual
/-- Without the right to append. -/
def D.strip : D → D
  | .sl r xs _ => .sl r xs .no
  | .agg l => .agg (D.strips l)
  | .tup l => .tup (D.strips l)
  | d => d
def D.strips : List D → List D
  | [] => []
  | d :: l => D.strip d :: D.strips l
end

/-- A cell, as it stands in a row; a box's cells, as a row. -/
def D.ct : D → Option (Sigma CT.T)
  | .int k n => some ⟨.int k, n⟩
  | .bool b => some ⟨.bool, b⟩
  | .str s => some ⟨.str, s⟩
  | .sl r xs _ => some ⟨.sl r, xs⟩
  | _ => none
def D.row : List D → Option (Sigma Row.T)
  | [] => none
  | d :: l => match D.ct d, l with
    | some c, [] => some ⟨.one c.1, c.2⟩
    | some c, _ :: _ => match D.row l with
      | some r => some ⟨.cons c.1 r.1, (c.2, r.2)⟩
      | none => none
    | none, _ => none

mutual
/-- A result, its own buffers frozen: what lies from n on is given up. -/
def D.freeze (σ : List Ent) (n : Nat) : D → D
  | .sl r xs (.own t) => if t < n then .sl r xs (.own t) else .sl r xs .no
  | .ref id off len => if id < n then .ref id off len else match σ[id]? with
    | some (.buf r xs) => .sl r ((xs.drop off).take len) .no
    | _ => .ref id off len
  | .ptr id off => if id < n then .ptr id off else match σ[id]? with
    | some (.box l) => match D.row l with
      | some rx => .ep rx.1 rx.2 off
      | none => .ptr id off
    | _ => .ptr id off
  | .agg l => .agg (D.freezes σ n l)
  | .tup l => .tup (D.freezes σ n l)
  | d => d
def D.freezes (σ : List Ent) (n : Nat) : List D → List D
  | [] => []
  | d :: l => D.freeze σ n d :: D.freezes σ n l
end

mutual
/-- No slice in it, and no block. -/
def D.flat : D → Bool
  | .int _ _ | .bool _ | .str _ | .flt _ _ | .nilp | .nilf => true
  | .agg l | .tup l => D.flats l
  | _ => false
def D.flats : List D → Bool
  | [] => true
  | d :: l => D.flat d && D.flats l
end

/-- An own box that is handed on by its address, read as a record. -/
def D.snapP (σ : List Ent) : D → D
  | .ptr id off => match σ[id]? with
    | some (.box l) => match D.row l with
      | some rx => .ep rx.1 rx.2 off
      | none => .ptr id off
    | _ => .ptr id off
  | d => d
/-- A mutable buffer read as a slice; a box, or a closure's boxes, as records. -/
def D.snap (σ : List Ent) : D → D
  | .ref id off len => match σ[id]? with
    | some (.buf r xs) => .sl r ((xs.drop off).take len) .no
    | _ => .ref id off len
  | .fn f a b => .fn f (a.map (D.snapP σ)) (b.map (D.snapP σ))
  | d => D.snapP σ d

/-- The keeper of temporaries: the others are forgotten. -/
def maskL (kp : List Nat) : Nat → List D → List D
  | _, [] => []
  | i, d :: l => (if kp.contains i then d else .any) :: maskL kp (i + 1) l
def St.mask (st : St) : Option (List Nat) → St
  | none => st
  | some kp => { st with tm := maskL kp 0 st.tm }

/-- Nil slices get tokens of their own. -/
def ownL : List D → List Ent → List D × List Ent
  | [], σ => ([], σ)
  | .sl r xs .fresh :: l, σ => let (l', σ') := ownL l (σ ++ [.tok r 0]); (.sl r xs (.own σ.length) :: l', σ')
  | d :: l, σ => let (l', σ') := ownL l σ; (d :: l', σ')
def St.own (st : St) : St := let (tm, σ) := ownL st.tm st.σ; { st with tm, σ }

/-- Blocks from n on are given up, where nothing names them. -/
def St.trunc (st : St) (n : Nat) : St :=
  if D.lts n st.tm && Ent.lts n (st.σ.take n) then { st with σ := st.σ.take n } else st

end Go.Am
namespace Go.Am
open Go

/-! ### Types of the program -/
def toRow : List CT → Option Row
  | [] => none
  | [c] => some (.one c)
  | c :: l => (toRow l).map (.cons c)
def cts (P : Program) : Nat → TypeId → Option (List CT)
  | 0, _ => none
  | n + 1, t => match P.underlying t with
    | some (.int k) => some [.int k]
    | some .bool => some [.bool]
    | some .string => some [.str]
    | some (.slice e) => ((cts P n e).bind toRow).map fun r => [.sl r]
    | some (.struct fs) => fs.toList.foldr (fun f acc => (cts P n f.type).bind fun a => acc.map (a ++ ·)) (some [])
    | some (.array k e) => (cts P n e).map fun a => (List.replicate k a).flatten
    | _ => none
/-- The rows of a slice type. -/
def rowOf (P : Program) (t : TypeId) : Option Row := match P.underlying t with
  | some (.slice e) => (cts P 8 e).bind toRow
  | _ => none
def elemOf (P : Program) (t : TypeId) : Option TypeId := match P.underlying t with
  | some (.slice e) => some e
  | _ => none
def isAggB (P : Program) (t : TypeId) : Bool := match P.underlying t with
  | some (.struct _) | some (.array _ _) => true
  | _ => false
/-- The rows of the slices among a type's cells. -/
def slots (P : Program) : Nat → TypeId → List (Option Row)
  | 0, _ => []
  | n + 1, t => match P.underlying t with
    | some (.slice e) => [(cts P 8 e).bind toRow]
    | some (.struct fs) => fs.toList.flatMap fun f => slots P n f.type
    | some (.array k e) => (List.replicate k (slots P n e)).flatten
    | _ => [none]
def nilRow : Row := .one .bool
/-- A constant. -/
def ofV (r : Option Row) : Value → D
  | .int k n => .int k n
  | .bool b => .bool b
  | .string s => .str s
  | .float k b => .flt k b
  | .pointer none => .nilp
  | .nilFunc => .nilf
  | .slice none 0 0 => .sl (r.getD nilRow) [] .fresh
  | _ => .any
def ofVs : List (Option Row) → List Value → List D
  | _, [] => []
  | [], v :: vs => ofV none v :: ofVs [] vs
  | r :: rs, v :: vs => ofV r v :: ofVs rs vs
/-- The cells of a type's zero value. -/
def zeroCells (P : Program) (t : TypeId) : Option (List D) :=
  ((P.info? t).bind (·.zero)).map fun z => ofVs (slots P 8 t) z.cells.toList

def wrapUp (agg : Bool) (n : Nat) (l : List D) : Option D :=
  if l.length = n then (if agg then some (.agg l) else match l with | [d] => some d | _ => none) else none

/-- A value of a type, out of its cells. -/
def wrapT (P : Program) (t : TypeId) (l : List D) : Option D := match P.underlying t with
  | some _ => wrapUp (isAggB P t) (P.cellsOf t) l
  | none => none

/-! ### Memory -/
def loadCells (σ : List Ent) (n : Nat) : D → Option (List D)
  | .ptr id off => match σ[id]? with
    | some (.box l) => some ((l.drop off).take n)
    | _ => none
  | .bp id i j => match σ[id]? with
    | some (.buf r xs) => some (((r.ds (xs.getD i r.dflt)).drop j).take n)
    | _ => none
  | .ep r x j => some (((r.ds x).drop j).take n)
  | _ => none
def loadD (P : Program) (σ : List Ent) (t : TypeId) (p : D) : Option D :=
  (loadCells σ (P.cellsOf t) p).bind (wrapT P t)

def boxD (σ : List Ent) (l : List D) : D × List Ent :=
  let r := ownL l σ
  (.ptr r.2.length 0, r.2 ++ [.box r.1])

def patch (l ls : List D) (off : Nat) : List D := l.take off ++ ls ++ l.drop (off + ls.length)

def storeD (P : Program) (ro : Nat) (σ : List Ent) (t : TypeId) (p d : D) : Option (List Ent) :=
  match d.cells with
  | none => none
  | some ls =>
    if ls.length = P.cellsOf t ∧ P.cellsOf t ≠ 0 ∧ ls.all D.one = true then
      match p with
      | .ptr id off => if ro ≤ id then match σ[id]? with
        | some (.box l) => if off + ls.length ≤ l.length then let r := ownL ls σ; some (r.2.set id (.box (patch l r.1 off))) else none
        | _ => none
        else none
      | .bp id i j => if ro ≤ id then match σ[id]? with
        | some (.buf r xs) => if j + ls.length ≤ r.size then (r.of (patch (r.ds (xs.getD i r.dflt)) ls j)).map fun x => σ.set id (.buf r (xs.set i x)) else none
        | _ => none
        else none
      | _ => none
    else none

/-! ### What an operation is asked for -/
abbrev Kont := D → List Ent → Option Res

structure Env where
  P : Program
  /-- What is known of a function: its answer is handed on. -/
  spec : FuncId → Option (List D → (D → Option Res) → Option Res)
  /-- What is known of a function that is handed a list of the caller's own: its answer, and how long the list is then. -/
  tok : FuncId → Option (List D → Row → Nat → (D → Nat → Option Res) → Option Res)
  call : Nat → FuncId → List D → List Ent → Kont → Option Res
  self : FuncId
  run : FuncId → Nat → Option Nat → Code → St → (Exit → St → Option Res) → Option Res
  keep : Nat → Option (List Nat)
  rets : Option (List Nat)
  keepTok : FuncId → Bool
  dyn : Bool
  eqOk : TypeId → Bool
  fuel : Nat

def ev (P : Program) (t : TypeId) (tm : List D) : Operand → D
  | .tmp i => tm.getD i .any
  | .const v => ofV (rowOf P t) v
  | .func f => .fn f [] []
  | .global _ => .any

def mx (x y : Int) : Int := if y > x then y else x
def mn (x y : Int) : Int := if y < x then y else x
def lenOk (n m : Nat) : Bool := decide (n = m)
/-- An index into a known number of places. -/
def enumIdx (i : Int) : Nat → Nat → (Nat → Option Res) → Option Res
  | _, 0, _ => none
  | j, n + 1, k => cond (decide (i = j)) (k j) (enumIdx i (j + 1) n k)

def intOp (op : BinOp) (k : IntKind) (x y : Int) (go : D → Option Res) : Option Res :=
  match op with
  | .add => go (.int k (k.wrap (x + y)))
  | .sub => go (.int k (k.wrap (x - y)))
  | .mul => go (.int k (k.wrap (x * y)))
  | .quo => cond (decide (y = 0)) none (go (.int k (k.wrap (x.tdiv y))))
  | .rem => cond (decide (y = 0)) none (go (.int k (x.tmod y)))
  | .and => go (.int k (k.wrap (BitVec.ofInt k.bits x &&& BitVec.ofInt k.bits y).toNat))
  | .or => go (.int k (k.wrap (BitVec.ofInt k.bits x ||| BitVec.ofInt k.bits y).toNat))
  | .eql => go (.bool (x == y))
  | .neq => go (.bool (x != y))
  | .lss => go (.bool (decide (x < y)))
  | .leq => go (.bool (decide (x ≤ y)))
  | .gtr => go (.bool (decide (x > y)))
  | .geq => go (.bool (decide (x ≥ y)))
  | _ => none
def shiftOp (op : BinOp) (k : IntKind) (x y : Int) (go : D → Option Res) : Option Res :=
  cond (decide (y < 0)) none (match op with
    | .shl => go (.int k (k.wrap (x * 2 ^ (min y.toNat k.bits))))
    | .shr => go (.int k (x.fdiv (2 ^ (min y.toNat k.bits))))
    | _ => none)

/-- Are two values of a type that can be compared the same? -/
def eqD (P : Program) (ok : TypeId → Bool) : Nat → TypeId → D → D → Option Bool
  | 0, _, _, _ => none
  | n + 1, t, x, y => match P.underlying t, x, y with
    | some .bool, .bool a, .bool b => some (a == b)
    | some (.int _), .int k a, .int l b => if k = l then some (a == b) else none
    | some .string, .str a, .str b => some (a == b)
    | some (.struct fs), .agg xs, .agg ys => if ok t then
        fs.toList.foldr (fun f acc => if f.name = "_" then acc else
          ((wrapUp (isAggB P f.type) (P.cellsOf f.type) ((xs.drop f.offset).take (P.cellsOf f.type))).bind fun u =>
            (wrapUp (isAggB P f.type) (P.cellsOf f.type) ((ys.drop f.offset).take (P.cellsOf f.type))).bind fun v =>
              (eqD P ok n f.type u v).bind fun b => acc.map (b && ·))) (some true)
      else none
    | _, _, _ => none

def eqOp (E : Env) (t : TypeId) (neg : Bool) (x y : D) (go : D → Option Res) : Option Res :=
  match x, y with
  | .ptr _ _, .nilp | .bp _ _ _, .nilp | .ep _ _ _, .nilp | .nilp, .ptr _ _ | .nilp, .bp _ _ _ | .nilp, .ep _ _ _ => match E.P.underlying t with
    | some (.pointer _) => go (.bool neg)
    | _ => none
  | .nilp, .nilp => match E.P.underlying t with
    | some (.pointer _) => go (.bool !neg)
    | _ => none
  | .fn _ _ _, .nilf | .nilf, .fn _ _ _ => match E.P.underlying t with
    | some (.func _ _ _) => go (.bool neg)
    | _ => none
  | .sl _ _ .fresh, .sl _ _ .fresh => match E.P.underlying t with
    | some (.slice _) => go (.bool !neg)
    | _ => none
  | x, y => match eqD E.P E.eqOk 6 t x y with
    | some b => go (.bool (if neg then !b else b))
    | none => none

def binD (E : Env) (op : BinOp) (t : TypeId) (x y : D) (go : D → Option Res) : Option Res :=
  match op, x, y with
  | .shl, .int k a, .int _ b => shiftOp .shl k a b go
  | .shr, .int k a, .int _ b => shiftOp .shr k a b go
  | op, .int k a, .int l b => if k = l then intOp op k a b go else none
  | .eql, .str a, .str b => go (.bool (a == b))
  | .neq, .str a, .str b => go (.bool (a != b))
  | .eql, x, y => eqOp E t false x y go
  | .neq, x, y => eqOp E t true x y go
  | _, _, _ => none

def unD (op : UnOp) (x : D) (go : D → Option Res) : Option Res :=
  match op, x with
  | .neg, .int k n => go (.int k (k.wrap (0 - n)))
  | .not, .bool b => go (.bool !b)
  | _, _ => none

/-- Slices, by lists. -/
def room (n bytes : Nat) : Bool := decide (n * (bytes + 1) ≤ 140737488355328)

def appendD (E : Env) (ro : Nat) (σ : List Ent) (st : TypeId) (s x : D) (k : Kont) : Option Res :=
  match elemOf E.P st with
  | none => none
  | some e => match zeroCells E.P e with
    | none => none
    | some z => match s, x with
      | .sl r xs tk, .sl r' ys _ => match Row.dec r' r with
        | .isFalse _ => none
        | .isTrue h => if r.size = E.P.cellsOf e ∧ z.length = r.size then match tk with
          | .no => none
          | .fresh => cond (room (xs ++ Row.cast h ys).length (E.P.bytesOf e)) (k (.sl r (xs ++ Row.cast h ys) (.own σ.length)) (σ ++ [.tok r (xs ++ Row.cast h ys).length])) none
          | .own t => if ro ≤ t then match σ[t]? with
            | some (.tok r'' n) => match Row.dec r'' r with
              | .isTrue _ => cond (lenOk n xs.length && room (xs ++ Row.cast h ys).length (E.P.bytesOf e)) (k (.sl r (xs ++ Row.cast h ys) (.own t)) (σ.set t (.tok r (xs ++ Row.cast h ys).length))) none
              | _ => none
            | _ => none
            else none
          else none
      | _, _ => none

def copyD (E : Env) (ro : Nat) (σ : List Ent) (dt : TypeId) (d x : D) (k : Kont) : Option Res :=
  match elemOf E.P dt, d with
  | some e, .ref id off len => if ro ≤ id then match σ[id]?, x with
    | some (.buf r xs), .sl r' ys _ => match Row.dec r' r with
      | .isFalse _ => none
      | .isTrue h => if r.size = E.P.cellsOf e ∧ off + len ≤ xs.length then
          k (.int .i64 (min ys.length len : Nat)) (σ.set id (.buf r (xs.take off ++ (Row.cast h ys).take len ++ xs.drop (off + min ys.length len))))
        else none
    | some (.box l), .ref id' off' len' => match σ[id']? with
      | some (.box l') =>
        let m := min len' len * E.P.cellsOf e
        if ((l'.drop off').take m).all D.one ∧ ((l'.drop off').take m).length = m ∧ off + m ≤ l.length ∧ E.P.cellsOf e ≠ 0 then k (.int .i64 (min len' len : Nat)) (σ.set id (.box (patch l ((l'.drop off').take m) off))) else none
      | _ => none
    | _, _ => none
    else none
  | _, _ => none

def indexD (P : Program) (σ : List Ent) (t : TypeId) (x ix : D) (go : D → Option Res) : Option Res :=
  match ix, P.underlying t with
  | .int _ i, some (.slice e) => match x with
    | .sl r xs _ => if r.size = P.cellsOf e then cond (decide (0 ≤ i) && decide (i < (xs.length : Int))) (go (.ep r (xs.getD i.toNat r.dflt) 0)) none else none
    | .ref id off len => match σ[id]? with
      | some (.buf r _) => if r.size = P.cellsOf e then cond (decide (0 ≤ i) && decide (i < (len : Int))) (go (.bp id (off + i.toNat) 0)) none else none
      | some (.box _) => if P.cellsOf e = 0 then none else enumIdx i 0 len fun j => go (.ptr id (off + j * P.cellsOf e))
      | _ => none
    | _ => none
  | .int _ i, some (.array n e) => match x with
    | .ptr id off => if P.cellsOf e = 0 then none else enumIdx i 0 n fun j => go (.ptr id (off + j * P.cellsOf e))
    | .ep r y o => if P.cellsOf e = 0 then none else enumIdx i 0 n fun j => go (.ep r y (o + j * P.cellsOf e))
    | .bp id a o => if P.cellsOf e = 0 then none else enumIdx i 0 n fun j => go (.bp id a (o + j * P.cellsOf e))
    | _ => none
  | _, _ => none

def sliceD (P : Program) (t : TypeId) (x : D) (lo hi : Option D) (go : D → Option Res) : Option Res :=
  match P.underlying t with
  | some (.slice e) => match x, lo, hi with
    | .sl r xs _, none, some (.int _ h) => if r.size = P.cellsOf e then cond (decide (0 ≤ h) && decide (h ≤ (xs.length : Int))) (go (.sl r (xs.take h.toNat) .no)) none else none
    | .sl r xs _, some (.int _ l), none => if r.size = P.cellsOf e then cond (decide (0 ≤ l) && decide (l ≤ (xs.length : Int))) (go (.sl r (xs.drop l.toNat) .no)) none else none
    | .sl r xs _, some (.int _ l), some (.int _ h) => if r.size = P.cellsOf e then
        cond (decide (0 ≤ l) && decide (l ≤ h) && decide (h ≤ (xs.length : Int))) (go (.sl r ((xs.take h.toNat).drop l.toNat) .no)) none else none
    | _, _, _ => none
  | _ => none

def makeD (E : Env) (σ : List Ent) (t : TypeId) (len cap : D) (k : Kont) : Option Res :=
  match elemOf E.P t, len, cap with
  | some e, .int _ n, .int _ c => match zeroCells E.P e with
    | none => none
    | some z => if z.length = E.P.cellsOf e ∧ E.P.cellsOf e ≠ 0 then
        cond (decide (0 ≤ n) && decide (n = c) && room c.toNat (E.P.bytesOf e)) (match rowOf E.P t, E.dyn with
          | some r, false => match r.of z with
            | none => none
            | some x => if r.size = E.P.cellsOf e then k (.ref σ.length 0 n.toNat) (σ ++ [.buf r (List.replicate n.toNat x)]) else none
          | _, _ => k (.ref σ.length 0 n.toNat) (σ ++ [.box (List.replicate n.toNat (D.strips z)).flatten])) none
      else none
  | _, _, _ => none

def places (P : Program) (t : TypeId) (i : Nat) : Option (Nat × Nat) := match P.underlying t with
  | some (.struct fs) => (fs[i]?).map fun f => (f.offset, P.cellsOf f.type)
  | some (.array _ e) => some (i * P.cellsOf e, P.cellsOf e)
  | _ => none
def placeT (P : Program) (t : TypeId) (i : Nat) : TypeId := match P.underlying t with
  | some (.struct fs) => ((fs[i]?).map (·.type)).getD 0
  | some (.array _ e) => e
  | some (.slice e) => e
  | _ => 0
def fillD (place : Nat → Option (Nat × Nat)) (cells : List D) : List (Nat × D) → Option (List D)
  | [] => some cells
  | (i, d) :: rest => match place i, d.cells with
    | some (off, size), some ls => if ls.length = size ∧ off + size ≤ cells.length then fillD place (patch cells ls off) rest else none
    | _, _ => none

def evs (P : Program) (ts : Nat → TypeId) (tm : List D) (ps : List (Nat × Operand)) : List (Nat × D) := ps.map fun p => (p.1, ev P (ts p.1) tm p.2)

def buildSliceD (E : Env) (σ : List Ent) (t : TypeId) (len : Nat) (ps : List (Nat × D)) (k : Kont) : Option Res :=
  match elemOf E.P t with
  | none => none
  | some e => if len * E.P.cellsOf e ≤ 65536 ∧ E.P.cellsOf e ≠ 0 then match zeroCells E.P e with
    | none => none
    | some z => if z.length = E.P.cellsOf e then match fillD (fun i => some (i * E.P.cellsOf e, E.P.cellsOf e)) (List.replicate len z).flatten ps with
      | none => none
      | some ls => match rowOf E.P t with
        | some r => if r.size = E.P.cellsOf e then match r.ofs len ls with
          | some xs => k (.sl r xs (.own σ.length)) (σ ++ [.tok r xs.length])
          | none => none
          else none
        | none => k (.ref σ.length 0 len) (σ ++ [.box (D.strips ls)])
      else none
    else none

/-- The own list among the arguments. -/
def tokAt : List D → Option Nat
  | [] => none
  | .sl _ _ (.own t) :: _ => some t
  | _ :: l => tokAt l
/-- Arguments with no block but that list's, which is then number 0. -/
def unTok (t : Nat) : List D → Option (List D)
  | [] => some []
  | d :: l => match unTok t l with
    | none => none
    | some l' => match d with
      | .sl r xs (.own u) => if u = t then some (.sl r xs (.own 0) :: l') else none
      | d => if d.lt 0 then some (d :: l') else none
/-- A call that is told of the one own list. -/
def tokD (ro : Nat) (sp : List D → Row → Nat → (D → Nat → Option Res) → Option Res) (a : List D) (σ : List Ent) (k : Kont) : Option Res :=
  match tokAt a with
  | some t => match unTok t a with
    | some a0 => match σ[t]? with
      | some (.tok r n) => if ro ≤ t then sp a0 r n fun d n' => k (d.shift t) (σ.set t (.tok r n')) else none
      | _ => none
    | none => none
  | none => none

/-- A call, by what is known of the function, or by its code. -/
def callD (E : Env) (ro : Nat) (f : FuncId) (args : List D) (σ : List Ent) (k : Kont) : Option Res :=
  match E.spec f with
  | some sp =>
    let a := D.strips (args.map (D.snap σ))
    if D.lts 0 a then
      (if D.lts 0 (D.strips args) then sp a fun d => if d.lt 0 then k d σ else none
       else sp a fun d => if d.flat then k d σ else none)
    else E.call ro f (if E.keepTok f then args else D.strips args) σ k
  | none =>
    let a := if E.keepTok f then args else D.strips args
    if D.lts 0 a then E.call 0 f a [] fun d σ' => k (d.shift σ.length) (σ ++ σ'.map (Ent.shift σ.length))
    else match E.tok f with
      | some sp => tokD ro sp a σ k
      | none => E.call ro f a σ k

/-- The loop's own round, at its yield. -/
def yieldD (E : Env) (ro id : Nat) (args : List D) (σ : List Ent) (k : Kont) : Option Res :=
  if ro ≤ id then match σ[id]? with
    | some (.loop g tm ps assign body .ready none) => if args.length = ps.length then
        E.run g ro (some id) assign ⟨(ps.zip args).foldl (fun t p => t.set p.1 p.2) tm, σ⟩ fun e st => match e with
          | .normal => match st.σ[id]? with
            | some (.loop g1 tm1 ps1 as1 bd1 .ready none) =>
              E.run g ro (some id) body ⟨st.tm, st.σ.set id (.loop g1 tm1 ps1 as1 bd1 .busy none)⟩ fun e st' => match st'.σ[id]? with
                | some (.loop g2 tm2 ps2 as2 bd2 _ _) =>
                  let fin (s : LoopState) (j : Option Code) (b : Bool) : Option Res :=
                    k (.bool b) ((St.mk [] (st'.σ.set id (.loop g2 tm2 ps2 as2 bd2 s j))).trunc σ.length).σ
                  match e with
                  | .normal => fin .ready none true
                  | .ret => fin .done (some .ret) false
                  | .exit i => fin .done (some (.exit i)) false
                  | _ => none
                | _ => none
            | _ => none
          | _ => none
      else none
    | _ => none
  else none

def maxD : D → List D → Option D
  | d, [] => some d
  | .int k x, .int l y :: rest => if k = l then maxD (.int k (mx x y)) rest else none
  | _, _ => none
def minD : D → List D → Option D
  | d, [] => some d
  | .int k x, .int l y :: rest => if k = l then minD (.int k (mn x y)) rest else none
  | _, _ => none

def evArgs (P : Program) (tm : List D) : List Operand → List TypeId → List D
  | [], _ => []
  | x :: xs, [] => ev P 0 tm x :: evArgs P tm xs []
  | x :: xs, t :: ts => ev P t tm x :: evArgs P tm xs ts

def fieldOf (P : Program) (t : TypeId) (i : Nat) : Option Field := match P.underlying t with
  | some (.struct fs) => fs[i]?
  | _ => none

/-- Operations that ask nothing of memory. -/
def pureD (E : Env) (o : Oper) (tm : List D) (k : D → Option Res) : Option Res :=
  match o.op with
  | .move x | .assign x => k (ev E.P o.type tm x)
  | .pick c a b => match ev E.P 0 tm c with
    | .bool c => cond c (k (ev E.P o.type tm a)) (k (ev E.P o.type tm b))
    | _ => none
  | .build t ps => match zeroCells E.P t with
    | none => none
    | some z => match fillD (places E.P t) z (evs E.P (placeT E.P t) tm ps.toList) with
      | none => none
      | some l => match E.P.underlying t with
        | some (.struct fs) => if fs.toList.all fun f => (E.P.info? f.type).isSome then k (.agg l) else none
        | some (.array _ e) => if (E.P.info? e).isSome then k (.agg l) else none
        | _ => none
  | .nilCheck x => match ev E.P 0 tm x with
    | .ptr i j => k (.ptr i j)
    | .bp i j l => k (.bp i j l)
    | .ep r y j => k (.ep r y j)
    | .fn f a b => k (.fn f a b)
    | _ => none
  | .binOp op t x y _ => binD E op t (ev E.P t tm x) (ev E.P t tm y) k
  | .unOp op _ x => unD op (ev E.P 0 tm x) k
  | .convert src dst x => match E.P.underlying src, E.P.underlying dst, ev E.P 0 tm x with
    | some _, some (.int q), .int _ n => k (.int q (q.wrap n))
    | some _, some .string, .str s => k (.str s)
    | _, _, _ => none
  | .makeFunc (.func f) a b => k (.fn f (a.toList.map (ev E.P 0 tm)) (b.toList.map (ev E.P 0 tm)))
  | .fieldAddr t x i => match fieldOf E.P t i with
    | some f => if E.P.cellsOf f.type = 0 then none else match ev E.P 0 tm x with
      | .ptr id off => k (.ptr id (off + f.offset))
      | .bp id a j => k (.bp id a (j + f.offset))
      | .ep r y j => k (.ep r y (j + f.offset))
      | _ => none
    | none => none
  | .field t x i => match fieldOf E.P t i, ev E.P 0 tm x with
    | some f, .agg l => match wrapT E.P f.type ((l.drop f.offset).take (E.P.cellsOf f.type)) with
      | some d => k d
      | none => none
    | _, _ => none
  | .index t x ix => match E.P.underlying t, ev E.P 0 tm x, ev E.P 0 tm ix with
    | some (.array n e), .agg l, .int _ i => enumIdx i 0 n fun j => match wrapT E.P e ((l.drop (j * E.P.cellsOf e)).take (E.P.cellsOf e)) with
      | some d => k d
      | none => none
    | _, _, _ => none
  | .extract x i => match ev E.P 0 tm x with
    | .tup l => match l[i]? with
      | some d => k d
      | none => none
    | _ => none
  | .call { callee := .builtin .len, args, argTypes } => match args.toList, argTypes.toList with
    | [x], [t] => match E.P.underlying t, ev E.P t tm x with
      | some (.slice _), .sl _ xs _ => k (.int .i64 xs.length)
      | some (.slice _), .ref _ _ n => k (.int .i64 n)
      | some .string, .str s => k (.int .i64 s.size)
      | _, _ => none
    | _, _ => none
  | .call { callee := .builtin .max, args, argTypes } => match evArgs E.P tm args.toList argTypes.toList with
    | .int q n :: l => match maxD (.int q n) l with
      | some d => k d
      | none => none
    | _ => none
  | .call { callee := .builtin .min, args, argTypes } => match evArgs E.P tm args.toList argTypes.toList with
    | .int q n :: l => match minD (.int q n) l with
      | some d => k d
      | none => none
    | _ => none
  | _ => none

def pureOp : Op → Bool
  | .move _ | .assign _ | .pick _ _ _ | .build _ _ | .nilCheck _ | .binOp _ _ _ _ _ | .unOp _ _ _ | .convert _ _ _ | .makeFunc _ _ _ | .fieldAddr _ _ _ | .field _ _ _ | .index _ _ _ | .extract _ _
  | .call { callee := .builtin .len, .. } | .call { callee := .builtin .max, .. } | .call { callee := .builtin .min, .. } => true
  | _ => false

def memD (E : Env) (ro : Nat) (o : Oper) (st : St) (k : Kont) : Option Res :=
  match o.op with
  | .alloc t => match zeroCells E.P t with
    | some l => k (boxD st.σ l).1 (boxD st.σ l).2
    | none => none
  | .box t x => match (ev E.P t st.tm x).cells with
    | some l => k (boxD st.σ l).1 (boxD st.σ l).2
    | none => none
  | .buildSlice t n ps => buildSliceD E st.σ t n (evs E.P (fun _ => placeT E.P t 0) st.tm ps.toList) k
  | .load t a => match loadD E.P st.σ t (ev E.P 0 st.tm a) with
    | some d => k d st.σ
    | none => none
  | .store t a x => match storeD E.P ro st.σ t (ev E.P 0 st.tm a) (ev E.P t st.tm x) with
    | some σ => k (.tup []) σ
    | none => none
  | .makeSlice t l c => makeD E st.σ t (ev E.P 0 st.tm l) (ev E.P 0 st.tm c) k
  | .slice t x lo hi none => sliceD E.P t (ev E.P t st.tm x) (lo.map (ev E.P 0 st.tm)) (hi.map (ev E.P 0 st.tm)) fun d => k d st.σ
  | .indexAddr t x ix => indexD E.P st.σ t (ev E.P t st.tm x) (ev E.P 0 st.tm ix) fun d => k d st.σ
  | .call { callee := .builtin .append, args, argTypes } => match args.toList, argTypes.toList with
    | [s, x], [t, u] => if t = u then appendD E ro st.σ t (ev E.P t st.tm s) (ev E.P u st.tm x) k else none
    | _, _ => none
  | .call { callee := .builtin .copy, args, argTypes } => match args.toList, argTypes.toList with
    | [s, x], [t, u] => copyD E ro st.σ t (ev E.P t st.tm s) (ev E.P u st.tm x) k
    | _, _ => none
  | .call { callee := .value f, args, argTypes } => match ev E.P 0 st.tm f with
    | .fn g a b => callD E ro g (a ++ evArgs E.P st.tm args.toList argTypes.toList ++ b) st.σ k
    | .yld id => yieldD E ro id (evArgs E.P st.tm args.toList argTypes.toList) st.σ k
    | _ => none
  | _ => none

def opD (E : Env) (ro : Nat) (o : Oper) (st : St) (k : Kont) : Option Res :=
  if pureOp o.op then pureD E o st.tm fun d => k d st.σ else memD E ro o st k

def St.put (st : St) (dst : Option Tmp) (d : D) (σ : List Ent) : St :=
  match dst with
  | some t => ⟨st.tm.set t d, σ⟩
  | none => ⟨st.tm, σ⟩

/-- Is the operation wanted? -/
def guardD (ops : List Oper) (o : Oper) (tm : List D) (yes no : List D → Option Res) : Option Res :=
  match o.guard with
  | none => yes tm
  | some (j, want) => match (ops[j]?).bind (·.dst) with
    | none => no tm
    | some t => match tm.getD t .any with
      | .bool b => cond b ((if want then yes else no) (tm.set t (.bool true))) ((if want then no else yes) (tm.set t (.bool false)))
      | .tup [] => no tm
      | _ => none

def regionD (E : Env) (ro : Nat) (ops : List Oper) : List Oper → St → (St → Option Res) → Option Res
  | [], st, k => k st
  | o :: rest, st, k => guardD ops o st.tm
      (fun tm => opD E ro o ⟨tm, st.σ⟩ fun d σ => regionD E ro ops rest ((St.mk tm st.σ).put o.dst d σ) k)
      (fun tm => regionD E ro ops rest ((St.mk tm st.σ).put o.dst (.tup []) st.σ) k)

/-! ### Regions that draw their order -/
def binds (e : Edge) : Bool := Region.binds .any e
/-- Who must have come up before, as bits. -/
def ancs : List Oper → List Nat → List Nat
  | [], acc => acc
  | o :: l, acc => ancs l (acc ++ [o.after.toList.foldl (fun s e => if binds e then s ||| 2 ^ e.on ||| acc.getD e.on 0 else s) 0])
def looks (ops : List Oper) (o : Oper) : List Tmp :=
  (o.op.operands.toList.filterMap fun | .tmp t => some t | _ => none) ++
  (match o.guard with
   | some (g, _) => ((ops[g]?).bind (·.dst)).toList
   | none => [])
def loadOp : Op → Bool
  | .load _ _ => true
  | _ => false
/-- Who looks at a result waits for it. -/
def pairsOk (ops : List Oper) (an : List Nat) : Bool :=
  (List.range ops.length).all fun j => (List.range j).all fun i => (an.getD j 0).testBit i || (match (ops.getD i default).dst with
    | some d => !(looks ops (ops.getD j default)).contains d
    | none => true)
/-- A result is written only when who looked at it, or wrote it, before is through; what a load looks at is not written again. -/
def ssaOk (ops : List Oper) (an : List Nat) : Bool :=
  (List.range ops.length).all fun j => match (ops.getD j default).dst with
    | some d => (List.range (j + 1)).all fun i => ((decide (i < j) && (an.getD j 0).testBit i) || ((decide (i = j) || (ops.getD i default).dst != some d) && (decide (i = j) || !(looks ops (ops.getD i default)).contains d))) &&
        (!loadOp (ops.getD i default).op || !(looks ops (ops.getD i default)).contains d)
    | none => true
def edgesOk (ops : List Oper) : Bool :=
  (List.range ops.length).all fun j => (ops.getD j default).after.toList.all fun e => !binds e || decide (e.on < j)
/-- What neither reads memory nor changes it. -/
def calmOp (op : Op) : Bool := pureOp op || match op with
  | .indexAddr _ _ _ | .slice _ _ _ _ none => true
  | _ => false
def storeOp : Op → Bool
  | .store _ _ _ => true
  | _ => false
/-- Behind `n`, what asks of memory waits for all that did so before; a store need not wait for a load. -/
def tailOk (ops : List Oper) (an : List Nat) (n : Nat) : Bool :=
  (List.range ops.length).all fun j => decide (j < n) || pureOp (ops.getD j default).op ||
    (List.range j).all fun i => pureOp (ops.getD i default).op || (decide (i < n) && calmOp (ops.getD i default).op) || (an.getD j 0).testBit i || (decide (i < n) && loadOp (ops.getD i default).op && storeOp (ops.getD j default).op)
/-- The first from which it is so. -/
def tailAt (ops : List Oper) (an : List Nat) : Nat → Nat → Nat
  | 0, n => n
  | f + 1, n => if tailOk ops an n then n else tailAt ops an f (n + 1)
def noSelB (ops : List Oper) : Bool := ops.all fun o => match o.op with | .select _ _ => false | .defer _ => false | _ => true

/-- A load's place and a store's are not the same. -/
def awayD : D → Nat → D → Nat → Bool
  | .ep _ _ _, _, _, _ => true
  | .ptr id off, n, .ptr id' off', m => decide (id ≠ id') || decide (off + n ≤ off') || decide (off' + m ≤ off)
  | .ptr id _, _, .bp id' _ _, _ | .bp id _ _, _, .ptr id' _, _ | .bp id _ _, _, .bp id' _ _, _ => decide (id ≠ id')
  | _, _, _, _ => false
/-- The loads that a store need not wait for lie elsewhere. -/
def lateOk (P : Program) (tm : List D) (n : Nat) (an : Nat) (o : Oper) : Nat → List Oper → Bool
  | _, [] => true
  | i, p :: l => (decide (n ≤ i) || !loadOp p.op || an.testBit i || (match p.op, o.op with
    | .load t a, .store t' a' _ => awayD (ev P 0 tm a) (P.cellsOf t) (ev P 0 tm a') (P.cellsOf t')
    | _, _ => false)) && lateOk P tm n an o (i + 1) l

def drawnD (E : Env) (ro n : Nat) (an : List Nat) (ops : List Oper) : Nat → List Oper → St → (St → Option Res) → Option Res
  | _, [], st, k => k st
  | i, o :: rest, st, k => guardD ops o st.tm
      (fun tm => if (if i < n then calmOp o.op || loadOp o.op || (D.lts st.σ.length tm && Ent.lts st.σ.length st.σ) else pureOp o.op || lateOk E.P tm n (an.getD i 0) o 0 (ops.take i)) then
          opD E (if i < n then st.σ.length else ro) o ⟨tm, st.σ⟩ fun d σ => drawnD E ro n an ops (i + 1) rest ((St.mk tm st.σ).put o.dst d σ) k
        else none)
      (fun tm => drawnD E ro n an ops (i + 1) rest ((St.mk tm st.σ).put o.dst (.tup []) st.σ) k)

/-! ### Code -/
def loopD (E : Env) (B : St → (Exit → St → Option Res) → Option Res) (bid n : Nat) : Nat → St → (Exit → St → Option Res) → Option Res
  | 0, _, _ => none
  | m + 1, st, k => B st fun e st' => match e with
    | .normal => loopD E B bid n m ((st'.mask (E.keep bid)).trunc n) k
    | .ret => k .ret (st'.mask E.rets)
    | e => k e (st'.mask (E.keep bid))

def codeD (E : Env) (ro : Nat) (rnd : Option Nat) : Code → Nat → St → (Exit → St → Option Res) → Option Res
  | .skip, _, st, k => k .normal st
  | .region _ ops dr, _, st, k =>
    if dr then
      let an := ancs ops.toList []
      let n := tailAt ops.toList an ops.toList.length 0
      if edgesOk ops.toList && pairsOk ops.toList an && ssaOk ops.toList an && noSelB ops.toList && tailOk ops.toList an n then drawnD E ro n an ops.toList 0 ops.toList st fun st => k .normal st else none
    else if noSelB ops.toList then regionD E ro ops.toList ops.toList st fun st => k .normal st else none
  | .seq a b, bid, st, k => codeD E ro rnd a bid st fun e st' => match e with
    | .normal => codeD E ro rnd b bid st' k
    | e => k e st'
  | .cond c a b, bid, st, k => match c with
    | .tmp t => match st.tm.getD t .any with
      | .bool q => cond q (codeD E ro rnd a bid ⟨st.tm.set t (.bool true), st.σ⟩ k) (codeD E ro rnd b bid ⟨st.tm.set t (.bool false), st.σ⟩ k)
      | _ => none
    | .const (.bool q) => cond q (codeD E ro rnd a bid st k) (codeD E ro rnd b bid st k)
    | _ => none
  | .block id c, _, st, k => codeD E ro rnd c id st fun e st' => match e with
    | .exit i => k (if i = id then .normal else .exit i) st'
    | e => k e st'
  | .loop c, bid, st, k =>
    let s0 := (st.mask (E.keep bid)).own
    loopD E (fun st k => codeD E ro rnd c bid st k) bid s0.σ.length E.fuel s0 k
  | .rangeFunc f ps a c, _, st, k => match ev E.P 0 st.tm f with
    | .fn g x y =>
      let id := st.σ.length
      let run := fun (_ : D) (σ : List Ent) => match σ[id]? with
        | some (.loop g' tm ps as bd s p) => match s with
          | .busy => none
          | _ => match p with
            | none => k .normal ⟨st.tm, σ.set id (.loop g' tm ps as bd .exhausted none)⟩
            | some .ret => k .ret ⟨st.tm, σ.set id (.loop g' tm ps as bd .exhausted (some .ret))⟩
            | some (.exit i) => k (.exit i) ⟨st.tm, σ.set id (.loop g' tm ps as bd .exhausted (some (.exit i)))⟩
            | _ => none
        | _ => none
      E.call ro g (x ++ [.yld id] ++ y) (st.σ ++ [.loop E.self st.tm ps.toList a c .ready none]) run
    | _ => none
  | .exit i, _, st, k => k (.exit i) st
  | .ret, _, st, k => k .ret st
  | .scope c, bid, st, k => codeD E ro rnd c bid st fun e st' => match e with
    | .goto _ => none
    | e => k e st'
  | .label _, _, st, k => k .normal st
  | _, _, _, _ => none

/-! ### Calls -/
structure Cfg where
  P : Program
  spec : FuncId → Option (List D → (D → Option Res) → Option Res)
  tok : FuncId → Option (List D → Row → Nat → (D → Nat → Option Res) → Option Res) := fun _ => none
  keep : FuncId → Nat → Option (List Nat)
  keepTok : FuncId → Bool
  dyn : FuncId → Bool
  eqOk : TypeId → Bool
  /-- For how many rounds loops are run. -/
  fuel : Nat

def resultsD (P : Program) (st : St) : List ResultVar → Option (List D)
  | [] => some []
  | .tmp t :: l => (resultsD P st l).map (st.tm.getD t .any :: ·)
  | .cell a t :: l => (loadD P st.σ t (st.tm.getD a .any)).bind fun d => (resultsD P st l).map (d :: ·)

/-- The results are handed on; what was made within, and nothing names, is given up. -/
def finD (n : Nat) (σ : List Ent) (ds : List D) (k : Kont) : Option Res :=
  let d : D := match ds with | [d] => d | ds => .tup ds
  let d' := d.freeze σ n
  if d'.lt n && Ent.lts n (σ.take n) then k d' (σ.take n) else k d σ

def Cfg.env (C : Cfg) (m : Nat) (f : FuncId) (fn : Func) (call : Nat → FuncId → List D → List Ent → Kont → Option Res)
    (run : FuncId → Nat → Option Nat → Code → St → (Exit → St → Option Res) → Option Res) : Env :=
  { P := C.P, spec := C.spec, tok := C.tok, call, self := f, run, keep := C.keep f, rets := some (fn.results.toList.map fun | .tmp t => t | .cell a _ => a), keepTok := C.keepTok, dyn := C.dyn f, eqOk := C.eqOk, fuel := C.fuel }

def bodyD (E : Env) (ro : Nat) (fn : Func) (c : Code) (args : List D) (σ : List Ent) (k : Kont) : Option Res :=
  codeD E ro none c 0 ⟨args ++ List.replicate (fn.ntmps - args.length) .any, σ⟩ fun e st => match e with
    | .normal | .ret => match resultsD E.P st fn.results.toList with
      | some ds => finD σ.length st.σ ds k
      | none => none
    | _ => none

/-- A function's call, and a piece of code of a function in a round, to so great a depth. -/
def Cfg.both (C : Cfg) : Nat → (Nat → FuncId → List D → List Ent → Kont → Option Res) × (FuncId → Nat → Option Nat → Code → St → (Exit → St → Option Res) → Option Res)
  | 0 => (fun _ _ _ _ _ => none, fun _ _ _ _ _ _ => none)
  | m + 1 =>
    (fun ro f args σ k => match C.P.funcs[f]? with
      | some fn => match fn.body with
        | some c => bodyD (C.env m f fn (C.both m).1 (C.both m).2) ro fn c args σ k
        | none => none
      | none => none,
     fun f ro rnd c st k => match C.P.funcs[f]? with
      | some fn => codeD { C.env m f fn (C.both m).1 (C.both m).2 with rets := none } ro rnd c 0 st k
      | none => none)
def Cfg.call (C : Cfg) (m : Nat) := (C.both m).1

end Go.Am
namespace Go.Am
open Go

/-- A slice value that reads as a list. -/
def SlG {α : Type} (rd : Addr → Value → Prop) (s : Nat) (P : List Value → α → Prop) (v : Value) (xs : List α) : Prop :=
  ∃ a c, v = .slice a xs.length c ∧ xs.length ≤ c ∧
    ∀ (i : Nat) (x : α), xs[i]? = some x → ∃ ad vs, a = some ad ∧ vs.length = s ∧ (∀ (j : Nat) (u : Value), vs[j]? = some u → rd (ad.add (i * s + j)) u) ∧ P vs x

mutual
def CT.R (rd : Addr → Value → Prop) : (c : CT) → Value → c.T → Prop
  | .int k, v, n => v = .int k n
  | .bool, v, b => v = .bool b
  | .str, v, s => v = .string s
  | .sl r, v, xs => SlG rd r.size (Row.R rd r) v xs
def Row.R (rd : Addr → Value → Prop) : (r : Row) → List Value → r.T → Prop
  | .one c, vs, x => ∃ v, vs = [v] ∧ CT.R rd c v x
  | .cons c r, vs, x => ∃ v rest, vs = v :: rest ∧ CT.R rd c v x.1 ∧ Row.R rd r rest x.2
end

/-- What values lean on. -/
structure Sit where
  rd : Addr → Value → Prop
  pt : Nat → Nat → Prop
  bf : Nat → Nat → Row → Nat → Prop
  lp : Nat → Nat → Prop
  tk : Nat → Row → Nat → Value → Prop

mutual
def R (S : Sit) : D → Value → Prop
  | .any, _ => True
  | .int k n, v => v = .int k n
  | .bool b, v => v = .bool b
  | .str s, v => v = .string s
  | .flt k n, v => v = .float k n
  | .sl r xs t, v => SlG S.rd r.size (Row.R S.rd r) v xs ∧ (match t with
    | .no => True
    | .fresh => v = .slice none 0 0
    | .own t => S.tk t r xs.length v)
  | .ref id off len, v => (∃ g c, S.pt id g ∧ v = .slice (some ⟨g, off, none⟩) len c ∧ len ≤ c) ∨ (∃ g r m c, S.bf id g r m ∧ off + len ≤ m ∧ v = .slice (some ⟨g, off * r.size, none⟩) len c ∧ len ≤ c)
  | .ptr id off, v => ∃ g, S.pt id g ∧ v = .pointer (some ⟨g, off, none⟩)
  | .bp id i j, v => ∃ g r m, S.bf id g r m ∧ i < m ∧ v = .pointer (some ⟨g, i * r.size + j, none⟩)
  | .ep r x j, v => ∃ ad vs, v = .pointer (some (Addr.add ad j)) ∧ vs.length = r.size ∧ (∀ (i : Nat) (u : Value), vs[i]? = some u → S.rd (ad.add i) u) ∧ Row.R S.rd r vs x
  | .nilp, v => v = .pointer none
  | .fn f a b, v => ∃ x y, v = .func (.func f) (List.toArray x) (List.toArray y) ∧ Rs S a x ∧ Rs S b y
  | .yld id, v => ∃ l, S.lp id l ∧ v = .func (.yield l) #[] #[]
  | .nilf, v => v = .nilFunc
  | .agg l, v => ∃ x, v = .agg (List.toArray x) ∧ Rs S l x
  | .tup l, v => ∃ x, v = .tuple (List.toArray x) ∧ Rs S l x
def Rs (S : Sit) : List D → List Value → Prop
  | [], vs => vs = []
  | d :: l, vs => ∃ v rest, vs = v :: rest ∧ R S d v ∧ Rs S l rest
end

/-! ### More worlds -/
theorem SlG.mono {α : Type} {rd rd' : Addr → Value → Prop} {s : Nat} {P P' : List Value → α → Prop} (h : ∀ a v, rd a v → rd' a v) (hp : ∀ vs x, P vs x → P' vs x) {v : Value} {xs : List α} (hs : SlG rd s P v xs) : SlG rd' s P' v xs := by
  obtain ⟨a, c, h1, h2, h3⟩ := hs
  refine ⟨a, c, h1, h2, fun i x hx => ?_⟩
  obtain ⟨ad, vs, e1, e2, e3, e4⟩ := h3 i x hx
  exact ⟨ad, vs, e1, e2, fun j u hu => h _ _ (e3 j u hu), hp _ _ e4⟩
mutual
theorem CT.R_mono {rd rd' : Addr → Value → Prop} (h : ∀ a v, rd a v → rd' a v) : ∀ (c : CT) (v : Value) (x : c.T), CT.R rd c v x → CT.R rd' c v x
  | .int _, _, _, q => q
  | .bool, _, _, q => q
  | .str, _, _, q => q
  | .sl r, _, _, q => SlG.mono h (Row.R_mono h r) q
theorem Row.R_mono {rd rd' : Addr → Value → Prop} (h : ∀ a v, rd a v → rd' a v) : ∀ (r : Row) (vs : List Value) (x : r.T), Row.R rd r vs x → Row.R rd' r vs x
  | .one c, _, _, ⟨v, e, q⟩ => ⟨v, e, CT.R_mono h c _ _ q⟩
  | .cons c r, _, _, ⟨v, rest, e, q, p⟩ => ⟨v, rest, e, CT.R_mono h c _ _ q, Row.R_mono h r _ _ p⟩
end
theorem Row.R_size {rd : Addr → Value → Prop} : ∀ (r : Row) (vs : List Value) (x : r.T), Row.R rd r vs x → vs.length = r.size
  | .one _, _, _, ⟨_, e, _⟩ => by rw [e]; rfl
  | .cons _ r, _, _, ⟨_, _, e, _, p⟩ => by rw [e, List.length_cons, Row.R_size r _ _ p]; rfl
theorem Row.size_pos : ∀ r : Row, 0 < r.size
  | .one _ => Nat.one_pos
  | .cons _ _ => Nat.succ_pos _

/-- What leans on the blocks below n alone goes over. -/
structure LeN (n : Nat) (S S' : Sit) : Prop where
  rd : ∀ a v, S.rd a v → S'.rd a v
  pt : ∀ i g, i < n → S.pt i g → S'.pt i g
  bf : ∀ i g r m, i < n → S.bf i g r m → S'.bf i g r m
  lp : ∀ i g, i < n → S.lp i g → S'.lp i g
  tk : ∀ t r m v, t < n → S.tk t r m v → S'.tk t r m v
structure Le (S S' : Sit) : Prop where
  rd : ∀ a v, S.rd a v → S'.rd a v
  pt : ∀ i g, S.pt i g → S'.pt i g
  bf : ∀ i g r m, S.bf i g r m → S'.bf i g r m
  lp : ∀ i g, S.lp i g → S'.lp i g
  tk : ∀ t r m v, S.tk t r m v → S'.tk t r m v
theorem Le.refl (S : Sit) : Le S S := ⟨fun _ _ h => h, fun _ _ h => h, fun _ _ _ _ h => h, fun _ _ h => h, fun _ _ _ _ h => h⟩
theorem Le.trans {A B C : Sit} (h : Le A B) (k : Le B C) : Le A C :=
  ⟨fun _ _ q => k.rd _ _ (h.rd _ _ q), fun _ _ q => k.pt _ _ (h.pt _ _ q), fun _ _ _ _ q => k.bf _ _ _ _ (h.bf _ _ _ _ q), fun _ _ q => k.lp _ _ (h.lp _ _ q), fun _ _ _ _ q => k.tk _ _ _ _ (h.tk _ _ _ _ q)⟩

mutual
theorem R.monoN {n : Nat} {S S' : Sit} (h : LeN n S S') : ∀ (d : D) (v : Value), d.lt n = true → R S d v → R S' d v
  | .any, _, _, _ => trivial
  | .int _ _, _, _, q => q
  | .bool _, _, _, q => q
  | .str _, _, _, q => q
  | .flt _ _, _, _, q => q
  | .sl r xs .no, _, _, ⟨q, _⟩ => ⟨SlG.mono h.rd (Row.R_mono h.rd r) q, trivial⟩
  | .sl r xs .fresh, _, _, ⟨q, e⟩ => ⟨SlG.mono h.rd (Row.R_mono h.rd r) q, e⟩
  | .sl r xs (.own t), _, hl, ⟨q, e⟩ => ⟨SlG.mono h.rd (Row.R_mono h.rd r) q, h.tk _ _ _ _ (of_decide_eq_true hl) e⟩
  | .ref id off len, _, hl, q => by
    have hl := of_decide_eq_true (show decide (id < n) = true from hl)
    rcases q with ⟨g, c, p, e⟩ | ⟨g, r, m, c, p, e⟩
    · exact .inl ⟨g, c, h.pt _ _ hl p, e⟩
    · exact .inr ⟨g, r, m, c, h.bf _ _ _ _ hl p, e⟩
  | .ptr id off, _, hl, ⟨g, p, e⟩ => ⟨g, h.pt _ _ (of_decide_eq_true hl) p, e⟩
  | .bp id i j, _, hl, ⟨g, r, m, p, e⟩ => ⟨g, r, m, h.bf _ _ _ _ (of_decide_eq_true hl) p, e⟩
  | .ep r x j, _, _, ⟨ad, vs, e1, e2, e3, e4⟩ => ⟨ad, vs, e1, e2, fun i u hu => h.rd _ _ (e3 i u hu), Row.R_mono h.rd r _ _ e4⟩
  | .nilp, _, _, q => q
  | .fn f a b, _, hl, ⟨x, y, e, p, q⟩ => by
    have hl' : (D.lts n a && D.lts n b) = true := hl
    rw [Bool.and_eq_true] at hl'
    exact ⟨x, y, e, Rs.monoN h a x hl'.1 p, Rs.monoN h b y hl'.2 q⟩
  | .yld id, _, hl, ⟨l, p, e⟩ => ⟨l, h.lp _ _ (of_decide_eq_true hl) p, e⟩
  | .nilf, _, _, q => q
  | .agg l, _, hl, ⟨x, e, p⟩ => ⟨x, e, Rs.monoN h l x hl p⟩
  | .tup l, _, hl, ⟨x, e, p⟩ => ⟨x, e, Rs.monoN h l x hl p⟩
theorem Rs.monoN {n : Nat} {S S' : Sit} (h : LeN n S S') : ∀ (l : List D) (vs : List Value), D.lts n l = true → Rs S l vs → Rs S' l vs
  | [], _, _, q => q
  | d :: l, _, hl, ⟨v, rest, e, p, q⟩ => by
    have hl' : (D.lt n d && D.lts n l) = true := hl
    rw [Bool.and_eq_true] at hl'
    exact ⟨v, rest, e, R.monoN h d v hl'.1 p, Rs.monoN h l rest hl'.2 q⟩
end

mutual
theorem R.mono {S S' : Sit} (h : Le S S') : ∀ (d : D) (v : Value), R S d v → R S' d v
  | .any, _, _ => trivial
  | .int _ _, _, q => q
  | .bool _, _, q => q
  | .str _, _, q => q
  | .flt _ _, _, q => q
  | .sl r xs .no, _, ⟨q, _⟩ => ⟨SlG.mono h.rd (Row.R_mono h.rd r) q, trivial⟩
  | .sl r xs .fresh, _, ⟨q, e⟩ => ⟨SlG.mono h.rd (Row.R_mono h.rd r) q, e⟩
  | .sl r xs (.own t), _, ⟨q, e⟩ => ⟨SlG.mono h.rd (Row.R_mono h.rd r) q, h.tk _ _ _ _ e⟩
  | .ref id off len, _, q => by
    rcases q with ⟨g, c, p, e⟩ | ⟨g, r, m, c, p, e⟩
    · exact .inl ⟨g, c, h.pt _ _ p, e⟩
    · exact .inr ⟨g, r, m, c, h.bf _ _ _ _ p, e⟩
  | .ptr id off, _, ⟨g, p, e⟩ => ⟨g, h.pt _ _ p, e⟩
  | .bp id i j, _, ⟨g, r, m, p, e⟩ => ⟨g, r, m, h.bf _ _ _ _ p, e⟩
  | .ep r x j, _, ⟨ad, vs, e1, e2, e3, e4⟩ => ⟨ad, vs, e1, e2, fun i u hu => h.rd _ _ (e3 i u hu), Row.R_mono h.rd r _ _ e4⟩
  | .nilp, _, q => q
  | .fn f a b, _, ⟨x, y, e, p, q⟩ => ⟨x, y, e, Rs.mono h a x p, Rs.mono h b y q⟩
  | .yld id, _, ⟨l, p, e⟩ => ⟨l, h.lp _ _ p, e⟩
  | .nilf, _, q => q
  | .agg l, _, ⟨x, e, p⟩ => ⟨x, e, Rs.mono h l x p⟩
  | .tup l, _, ⟨x, e, p⟩ => ⟨x, e, Rs.mono h l x p⟩
theorem Rs.mono {S S' : Sit} (h : Le S S') : ∀ (l : List D) (vs : List Value), Rs S l vs → Rs S' l vs
  | [], _, q => q
  | d :: l, _, ⟨v, rest, e, p, q⟩ => ⟨v, rest, e, R.mono h d v p, Rs.mono h l rest q⟩
end

/-! ### Lists of values -/
theorem Rs.length {S : Sit} : ∀ {l : List D} {vs : List Value}, Rs S l vs → vs.length = l.length
  | [], _, q => by rw [show _ = [] from q]; rfl
  | _ :: l, _, ⟨v, rest, e, _, q⟩ => by rw [e, List.length_cons, List.length_cons, Rs.length q]
theorem Rs.get {S : Sit} : ∀ {l : List D} {vs : List Value}, Rs S l vs → ∀ {i : Nat} {d : D}, l[i]? = some d → ∃ v, vs[i]? = some v ∧ R S d v
  | [], _, _, i, d, h => by simp at h
  | a :: l, _, ⟨v, rest, e, p, q⟩, 0, d, h => by
    simp at h
    subst h e
    exact ⟨v, rfl, p⟩
  | a :: l, _, ⟨v, rest, e, p, q⟩, i + 1, d, h => by
    subst e
    simpa using Rs.get q (by simpa using h)
theorem Rs.mk {S : Sit} : ∀ {l : List D} {vs : List Value}, vs.length = l.length → (∀ (i : Nat) d v, l[i]? = some d → vs[i]? = some v → R S d v) → Rs S l vs
  | [], vs, h, _ => (List.length_eq_zero_iff.1 (by simpa using h) : vs = [])
  | d :: l, vs, h, k => by
    cases vs with
    | nil => simp at h
    | cons v rest => exact ⟨v, rest, rfl, k 0 d v rfl rfl, Rs.mk (by simpa using h) fun i d v h1 h2 => k (i + 1) d v (by simpa using h1) (by simpa using h2)⟩
theorem Rs.nil {S : Sit} : Rs S [] [] := rfl
theorem Rs.cons {S : Sit} {d : D} {v : Value} {l : List D} {vs : List Value} (h : R S d v) (k : Rs S l vs) : Rs S (d :: l) (v :: vs) := ⟨v, vs, rfl, h, k⟩
theorem Rs.app {S : Sit} : ∀ {l m : List D} {vs us : List Value}, Rs S l vs → Rs S m us → Rs S (l ++ m) (vs ++ us)
  | [], _, _, _, q, k => by rw [show _ = [] from q]; exact k
  | _ :: _, _, _, _, ⟨v, rest, e, p, q⟩, k => by rw [e]; exact ⟨v, rest ++ _, rfl, p, Rs.app q k⟩
theorem Rs.take {S : Sit} : ∀ {l : List D} {vs : List Value} (n : Nat), Rs S l vs → Rs S (l.take n) (vs.take n)
  | _, _, 0, _ => by simp [Rs]
  | [], _, n + 1, q => by rw [show _ = [] from q]; exact rfl
  | d :: l, _, n + 1, ⟨v, rest, e, p, q⟩ => by rw [e]; exact ⟨v, rest.take n, rfl, p, Rs.take n q⟩
theorem Rs.drop {S : Sit} : ∀ {l : List D} {vs : List Value} (n : Nat), Rs S l vs → Rs S (l.drop n) (vs.drop n)
  | _, _, 0, q => by simpa using q
  | [], _, n + 1, q => by rw [show _ = [] from q]; exact rfl
  | d :: l, _, n + 1, ⟨v, rest, e, p, q⟩ => by rw [e]; simpa using Rs.drop n q
theorem Rs.set {S : Sit} : ∀ {l : List D} {vs : List Value} (n : Nat) {d : D} {v : Value}, Rs S l vs → R S d v → Rs S (l.set n d) (vs.set n v)
  | [], _, n, _, _, q, _ => by rw [show _ = [] from q]; exact rfl
  | _ :: l, _, 0, _, _, ⟨v, rest, e, p, q⟩, h => by rw [e]; exact ⟨_, rest, rfl, h, q⟩
  | _ :: l, _, n + 1, _, _, ⟨v, rest, e, p, q⟩, h => by rw [e]; exact ⟨v, rest.set n _, rfl, p, Rs.set n q h⟩
theorem Rs.rep {S : Sit} {d : D} {v : Value} (h : R S d v) : ∀ n, Rs S (List.replicate n d) (List.replicate n v)
  | 0 => rfl
  | n + 1 => ⟨v, _, rfl, h, Rs.rep h n⟩

/-- A value's cells. -/
theorem R.cells {S : Sit} {d : D} {v : Value} {l : List D} (h : R S d v) (hc : d.cells = some l) : Rs S l v.cells.toList := by
  cases d <;> simp only [D.cells, Option.some.injEq, reduceCtorEq] at hc <;> first
    | (subst hc; obtain ⟨x, rfl, p⟩ := h; exact p)
    | skip
  all_goals (subst hc; refine ⟨v, [], ?_, h, rfl⟩)
  case sl => obtain ⟨⟨a, c, rfl, _⟩, _⟩ := h; rfl
  case ref => rcases h with ⟨_, _, _, rfl, _⟩ | ⟨_, _, _, _, _, _, rfl, _⟩ <;> rfl
  case ptr => obtain ⟨_, _, rfl⟩ := h; rfl
  case bp => obtain ⟨_, _, _, _, _, rfl⟩ := h; rfl
  case ep => obtain ⟨_, _, rfl, _⟩ := h; rfl
  case fn => obtain ⟨_, _, rfl, _⟩ := h; rfl
  case yld => obtain ⟨_, _, rfl⟩ := h; rfl
  all_goals (rw [show v = _ from h]; rfl)
theorem R.one {S : Sit} {d : D} {v : Value} (h : R S d v) (hc : d.one = true) : v.oneCell' = true := by
  cases d <;> simp only [D.one, reduceCtorEq] at hc
  case sl => obtain ⟨⟨a, c, rfl, _⟩, _⟩ := h; rfl
  case ref => rcases h with ⟨_, _, _, rfl, _⟩ | ⟨_, _, _, _, _, _, rfl, _⟩ <;> rfl
  case ptr => obtain ⟨_, _, rfl⟩ := h; rfl
  case bp => obtain ⟨_, _, _, _, _, rfl⟩ := h; rfl
  case ep => obtain ⟨_, _, rfl, _⟩ := h; rfl
  case fn => obtain ⟨_, _, rfl, _⟩ := h; rfl
  case yld => obtain ⟨_, _, rfl⟩ := h; rfl
  all_goals first | (exact absurd hc (by decide)) | (rw [show v = _ from h]; rfl)

/-! ### Cells of typed rows -/
theorem ctR_d {S : Sit} : ∀ (c : CT) (v : Value) (x : c.T), CT.R S.rd c v x → R S (c.d x) v
  | .int _, _, _, q => q
  | .bool, _, _, q => q
  | .str, _, _, q => q
  | .sl _, _, _, q => ⟨q, trivial⟩
theorem rowR_ds {S : Sit} : ∀ (r : Row) (vs : List Value) (x : r.T), Row.R S.rd r vs x → Rs S (r.ds x) vs
  | .one c, _, x, ⟨v, e, q⟩ => by rw [e]; exact ⟨v, [], rfl, ctR_d c v x q, rfl⟩
  | .cons c r, _, x, ⟨v, rest, e, q, p⟩ => by rw [e]; exact ⟨v, rest, rfl, ctR_d c v x.1 q, rowR_ds r rest x.2 p⟩
theorem ctR_of {S : Sit} : ∀ (c : CT) (d : D) (v : Value) (x : c.T), R S d v → c.of d = some x → CT.R S.rd c v x
  | .int k, d, v, x, h, e => by
    cases d <;> simp only [CT.of, reduceCtorEq] at e
    rename_i l n
    split at e
    · rename_i hk
      subst hk
      cases e
      exact h
    · cases e
  | .bool, d, v, x, h, e => by
    cases d <;> simp only [CT.of, reduceCtorEq, Option.some.injEq] at e
    subst e
    exact h
  | .str, d, v, x, h, e => by
    cases d <;> simp only [CT.of, reduceCtorEq, Option.some.injEq] at e
    subst e
    exact h
  | .sl r, d, v, x, h, e => by
    cases d <;> simp only [CT.of, reduceCtorEq] at e
    rename_i s xs t
    split at e
    · rename_i hk _
      subst hk
      cases e
      exact h.1
    · cases e
theorem rowR_of {S : Sit} : ∀ (r : Row) (ds : List D) (vs : List Value) (x : r.T), Rs S ds vs → r.of ds = some x → Row.R S.rd r vs x
  | .one c, ds, vs, x, h, e => by
    match ds, h, e with
    | [], _, e => simp [Row.of] at e
    | [d], ⟨v, rest, ev, p, q⟩, e =>
      rw [show rest = [] from q] at ev
      exact ⟨v, ev, ctR_of c d v x p e⟩
    | _ :: _ :: _, _, e => simp [Row.of] at e
  | .cons c r, ds, vs, x, h, e => by
    match ds, h, e with
    | [], _, e => simp [Row.of] at e
    | d :: ds, ⟨v, rest, ev, p, q⟩, e =>
      simp only [Row.of, Option.bind_eq_some_iff, Option.map_eq_some_iff] at e
      obtain ⟨y, hy, z, hz, rfl⟩ := e
      exact ⟨v, rest, ev, ctR_of c d v y p hy, rowR_of r ds rest z q hz⟩

end Go.Am
namespace Go.Am
open Go

abbrev Pl := Nat → Nat → Prop
abbrev Rn := Nat → Option Nat

/-- What values lean on, in a world: `X`: where cells may be read; `ρ`: which block is whose. -/
def sit (X : Pl) (ρ : Rn) (σ : List Ent) (w : World) : Sit where
  rd a v := a.spot = none ∧ w.cell? a = some v ∧ X a.block a.off ∧ ∀ i, ρ i = some a.block → ∃ r n, σ[i]? = some (.tok r n) ∧ a.off < n * r.size
  pt i g := ρ i = some g ∧ ∃ l, σ[i]? = some (.box l)
  bf i g r m := ρ i = some g ∧ ∃ xs : List r.T, σ[i]? = some (.buf r xs) ∧ xs.length = m
  lp i g := ρ i = some g ∧ ∃ f tm ps a b s p, σ[i]? = some (.loop f tm ps a b s p)
  tk t r n v := ∃ r' m, σ[t]? = some (.tok r' m) ∧ n ≤ m ∧ (n = m →
    (v = .slice none 0 0 ∧ n = 0) ∨
    ∃ g c arr el, ρ t = some g ∧ v = .slice (some ⟨g, 0, none⟩) n c ∧ w.heap[g]? = some (.cells arr el (0, 0)) ∧ arr.size = c * r'.size)

/-- Rows laid side by side. -/
def RowsR (rd : Addr → Value → Prop) (r : Row) : List Value → List r.T → Prop
  | vs, [] => vs = []
  | vs, x :: xs => ∃ us rest, vs = us ++ rest ∧ Row.R rd r us x ∧ RowsR rd r rest xs

/-- A block holds what is told of it. -/
def EntR (S : Sit) (w : World) (g : Nat) : Ent → Prop
  | .free => False
  | .box l => ∃ arr el, w.heap[g]? = some (.cells arr el (0, 0)) ∧ Rs S l arr.toList
  | .buf r xs => ∃ arr el, w.heap[g]? = some (.cells arr el (0, 0)) ∧ RowsR S.rd r arr.toList xs
  | .tok r n => ∃ arr el, w.heap[g]? = some (.cells arr el (0, 0)) ∧ n * r.size ≤ arr.size
  | .loop _ tm ps a b s p => ∃ L : Loop, w.heap[g]? = some (.loop L) ∧ Rs S tm L.tmps.toList ∧ L.params = ps.toArray ∧ L.assign = a ∧ L.body = b ∧ L.state = s ∧ L.pending = p

theorem RowsR.mono {rd rd' : Addr → Value → Prop} (h : ∀ a v, rd a v → rd' a v) {r : Row} : ∀ {vs : List Value} {xs : List r.T}, RowsR rd r vs xs → RowsR rd' r vs xs
  | _, [], q => q
  | _, _ :: _, ⟨us, rest, e, p, q⟩ => ⟨us, rest, e, Row.R_mono h r _ _ p, RowsR.mono h q⟩
theorem EntR.mono {S S' : Sit} (h : Le S S') {w : World} {g : Nat} {e : Ent} (k : EntR S w g e) : EntR S' w g e := by
  cases e with
  | free => exact k
  | box l => obtain ⟨arr, el, h1, h2⟩ := k; exact ⟨arr, el, h1, Rs.mono h _ _ h2⟩
  | buf r xs => obtain ⟨arr, el, h1, h2⟩ := k; exact ⟨arr, el, h1, h2.mono h.rd⟩
  | tok r n => exact k
  | loop f tm ps a b s p => obtain ⟨L, h1, h2, h3⟩ := k; exact ⟨L, h1, Rs.mono h _ _ h2, h3⟩
theorem EntR.monoN {n : Nat} {S S' : Sit} (h : LeN n S S') {w : World} {g : Nat} {e : Ent} (hl : e.lt n = true) (k : EntR S w g e) : EntR S' w g e := by
  cases e with
  | free => exact k
  | box l => obtain ⟨arr, el, h1, h2⟩ := k; exact ⟨arr, el, h1, Rs.monoN h _ _ hl h2⟩
  | buf r xs => obtain ⟨arr, el, h1, h2⟩ := k; exact ⟨arr, el, h1, h2.mono h.rd⟩
  | tok r n => exact k
  | loop f tm ps a b s p => obtain ⟨L, h1, h2, h3⟩ := k; exact ⟨L, h1, Rs.monoN h _ _ hl h2, h3⟩
theorem EntR.world {S : Sit} {w w' : World} {g : Nat} {e : Ent} (h : w'.heap[g]? = w.heap[g]?) (k : EntR S w g e) : EntR S w' g e := by
  cases e <;> simp only [EntR] at k ⊢ <;> (try rw [h]) <;> exact k
theorem EntR.lt {S : Sit} {w : World} {g : Nat} {e : Ent} (k : EntR S w g e) : g < w.heap.size := by
  cases e with
  | free => exact k.elim
  | box l => obtain ⟨arr, el, h1, h2⟩ := k; exact (Array.getElem?_eq_some_iff.1 h1).1
  | buf r xs => obtain ⟨arr, el, h1, h2⟩ := k; exact (Array.getElem?_eq_some_iff.1 h1).1
  | tok r n => obtain ⟨arr, el, h1, h2⟩ := k; exact (Array.getElem?_eq_some_iff.1 h1).1
  | loop f tm ps a b s p => obtain ⟨L, h1, h2, h3⟩ := k; exact (Array.getElem?_eq_some_iff.1 h1).1

structure Rel (X : Pl) (ρ : Rn) (σ : List Ent) (w : World) : Prop where
  inj : ∀ i j g, ρ i = some g → ρ j = some g → i = j
  ent : ∀ i g, ρ i = some g → ∃ e, σ[i]? = some e ∧ EntR (sit X ρ σ w) w g e
  top : ∀ b o, w.heap.size ≤ b → X b o
  fr : ∀ i g, ρ i = some g → ∀ o, X g o

theorem Rel.lt {X : Pl} {ρ : Rn} {σ : List Ent} {w : World} (h : Rel X ρ σ w) {i g : Nat} (hi : ρ i = some g) : i < σ.length ∧ g < w.heap.size := by
  obtain ⟨e, h1, h2⟩ := h.ent i g hi
  exact ⟨(List.getElem?_eq_some_iff.1 h1).1, h2.lt⟩

/-- What a piece of code may do to the world: blocks from number `ro` on alone are written. -/
structure Step (ro : Nat) (X : Pl) (ρ : Rn) (σ : List Ent) (w : World) (ρ' : Rn) (σ' : List Ent) (w' : World) : Prop where
  os : w'.os = w.os
  tape : w'.tape = w.tape
  output : w'.output = w.output
  size : w.heap.size ≤ w'.heap.size
  old : ∀ b, b < w.heap.size → (∀ i, ro ≤ i → ρ i ≠ some b) → w'.heap[b]? = w.heap[b]?
  img : ∀ i g, ro ≤ i → ρ' i = some g → (∃ j, ro ≤ j ∧ ρ j = some g) ∨ w.heap.size ≤ g
  keep : ∀ i, i < ro → ρ' i = ρ i ∧ σ'[i]? = σ[i]?
  le : Le (sit X ρ σ w) (sit X ρ' σ' w')

theorem Step.refl (ro : Nat) (X : Pl) (ρ : Rn) (σ : List Ent) (w : World) : Step ro X ρ σ w ρ σ w :=
  ⟨rfl, rfl, rfl, Nat.le_refl _, fun _ _ _ => rfl, fun i g h1 h2 => .inl ⟨i, h1, h2⟩, fun _ _ => ⟨rfl, rfl⟩, Le.refl _⟩
theorem Step.trans {ro : Nat} {X : Pl} {ρ ρ1 ρ2 : Rn} {σ σ1 σ2 : List Ent} {w w1 w2 : World} (h : Step ro X ρ σ w ρ1 σ1 w1) (k : Step ro X ρ1 σ1 w1 ρ2 σ2 w2) : Step ro X ρ σ w ρ2 σ2 w2 where
  os := k.os.trans h.os
  tape := k.tape.trans h.tape
  output := k.output.trans h.output
  size := Nat.le_trans h.size k.size
  old b hb hn := by
    rw [k.old b (Nat.lt_of_lt_of_le hb h.size) ?_, h.old b hb hn]
    intro i hi he
    rcases h.img i b hi he with ⟨j, hj, hj'⟩ | q
    · exact hn j hj hj'
    · omega
  img i g hi he := by
    rcases k.img i g hi he with ⟨j, hj, hj'⟩ | q
    · exact h.img j g hj hj'
    · exact .inr (Nat.le_trans h.size q)
  keep i hi := ⟨(k.keep i hi).1.trans (h.keep i hi).1, (k.keep i hi).2.trans (h.keep i hi).2⟩
  le := h.le.trans k.le
/-- Fewer may be written, all the more. -/
theorem Step.less {ro ro' : Nat} {X : Pl} {ρ ρ' : Rn} {σ σ' : List Ent} {w w' : World} (h : Step ro X ρ σ w ρ' σ' w') (hr : ro' ≤ ro) : Step ro' X ρ σ w ρ' σ' w' where
  os := h.os
  tape := h.tape
  output := h.output
  size := h.size
  old b hb hn := h.old b hb fun i hi => hn i (Nat.le_trans hr hi)
  img i g hi he := by
    by_cases q : ro ≤ i
    · rcases h.img i g q he with ⟨j, hj, hj'⟩ | q
      · exact .inl ⟨j, Nat.le_trans hr hj, hj'⟩
      · exact .inr q
    · exact .inl ⟨i, hi, by rw [← (h.keep i (by omega)).1]; exact he⟩
  keep i hi := h.keep i (Nat.lt_of_lt_of_le hi hr)
  le := h.le

/-! ### Draws -/
theorem sit_heap {X : Pl} {ρ : Rn} {σ : List Ent} {w w' : World} (h : w'.heap = w.heap) : sit X ρ σ w' = sit X ρ σ w := by
  have hc : ∀ a, w'.cell? a = w.cell? a := fun a => by unfold World.cell?; rw [h]
  unfold sit
  simp only [hc, h]
theorem Rel.heap {X : Pl} {ρ : Rn} {σ : List Ent} {w w' : World} (h : Rel X ρ σ w) (hh : w'.heap = w.heap) : Rel X ρ σ w' where
  inj := h.inj
  ent i g hi := by
    obtain ⟨e, h1, h2⟩ := h.ent i g hi
    refine ⟨e, h1, ?_⟩
    rw [sit_heap hh]
    exact h2.world (by rw [hh])
  top b o hb := h.top b o (by rw [← hh]; exact hb)
  fr := h.fr
theorem Step.draw (ro : Nat) (X : Pl) (ρ : Rn) (σ : List Ent) (w : World) (n : Nat) : Step ro X ρ σ w ρ σ { w with drawn := n } where
  os := rfl
  tape := rfl
  output := rfl
  size := Nat.le_refl _
  old _ _ _ := rfl
  img i g h1 h2 := .inl ⟨i, h1, h2⟩
  keep _ _ := ⟨rfl, rfl⟩
  le := by rw [sit_heap (w := w) (w' := { w with drawn := n }) rfl]; exact Le.refl _

/-! ### A new block -/
def Rn.put (ρ : Rn) (i : Nat) (g : Option Nat) : Rn := fun j => if j = i then g else ρ j

theorem cell_alloc {w : World} {o : Obj} {a : Addr} {v : Value} (h : w.cell? a = some v) : (w.alloc o).cell? a = some v := by
  have hb : a.block < w.heap.size := by
    unfold World.cell? at h
    split at h
    · rename_i hx; exact (Array.getElem?_eq_some_iff.1 hx).1
    · cases h
  rw [World.cell?_alloc_lt _ _ _ hb, h]
theorem heap_alloc {w : World} {o : Obj} {g : Nat} {x : Obj} (h : w.heap[g]? = some x) : (w.alloc o).heap[g]? = some x := by
  rw [RowKit.Below.heap_alloc _ _ _ (Array.getElem?_eq_some_iff.1 h).1, h]
theorem heap_new (w : World) (o : Obj) : (w.alloc o).heap[w.heap.size]? = some o := by
  show (w.heap.push o)[w.heap.size]? = _
  simp
theorem get_app {σ new : List Ent} {i : Nat} {e : Ent} (h : σ[i]? = some e) : (σ ++ new)[i]? = some e := by
  rw [List.getElem?_append_left (List.getElem?_eq_some_iff.1 h).1, h]

/-- More names, and a world with more blocks: what leant on the old ones goes on. -/
theorem le_more {X : Pl} {ρ ρ' : Rn} {σ σ' : List Ent} {w w' : World} (hr : Rel X ρ σ w)
    (hρ : ∀ i, i < σ.length → ρ' i = ρ i) (hn : ∀ i g, σ.length ≤ i → ρ' i = some g → w.heap.size ≤ g) (hσ : ∀ i, i < σ.length → σ'[i]? = σ[i]?)
    (hw : ∀ b, b < w.heap.size → w'.heap[b]? = w.heap[b]?) : Le (sit X ρ σ w) (sit X ρ' σ' w') := by
  have hc : ∀ (a : Addr) v, w.cell? a = some v → a.block < w.heap.size ∧ w'.cell? a = some v := fun a v h => by
    have hb : a.block < w.heap.size := by
      unfold World.cell? at h
      split at h
      · rename_i hx; exact (Array.getElem?_eq_some_iff.1 hx).1
      · cases h
    refine ⟨hb, ?_⟩
    unfold World.cell? at h ⊢
    rw [hw _ hb]
    exact h
  refine ⟨fun a v ⟨h1, h2, h3, h4⟩ => ⟨h1, (hc a v h2).2, h3, fun i hi => ?_⟩, fun i g ⟨h1, l, h2⟩ => ?_, fun i g r m ⟨h1, xs, h2, h3⟩ => ?_, fun i g ⟨h1, h2⟩ => ?_, fun t r n v ⟨r', m, h1, h2, h3⟩ => ?_⟩
  · by_cases q : i < σ.length
    · rw [hρ i q] at hi
      obtain ⟨r, n, e, p⟩ := h4 i hi
      exact ⟨r, n, by rw [hσ i q]; exact e, p⟩
    · have := hn i _ (by omega) hi
      have := (hc a v h2).1
      omega
  · have q := (List.getElem?_eq_some_iff.1 h2).1
    exact ⟨by rw [hρ i q]; exact h1, l, by rw [hσ i q]; exact h2⟩
  · have q := (List.getElem?_eq_some_iff.1 h2).1
    exact ⟨by rw [hρ i q]; exact h1, xs, by rw [hσ i q]; exact h2, h3⟩
  · obtain ⟨f, tm, ps, a, b, s, p, h2⟩ := h2
    have q := (List.getElem?_eq_some_iff.1 h2).1
    exact ⟨by rw [hρ i q]; exact h1, f, tm, ps, a, b, s, p, by rw [hσ i q]; exact h2⟩
  · have q := (List.getElem?_eq_some_iff.1 h1).1
    refine ⟨r', m, by rw [hσ t q]; exact h1, h2, fun e => ?_⟩
    rcases h3 e with ⟨b, c⟩ | ⟨g, c, arr, el, a, b, d, f⟩
    · exact .inl ⟨b, c⟩
    · exact .inr ⟨g, c, arr, el, by rw [hρ t q]; exact a, b, by rw [hw _ (hr.lt a).2]; exact d, f⟩

/-- The step to it. -/
theorem step_more {ro : Nat} {X : Pl} {ρ ρ' : Rn} {σ σ' : List Ent} {w w' : World} (hr : Rel X ρ σ w) (hro : ro ≤ σ.length)
    (hρ : ∀ i, i < σ.length → ρ' i = ρ i) (hn : ∀ i g, σ.length ≤ i → ρ' i = some g → w.heap.size ≤ g) (hσ : ∀ i, i < σ.length → σ'[i]? = σ[i]?)
    (hw : ∀ b, b < w.heap.size → w'.heap[b]? = w.heap[b]?) (hs : w.heap.size ≤ w'.heap.size) (h1 : w'.os = w.os) (h2 : w'.tape = w.tape) (h3 : w'.output = w.output) : Step ro X ρ σ w ρ' σ' w' where
  os := h1
  tape := h2
  output := h3
  size := hs
  old b hb _ := hw b hb
  img i g hi he := by
    by_cases q : i < σ.length
    · exact .inl ⟨i, hi, by rw [← hρ i q]; exact he⟩
    · exact .inr (hn i g (by omega) he)
  keep i hi := ⟨hρ i (by omega), hσ i (by omega)⟩
  le := le_more hr hρ hn hσ hw

/-- One entry more, with a block of its own that is new, or with none. -/
theorem rel_new {X : Pl} {ρ : Rn} {σ : List Ent} {w : World} (hr : Rel X ρ σ w) (o : Obj) (e : Ent)
    (he : EntR (sit X (ρ.put σ.length (some w.heap.size)) (σ ++ [e]) (w.alloc o)) (w.alloc o) w.heap.size e) :
    Rel X (ρ.put σ.length (some w.heap.size)) (σ ++ [e]) (w.alloc o) where
  inj i j g hi hj := by
    unfold Rn.put at hi hj
    split at hi <;> split at hj
    · omega
    · cases hi
      have := (hr.lt hj).2
      omega
    · cases hj
      have := (hr.lt hi).2
      omega
    · exact hr.inj i j g hi hj
  ent i g hi := by
    unfold Rn.put at hi
    split at hi
    · rename_i q
      cases hi
      subst q
      exact ⟨e, by simp, he⟩
    · obtain ⟨e', h1, h2⟩ := hr.ent i g hi
      refine ⟨e', get_app h1, ?_⟩
      have hl := le_more (ρ' := ρ.put σ.length (some w.heap.size)) (σ' := σ ++ [e]) (w' := w.alloc o) hr
        (fun i hi => by unfold Rn.put; rw [if_neg (by omega)]) (fun i g hi h => by
          unfold Rn.put at h
          split at h
          · cases h; exact Nat.le_refl _
          · have := (hr.lt h).1; omega)
        (fun i hi => List.getElem?_append_left hi) (fun b hb => RowKit.Below.heap_alloc _ _ _ hb)
      exact (h2.mono hl).world (RowKit.Below.heap_alloc _ _ _ (hr.lt hi).2)
  top b o' hb := hr.top b o' (by rw [World.size_alloc] at hb; omega)
  fr i g hi o' := by
    unfold Rn.put at hi
    split at hi
    · injection hi with hi
      exact hr.top g o' (by omega)
    · exact hr.fr i g hi o'
theorem step_new {ro : Nat} {X : Pl} {ρ : Rn} {σ : List Ent} {w : World} (hr : Rel X ρ σ w) (hro : ro ≤ σ.length) (o : Obj) (e : Ent) :
    Step ro X ρ σ w (ρ.put σ.length (some w.heap.size)) (σ ++ [e]) (w.alloc o) :=
  step_more hr hro (fun i hi => by unfold Rn.put; rw [if_neg (by omega)]) (fun i g hi h => by
    unfold Rn.put at h
    split at h
    · cases h; exact Nat.le_refl _
    · have := (hr.lt h).1; omega) (fun i hi => List.getElem?_append_left hi) (fun b hb => RowKit.Below.heap_alloc _ _ _ hb) (by rw [World.size_alloc]; omega) rfl rfl rfl
/-- One token more, without a block. -/
theorem rel_tok {X : Pl} {ρ : Rn} {σ : List Ent} {w : World} (hr : Rel X ρ σ w) (e : Ent) : Rel X ρ (σ ++ [e]) w where
  inj := hr.inj
  ent i g hi := by
    obtain ⟨e', h1, h2⟩ := hr.ent i g hi
    exact ⟨e', get_app h1, h2.mono (le_more hr (fun _ _ => rfl) (fun i g h h' => by have := (hr.lt h').1; omega) (fun i hi => List.getElem?_append_left hi) (fun _ _ => rfl))⟩
  top := hr.top
  fr := hr.fr
theorem step_tok {ro : Nat} {X : Pl} {ρ : Rn} {σ : List Ent} {w : World} (hr : Rel X ρ σ w) (hro : ro ≤ σ.length) (e : Ent) : Step ro X ρ σ w ρ (σ ++ [e]) w :=
  step_more hr hro (fun _ _ => rfl) (fun i g h h' => by have := (hr.lt h').1; omega) (fun i hi => List.getElem?_append_left hi) (fun _ _ => rfl) (Nat.le_refl _) rfl rfl rfl

end Go.Am
namespace Go.Am
open Go

theorem ev_ok {P : Program} {S : Sit} {a : Act} {tm : List D} (h : Rs S tm a.tmps.toList) (t : TypeId) (x : Operand) : R S (ev P t tm x) (a.eval x) := by
  cases x with
  | tmp i =>
    show R S (tm.getD i .any) (a.tmps.getD i undef)
    by_cases q : i < tm.length
    · obtain ⟨v, h1, h2⟩ := Rs.get h (List.getElem?_eq_getElem q)
      rw [List.getD_eq_getElem?_getD, List.getElem?_eq_getElem q]
      have : a.tmps.getD i undef = v := by
        rw [Array.getD_eq_getD_getElem?, ← Array.getElem?_toList, h1]
        rfl
      rw [this]
      exact h2
    · rw [List.getD_eq_getElem?_getD, List.getElem?_eq_none (Nat.not_lt.1 q)]
      trivial
  | const v =>
    show R S (ofV (rowOf P t) v) v
    cases v with
    | slice b n c =>
      cases b with
      | some b => exact trivial
      | none =>
        cases n with
        | succ n => exact trivial
        | zero => cases c with
          | succ c => exact trivial
          | zero => exact ⟨⟨none, 0, rfl, Nat.le_refl _, fun i x hx => by simp at hx⟩, rfl⟩
    | pointer b => cases b <;> first | exact trivial | rfl
    | _ => first | rfl | exact trivial
  | global g => exact trivial
  | func f => exact ⟨[], [], rfl, rfl, rfl⟩

/-- Operands, by what they are told to hold. -/
def EvR (S : Sit) (P : Program) (a : Act) (tm : List D) (xs : List Operand) : Prop := ∀ x ∈ xs, ∀ t, R S (ev P t tm x) (a.eval x)
theorem EvR.of {P : Program} {S : Sit} {a : Act} {tm : List D} (h : Rs S tm a.tmps.toList) (xs : List Operand) : EvR S P a tm xs := fun x _ t => ev_ok h t x

theorem ofV_ok {S : Sit} (r : Option Row) (v : Value) : R S (ofV r v) v := by
  cases v with
  | slice b n c =>
    cases b with
    | some b => exact trivial
    | none =>
      cases n with
      | succ n => exact trivial
      | zero => cases c with
        | succ c => exact trivial
        | zero => exact ⟨⟨none, 0, rfl, Nat.le_refl _, fun i x hx => by simp at hx⟩, rfl⟩
  | pointer b => cases b <;> first | exact trivial | rfl
  | _ => first | rfl | exact trivial
theorem ofVs_ok {S : Sit} : ∀ (rs : List (Option Row)) (vs : List Value), Rs S (ofVs rs vs) vs
  | rs, [] => by cases rs <;> exact rfl
  | [], v :: vs => ⟨v, vs, rfl, ofV_ok none v, ofVs_ok [] vs⟩
  | r :: rs, v :: vs => ⟨v, vs, rfl, ofV_ok r v, ofVs_ok rs vs⟩
theorem zero_ok {P : Program} {t : TypeId} {l : List D} (h : zeroCells P t = some l) : ∃ i z, P.info? t = some i ∧ i.zero = some z ∧ ∀ S, Rs S l z.cells.toList := by
  unfold zeroCells at h
  simp only [Option.map_eq_some_iff, Option.bind_eq_some_iff] at h
  obtain ⟨z, ⟨i, h1, h2⟩, rfl⟩ := h
  exact ⟨i, z, h1, h2, fun S => ofVs_ok _ _⟩

theorem patch_ok {S : Sit} {l ls : List D} {vs us : List Value} (h : Rs S l vs) (k : Rs S ls us) (off : Nat) : Rs S (patch l ls off) (vs.take off ++ us ++ vs.drop (off + us.length)) := by
  unfold patch
  rw [Rs.length k]
  exact Rs.app (Rs.app (Rs.take off h) k) (Rs.drop _ h)
theorem patch_length {l ls : List D} {off : Nat} (h : off + ls.length ≤ l.length) : (patch l ls off).length = l.length := by
  unfold patch
  simp
  omega

/-- Cells laid over cells. -/
theorem fold_patch : ∀ (us : List Value) (cs : Array Value) (off k : Nat), off + k + us.length ≤ cs.size →
    ((us.zipIdx k).foldl (fun (cs : Array Value) (x : Value × Nat) => cs.setIfInBounds (off + x.2) x.1) cs).toList = cs.toList.take (off + k) ++ us ++ cs.toList.drop (off + k + us.length)
  | [], cs, off, k, _ => by simp
  | u :: us, cs, off, k, h => by
    simp only [List.zipIdx_cons, List.foldl_cons, List.length_cons] at h ⊢
    rw [fold_patch us _ off (k + 1) (by simp; omega)]
    apply List.ext_getElem?
    intro i
    simp only [Array.toList_setIfInBounds, List.append_assoc]
    by_cases q : i < off + k
    · rw [List.getElem?_append_left (by simp; omega), List.getElem?_append_left (by simp; omega), List.getElem?_take, List.getElem?_take, if_pos (by omega), if_pos q, List.getElem?_set]
      rw [if_neg (by omega)]
    by_cases q2 : i = off + k
    · subst q2
      rw [List.getElem?_append_left (by simp; omega), List.getElem?_take, if_pos (by omega), List.getElem?_set, if_pos rfl, if_pos (by simp; omega), List.getElem?_append_right (by simp; omega)]
      simp
      rw [show off + k - min (off + k) cs.size = 0 by omega]
      rfl
    by_cases q3 : i < off + k + 1 + us.length
    · rw [List.getElem?_append_right (by simp; omega), List.getElem?_append_left (by simp; omega), List.getElem?_append_right (by simp; omega)]
      simp only [List.length_take, List.length_set, Array.length_toList, List.cons_append]
      rw [show i - min (off + k) cs.size = (i - min (off + (k + 1)) cs.size) + 1 by omega, List.getElem?_cons_succ, List.getElem?_append_left (by omega)]
    · rw [List.getElem?_append_right (by simp; omega), List.getElem?_append_right (by simp; omega), List.getElem?_append_right (by simp; omega)]
      simp only [List.length_take, List.length_set, Array.length_toList, List.cons_append]
      rw [show i - min (off + k) cs.size = (i - min (off + (k + 1)) cs.size) + 1 by omega, List.getElem?_cons_succ, List.getElem?_append_right (by omega), List.getElem?_drop, List.getElem?_drop, List.getElem?_set]
      rw [if_neg (by omega)]
      congr 1
      omega

theorem fill_ok {S : Sit} {place place' : Nat → Option (Nat × Nat)} : ∀ (ds : List (Nat × D)) (vs : List (Nat × Value)) (l ls : List D) (cs : Array Value),
    (∀ i p, place i = some p → place' i = some p) → ds.map (·.1) = vs.map (·.1) → Rs S (ds.map (·.2)) (vs.map (·.2)) → Rs S l cs.toList → fillD place l ds = some ls →
    ∃ cs', Instr.fill place' cs vs = some cs' ∧ Rs S ls cs'.toList
  | [], [], l, ls, cs, _, _, _, hl, h => by
    simp only [fillD, Option.some.injEq] at h
    subst h
    exact ⟨cs, rfl, hl⟩
  | [], _ :: _, _, _, _, _, e, _, _, _ => by simp at e
  | _ :: _, [], _, _, _, _, e, _, _, _ => by simp at e
  | (i, d) :: ds, (j, v) :: vs, l, ls, cs, hp, e, hr, hl, h => by
    simp only [List.map_cons, List.cons.injEq] at e
    obtain ⟨rfl, e⟩ := e
    obtain ⟨v', rest, ev, hd, hr⟩ := hr
    simp only [List.map_cons, List.cons.injEq] at ev
    obtain ⟨rfl, rfl⟩ := ev
    simp only [fillD] at h
    cases hpl : place i with
    | none => simp [hpl] at h
    | some p =>
      obtain ⟨off, size⟩ := p
      cases hc : d.cells with
      | none => simp [hpl, hc] at h
      | some us =>
        simp only [hpl, hc] at h
        split at h
        · rename_i hq
          have hu := R.cells hd hc
          have hlen := Rs.length hu
          have hll := Rs.length hl
          simp only [Array.length_toList] at hlen hll
          have hf := fold_patch v.cells.toList cs off 0 (by simp; omega)
          obtain ⟨cs', h1, h2⟩ := fill_ok ds vs (patch l us off) ls ((v.cells.toList.zipIdx).foldl (fun (cs : Array Value) (x : Value × Nat) => cs.setIfInBounds (off + x.2) x.1) cs) hp e hr (by
            rw [hf]
            simpa using patch_ok hl hu off) h
          refine ⟨cs', ?_, h2⟩
          simp only [Instr.fill, hp i _ hpl]
          rw [if_neg (by simp; omega)]
          rw [← h1]
          congr 1
          rw [← Array.foldl_toList]
          simp
        · cases h

theorem wrapUp_ok {P : Program} {S : Sit} {t : TypeId} {n : Nat} {l : List D} {d : D} {vs : List Value} (h : wrapUp (isAggB P t) n l = some d) (k : Rs S l vs) :
    vs.length = n ∧ (isAggB P t = true → R S d (.agg vs.toArray)) ∧ (isAggB P t = false → ∃ v, vs = [v] ∧ R S d v) := by
  unfold wrapUp at h
  split at h
  · rename_i hl
    refine ⟨(Rs.length k).trans hl, fun q => ?_, fun q => ?_⟩
    · rw [if_pos q] at h
      cases h
      exact ⟨vs, rfl, k⟩
    · rw [if_neg (by rw [q]; decide)] at h
      match l, k, h with
      | [], _, h => cases h
      | [d'], ⟨v, rest, e, p, q⟩, h =>
        cases h
        exact ⟨v, by rw [e, show rest = [] from q], p⟩
      | _ :: _ :: _, _, h => cases h
  · cases h

theorem run_sizeOf' {P : Program} {t : TypeId} {i : TypeInfo} (h : P.info? t = some i) (w : World) : (sizeOf t).run P w = .ok (P.cellsOf t) w := by
  simp [sizeOf, typeInfo, h, Program.cellsOf]
theorem info_of_und {P : Program} {t : TypeId} {d : TypeDesc} (h : P.underlying t = some d) : ∃ i, P.info? t = some i := by
  unfold Program.underlying at h
  split at h <;> rename_i hi
  · exact ⟨_, hi⟩
  · exact ⟨_, hi⟩
  · cases h
theorem run_isAgg' {P : Program} {t : TypeId} {d : TypeDesc} (h : P.underlying t = some d) (w : World) : (isAgg t).run P w = .ok (isAggB P t) w := by
  unfold isAgg isAggB
  simp only [Sem.run_bind, run_underlying h, Result.andThen_ok, h]
  cases d <;> rfl

theorem part_ok {P : Program} {S : Sit} {t : TypeId} {l : List D} {cs : Array Value} {off : Nat} {d : D} {td : TypeDesc} (hu : P.underlying t = some td) (hl : Rs S l cs.toList)
    (h : wrapUp (isAggB P t) (P.cellsOf t) ((l.drop off).take (P.cellsOf t)) = some d) (w : World) : ∃ v, (part t cs off).run P w = .ok v w ∧ R S d v := by
  obtain ⟨i, hi⟩ := info_of_und hu
  obtain ⟨h1, h2, h3⟩ := wrapUp_ok h (Rs.take _ (Rs.drop off hl))
  unfold part
  simp only [Sem.run_bind, run_isAgg' hu, Result.andThen_ok]
  cases q : isAggB P t with
  | true =>
    refine ⟨.agg (cs.extract off (off + P.cellsOf t)), ?_, ?_⟩
    · simp [run_sizeOf' hi]
    · have := h2 q
      rwa [show ((cs.toList.drop off).take (P.cellsOf t)).toArray = cs.extract off (off + P.cellsOf t) by
        apply Array.ext'
        simp [List.take_drop, Nat.add_comm]] at this
  | false =>
    obtain ⟨v, e, hv⟩ := h3 q
    have hg : cs[off]? = some v := by
      have : ((cs.toList.drop off).take (P.cellsOf t))[0]? = some v := by rw [e]; rfl
      rw [List.getElem?_take] at this
      split at this
      · simpa using this
      · cases this
    exact ⟨v, by simp [hg], hv⟩

theorem wrapT_ok {P : Program} {t : TypeId} {l : List D} {d : D} (h : wrapT P t l = some d) : ∃ td, P.underlying t = some td ∧ wrapUp (isAggB P t) (P.cellsOf t) l = some d := by
  unfold wrapT at h
  split at h
  · rename_i td hu
    exact ⟨td, hu, h⟩
  · cases h

end Go.Am
namespace Go.Am
open Go

/-- What the machine is told of types that can be compared. -/
def EqOk (P : Program) (ok : TypeId → Bool) : Prop := ∀ t, ok t = true → P.stoodInHeld t = false ∧ P.eqGuardType P.depth t = false

theorem fieldsOf_und {P : Program} {t : TypeId} {fs : Array Field} (h : P.underlying t = some (.struct fs)) : P.fieldsOf t = fs := by
  unfold Program.fieldsOf
  rw [h]

theorem eqD_und {P : Program} {ok : TypeId → Bool} : ∀ (n : Nat) (t : TypeId) (x y : D) (b : Bool), eqD P ok n t x y = some b → ∃ d, P.underlying t = some d
  | 0, _, _, _, _, h => by simp [eqD] at h
  | n + 1, t, x, y, b, h => by
    unfold eqD at h
    cases hu : P.underlying t with
    | some d => exact ⟨d, rfl⟩
    | none => rw [hu] at h; simp at h

theorem eqFields_ok {P : Program} {S : Sit} {ok : TypeId → Bool} {n : Nat}
    (ih : ∀ (t : TypeId) (x y : D) (b : Bool) (vx vy : Value) (m : Nat) (w : World), eqD P ok n t x y = some b → R S x vx → R S y vy → n ≤ m → (Op.equalIn m t vx vy).run P w = .ok b w)
    {xs ys : List D} {cx cy : Array Value} (hx : Rs S xs cx.toList) (hy : Rs S ys cy.toList) (m : Nat) (hm : n ≤ m) (w : World) : ∀ (fs : List Field) (b : Bool),
    fs.foldr (fun f acc => if f.name = "_" then acc else
          ((wrapUp (isAggB P f.type) (P.cellsOf f.type) ((xs.drop f.offset).take (P.cellsOf f.type))).bind fun u =>
            (wrapUp (isAggB P f.type) (P.cellsOf f.type) ((ys.drop f.offset).take (P.cellsOf f.type))).bind fun v =>
              (eqD P ok n f.type u v).bind fun b => acc.map (b && ·))) (some true) = some b → (Op.eqFields m cx cy fs).run P w = .ok b w
  | [], b, h => by
    simp only [List.foldr_nil, Option.some.injEq] at h
    subst h
    simp [Op.eqFields]
  | f :: fs, b, h => by
    simp only [List.foldr_cons] at h
    have hrest := eqFields_ok ih hx hy m hm w fs
    by_cases q : f.name = "_"
    · rw [if_pos q] at h
      simp only [Op.eqFields, q, ne_eq, not_true_eq_false, if_false]
      exact hrest b h
    · rw [if_neg q] at h
      simp only [Option.bind_eq_some_iff, Option.map_eq_some_iff] at h
      obtain ⟨u, h1, v, h2, b1, h3, b2, h4, rfl⟩ := h
      obtain ⟨td, htd⟩ := eqD_und _ _ _ _ _ h3
      obtain ⟨vu, r1, q1⟩ := part_ok htd hx h1 w
      obtain ⟨vv, r2, q2⟩ := part_ok htd hy h2 w
      have r3 := ih f.type u v b1 vu vv m w h3 q1 q2 hm
      have r4 := hrest b2 h4
      simp only [Op.eqFields, q, ne_eq, not_false_eq_true, if_true, Sem.run_bind, r1, r2, r3, Result.andThen_ok]
      cases b1 <;> simp [r4]

theorem eqD_ok {P : Program} {S : Sit} {ok : TypeId → Bool} (hok : EqOk P ok) : ∀ (n : Nat) (t : TypeId) (x y : D) (b : Bool) (vx vy : Value) (m : Nat) (w : World), eqD P ok n t x y = some b → R S x vx → R S y vy → n ≤ m →
    (Op.equalIn m t vx vy).run P w = .ok b w
  | 0, _, _, _, _, _, _, _, _, h, _, _, _ => by simp [eqD] at h
  | n + 1, t, x, y, b, vx, vy, m, w, h, hx, hy, hm => by
    obtain ⟨m, rfl⟩ : ∃ k, m = k + 1 := ⟨m - 1, by omega⟩
    unfold eqD at h
    split at h
    · rename_i hu
      rw [show vx = _ from hx, show vy = _ from hy]
      cases h
      exact run_equalIn_bool' w m t _ _ hu
    · rename_i k hu
      rw [show vx = _ from hx, show vy = _ from hy]
      split at h
      · rename_i hk
        subst hk
        cases h
        exact run_equalIn_int w m t _ _ _ _ hu
      · cases h
    · rename_i hu
      rw [show vx = _ from hx, show vy = _ from hy]
      cases h
      rw [run_equalIn_string w m t _ _ hu, beq_toListBytes]
    · rename_i fs xs ys hu
      split at h
      · rename_i hk
        obtain ⟨cx, rfl, px⟩ := hx
        obtain ⟨cy, rfl, py⟩ := hy
        have hf := fieldsOf_und hu
        rw [run_equalIn_struct w m t _ _ (by rw [hf]; exact hu) (hok t hk).1, hf]
        exact eqFields_ok (eqD_ok hok n) px py m (by omega) w fs.toList b h
      · cases h
    · cases h

def notPair (u v : Value) : Bool := match u, v with | .nilIface, .nilIface => false | .agg _, .agg _ => false | _, _ => true
def notNum (u v : Value) : Bool := match u, v with | .int _ _, .int _ _ => false | .float _ _, .float _ _ => false | .complex _ _ _, .complex _ _ _ => false | .string _, .string _ => false | _, _ => true
theorem guard_scalar {P : Program} (op : BinOp) (t : TypeId) (x y : Operand) (u v : Value) (h : notPair u v = true) (w : World) :
    (eqGuard op t x y u v).run P w = .ok () w := by
  unfold eqGuard
  cases u <;> cases v <;> first | (exfalso; revert h; simp [notPair]; done) | (simp only [Sem.run_ite]; split <;> rfl)

theorem intOp_ok {P : Program} {op : BinOp} {q : IntKind} {x y : Int} {go : D → Option Res} {r : Res} (h : intOp op q x y go = some r) (hs : op ≠ .shl ∧ op ≠ .shr) (t : TypeId) :
    ∃ d, go d = some r ∧ ∀ S w, ∃ v, (binOp op t (.int q x) (.int q y)).run P w = .ok v w ∧ R S d v := by
  cases op <;> simp only [intOp, reduceCtorEq] at h
  case quo =>
    by_cases h0 : y = 0
    · simp [h0] at h
    · rw [decide_eq_false h0] at h
      exact ⟨_, h, fun S w => ⟨_, by simp [binOp, Op.intDiv, h0], rfl⟩⟩
  case rem =>
    by_cases h0 : y = 0
    · simp [h0] at h
    · rw [decide_eq_false h0] at h
      exact ⟨_, h, fun S w => ⟨_, by simp [binOp, Op.intDiv, h0], rfl⟩⟩
  all_goals exact ⟨_, h, fun S w => ⟨_, by simp [binOp, Op.intArith, Op.intBits, Op.intCmp]; try rfl, rfl⟩⟩

theorem shiftOp_ok {P : Program} {op : BinOp} {q l : IntKind} {x y : Int} {go : D → Option Res} {r : Res} (h : shiftOp op q x y go = some r) (t : TypeId) :
    ∃ d, go d = some r ∧ ∀ S w, ∃ v, (binOp op t (.int q x) (.int l y)).run P w = .ok v w ∧ R S d v := by
  unfold shiftOp at h
  by_cases h0 : y < 0
  · simp [h0] at h
  · rw [decide_eq_false h0] at h
    cases op <;> simp only [cond_false, reduceCtorEq] at h
    all_goals exact ⟨_, h, fun S w => ⟨_, by simp [binOp, Op.shift, h0]; try rfl, rfl⟩⟩

section
variable {P : Program} (n : Nat) (t : TypeId) (w : World)
theorem eq_pn {e : TypeId} (h : P.underlying t = some (.pointer e)) (a : Addr) : (Op.equalIn (n + 1) t (.pointer (some a)) (.pointer none)).run P w = .ok false w := by
  rw [Op.equalIn]; simp [run_underlying h]
theorem eq_np {e : TypeId} (h : P.underlying t = some (.pointer e)) (a : Option Addr) : (Op.equalIn (n + 1) t (.pointer none) (.pointer a)).run P w = .ok a.isNone w := by
  rw [Op.equalIn]; simp [run_underlying h]
theorem eq_fn {a b : Array TypeId} {c : Bool} (h : P.underlying t = some (.func a b c)) (f : Fn) (x y : Array Value) : (Op.equalIn (n + 1) t (.func f x y) .nilFunc).run P w = .ok false w := by
  rw [Op.equalIn]; simp [run_underlying h]
theorem eq_nf {a b : Array TypeId} {c : Bool} (h : P.underlying t = some (.func a b c)) (f : Fn) (x y : Array Value) : (Op.equalIn (n + 1) t .nilFunc (.func f x y)).run P w = .ok false w := by
  rw [Op.equalIn]; simp [run_underlying h]
theorem eq_sl {e : TypeId} (h : P.underlying t = some (.slice e)) : (Op.equalIn (n + 1) t (.slice none 0 0) (.slice none 0 0)).run P w = .ok true w := by
  rw [Op.equalIn]; simp [run_underlying h]
end

theorem eq_und_run {P : Program} (op : BinOp) (hop : op = .eql ∨ op = .neq) (t : TypeId) (u v : Value) (b : Bool) (w : World)
    (hne : notNum u v = true)
    (h : (Op.equal t u v).run P w = .ok b w) : (binOp op t u v).run P w = .ok (.bool (if op = .neq then !b else b)) w := by
  rcases hop with rfl | rfl
  · cases u <;> cases v <;> first | (exfalso; revert hne; simp [notNum]; done) | simp [binOp, h]
  · cases u <;> cases v <;> first | (exfalso; revert hne; simp [notNum]; done) | simp [binOp, h]

end Go.Am
namespace Go.Am
open Go

def PRun (P : Program) (S : Sit) (s : Sem Value) (d : D) : Prop := ∀ w, ∃ v, s.run P w = .ok v w ∧ R S d v

theorem nilEq_ok {P : Program} {op : BinOp} (hop : op = .eql ∨ op = .neq) {t : TypeId} {u v : Value} {b : Bool} (hg : notPair u v = true)
    (hne : notNum u v = true)
    (h : ∀ w, (Op.equal t u v).run P w = .ok b w) (x y : Operand) (S : Sit) : PRun P S (do eqGuard op t x y u v; binOp op t u v) (.bool (if op = .neq then !b else b)) := fun w => by
  refine ⟨_, ?_, rfl⟩
  simp only [Sem.run_bind, guard_scalar op t x y u v hg w, Result.andThen_ok]
  exact eq_und_run op hop t u v b w hne (h w)

theorem eqOp_ok {E : Env} (hok : EqOk E.P E.eqOk) {op : BinOp} (hop : op = .eql ∨ op = .neq) {t : TypeId} {dx dy : D} {go : D → Option Res} {r : Res} (x y : Operand)
    (h : eqOp E t (decide (op = .neq)) dx dy go = some r)
    (hd1 : ∀ k a l b, dx = .int k a → dy = .int l b → False) (hd2 : ∀ a b, dx = .str a → dy = .str b → False) :
    ∃ b, go (.bool b) = some r ∧ ∀ S vx vy, R S dx vx → R S dy vy → PRun E.P S (do eqGuard op t x y vx vy; binOp op t vx vy) (.bool b) := by
  have fin : ∀ (S : Sit) (b : Bool) {vx vy : Value}, notPair vx vy = true →
      notNum vx vy = true →
      (∀ w, (Op.equal t vx vy).run E.P w = .ok b w) → PRun E.P S (do eqGuard op t x y vx vy; binOp op t vx vy) (.bool (if op = .neq then !b else b)) :=
    fun S b _ _ h1 h2 h3 => nilEq_ok hop h1 h2 h3 x y S
  have conv : ∀ b : Bool, (if op = .neq then !b else b) = (if decide (op = .neq) then !b else b) := fun b => by by_cases q : op = .neq <;> simp [q]
  have hneg : ∀ b : Bool, (if op = .neq then !b else b) = (if b then !decide (op = .neq) else decide (op = .neq)) := fun b => by by_cases q : op = .neq <;> cases b <;> simp [q]
  have finF : ∀ {S : Sit} {vx vy : Value}, notPair vx vy = true → notNum vx vy = true → (∀ w, (Op.equal t vx vy).run E.P w = .ok false w) → PRun E.P S (do eqGuard op t x y vx vy; binOp op t vx vy) (.bool (decide (op = .neq))) := fun {S} _ _ h1 h2 h3 => by
    have := fin S false h1 h2 h3
    rw [hneg] at this
    exact this
  have finT : ∀ {S : Sit} {vx vy : Value}, notPair vx vy = true → notNum vx vy = true → (∀ w, (Op.equal t vx vy).run E.P w = .ok true w) → PRun E.P S (do eqGuard op t x y vx vy; binOp op t vx vy) (.bool (!decide (op = .neq))) := fun {S} _ _ h1 h2 h3 => by
    have := fin S true h1 h2 h3
    rw [hneg] at this
    exact this
  unfold eqOp at h
  split at h
  case h_1 | h_2 | h_3 =>
    split at h
    · rename_i hu
      refine ⟨_, h, fun S vx vy hx hy => ?_⟩
      have e2 : vy = .pointer none := hy
      subst e2
      first
        | (obtain ⟨g, _, rfl⟩ := hx)
        | (obtain ⟨g, r', m, _, _, rfl⟩ := hx)
        | (obtain ⟨ad, vs, rfl, _⟩ := hx)
      exact finF rfl rfl (fun w => eq_pn 9999 t w hu _)
    · cases h
  case h_4 | h_5 | h_6 =>
    split at h
    · rename_i hu
      refine ⟨_, h, fun S vx vy hx hy => ?_⟩
      have e2 : vx = .pointer none := hx
      subst e2
      first
        | (obtain ⟨g, _, rfl⟩ := hy)
        | (obtain ⟨g, r', m, _, _, rfl⟩ := hy)
        | (obtain ⟨ad, vs, rfl, _⟩ := hy)
      exact finF rfl rfl (fun w => eq_np 9999 t w hu _)
    · cases h
  case h_7 =>
    split at h
    · rename_i hu
      refine ⟨_, h, fun S vx vy hx hy => ?_⟩
      have e2 : vx = .pointer none := hx
      have e3 : vy = .pointer none := hy
      subst e2 e3
      exact finT rfl rfl (fun w => eq_np 9999 t w hu _)
    · cases h
  case h_8 =>
    split at h
    · rename_i hu
      refine ⟨_, h, fun S vx vy hx hy => ?_⟩
      obtain ⟨_, _, rfl, _⟩ := hx
      have e3 : vy = .nilFunc := hy
      subst e3
      exact finF rfl rfl (fun w => eq_fn 9999 t w hu _ _ _)
    · cases h
  case h_9 =>
    split at h
    · rename_i hu
      refine ⟨_, h, fun S vx vy hx hy => ?_⟩
      obtain ⟨_, _, rfl, _⟩ := hy
      have e3 : vx = .nilFunc := hx
      subst e3
      exact finF rfl rfl (fun w => eq_nf 9999 t w hu _ _ _)
    · cases h
  case h_10 =>
    split at h
    · rename_i hu
      refine ⟨_, h, fun S vx vy hx hy => ?_⟩
      have e2 := hx.2
      have e3 := hy.2
      subst e2 e3
      exact finT rfl rfl (fun w => eq_sl 9999 t w hu)
    · cases h
  case h_11 =>
    split at h
    · rename_i b hb
      refine ⟨_, h, fun S vx vy hx hy => ?_⟩
      rw [← conv]
      have hne : notNum vx vy = true := by
        unfold eqD at hb
        split at hb
        · rw [show vx = _ from hx, show vy = _ from hy]; rfl
        · exact (hd1 _ _ _ _ rfl rfl).elim
        · exact (hd2 _ _ rfl rfl).elim
        · obtain ⟨cx, rfl, _⟩ := hx
          obtain ⟨cy, rfl, _⟩ := hy
          rfl
        · cases hb
      have he : ∀ w, (Op.equal t vx vy).run E.P w = .ok b w := fun w => eqD_ok hok _ _ _ _ _ _ _ 10000 w hb hx hy (by omega)
      by_cases ha : notPair vx vy = true
      · exact fin S b ha hne he
      · -- two structs
        have hag : ∃ cx cy, vx = .agg cx ∧ vy = .agg cy ∧ E.eqOk t = true := by
          unfold eqD at hb
          split at hb
          · rw [show vx = _ from hx, show vy = _ from hy] at ha; exact absurd rfl ha
          · rw [show vx = _ from hx, show vy = _ from hy] at ha; exact absurd rfl ha
          · rw [show vx = _ from hx, show vy = _ from hy] at ha; exact absurd rfl ha
          · split at hb
            · rename_i hk
              obtain ⟨cx, rfl, _⟩ := hx
              obtain ⟨cy, rfl, _⟩ := hy
              exact ⟨_, _, rfl, rfl, hk⟩
            · cases hb
          · cases hb
        obtain ⟨cx, cy, rfl, rfl, hk⟩ := hag
        intro w
        refine ⟨_, ?_, rfl⟩
        simp only [Sem.run_bind, run_eqGuard_agg w op t x y cx cy (hok t hk).2, Result.andThen_ok]
        exact eq_und_run op hop t _ _ b w rfl (he w)
    · cases h

theorem binD_ok {E : Env} (hok : EqOk E.P E.eqOk) {op : BinOp} {t : TypeId} {dx dy : D} {go : D → Option Res} {r : Res} (x y : Operand)
    (h : binD E op t dx dy go = some r) : ∃ d, go d = some r ∧ ∀ S vx vy, R S dx vx → R S dy vy → PRun E.P S (do eqGuard op t x y vx vy; binOp op t vx vy) d := by
  have run : ∀ {S : Sit} {d : D} {vx vy : Value}, notPair vx vy = true → (∀ w, ∃ v, (binOp op t vx vy).run E.P w = .ok v w ∧ R S d v) → PRun E.P S (do eqGuard op t x y vx vy; binOp op t vx vy) d := by
    intro S d vx vy h1 h2 w
    obtain ⟨v, h3, h4⟩ := h2 w
    exact ⟨v, by simp only [Sem.run_bind, guard_scalar op t x y vx vy h1 w, Result.andThen_ok, h3], h4⟩
  unfold binD at h
  split at h
  · obtain ⟨d, h1, h2⟩ := shiftOp_ok (P := E.P) h t
    refine ⟨d, h1, fun S vx vy hx hy => ?_⟩
    rw [show vx = _ from hx, show vy = _ from hy]
    exact run rfl (h2 S)
  · obtain ⟨d, h1, h2⟩ := shiftOp_ok (P := E.P) h t
    refine ⟨d, h1, fun S vx vy hx hy => ?_⟩
    rw [show vx = _ from hx, show vy = _ from hy]
    exact run rfl (h2 S)
  · rename_i h1 h2
    split at h
    · rename_i hk
      subst hk
      obtain ⟨d, h3, h4⟩ := intOp_ok (P := E.P) h ⟨by rintro rfl; simp_all, by rintro rfl; simp_all⟩ t
      refine ⟨d, h3, fun S vx vy hx hy => ?_⟩
      rw [show vx = _ from hx, show vy = _ from hy]
      exact run rfl (h4 S)
    · cases h
  · refine ⟨_, h, fun S vx vy hx hy => ?_⟩
    rw [show vx = _ from hx, show vy = _ from hy]
    exact run rfl (fun w => ⟨_, by simp [binOp, Op.stringOp, ← beq_toListBytes, bne]; try rfl, rfl⟩)
  · refine ⟨_, h, fun S vx vy hx hy => ?_⟩
    rw [show vx = _ from hx, show vy = _ from hy]
    exact run rfl (fun w => ⟨_, by simp [binOp, Op.stringOp, ← beq_toListBytes, bne]; try rfl, rfl⟩)
  · obtain ⟨b, h1, h2⟩ := eqOp_ok (op := .eql) hok (.inl rfl) x y (by simpa using h) (by rintro k a l b rfl rfl; grind) (by rintro a b rfl rfl; grind)
    exact ⟨_, h1, h2⟩
  · obtain ⟨b, h1, h2⟩ := eqOp_ok (op := .neq) hok (.inr rfl) x y (by simpa using h) (by rintro k a l b rfl rfl; grind) (by rintro a b rfl rfl; grind)
    exact ⟨_, h1, h2⟩
  · cases h

end Go.Am
namespace Go.Am
open Go

theorem maxD_ok {P : Program} {S : Sit} : ∀ (l : List D) (d d' : D) (v : Value) (vs : List Value), maxD d l = some d' → R S d v → Rs S l vs → ∀ w, ∃ u, (vs.foldlM Builtin.max2 v).run P w = .ok u w ∧ R S d' u
  | [], d, d', v, vs, h, hd, hl, w => by
    rw [show vs = [] from hl]
    simp only [maxD, Option.some.injEq] at h
    subst h
    exact ⟨v, rfl, hd⟩
  | e :: l, d, d', v, vs, h, hd, hl, w => by
    obtain ⟨u, rest, rfl, hu, hr⟩ := hl
    unfold maxD at h
    split at h
    · cases ‹_ :: _ = []›
    · rename_i k x l' y rest' he
      simp only [List.cons.injEq] at he
      obtain ⟨rfl, rfl⟩ := he
      split at h
      · rename_i hk
        subst hk
        have e1 : v = .int k x := hd
        have e2 : u = .int k y := hu
        subst e1 e2
        obtain ⟨u', h1, h2⟩ := maxD_ok _ _ d' (.int k (mx x y)) rest h rfl hr w
        exact ⟨u', by simp only [List.foldlM_cons, Builtin.max2, Sem.run_bind, Sem.run_pure, Result.andThen_ok]; exact h1, h2⟩
      · cases h
    · cases h
theorem minD_ok {P : Program} {S : Sit} : ∀ (l : List D) (d d' : D) (v : Value) (vs : List Value), minD d l = some d' → R S d v → Rs S l vs → ∀ w, ∃ u, (vs.foldlM Builtin.min2 v).run P w = .ok u w ∧ R S d' u
  | [], d, d', v, vs, h, hd, hl, w => by
    rw [show vs = [] from hl]
    simp only [minD, Option.some.injEq] at h
    subst h
    exact ⟨v, rfl, hd⟩
  | e :: l, d, d', v, vs, h, hd, hl, w => by
    obtain ⟨u, rest, rfl, hu, hr⟩ := hl
    unfold minD at h
    split at h
    · cases ‹_ :: _ = []›
    · rename_i k x l' y rest' he
      simp only [List.cons.injEq] at he
      obtain ⟨rfl, rfl⟩ := he
      split at h
      · rename_i hk
        subst hk
        have e1 : v = .int k x := hd
        have e2 : u = .int k y := hu
        subst e1 e2
        obtain ⟨u', h1, h2⟩ := minD_ok _ _ d' (.int k (mn x y)) rest h rfl hr w
        exact ⟨u', by simp only [List.foldlM_cons, Builtin.min2, Sem.run_bind, Sem.run_pure, Result.andThen_ok]; exact h1, h2⟩
      · cases h
    · cases h

theorem evArgs_ok {P : Program} {S : Sit} {a : Act} {tm : List D} : ∀ (xs : List Operand) (ts : List TypeId), EvR S P a tm xs → Rs S (evArgs P tm xs ts) (xs.map a.eval)
  | [], ts, _ => by cases ts <;> exact rfl
  | x :: xs, [], h => ⟨_, _, rfl, h x (List.mem_cons_self ..) 0, evArgs_ok xs [] fun y hy => h y (List.mem_cons_of_mem _ hy)⟩
  | x :: xs, t :: ts, h => ⟨_, _, rfl, h x (List.mem_cons_self ..) t, evArgs_ok xs ts fun y hy => h y (List.mem_cons_of_mem _ hy)⟩
theorem evMap_ok {P : Program} {S : Sit} {a : Act} {tm : List D} (t : TypeId) : ∀ (xs : List Operand), EvR S P a tm xs → Rs S (xs.map (ev P t tm)) (xs.map a.eval)
  | [], _ => rfl
  | x :: xs, h => ⟨_, _, rfl, h x (List.mem_cons_self ..) t, evMap_ok t xs fun y hy => h y (List.mem_cons_of_mem _ hy)⟩
theorem evs_ok {P : Program} {S : Sit} {a : Act} {tm : List D} (ts : Nat → TypeId) : ∀ (ps : List (Nat × Operand)), EvR S P a tm (ps.map (·.2)) →
    (evs P ts tm ps).map (·.1) = (ps.map fun p => (p.1, a.eval p.2)).map (·.1) ∧ Rs S ((evs P ts tm ps).map (·.2)) ((ps.map fun p => (p.1, a.eval p.2)).map (·.2))
  | [], _ => ⟨rfl, rfl⟩
  | p :: ps, h => by
    have ih := evs_ok ts ps fun y hy => h y (List.mem_cons_of_mem _ hy)
    exact ⟨by simp only [evs, List.map_cons]; rw [show ps.map _ = evs P ts tm ps from rfl, ih.1], ⟨_, _, rfl, h p.2 (List.mem_cons_self ..) _, ih.2⟩⟩

theorem fieldOf_und {P : Program} {t : TypeId} {i : Nat} {f : Field} (h : fieldOf P t i = some f) : ∃ fs, P.underlying t = some (.struct fs) ∧ fs[i]? = some f := by
  unfold fieldOf at h
  split at h
  · rename_i fs hu
    exact ⟨fs, hu, h⟩
  · cases h
theorem cells_info {P : Program} {t : TypeId} (h : P.cellsOf t ≠ 0) : ∃ i, P.info? t = some i := by
  unfold Program.cellsOf at h
  cases q : P.info? t with
  | none => simp [q] at h
  | some i => exact ⟨i, rfl⟩

theorem enumIdx_ok {i : Int} {k : Nat → Option Res} {r : Res} : ∀ (n j : Nat), enumIdx i j n k = some r → ∃ m, j ≤ m ∧ m < j + n ∧ i = (m : Int) ∧ k m = some r
  | 0, _, h => by simp [enumIdx] at h
  | n + 1, j, h => by
    unfold enumIdx at h
    by_cases q : i = (j : Int)
    · rw [decide_eq_true q] at h
      exact ⟨j, Nat.le_refl _, by omega, q, h⟩
    · rw [decide_eq_false q] at h
      obtain ⟨m, h1, h2, h3, h4⟩ := enumIdx_ok n (j + 1) h
      exact ⟨m, by omega, by omega, h3, h4⟩

theorem places_arr {P : Program} {t e : TypeId} {n i : Nat} {p : Nat × Nat} {ie : TypeInfo} (hu : P.underlying t = some (.array n e)) (hi : P.info? e = some ie) (h : places P t i = some p) : some (i * ie.size, ie.size) = some p := by
  unfold places at h
  simp only [hu, Option.some.injEq] at h
  subst h
  simp [Program.cellsOf, hi]
theorem mapM_all {P : Program} : ∀ (fs : List Field), (fs.all fun f => (P.info? f.type).isSome) = true → fs.mapM (fun f => (P.info? f.type).map fun i => (f.offset, i.size)) = some (fs.map fun f => (f.offset, P.cellsOf f.type))
  | [], _ => rfl
  | f :: fs, h => by
    simp only [List.all_cons, Bool.and_eq_true] at h
    obtain ⟨i, hi⟩ := Option.isSome_iff_exists.1 h.1
    simp only [List.mapM_cons, hi, Option.map_some, mapM_all fs h.2, Option.bind_eq_bind, Option.bind_some, List.map_cons]
    simp [Program.cellsOf, hi]

theorem build_ok {P : Program} {S : Sit} {a : Act} {tm : List D} {t : TypeId} {ps : Array (Nat × Operand)} (ha : EvR S P a tm (ps.toList.map (·.2))) {z l : List D} (hz : zeroCells P t = some z)
    (hf : fillD (places P t) z (evs P (placeT P t) tm ps.toList) = some l)
    (hu : (∃ fs, P.underlying t = some (.struct fs) ∧ (fs.toList.all fun f => (P.info? f.type).isSome) = true) ∨ ∃ n e, P.underlying t = some (.array n e) ∧ (P.info? e).isSome = true) (w : World) :
    ∃ v, (Instr.build t (ps.map fun (i, x) => (i, a.eval x))).run P w = .ok v w ∧ R S (.agg l) v := by
  obtain ⟨i, zv, h1, h2, h3⟩ := zero_ok hz
  have he := evs_ok (P := P) (placeT P t) ps.toList ha
  have hps : (ps.map fun (i, x) => (i, a.eval x)).toList = ps.toList.map fun p => (p.1, a.eval p.2) := by simp
  rcases hu with ⟨fs, hu, hall⟩ | ⟨n, e, hu, hie⟩
  · have hm := mapM_all fs.toList hall
    obtain ⟨cs, h4, h5⟩ := fill_ok (place' := ((fs.toList.map fun f => (f.offset, P.cellsOf f.type)).toArray[·]?)) _ _ z l zv.cells (fun i p hp => by
      unfold places at hp
      simp only [hu] at hp
      simpa using hp) he.1 he.2 (h3 S) hf
    exact ⟨.agg cs, run_build w t _ cs (by rw [hps]; unfold Program.built; simp only [h1, hu, h2, hm]; exact h4), ⟨cs.toList, rfl, h5⟩⟩
  · obtain ⟨ie, hie⟩ := Option.isSome_iff_exists.1 hie
    obtain ⟨cs, h4, h5⟩ := fill_ok (place' := fun i => some (i * ie.size, ie.size)) _ _ z l zv.cells (fun i p hp => places_arr hu hie hp) he.1 he.2 (h3 S) hf
    exact ⟨.agg cs, run_build w t _ cs (by rw [hps]; unfold Program.built; simp only [h1, hu, h2, hie]; exact h4), ⟨cs.toList, rfl, h5⟩⟩

set_option maxHeartbeats 1000000 in
theorem pureD_ok {E : Env} (hok : EqOk E.P E.eqOk) {o : Oper} {tm : List D} {k : D → Option Res} {r : Res} (h : pureD E o tm k = some r) :
    ∃ d, k d = some r ∧ ∀ S (a : Act), EvR S E.P a tm o.op.operands.toList → ∀ w, ∃ v, (execOp a.eval o).run E.P w = .ok (.value v) w ∧ R S d v := by
  obtain ⟨dst, op, type, pos, after, guard⟩ := o
  unfold pureD at h
  simp only at h
  split at h
  case h_1 | h_2 => exact ⟨_, h, fun S a ha w => ⟨_, rfl, ha _ (by simp [Op.operands]) type⟩⟩
  case h_3 c x y =>
    split at h
    · rename_i b hb
      cases b with
      | true => exact ⟨_, h, fun S a ha w => ⟨_, by have := ha c (by simp [Op.operands, Call.operands]) 0; rw [hb] at this; simp [execOp, asBool, show a.eval c = _ from this], ha x (by simp [Op.operands, Call.operands]) type⟩⟩
      | false => exact ⟨_, h, fun S a ha w => ⟨_, by have := ha c (by simp [Op.operands, Call.operands]) 0; rw [hb] at this; simp [execOp, asBool, show a.eval c = _ from this], ha y (by simp [Op.operands, Call.operands]) type⟩⟩
    · cases h
  case h_4 t ps =>
    split at h
    · cases h
    · rename_i z hz
      split at h
      · cases h
      · rename_i l hl
        split at h
        · rename_i fs hu
          split at h
          · rename_i hall
            refine ⟨_, h, fun S a ha w => ?_⟩
            obtain ⟨v, h1, h2⟩ := build_ok (by simpa [Op.operands] using ha) hz hl (.inl ⟨fs, hu, hall⟩) w
            exact ⟨v, by simp only [execOp, Sem.run_bind, h1, Result.andThen_ok]; rfl, h2⟩
          · cases h
        · rename_i n e hu
          split at h
          · rename_i hall
            refine ⟨_, h, fun S a ha w => ?_⟩
            obtain ⟨v, h1, h2⟩ := build_ok (by simpa [Op.operands] using ha) hz hl (.inr ⟨n, e, hu, hall⟩) w
            exact ⟨v, by simp only [execOp, Sem.run_bind, h1, Result.andThen_ok]; rfl, h2⟩
          · cases h
        · cases h
  case h_5 x =>
    have key : ∀ d, ev E.P 0 tm x = d → (∀ S v, R S d v → ∃ z, v = .pointer (some z) ∨ ∃ f b c, v = .func (.func f) b c) → ∀ S (a : Act), EvR S E.P a tm [x] → ∀ w,
        ∃ v, (execOp a.eval ⟨dst, .nilCheck x, type, pos, after, guard⟩).run E.P w = .ok (.value v) w ∧ R S d v := by
      intro d hd hv S a ha w
      have hr := ha x (by simp [Op.operands, Call.operands]) 0
      rw [hd] at hr
      refine ⟨_, ?_, hr⟩
      obtain ⟨z, hz⟩ := hv S _ hr
      rcases hz with hz | ⟨f, b, c, hz⟩ <;> simp [execOp, hz]
    split at h
    · rename_i i j hd
      exact ⟨_, h, key _ hd fun S v ⟨g, _, e⟩ => ⟨_, .inl e⟩⟩
    · rename_i i j l hd
      exact ⟨_, h, key _ hd fun S v ⟨g, _, _, _, _, e⟩ => ⟨_, .inl e⟩⟩
    · rename_i rr y j hd
      exact ⟨_, h, key _ hd fun S v ⟨ad, vs, e, _⟩ => ⟨_, .inl e⟩⟩
    · rename_i f b c hd
      exact ⟨_, h, key _ hd fun S v ⟨x', y', e, _⟩ => ⟨⟨0, 0, none⟩, .inr ⟨_, _, _, e⟩⟩⟩
    · cases h
  case h_6 op t x y yt =>
    obtain ⟨d, h1, h2⟩ := binD_ok hok x y h
    refine ⟨d, h1, fun S a ha w => ?_⟩
    obtain ⟨v, h3, h4⟩ := h2 S _ _ (ha x (by simp [Op.operands, Call.operands]) t) (ha y (by simp [Op.operands, Call.operands]) t) w
    exact ⟨v, by simp only [execOp, Sem.run_bind] at h3 ⊢; rw [h3]; rfl, h4⟩
  case h_7 op t x =>
    unfold unD at h
    split at h
    · rename_i k n hx
      refine ⟨_, h, fun S a ha w => ?_⟩
      have := ha x (by simp [Op.operands, Call.operands]) 0
      rw [hx] at this
      exact ⟨.int k (k.wrap (0 - n)), by simp [execOp, Op.unary, Op.intArith, show a.eval x = _ from this], rfl⟩
    · rename_i b hx
      refine ⟨_, h, fun S a ha w => ?_⟩
      have := ha x (by simp [Op.operands, Call.operands]) 0
      rw [hx] at this
      exact ⟨.bool !b, by simp [execOp, Op.unary, show a.eval x = _ from this], rfl⟩
    · cases h
  case h_8 src dst' x =>
    split at h
    · rename_i ds q k n h1 h2 h3
      refine ⟨_, h, fun S a ha w => ?_⟩
      have := ha x (by simp [Op.operands, Call.operands]) 0
      rw [h3] at this
      exact ⟨.int q (q.wrap n), by simp [execOp, convert, run_underlying h1, run_underlying h2, Conv.intToInt, show a.eval x = _ from this], rfl⟩
    · rename_i ds s h1 h2 h3
      refine ⟨_, h, fun S a ha w => ?_⟩
      have := ha x (by simp [Op.operands, Call.operands]) 0
      rw [h3] at this
      exact ⟨.string s, by simp [execOp, convert, run_underlying h1, run_underlying h2, show a.eval x = _ from this], rfl⟩
    · cases h
  case h_9 f x y =>
    refine ⟨_, h, fun S a ha w => ⟨_, rfl, x.toList.map a.eval, y.toList.map a.eval, ?_, evMap_ok 0 _ fun z hz => ha z (by simp [Op.operands] at hz ⊢; exact .inl hz), evMap_ok 0 _ fun z hz => ha z (by simp [Op.operands] at hz ⊢; exact .inr hz)⟩⟩
    rw [← Array.toList_map, ← Array.toList_map]
  case h_10 t x i =>
    split at h
    · rename_i f hf
      obtain ⟨fs, hu, hi⟩ := fieldOf_und hf
      split at h
      · cases h
      · rename_i hc
        obtain ⟨inf, hinf⟩ := cells_info hc
        have run : ∀ (a : Act) (ad : Addr) w, a.eval x = .pointer (some ad) → (execOp a.eval ⟨dst, .fieldAddr t x i, type, pos, after, guard⟩).run E.P w = .ok (.value (.pointer (some (ad.add f.offset)))) w := by
          intro a ad w he
          simp [execOp, Instr.fieldAt, run_underlying hu, hi, Instr.sureAddr, he, fieldPlace, run_sizeOf' hinf, hc]
        split at h
        · rename_i id off hx
          refine ⟨_, h, fun S a ha w => ?_⟩
          have := ha x (by simp [Op.operands, Call.operands]) 0
          rw [hx] at this
          obtain ⟨g, h1, h2⟩ := this
          exact ⟨_, run a _ w h2, g, h1, by unfold Addr.add; split <;> simp_all⟩
        · rename_i id b j hx
          refine ⟨_, h, fun S a ha w => ?_⟩
          have := ha x (by simp [Op.operands, Call.operands]) 0
          rw [hx] at this
          obtain ⟨g, rr, m, h1, h2, h3⟩ := this
          exact ⟨_, run a _ w h3, g, rr, m, h1, h2, by unfold Addr.add; split <;> simp_all [Nat.add_assoc]⟩
        · rename_i rr y j hx
          refine ⟨_, h, fun S a ha w => ?_⟩
          have := ha x (by simp [Op.operands, Call.operands]) 0
          rw [hx] at this
          obtain ⟨ad, vs, h1, h2⟩ := this
          refine ⟨_, run a _ w h1, ad, vs, ?_, h2⟩
          unfold Addr.add
          split <;> split <;> split <;> simp_all [Nat.add_assoc]
        · cases h
    · cases h
  case h_11 t x i =>
    split at h
    · rename_i f l hf hx
      obtain ⟨fs, hu, hi⟩ := fieldOf_und hf
      split at h
      · rename_i d hd
        refine ⟨_, h, fun S a ha w => ?_⟩
        have := ha x (by simp [Op.operands, Call.operands]) 0
        rw [hx] at this
        obtain ⟨cs, h1, h2⟩ := this
        obtain ⟨td, hu2, hw⟩ := wrapT_ok hd
        obtain ⟨v, h3, h4⟩ := part_ok (cs := cs.toArray) hu2 h2 hw w
        exact ⟨v, by simp [execOp, Instr.field, run_underlying hu, hi, asAgg, h1, h3], h4⟩
      · cases h
    · cases h
  case h_12 t x ix =>
    split at h
    · rename_i n e l q i hu hx hix
      obtain ⟨m, h1, h2, h3, h4⟩ := enumIdx_ok _ _ h
      split at h4
      · rename_i d hd
        refine ⟨_, h4, fun S a ha w => ?_⟩
        have e1 := ha x (by simp [Op.operands, Call.operands]) 0
        have e2 := ha ix (by simp [Op.operands, Call.operands]) 0
        rw [hx] at e1
        rw [hix] at e2
        have e2 : a.eval ix = .int q i := e2
        obtain ⟨cs, h1, h5⟩ := e1
        obtain ⟨td, hu2, hw⟩ := wrapT_ok hd
        obtain ⟨inf, hinf⟩ := info_of_und hu2
        obtain ⟨v, h6, h7⟩ := part_ok (cs := cs.toArray) hu2 h5 hw w
        have hb : 0 ≤ i ∧ i < (n : Int) := by omega
        have hm : i.toNat = m := by omega
        exact ⟨v, by simp [execOp, Instr.index, asIntOf, run_underlying hu, h1, e2, hb, run_sizeOf' hinf, hm, h6], h7⟩
      · cases h4
    · cases h
  case h_13 x i =>
    split at h
    · rename_i l hx
      split at h
      · rename_i d hd
        refine ⟨_, h, fun S a ha w => ?_⟩
        have := ha x (by simp [Op.operands, Call.operands]) 0
        rw [hx] at this
        obtain ⟨vs, h1, h2⟩ := this
        obtain ⟨v, h3, h4⟩ := Rs.get h2 hd
        exact ⟨v, by simp [execOp, Instr.extract, h1, h3], h4⟩
      · cases h
    · cases h
  case h_14 args ats =>
    split at h
    · rename_i x t he1 he2
      have e1 : args = #[x] := by rw [← Array.toArray_toList (xs := args), he1]
      have e2 : ats = #[t] := by rw [← Array.toArray_toList (xs := ats), he2]
      subst e1 e2
      split at h
      · rename_i e r xs tk hu hx
        refine ⟨_, h, fun S a ha w => ?_⟩
        have := ha x (by simp [Op.operands, Call.operands]) t
        rw [hx] at this
        obtain ⟨⟨b, c, h1, _⟩, _⟩ := this
        exact ⟨.int .i64 xs.length, by simp [execOp, resolve, invoke, builtin, Builtin.len_, run_underlying hu, h1, goInt], rfl⟩
      · rename_i e id off n hu hx
        refine ⟨_, h, fun S a ha w => ?_⟩
        have := ha x (by simp [Op.operands, Call.operands]) t
        rw [hx] at this
        rcases this with ⟨g, c, _, h1, _⟩ | ⟨g, r', m, c, _, _, h1, _⟩
        · exact ⟨.int .i64 n, by simp [execOp, resolve, invoke, builtin, Builtin.len_, run_underlying hu, h1, goInt], rfl⟩
        · exact ⟨.int .i64 n, by simp [execOp, resolve, invoke, builtin, Builtin.len_, run_underlying hu, h1, goInt], rfl⟩
      · rename_i s hu hx
        refine ⟨_, h, fun S a ha w => ?_⟩
        have := ha x (by simp [Op.operands, Call.operands]) t
        rw [hx] at this
        exact ⟨.int .i64 s.size, by simp [execOp, resolve, invoke, builtin, Builtin.len_, run_underlying hu, show a.eval x = _ from this, goInt], rfl⟩
      · cases h
    · cases h
  case h_15 args ats =>
    split at h
    · rename_i q n l he
      split at h
      · rename_i d hd
        refine ⟨_, h, fun S a ha w => ?_⟩
        have := evArgs_ok (P := E.P) args.toList ats.toList fun z hz => ha z (by simp [Op.operands, Call.operands] at hz ⊢; exact hz)
        rw [he] at this
        obtain ⟨v, rest, h1, h2, h3⟩ := this
        obtain ⟨u, h4, h5⟩ := maxD_ok (P := E.P) l _ d v rest hd h2 h3 w
        have h1' : (args.map a.eval).toList = v :: rest := by rw [Array.toList_map]; exact h1
        exact ⟨u, by simp only [execOp, resolve, invoke, builtin, Sem.run_bind, Sem.run_pure, Result.andThen_ok, Builtin.max_, h1', h4], h5⟩
      · cases h
    · cases h
  case h_16 args ats =>
    split at h
    · rename_i q n l he
      split at h
      · rename_i d hd
        refine ⟨_, h, fun S a ha w => ?_⟩
        have := evArgs_ok (P := E.P) args.toList ats.toList fun z hz => ha z (by simp [Op.operands, Call.operands] at hz ⊢; exact hz)
        rw [he] at this
        obtain ⟨v, rest, h1, h2, h3⟩ := this
        obtain ⟨u, h4, h5⟩ := minD_ok (P := E.P) l _ d v rest hd h2 h3 w
        have h1' : (args.map a.eval).toList = v :: rest := by rw [Array.toList_map]; exact h1
        exact ⟨u, by simp only [execOp, resolve, invoke, builtin, Sem.run_bind, Sem.run_pure, Result.andThen_ok, Builtin.min_, h1', h4], h5⟩
      · cases h
    · cases h
  case h_17 => cases h

end Go.Am
namespace Go.Am
open Go

def MRun (P : Program) (ro : Nat) (X : Pl) (ρ : Rn) (σ : List Ent) (w : World) (s : Sem Next) (d : D) (σ' : List Ent) : Prop :=
  ∃ v ρ' w', (s.run P w = .ok (.value v) w' ∨ (s.run P w = .ok .skip w' ∧ v = undef)) ∧ Rel X ρ' σ' w' ∧ R (sit X ρ' σ' w') d v ∧ Step ro X ρ σ w ρ' σ' w'

theorem Rel.none {X : Pl} {ρ : Rn} {σ : List Ent} {w : World} (h : Rel X ρ σ w) {i : Nat} (hi : σ.length ≤ i) : ρ i = none := by
  cases q : ρ i with
  | none => rfl
  | some g => have := (h.lt q).1; omega

theorem get_new (σ : List Ent) (e : Ent) : (σ ++ [e])[σ.length]? = some e := by simp

theorem ownL_ok {ro : Nat} {X : Pl} {ρ : Rn} {w : World} : ∀ (l : List D) (σ : List Ent) (vs : List Value), Rel X ρ σ w → ro ≤ σ.length → Rs (sit X ρ σ w) l vs →
    Rel X ρ (ownL l σ).2 w ∧ Step ro X ρ σ w ρ (ownL l σ).2 w ∧ Rs (sit X ρ (ownL l σ).2 w) (ownL l σ).1 vs ∧ ∃ new, (ownL l σ).2 = σ ++ new
  | [], σ, vs, hr, _, h => ⟨hr, Step.refl _ _ _ _ _, h, [], by simp [ownL]⟩
  | d :: l, σ, vs, hr, hro, h => by
    obtain ⟨v, rest, rfl, hd, hl⟩ := h
    by_cases q : ∃ r xs, d = .sl r xs .fresh
    · obtain ⟨r, xs, rfl⟩ := q
      have hst := step_tok hr hro (.tok r 0)
      have hr1 := rel_tok hr (.tok r 0)
      obtain ⟨h1, h2, h3, new, h4⟩ := ownL_ok (ro := ro) l (σ ++ [.tok r 0]) rest hr1 (by rw [List.length_append]; omega) (Rs.mono hst.le _ _ hl)
      simp only [ownL]
      refine ⟨h1, hst.trans h2, ⟨v, rest, rfl, ?_, h3⟩, .tok r 0 :: new, by rw [h4]; simp⟩
      obtain ⟨hs, hv⟩ := hd
      refine ⟨SlG.mono (hst.trans h2).le.rd (Row.R_mono (hst.trans h2).le.rd r) hs, ?_⟩
      have h0 : xs.length = 0 := by
        obtain ⟨b, c, e, _⟩ := hs
        rw [hv] at e
        injection e with _ e2 _
        exact e2.symm
      refine ⟨r, 0, ?_, by omega, fun _ => .inl ⟨hv, h0⟩⟩
      rw [h4]
      simp
    · have e : ownL (d :: l) σ = (d :: (ownL l σ).1, (ownL l σ).2) := by
        cases d <;> try rfl
        rename_i r xs t
        cases t <;> first | rfl | exact absurd ⟨_, _, rfl⟩ q
      obtain ⟨h1, h2, h3, new, h4⟩ := ownL_ok l σ rest hr hro hl
      rw [e]
      exact ⟨h1, h2, ⟨v, rest, rfl, R.mono h2.le d v hd, h3⟩, new, h4⟩

theorem boxD_ok {P : Program} {ro : Nat} {X : Pl} {ρ : Rn} {σ : List Ent} {w : World} (hr : Rel X ρ σ w) (hro : ro ≤ σ.length) {l : List D} {cs : Array Value} (hl : Rs (sit X ρ σ w) l cs.toList) (el : TypeId) :
    ∃ ρ', Rel X ρ' (boxD σ l).2 (w.alloc (.cells cs el)) ∧ R (sit X ρ' (boxD σ l).2 (w.alloc (.cells cs el))) (boxD σ l).1 (.pointer (some ⟨w.heap.size, 0, none⟩)) ∧ Step ro X ρ σ w ρ' (boxD σ l).2 (w.alloc (.cells cs el)) := by
  obtain ⟨h1, h2, h3, new, h4⟩ := ownL_ok (ro := ro) l σ _ hr hro hl
  have hst := step_new h1 (ro := ro) (by rw [h4]; simp; omega) (.cells cs el) (.box (ownL l σ).1)
  refine ⟨_, rel_new h1 (.cells cs el) (.box (ownL l σ).1) ⟨cs, el, heap_new _ _, Rs.mono hst.le _ _ h3⟩, ⟨w.heap.size, ⟨if_pos rfl, (ownL l σ).1, get_new _ _⟩, rfl⟩, h2.trans hst⟩

theorem rowsR_get {rd : Addr → Value → Prop} {r : Row} : ∀ {xs : List r.T} {vs : List Value} {i : Nat} {x : r.T}, RowsR rd r vs xs → xs[i]? = some x → Row.R rd r ((vs.drop (i * r.size)).take r.size) x
  | [], _, _, _, _, h => by simp at h
  | y :: xs, _, 0, x, ⟨us, rest, e, p, q⟩, h => by
    simp only [List.getElem?_cons_zero, Option.some.injEq] at h
    subst h
    have := Row.R_size r us y p
    rw [e]
    simpa [← this] using p
  | y :: xs, _, i + 1, x, ⟨us, rest, e, p, q⟩, h => by
    have := rowsR_get (i := i) q (by simpa using h)
    have hu := Row.R_size r us y p
    rw [e]
    rw [show us ++ rest = us ++ rest from rfl, Nat.add_mul, Nat.one_mul, Nat.add_comm (i * r.size), ← List.drop_drop]
    rw [show (us ++ rest).drop r.size = rest by rw [← hu]; simp]
    exact this
theorem rowsR_length {rd : Addr → Value → Prop} {r : Row} : ∀ {xs : List r.T} {vs : List Value}, RowsR rd r vs xs → vs.length = xs.length * r.size
  | [], _, q => by rw [show _ = [] from q]; simp
  | y :: xs, _, ⟨us, rest, e, p, q⟩ => by rw [e, List.length_append, Row.R_size r us y p, rowsR_length q, List.length_cons, Nat.add_mul]; omega

theorem add_add (a : Addr) (i j : Nat) : (a.add i).add j = a.add (i + j) := by
  unfold Addr.add
  by_cases h1 : i = 0 <;> by_cases h2 : j = 0 <;> simp [h1, h2, Nat.add_assoc]
theorem add_at (g o j : Nat) : (⟨g, o, none⟩ : Addr).add j = ⟨g, o + j, none⟩ := by
  unfold Addr.add
  by_cases h : j = 0 <;> simp [h]

theorem loadCells_ok {X : Pl} {ρ : Rn} {σ : List Ent} {w : World} (hr : Rel X ρ σ w) {p : D} {v : Value} (hp : R (sit X ρ σ w) p v) {n : Nat} {ls : List D} (h : loadCells σ n p = some ls) :
    ∃ ad vs, v = .pointer (some ad) ∧ Rs (sit X ρ σ w) ls vs ∧ ∀ (j : Nat) (u : Value), vs[j]? = some u → w.cell? (ad.add j) = some u := by
  unfold loadCells at h
  split at h
  · rename_i id off
    obtain ⟨g, ⟨h1, l, h2⟩, rfl⟩ := hp
    obtain ⟨e, h3, h4⟩ := hr.ent id g h1
    rw [h2] at h3 h
    cases h3
    simp only [Option.some.injEq] at h
    subst h
    obtain ⟨arr, el, h5, h6⟩ := h4
    refine ⟨_, _, rfl, Rs.take n (Rs.drop off h6), fun j u hu => ?_⟩
    rw [add_at]
    rw [List.getElem?_take] at hu
    split at hu
    · simp only [World.cell?, h5, Option.isSome_none, Bool.false_eq_true, if_false]
      simpa using hu
    · cases hu
  · rename_i id i j
    obtain ⟨g, r, m, ⟨h1, xs, h2, h2'⟩, hi, rfl⟩ := hp
    obtain ⟨e, h3, h4⟩ := hr.ent id g h1
    rw [h2] at h3 h
    cases h3
    simp only [Option.some.injEq] at h
    subst h
    obtain ⟨arr, el, h5, h6⟩ := h4
    have hx : xs[i]? = some (xs.getD i r.dflt) := by
      rw [List.getD_eq_getElem?_getD, List.getElem?_eq_getElem (by omega)]
      rfl
    have h7 := rowsR_get h6 hx
    refine ⟨_, _, rfl, Rs.take n (Rs.drop j (rowR_ds r _ _ h7)), fun k u hu => ?_⟩
    rw [add_at]
    rw [List.getElem?_take] at hu
    split at hu
    · rw [List.getElem?_drop, List.getElem?_take] at hu
      split at hu
      · simp only [World.cell?, h5, Option.isSome_none, Bool.false_eq_true, if_false]
        rw [List.getElem?_drop] at hu
        rw [Nat.add_assoc]
        simpa using hu
      · cases hu
    · cases hu
  · rename_i r x j
    obtain ⟨ad, vs, rfl, h1, h2, h3⟩ := hp
    simp only [Option.some.injEq] at h
    subst h
    refine ⟨_, _, rfl, Rs.take n (Rs.drop j (rowR_ds r _ _ h3)), fun k u hu => ?_⟩
    rw [add_add]
    rw [List.getElem?_take] at hu
    split at hu
    · rw [List.getElem?_drop] at hu
      exact (h2 _ _ hu).2.1
    · cases hu
  · cases h

theorem loadD_ok {P : Program} {X : Pl} {ρ : Rn} {σ : List Ent} {w : World} (hr : Rel X ρ σ w) {p d : D} {v : Value} (hp : R (sit X ρ σ w) p v) {t : TypeId} (h : loadD P σ t p = some d) :
    ∃ ad u, v = .pointer (some ad) ∧ (loadVar t ad).run P w = .ok u w ∧ R (sit X ρ σ w) d u := by
  unfold loadD at h
  simp only [Option.bind_eq_some_iff] at h
  obtain ⟨ls, h1, h2⟩ := h
  obtain ⟨td, hu, h3⟩ := wrapT_ok h2
  obtain ⟨ad, vs, rfl, h4, h5⟩ := loadCells_ok hr hp h1
  obtain ⟨h6, h7, h8⟩ := wrapUp_ok h3 h4
  obtain ⟨i, hi⟩ := info_of_und hu
  have hs : (sizeOf t).run P w = .ok vs.length w := by rw [run_sizeOf' hi, h6]
  refine ⟨ad, ?_⟩
  unfold loadVar
  cases q : isAggB P t with
  | true =>
    refine ⟨.agg vs.toArray, rfl, ?_, h7 q⟩
    simp only [Sem.run_bind, run_isAgg' hu, Result.andThen_ok, q, if_true, hs, run_loadCells_list w ad vs h5, Sem.run_pure]
  | false =>
    obtain ⟨u, rfl, h9⟩ := h8 q
    refine ⟨u, rfl, ?_, h9⟩
    have := h5 0 u rfl
    have h0 : ad.add 0 = ad := by simp [Addr.add]
    rw [h0] at this
    simp [run_isAgg' hu, q, this]

end Go.Am
namespace Go.Am
open Go

/-- One entry may become the other. -/
def Kind : Ent → Ent → Prop
  | .box _, .box _ => True
  | .buf r xs, .buf r' xs' => r = r' ∧ xs.length = xs'.length
  | .tok r n, .tok r' n' => r = r' ∧ n ≤ n'
  | .loop .., .loop .. => True
  | .free, .free => True
  | _, _ => False

theorem cell_other {w w' : World} {a : Addr} (h : w'.heap[a.block]? = w.heap[a.block]?) : w'.cell? a = w.cell? a := by
  unfold World.cell?
  rw [h]

theorem le_write {X : Pl} {ρ : Rn} {σ : List Ent} {w w' : World} (hr : Rel X ρ σ w) {id g : Nat} {e e' : Ent} (hid : ρ id = some g) (he : σ[id]? = some e) (hk : Kind e e')
    (hw : ∀ b, b ≠ g → w'.heap[b]? = w.heap[b]?)
    (ht : ∀ r n, e = .tok r n → ∃ arr el arr' el', w.heap[g]? = some (.cells arr el (0, 0)) ∧ w'.heap[g]? = some (.cells arr' el' (0, 0)) ∧ (∀ o, o < n * r.size → arr'[o]? = arr[o]?) ∧ ∀ n', e' = .tok r n' → n < n' ∨ arr'.size = arr.size) :
    Le (sit X ρ σ w) (sit X ρ (σ.set id e') w') := by
  have hlt := (List.getElem?_eq_some_iff.1 he).1
  have hs : ∀ i, i ≠ id → (σ.set id e')[i]? = σ[i]? := fun i q => List.getElem?_set_ne (Ne.symm q)
  have hs' : (σ.set id e')[id]? = some e' := by rw [List.getElem?_set_self hlt]
  refine ⟨fun a v ⟨h1, h2, h3, h4⟩ => ?_, fun i g' ⟨h1, l, h2⟩ => ?_, fun i g' r m ⟨h1, xs, h2, h3⟩ => ?_, fun i g' ⟨h1, f, tm, ps, as, bd, s, p, h2⟩ => ?_, fun t r n v ⟨r', m, h1, h2, h3⟩ => ?_⟩
  · refine ⟨h1, ?_, h3, fun i hi => ?_⟩
    · by_cases q : a.block = g
      · obtain ⟨r, n, h5, h6⟩ := h4 id (by rw [hid, q])
        rw [he] at h5
        cases h5
        obtain ⟨arr, el, arr', el', h7, h8, h9, _⟩ := ht r n rfl
        unfold World.cell? at h2 ⊢
        rw [q, h7] at h2
        rw [q, h8]
        simp only [h1, Option.isSome_none, Bool.false_eq_true, if_false] at h2 ⊢
        rw [h9 _ h6, h2]
      · rw [cell_other (hw _ q), h2]
    · obtain ⟨r, n, h5, h6⟩ := h4 i hi
      by_cases q : i = id
      · subst q
        rw [he] at h5
        cases h5
        cases e' <;> simp only [Kind] at hk
        obtain ⟨rfl, hk⟩ := hk
        exact ⟨r, _, hs', Nat.lt_of_lt_of_le h6 (Nat.mul_le_mul_right _ hk)⟩
      · exact ⟨r, n, by rw [hs i q]; exact h5, h6⟩
  · by_cases q : i = id
    · subst q
      rw [he] at h2
      cases h2
      cases e' <;> simp only [Kind] at hk
      exact ⟨h1, _, hs'⟩
    · exact ⟨h1, l, by rw [hs i q]; exact h2⟩
  · by_cases q : i = id
    · subst q
      rw [he] at h2
      cases h2
      cases e' <;> simp only [Kind] at hk
      obtain ⟨rfl, hk⟩ := hk
      exact ⟨h1, _, hs', by rw [← hk]; exact h3⟩
    · exact ⟨h1, xs, by rw [hs i q]; exact h2, h3⟩
  · by_cases q : i = id
    · subst q
      rw [he] at h2
      cases h2
      cases e' <;> simp only [Kind] at hk
      exact ⟨h1, _, _, _, _, _, _, _, hs'⟩
    · exact ⟨h1, f, tm, ps, as, bd, s, p, by rw [hs i q]; exact h2⟩
  · by_cases q : t = id
    · subst q
      rw [he] at h1
      cases h1
      cases e' <;> simp only [Kind] at hk
      rename_i r2 n2
      obtain ⟨rfl, hk⟩ := hk
      refine ⟨r', n2, hs', Nat.le_trans h2 hk, fun hn => ?_⟩
      obtain ⟨arr, el, arr', el', h7, h8, h9, h10⟩ := ht r' m rfl
      rcases h10 n2 rfl with q | q
      · omega
      · rcases h3 (by omega) with h4 | ⟨g', c, arr2, el2, h4, h5, h6, h11⟩
        · exact .inl h4
        · rw [hid] at h4
          cases h4
          rw [h7] at h6
          cases h6
          exact .inr ⟨g, c, arr', el', hid, h5, h8, by rw [q]; exact h11⟩
    · refine ⟨r', m, by rw [hs t q]; exact h1, h2, fun hn => ?_⟩
      rcases h3 hn with h4 | ⟨g', c, arr, el, h4, h5, h6, h7⟩
      · exact .inl h4
      · refine .inr ⟨g', c, arr, el, h4, h5, ?_, h7⟩
        rw [hw g' (fun e => q (hr.inj t id g' h4 (by rw [e]; exact hid)))]
        exact h6

theorem rel_write {X : Pl} {ρ : Rn} {σ : List Ent} {w w' : World} (hr : Rel X ρ σ w) {id g : Nat} {e e' : Ent} (hid : ρ id = some g) (he : σ[id]? = some e)
    (hw : ∀ b, b ≠ g → w'.heap[b]? = w.heap[b]?) (hsz : w'.heap.size = w.heap.size) (hle : Le (sit X ρ σ w) (sit X ρ (σ.set id e') w')) (hn : EntR (sit X ρ (σ.set id e') w') w' g e') : Rel X ρ (σ.set id e') w' where
  inj := hr.inj
  ent i g' hi := by
    by_cases q : i = id
    · subst q
      rw [hid] at hi
      cases hi
      exact ⟨e', List.getElem?_set_self (List.getElem?_eq_some_iff.1 he).1, hn⟩
    · obtain ⟨e2, h1, h2⟩ := hr.ent i g' hi
      refine ⟨e2, by rw [List.getElem?_set_ne (Ne.symm q)]; exact h1, ?_⟩
      exact (h2.mono hle).world (hw g' fun e => q (hr.inj i id g' hi (by rw [e]; exact hid)))
  top b o hb := hr.top b o (by rw [← hsz]; exact hb)
  fr := hr.fr

theorem step_write {ro : Nat} {X : Pl} {ρ : Rn} {σ : List Ent} {w w' : World} {id g : Nat} {e' : Ent} (hid : ρ id = some g) (hro : ro ≤ id)
    (hw : ∀ b, b ≠ g → w'.heap[b]? = w.heap[b]?) (hsz : w'.heap.size = w.heap.size) (h1 : w'.os = w.os) (h2 : w'.tape = w.tape) (h3 : w'.output = w.output)
    (hle : Le (sit X ρ σ w) (sit X ρ (σ.set id e') w')) : Step ro X ρ σ w ρ (σ.set id e') w' where
  os := h1
  tape := h2
  output := h3
  size := by omega
  old b _ hn := hw b fun e => hn id hro (by rw [e]; exact hid)
  img i g' hi he := .inl ⟨i, hi, he⟩
  keep i hi := ⟨rfl, List.getElem?_set_ne (by omega)⟩
  le := hle

theorem rowsR_app {rd : Addr → Value → Prop} {r : Row} : ∀ {xs ys : List r.T} {vs us : List Value}, RowsR rd r vs xs → RowsR rd r us ys → RowsR rd r (vs ++ us) (xs ++ ys)
  | [], _, _, _, q, k => by rw [show _ = [] from q]; exact k
  | x :: xs, ys, _, us', ⟨us, rest, e, p, q⟩, k => by rw [e]; exact ⟨us, rest ++ us', by simp, p, rowsR_app q k⟩
theorem rowsR_take {rd : Addr → Value → Prop} {r : Row} : ∀ {xs : List r.T} {vs : List Value} (n : Nat), RowsR rd r vs xs → RowsR rd r (vs.take (n * r.size)) (xs.take n)
  | [], _, n, q => by rw [show _ = [] from q]; simp [RowsR]
  | x :: xs, _, 0, _ => by simp [RowsR]
  | x :: xs, _, n + 1, ⟨us, rest, e, p, q⟩ => by
    refine ⟨us, rest.take (n * r.size), ?_, p, rowsR_take n q⟩
    have := Row.R_size r us x p
    rw [e, Nat.add_mul, Nat.one_mul, Nat.add_comm, ← this, List.take_length_add_append]
theorem rowsR_drop {rd : Addr → Value → Prop} {r : Row} : ∀ {xs : List r.T} {vs : List Value} (n : Nat), RowsR rd r vs xs → RowsR rd r (vs.drop (n * r.size)) (xs.drop n)
  | [], _, n, q => by rw [show _ = [] from q]; simp [RowsR]
  | x :: xs, _, 0, q => by simpa using q
  | x :: xs, _, n + 1, ⟨us, rest, e, p, q⟩ => by
    have := Row.R_size r us x p
    rw [e, Nat.add_mul, Nat.one_mul, Nat.add_comm, ← this, List.drop_length_add_append, this]
    exact rowsR_drop n q
theorem rowsR_one {rd : Addr → Value → Prop} {r : Row} {vs : List Value} {x : r.T} (h : Row.R rd r vs x) : RowsR rd r vs [x] := ⟨vs, [], by simp, h, rfl⟩

end Go.Am
namespace Go.Am
open Go

theorem Rs.one {S : Sit} : ∀ {l : List D} {vs : List Value}, Rs S l vs → l.all D.one = true → ∀ v ∈ vs, v.oneCell' = true
  | [], _, q, _, v, hv => by rw [show _ = [] from q] at hv; cases hv
  | d :: l, _, ⟨u, rest, e, p, q⟩, h, v, hv => by
    simp only [List.all_cons, Bool.and_eq_true] at h
    rw [e] at hv
    rcases List.mem_cons.1 hv with rfl | hv
    · exact R.one p h.1
    · exact Rs.one q h.2 v hv

theorem mid_list {α : Type} (L us : List α) (a j s : Nat) (h : j + us.length ≤ s) (hl : a + s ≤ L.length) :
    L.take (a + j) ++ us ++ L.drop (a + j + us.length) = L.take a ++ (((L.drop a).take s).take j ++ us ++ ((L.drop a).take s).drop (j + us.length)) ++ L.drop (a + s) := by
  have e1 : L.take (a + j) = L.take a ++ ((L.drop a).take s).take j := by
    rw [List.take_add, List.take_take, Nat.min_eq_left (by omega)]
  have e2 : L.drop (a + j + us.length) = ((L.drop a).take s).drop (j + us.length) ++ L.drop (a + s) := by
    rw [List.drop_take, List.drop_drop, show a + s = (a + (j + us.length)) + (s - (j + us.length)) by omega, ← List.drop_drop (i := s - (j + us.length)), List.take_append_drop, Nat.add_assoc]
  rw [e1, e2]
  simp only [List.append_assoc]

theorem storeD_ok {P : Program} {ro : Nat} {X : Pl} {ρ : Rn} {σ σ' : List Ent} {w : World} (hr : Rel X ρ σ w) (hro : ro ≤ σ.length) {p d : D} {vp vd : Value} (hp : R (sit X ρ σ w) p vp) (hd : R (sit X ρ σ w) d vd) {t : TypeId}
    (h : storeD P ro σ t p d = some σ') : ∃ ad w', vp = .pointer (some ad) ∧ (storeVar t ad vd).run P w = .ok () w' ∧ Rel X ρ σ' w' ∧ Step ro X ρ σ w ρ σ' w' := by
  unfold storeD at h
  split at h
  · cases h
  rename_i ls hc
  split at h
  case isFalse => cases h
  rename_i hcond
  obtain ⟨hlen, hc0, hone⟩ := hcond
  have hcs := R.cells hd hc
  have h1 := Rs.one hcs hone
  have hl := Rs.length hcs
  obtain ⟨inf, hinf⟩ := cells_info hc0
  have hstore : ∀ (ad : Addr) w', (storeCells ad vd.cells.toList).run P w = .ok () w' → (storeVar t ad vd).run P w = .ok () w' := fun ad w' q => by
    unfold storeVar
    have : vd.cells.size = P.cellsOf t := by rw [← hlen, ← hl]; simp
    simp only [Sem.run_bind, run_sizeOf' hinf, Result.andThen_ok, this, ne_eq, not_true_eq_false, if_false, Sem.run_pure]
    exact q
  split at h
  · rename_i id off
    obtain ⟨g, ⟨hid, l0, he0⟩, rfl⟩ := hp
    split at h
    case isFalse => cases h
    rename_i hroid
    split at h
    case h_2 => cases h
    rename_i l he
    rw [he] at he0
    simp only [Option.some.injEq, Ent.box.injEq] at he0
    subst he0
    split at h
    case isFalse => cases h
    rename_i hfit
    simp only [Option.some.injEq] at h
    subst h
    obtain ⟨r1, s1, hl1, new, hnew⟩ := ownL_ok (ro := ro) ls σ _ hr hro hcs
    generalize ownL ls σ = R1 at *
    obtain ⟨ls1, σ1⟩ := R1
    simp only at hnew r1 s1 hl1 ⊢
    have he1 : σ1[id]? = some (.box l) := by rw [hnew]; exact get_app he
    obtain ⟨e2, h3, h4⟩ := r1.ent id g hid
    rw [he1] at h3
    cases h3
    obtain ⟨arr, el, h5, h6⟩ := h4
    have hal : arr.size = l.length := by rw [← Rs.length h6]; simp
    have hcl : vd.cells.toList.length = ls.length := hl
    have hrun := run_storeCells_at P g off el vd.cells.toList 0 arr w h5 (by rw [hal, hcl]; omega) h1
    simp only [Nat.add_zero] at hrun
    generalize hw' : w.setRow g (arr.toList.take off ++ vd.cells.toList ++ arr.toList.drop (off + vd.cells.toList.length)).toArray = w' at hrun
    have hrow : w'.heap[g]? = some (.cells (arr.toList.take off ++ vd.cells.toList ++ arr.toList.drop (off + vd.cells.toList.length)).toArray el (0, 0)) := by rw [← hw']; exact setRow_heap w g _ _ _ _ h5
    have hoth : ∀ b, b ≠ g → w'.heap[b]? = w.heap[b]? := fun b q => by rw [← hw']; exact setRow_other w g b _ q
    have hsz : w'.heap.size = w.heap.size := by rw [← hw']; simp
    have hle := le_write (e' := .box (patch l ls1 off)) r1 hid he1 trivial hoth (fun r n q => by cases q)
    refine ⟨_, w', rfl, hstore _ _ hrun, rel_write r1 hid he1 hoth hsz hle ⟨_, el, hrow, Rs.mono hle _ _ ?_⟩, s1.trans (step_write hid hroid hoth hsz (by rw [← hw']; rfl) (by rw [← hw']; rfl) (by rw [← hw']; rfl) hle)⟩
    exact patch_ok h6 hl1 off
  · rename_i id i j
    obtain ⟨g, r0, m, ⟨hid, xs0, he0, hm⟩, hi, rfl⟩ := hp
    split at h
    case isFalse => cases h
    rename_i hroid
    split at h
    case h_2 => cases h
    rename_i r xs he
    rw [he] at he0
    simp only [Option.some.injEq, Ent.buf.injEq] at he0
    obtain ⟨rfl, he0⟩ := he0
    cases he0
    split at h
    case isFalse => cases h
    rename_i hfit
    simp only [Option.map_eq_some_iff] at h
    obtain ⟨x, hx, rfl⟩ := h
    obtain ⟨e2, h3, h4⟩ := hr.ent id g hid
    rw [he] at h3
    cases h3
    obtain ⟨arr, el, h5, h6⟩ := h4
    have hal : arr.size = xs.length * r.size := by rw [← rowsR_length h6]; simp
    have hcl : vd.cells.toList.length = ls.length := hl
    have hii : i * r.size + r.size ≤ arr.size := by
      rw [hal, ← Nat.succ_mul]
      exact Nat.mul_le_mul_right _ (by omega)
    have hrun := run_storeCells_at P g (i * r.size + j) el vd.cells.toList 0 arr w h5 (by rw [hcl]; omega) h1
    simp only [Nat.add_zero] at hrun
    generalize hw' : w.setRow g (arr.toList.take (i * r.size + j) ++ vd.cells.toList ++ arr.toList.drop (i * r.size + j + vd.cells.toList.length)).toArray = w' at hrun
    have hrow : w'.heap[g]? = some (.cells (arr.toList.take (i * r.size + j) ++ vd.cells.toList ++ arr.toList.drop (i * r.size + j + vd.cells.toList.length)).toArray el (0, 0)) := by rw [← hw']; exact setRow_heap w g _ _ _ _ h5
    have hoth : ∀ b, b ≠ g → w'.heap[b]? = w.heap[b]? := fun b q => by rw [← hw']; exact setRow_other w g b _ q
    have hsz : w'.heap.size = w.heap.size := by rw [← hw']; simp
    have hle := le_write (e' := .buf r (xs.set i x)) hr hid he ⟨rfl, by simp⟩ hoth (fun r n q => by cases q)
    refine ⟨_, w', rfl, hstore _ _ hrun, rel_write hr hid he hoth hsz hle ⟨_, el, hrow, RowsR.mono hle.rd ?_⟩, step_write hid hroid hoth hsz (by rw [← hw']; rfl) (by rw [← hw']; rfl) (by rw [← hw']; rfl) hle⟩
    have hxi : xs[i]? = some (xs.getD i r.dflt) := by
      rw [List.getD_eq_getElem?_getD, List.getElem?_eq_getElem (by omega)]
      rfl
    have hrow0 := rowR_ds r _ _ (rowsR_get h6 hxi)
    have hnew := rowR_of r _ _ x (patch_ok hrow0 hcs j) hx
    rw [mid_list arr.toList vd.cells.toList (i * r.size) j r.size (by rw [hcl]; exact hfit) (by simpa using hii), List.set_eq_take_append_cons_drop, if_pos (by omega)]
    rw [show xs.take i ++ x :: xs.drop (i + 1) = xs.take i ++ [x] ++ xs.drop (i + 1) by simp]
    refine rowsR_app (rowsR_app (rowsR_take i h6) (rowsR_one hnew)) ?_
    have := rowsR_drop (i + 1) h6
    rwa [Nat.add_mul, Nat.one_mul] at this
  · cases h

end Go.Am
namespace Go.Am
open Go

/-- The blocks told by one list are told by the other, and of the same make. -/
def Kin (σ σ2 : List Ent) : Prop := ∀ (i : Nat) (e : Ent), σ[i]? = some e → ∃ e2, σ2[i]? = some e2 ∧ Kind e e2
theorem Kind.refl (e : Ent) : Kind e e := by
  cases e <;> simp [Kind]
theorem Kin.buf {σ σ2 : List Ent} (h : Kin σ σ2) {i : Nat} {r : Row} {xs : List r.T} (he : σ[i]? = some (.buf r xs)) : ∃ ys : List r.T, σ2[i]? = some (.buf r ys) ∧ ys.length = xs.length := by
  obtain ⟨e2, h1, h2⟩ := h i _ he
  cases e2 <;> simp only [Kind] at h2
  obtain ⟨rfl, h2⟩ := h2
  exact ⟨_, h1, h2.symm⟩
theorem Kin.box {σ σ2 : List Ent} (h : Kin σ σ2) {i : Nat} {l : List D} (he : σ[i]? = some (.box l)) : ∃ l2, σ2[i]? = some (.box l2) := by
  obtain ⟨e2, h1, h2⟩ := h i _ he
  cases e2 <;> simp only [Kind] at h2
  exact ⟨_, h1⟩

theorem Kin.refl (σ : List Ent) : Kin σ σ := fun _ e he => ⟨e, he, Kind.refl e⟩

/-- What lies below `ro` stays; nothing changes its make. -/
def Pre (ro : Nat) (σ σ' : List Ent) : Prop := (∀ j, j < ro → σ'[j]? = σ[j]?) ∧ Kin σ σ'
theorem Kind.trans {a b c : Ent} (h : Kind a b) (k : Kind b c) : Kind a c := by
  cases a <;> cases b <;> simp only [Kind] at h <;> cases c <;> simp only [Kind] at k ⊢
  · exact ⟨h.1.trans k.1, h.2.trans k.2⟩
  · exact ⟨h.1.trans k.1, Nat.le_trans h.2 k.2⟩
theorem Kin.trans {a b c : List Ent} (h : Kin a b) (k : Kin b c) : Kin a c := fun i e he => by
  obtain ⟨e2, h1, h2⟩ := h i e he
  obtain ⟨e3, h3, h4⟩ := k i e2 h1
  exact ⟨e3, h3, h2.trans h4⟩
theorem Pre.refl (ro : Nat) (σ : List Ent) : Pre ro σ σ := ⟨fun _ _ => rfl, Kin.refl σ⟩
theorem Pre.trans {ro : Nat} {a b c : List Ent} (h : Pre ro a b) (k : Pre ro b c) : Pre ro a c := ⟨fun j hj => (k.1 j hj).trans (h.1 j hj), h.2.trans k.2⟩
theorem Pre.app {ro : Nat} {σ : List Ent} (hro : ro ≤ σ.length) (new : List Ent) : Pre ro σ (σ ++ new) :=
  ⟨fun j hj => List.getElem?_append_left (by omega), fun i e he => ⟨e, get_app he, Kind.refl e⟩⟩
theorem Pre.set {ro : Nat} {σ : List Ent} {i : Nat} {e e' : Ent} (hro : ro ≤ i) (he : σ[i]? = some e) (hk : Kind e e') : Pre ro σ (σ.set i e') :=
  ⟨fun j hj => List.getElem?_set_ne (by omega), fun j e2 h2 => by
    by_cases q : i = j
    · subst q
      rw [he] at h2
      cases h2
      exact ⟨e', List.getElem?_set_self (List.getElem?_eq_some_iff.1 he).1, hk⟩
    · exact ⟨e2, by rw [List.getElem?_set_ne q]; exact h2, Kind.refl e2⟩⟩
theorem Kin.length {σ σ' : List Ent} (h : Kin σ σ') : σ.length ≤ σ'.length := by
  cases q : σ.length with
  | zero => omega
  | succ n =>
    obtain ⟨e2, h1, _⟩ := h n _ (List.getElem?_eq_getElem (by omega))
    exact (List.getElem?_eq_some_iff.1 h1).1
theorem Pre.take {ro n : Nat} {σ σ' : List Ent} (h : Pre ro σ σ') (hn : σ.length ≤ n) (hro : ro ≤ σ.length) : Pre ro σ (σ'.take n) :=
  ⟨fun j hj => by rw [List.getElem?_take, if_pos (by omega)]; exact h.1 j hj, fun i e he => by
    obtain ⟨e2, h1, h2⟩ := h.2 i e he
    have := (List.getElem?_eq_some_iff.1 he).1
    exact ⟨e2, by rw [List.getElem?_take, if_pos (by omega)]; exact h1, h2⟩⟩
theorem Pre.less {ro ro' : Nat} {σ σ' : List Ent} (h : Pre ro σ σ') (hr : ro' ≤ ro) : Pre ro' σ σ' := ⟨fun j hj => h.1 j (by omega), h.2⟩

theorem run_indexAt_sl {P : Program} {t e : TypeId} (hu : P.underlying t = some (.slice e)) (hc : P.cellsOf e ≠ 0) {ad : Addr} {n c : Nat} {k : IntKind} {i : Int} (h : 0 ≤ i ∧ i < (n : Int)) (w : World) :
    (Instr.indexAt t (.slice (some ad) n c) (.int k i)).run P w = .ok (.pointer (some (ad.add (i.toNat * P.cellsOf e)))) w := by
  obtain ⟨inf, hinf⟩ := cells_info hc
  simp [Instr.indexAt, asIntOf, run_underlying hu, h, run_sizeOf' hinf]
theorem run_indexAt_arr {P : Program} {t e : TypeId} {n : Nat} (hu : P.underlying t = some (.array n e)) (hc : P.cellsOf e ≠ 0) {ad : Addr} {k : IntKind} {i : Int} (h : 0 ≤ i ∧ i < (n : Int)) (w : World) :
    (Instr.indexAt t (.pointer (some ad)) (.int k i)).run P w = .ok (.pointer (some (ad.add (i.toNat * P.cellsOf e)))) w := by
  obtain ⟨inf, hinf⟩ := cells_info hc
  simp [Instr.indexAt, asIntOf, run_underlying hu, Instr.sureAddr, h, run_sizeOf' hinf]

theorem indexD_ok {P : Program} {σ : List Ent} {t : TypeId} {x ix : D} {go : D → Option Res} {r : Res} (h : indexD P σ t x ix go = some r) :
    ∃ d, go d = some r ∧ ∀ X ρ σ2 w0 vx vix, Kin σ σ2 → R (sit X ρ σ2 w0) x vx → R (sit X ρ σ2 w0) ix vix → ∃ v, R (sit X ρ σ2 w0) d v ∧ ∀ w, (Instr.indexAt t vx vix).run P w = .ok v w := by
  unfold indexD at h
  split at h
  · rename_i k i e hu
    split at h
    · rename_i rr xs tk
      split at h
      case isFalse => cases h
      rename_i hs
      cases hb : (decide (0 ≤ i) && decide (i < (xs.length : Int))) with
      | false => rw [hb] at h; cases h
      | true =>
        rw [hb] at h
        simp only [Bool.and_eq_true, decide_eq_true_eq] at hb
        refine ⟨_, h, fun X ρ σ2 w0 vx vix _ hx hix => ?_⟩
        obtain ⟨⟨a, c, rfl, hle, hall⟩, _⟩ := hx
        have hxi : xs[i.toNat]? = some (xs.getD i.toNat rr.dflt) := by
          rw [List.getD_eq_getElem?_getD, List.getElem?_eq_getElem (by omega)]
          rfl
        obtain ⟨ad, vs, rfl, h1, h2, h3⟩ := hall _ _ hxi
        rw [show vix = _ from hix]
        refine ⟨_, ⟨ad.add (i.toNat * rr.size), vs, by rw [add_add, Nat.add_zero], h1, fun j u hj => ?_, h3⟩, fun w => ?_⟩
        · rw [add_add]
          exact h2 j u hj
        · rw [hs]
          exact run_indexAt_sl hu (by rw [← hs]; exact Nat.pos_iff_ne_zero.1 rr.size_pos) hb w
    · rename_i id off len
      split at h
      · rename_i rr xs he
        split at h
        case isFalse => cases h
        rename_i hs
        cases hb : (decide (0 ≤ i) && decide (i < (len : Int))) with
        | false => rw [hb] at h; cases h
        | true =>
          rw [hb] at h
          simp only [Bool.and_eq_true, decide_eq_true_eq] at hb
          refine ⟨_, h, fun X ρ σ2 w0 vx vix hk hx hix => ?_⟩
          obtain ⟨ys, hy, hyl⟩ := hk.buf he
          rw [show vix = _ from hix]
          rcases hx with ⟨g, c, ⟨_, l, h1⟩, _⟩ | ⟨g, r2, m, c, ⟨h1, zs, h2, h3⟩, h4, rfl, _⟩
          · rw [hy] at h1; cases h1
          · rw [hy] at h2
            simp only [Option.some.injEq, Ent.buf.injEq] at h2
            obtain ⟨rfl, h2⟩ := h2
            cases h2
            refine ⟨_, ⟨g, rr, m, ⟨h1, ys, hy, h3⟩, by omega, rfl⟩, fun w => ?_⟩
            rw [run_indexAt_sl hu (by rw [← hs]; exact Nat.pos_iff_ne_zero.1 rr.size_pos) hb w, add_at, ← hs, Nat.add_mul, Nat.add_zero]
      · rename_i l he
        split at h
        · cases h
        · rename_i hc
          obtain ⟨m, h1, h2, h3, h4⟩ := enumIdx_ok _ _ h
          refine ⟨_, h4, fun X ρ σ2 w0 vx vix hk hx hix => ?_⟩
          obtain ⟨l2, hl2⟩ := hk.box he
          rw [show vix = _ from hix]
          rcases hx with ⟨g, c, hp, rfl, _⟩ | ⟨g, r2, m, c, ⟨_, zs, h5, _⟩, _⟩
          · refine ⟨_, ⟨g, hp, rfl⟩, fun w => ?_⟩
            rw [run_indexAt_sl hu hc (by omega) w, add_at]
            simp [h3]
          · rw [hl2] at h5; cases h5
      · cases h
    · cases h
  · rename_i k i n e hu
    split at h
    · rename_i id off
      split at h
      · cases h
      · rename_i hc
        obtain ⟨m, h1, h2, h3, h4⟩ := enumIdx_ok _ _ h
        refine ⟨_, h4, fun X ρ σ2 w0 vx vix hk hx hix => ?_⟩
        rw [show vix = _ from hix]
        obtain ⟨g, hp, rfl⟩ := hx
        refine ⟨_, ⟨g, hp, rfl⟩, fun w => ?_⟩
        rw [run_indexAt_arr hu hc (by omega) w, add_at]
        simp [h3]
    · rename_i rr y o
      split at h
      · cases h
      · rename_i hc
        obtain ⟨m, h1, h2, h3, h4⟩ := enumIdx_ok _ _ h
        refine ⟨_, h4, fun X ρ σ2 w0 vx vix hk hx hix => ?_⟩
        rw [show vix = _ from hix]
        obtain ⟨ad, vs, rfl, h5⟩ := hx
        refine ⟨_, ⟨ad, vs, rfl, h5⟩, fun w => ?_⟩
        rw [run_indexAt_arr hu hc (by omega) w, add_add]
        simp [h3]
    · rename_i id b o
      split at h
      · cases h
      · rename_i hc
        obtain ⟨m, h1, h2, h3, h4⟩ := enumIdx_ok _ _ h
        refine ⟨_, h4, fun X ρ σ2 w0 vx vix hk hx hix => ?_⟩
        rw [show vix = _ from hix]
        obtain ⟨g, r2, m2, hp, hi, rfl⟩ := hx
        refine ⟨_, ⟨g, r2, m2, hp, hi, rfl⟩, fun w => ?_⟩
        rw [run_indexAt_arr hu hc (by omega) w, add_at]
        simp [h3, Nat.add_assoc]
    · cases h
  · cases h

theorem sliceBounds_ok {P : Program} {n c : Nat} {lo hi : Option Value} {l h : Int} {k1 k2 : IntKind} (hlo : lo = some (.int k1 l) ∨ lo = none ∧ l = 0) (hhi : hi = some (.int k2 h) ∨ hi = none ∧ h = n) (h0 : 0 ≤ l) (h1 : l ≤ h) (h2 : h ≤ (n : Int)) (hc : n ≤ c) (w : World) :
    (Instr.sliceBounds true n c lo hi none).run P w = .ok (l.toNat, h.toNat, c) w := by
  rcases hlo with rfl | ⟨rfl, rfl⟩ <;> rcases hhi with rfl | ⟨rfl, rfl⟩
  · have q1 : 0 ≤ h ∧ h ≤ (c : Int) := by omega
    have q2 : 0 ≤ l ∧ l ≤ ((h.toNat : Nat) : Int) := by omega
    simp [Instr.sliceBounds, Instr.sliceBound, asIntOf, q1, q2]
    intro q
    omega
  · have q2 : 0 ≤ l ∧ l ≤ (n : Int) := by omega
    simp [Instr.sliceBounds, Instr.sliceBound, asIntOf, q2]
  · have q1 : 0 ≤ h ∧ h ≤ (c : Int) := by omega
    simp [Instr.sliceBounds, Instr.sliceBound, asIntOf, q1]
  · simp [Instr.sliceBounds]

theorem run_slice {P : Program} {t e : TypeId} (hu : P.underlying t = some (.slice e)) (hc : P.cellsOf e ≠ 0) {a : Option Addr} {n c : Nat} (hle : n ≤ c) {lo hi : Option Value} {l h : Int} {k1 k2 : IntKind} (hlo : lo = some (.int k1 l) ∨ lo = none ∧ l = 0) (hhi : hi = some (.int k2 h) ∨ hi = none ∧ h = n) (h0 : 0 ≤ l) (h1 : l ≤ h) (h2 : h ≤ (n : Int)) (w : World) :
    (Instr.sliceAt t (.slice a n c) lo hi none).run P w = .ok (.slice (if c = l.toNat then a else a.map (·.add (l.toNat * P.cellsOf e))) (h.toNat - l.toNat) (c - l.toNat)) w := by
  obtain ⟨inf, hinf⟩ := cells_info hc
  simp [Instr.sliceAt, Instr.slice, run_underlying hu, sliceBounds_ok (P := P) hlo hhi h0 h1 h2 hle w, run_sizeOf' hinf]

theorem slG_part {α : Type} {rd : Addr → Value → Prop} {s : Nat} {Q : List Value → α → Prop} {a : Option Addr} {n c : Nat} {xs : List α} (h : SlG rd s Q (.slice a n c) xs) {l m : Nat} (h1 : l ≤ m) (h2 : m ≤ xs.length) :
    SlG rd s Q (.slice (if c = l then a else a.map (·.add (l * s))) (m - l) (c - l)) ((xs.take m).drop l) := by
  obtain ⟨b, c', e, hle, hall⟩ := h
  injection e with e1 e2 e3
  subst e1 e2 e3
  refine ⟨if c = l then a else a.map (·.add (l * s)), c - l, ?_, ?_, fun i x hx => ?_⟩
  · rw [show ((xs.take m).drop l).length = m - l by simp; omega]
  · simp
    omega
  · rw [List.getElem?_drop, List.getElem?_take] at hx
    split at hx
    · obtain ⟨ad, vs, rfl, h3, h4, h5⟩ := hall _ _ hx
      refine ⟨ad.add (l * s), vs, ?_, h3, fun j u hj => ?_, h5⟩
      · rw [if_neg (by omega)]
        rfl
      · rw [add_add]
        have := h4 j u hj
        rwa [Nat.add_mul, Nat.add_assoc] at this
    · cases hx

theorem sliceD_ok {P : Program} {t : TypeId} {x : D} {lo hi : Option D} {go : D → Option Res} {r : Res} (h : sliceD P t x lo hi go = some r) :
    ∃ d, go d = some r ∧ ∀ S vx vlo vhi, R S x vx → (∀ d, lo = some d → ∃ v, vlo = some v ∧ R S d v) → (lo = none → vlo = none) → (∀ d, hi = some d → ∃ v, vhi = some v ∧ R S d v) → (hi = none → vhi = none) →
      ∃ v, R S d v ∧ ∀ w, (Instr.sliceAt t vx vlo vhi none).run P w = .ok v w := by
  unfold sliceD at h
  split at h
  case h_2 => cases h
  rename_i e hu
  have key : ∀ (rr : Row) (xs : List rr.T) (tk : Tok) (S : Sit) (vx : Value), rr.size = P.cellsOf e → R S (.sl rr xs tk) vx → ∀ (l m : Nat) (vlo vhi : Option Value) (li hi : Int) (k1 k2 : IntKind),
      (vlo = some (.int k1 li) ∨ vlo = none ∧ li = 0) → (vhi = some (.int k2 hi) ∨ vhi = none ∧ hi = xs.length) → li = (l : Int) → hi = (m : Int) → l ≤ m → m ≤ xs.length →
      ∃ v, R S (.sl rr ((xs.take m).drop l) .no) v ∧ ∀ w, (Instr.sliceAt t vx vlo vhi none).run P w = .ok v w := by
    intro rr xs tk S vx hs hx l m vlo vhi li hi k1 k2 h1 h2 h3 h4 h5 h6
    obtain ⟨⟨a, c, rfl, hle, hall⟩, _⟩ := hx
    have hp := slG_part (xs := xs) (l := l) (m := m) ⟨a, c, rfl, hle, hall⟩ h5 h6
    refine ⟨_, ⟨hp, trivial⟩, fun w => ?_⟩
    have := run_slice (P := P) (e := e) hu (by rw [← hs]; exact Nat.pos_iff_ne_zero.1 rr.size_pos) (a := a) hle h1 h2 (by omega) (by omega) (by omega) w
    rw [this, ← hs]
    congr 2
    · simp [h3]
    · omega
    · omega
  split at h
  · rename_i rr xs tk k hv
    split at h
    case isFalse => cases h
    rename_i hs
    cases hb : (decide (0 ≤ hv) && decide (hv ≤ (xs.length : Int))) with
    | false => rw [hb] at h; cases h
    | true =>
      rw [hb] at h
      simp only [Bool.and_eq_true, decide_eq_true_eq] at hb
      refine ⟨_, h, fun S vx vlo vhi hx _ h2 h3 _ => ?_⟩
      obtain ⟨v, e1, e2⟩ := h3 _ rfl
      have := key rr xs tk S vx hs hx 0 hv.toNat vlo vhi 0 hv .i64 k (.inr ⟨h2 rfl, rfl⟩) (.inl (by rw [e1, show v = _ from e2])) rfl (by omega) (by omega) (by omega)
      simpa using this
  · rename_i rr xs tk k lv
    split at h
    case isFalse => cases h
    rename_i hs
    cases hb : (decide (0 ≤ lv) && decide (lv ≤ (xs.length : Int))) with
    | false => rw [hb] at h; cases h
    | true =>
      rw [hb] at h
      simp only [Bool.and_eq_true, decide_eq_true_eq] at hb
      refine ⟨_, h, fun S vx vlo vhi hx h1 _ _ h4 => ?_⟩
      obtain ⟨v, e1, e2⟩ := h1 _ rfl
      have := key rr xs tk S vx hs hx lv.toNat xs.length vlo vhi lv xs.length k .i64 (.inl (by rw [e1, show v = _ from e2])) (.inr ⟨h4 rfl, rfl⟩) (by omega) rfl (by omega) (by omega)
      simpa using this
  · rename_i rr xs tk k lv k2 hv
    split at h
    case isFalse => cases h
    rename_i hs
    cases hb : (decide (0 ≤ lv) && decide (lv ≤ hv) && decide (hv ≤ (xs.length : Int))) with
    | false => rw [hb] at h; cases h
    | true =>
      rw [hb] at h
      simp only [Bool.and_eq_true, decide_eq_true_eq] at hb
      refine ⟨_, h, fun S vx vlo vhi hx h1 _ h3 _ => ?_⟩
      obtain ⟨v, e1, e2⟩ := h1 _ rfl
      obtain ⟨v', e3, e4⟩ := h3 _ rfl
      exact key rr xs tk S vx hs hx lv.toNat hv.toNat vlo vhi lv hv k k2 (.inl (by rw [e1, show v = _ from e2])) (.inl (by rw [e3, show v' = _ from e4])) (by omega) (by omega) (by omega) (by omega)
  · cases h

end Go.Am
namespace Go.Am
open Go

theorem ctR_one {rd : Addr → Value → Prop} : ∀ (c : CT) (v : Value) (x : c.T), CT.R rd c v x → v.oneCell' = true
  | .int _, _, _, q => by rw [show _ = _ from q]; rfl
  | .bool, _, _, q => by rw [show _ = _ from q]; rfl
  | .str, _, _, q => by rw [show _ = _ from q]; rfl
  | .sl _, _, _, ⟨_, _, e, _⟩ => by rw [e]; rfl
theorem rowR_one {rd : Addr → Value → Prop} : ∀ (r : Row) (vs : List Value) (x : r.T), Row.R rd r vs x → ∀ v ∈ vs, v.oneCell' = true
  | .one c, _, x, ⟨v, e, q⟩, u, hu => by
    rw [e] at hu
    rcases List.mem_singleton.1 hu with rfl
    exact ctR_one c _ x q
  | .cons c r, _, x, ⟨v, rest, e, q, p⟩, u, hu => by
    rw [e] at hu
    rcases List.mem_cons.1 hu with rfl | hu
    · exact ctR_one c _ _ q
    · exact rowR_one r rest _ p u hu
theorem rowsR_all {rd : Addr → Value → Prop} {r : Row} : ∀ {xs : List r.T} {vs : List Value}, RowsR rd r vs xs → ∀ v ∈ vs, v.oneCell' = true
  | [], _, q, v, hv => by rw [show _ = [] from q] at hv; cases hv
  | x :: xs, _, ⟨us, rest, e, p, q⟩, v, hv => by
    rw [e] at hv
    rcases List.mem_append.1 hv with hv | hv
    · exact rowR_one r us x p v hv
    · exact rowsR_all q v hv

/-- A slice that reads as a list, by its cells. -/
theorem slG_cells {rd : Addr → Value → Prop} {r : Row} {a : Option Addr} {n c : Nat} {xs : List r.T} (h : SlG rd r.size (Row.R rd r) (.slice a n c) xs) :
    n = xs.length ∧ n ≤ c ∧ ∃ cs, RowsR rd r cs xs ∧ (0 < n → ∃ ad, a = some ad ∧ ∀ (j : Nat) (u : Value), cs[j]? = some u → rd (ad.add j) u) := by
  obtain ⟨b, c', e, hle, hall⟩ := h
  injection e with e1 e2 e3
  subst e1 e3
  refine ⟨e2, by omega, ?_⟩
  by_cases h0 : xs.length = 0
  · rw [List.length_eq_zero_iff.1 h0]
    exact ⟨[], rfl, fun q => by omega⟩
  · obtain ⟨ad, _, rfl, _⟩ := hall 0 _ (List.getElem?_eq_getElem (by omega))
    have key : ∀ (ys : List r.T) (i : Nat), xs.drop i = ys → ∃ cs, RowsR rd r cs ys ∧ ∀ (j : Nat) (u : Value), cs[j]? = some u → rd (ad.add (i * r.size + j)) u := by
      intro ys
      induction ys with
      | nil => exact fun i _ => ⟨[], rfl, fun j u hj => by simp at hj⟩
      | cons y ys ih =>
        intro i hi
        have hx : xs[i]? = some y := by rw [← List.head?_drop, hi]; rfl
        obtain ⟨ad', vs, e3, h1, h2, h3⟩ := hall i y hx
        cases e3
        obtain ⟨cs, h4, h5⟩ := ih (i + 1) (by rw [← List.drop_drop, hi]; rfl)
        refine ⟨vs ++ cs, ⟨vs, cs, rfl, h3, h4⟩, fun j u hj => ?_⟩
        by_cases q : j < vs.length
        · rw [List.getElem?_append_left q] at hj
          exact h2 j u hj
        · rw [List.getElem?_append_right (by omega)] at hj
          have := h5 _ u hj
          rwa [Nat.add_mul, Nat.one_mul, Nat.add_assoc, show r.size + (j - vs.length) = j by omega] at this
    obtain ⟨cs, h1, h2⟩ := key xs 0 rfl
    exact ⟨cs, h1, fun _ => ⟨ad, rfl, fun j u hj => by simpa using h2 j u hj⟩⟩
theorem slG_mk {rd : Addr → Value → Prop} {r : Row} {ad : Addr} {c : Nat} {xs : List r.T} {cs : List Value} (h : RowsR rd r cs xs) (hc : xs.length ≤ c) (hr : ∀ (j : Nat) (u : Value), cs[j]? = some u → rd (ad.add j) u) :
    SlG rd r.size (Row.R rd r) (.slice (some ad) xs.length c) xs := by
  refine ⟨_, _, rfl, hc, fun i x hx => ⟨ad, _, rfl, ?_, fun j u hj => ?_, rowsR_get h hx⟩⟩
  · exact Row.R_size r _ x (rowsR_get h hx)
  · rw [List.getElem?_take] at hj
    split at hj
    · rw [List.getElem?_drop] at hj
      exact hr _ u hj
    · cases hj
theorem slG_nil {α : Type} {rd : Addr → Value → Prop} {s : Nat} {Q : List Value → α → Prop} {a : Option Addr} {c : Nat} : SlG rd s Q (.slice a 0 c) ([] : List α) :=
  ⟨a, c, rfl, Nat.zero_le _, fun i x hx => by simp at hx⟩

/-- A token's row moves to a new block. -/
theorem le_move {X : Pl} {ρ : Rn} {σ : List Ent} {w w' : World} (hr : Rel X ρ σ w) {t : Nat} {r : Row} {n n' : Nat} (he : σ[t]? = some (.tok r n)) (hn : n < n')
    (hw : ∀ b, b < w.heap.size → w'.heap[b]? = w.heap[b]?) : Le (sit X ρ σ w) (sit X (ρ.put t (some w.heap.size)) (σ.set t (.tok r n')) w') := by
  have hlt := (List.getElem?_eq_some_iff.1 he).1
  have hs : ∀ i, i ≠ t → (σ.set t (.tok r n'))[i]? = σ[i]? := fun i q => List.getElem?_set_ne (Ne.symm q)
  have hs' : (σ.set t (.tok r n'))[t]? = some (.tok r n') := by rw [List.getElem?_set_self hlt]
  have hp : ∀ i, i ≠ t → (ρ.put t (some w.heap.size)) i = ρ i := fun i q => if_neg q
  have hc : ∀ (a : Addr) v, w.cell? a = some v → a.block < w.heap.size ∧ w'.cell? a = some v := fun a v h => by
    have hb : a.block < w.heap.size := by
      unfold World.cell? at h
      split at h
      · rename_i hx; exact (Array.getElem?_eq_some_iff.1 hx).1
      · cases h
    exact ⟨hb, by rw [cell_other (hw _ hb)]; exact h⟩
  refine ⟨fun a v ⟨h1, h2, h3, h4⟩ => ⟨h1, (hc a v h2).2, h3, fun i hi => ?_⟩, fun i g' ⟨h1, l, h2⟩ => ?_, fun i g' r m ⟨h1, xs, h2, h3⟩ => ?_, fun i g' ⟨h1, f, tm, ps, as, bd, s, p, h2⟩ => ?_, fun t' r2 n2 v ⟨r', m, h1, h2, h3⟩ => ?_⟩
  · by_cases q : i = t
    · subst q
      rw [show (ρ.put i (some w.heap.size)) i = some w.heap.size from if_pos rfl] at hi
      have := (hc a v h2).1
      injection hi with hi
      omega
    · rw [hp i q] at hi
      obtain ⟨r, n, h5, h6⟩ := h4 i hi
      exact ⟨r, n, by rw [hs i q]; exact h5, h6⟩
  · by_cases q : i = t
    · subst q; rw [he] at h2; cases h2
    · exact ⟨by rw [hp i q]; exact h1, l, by rw [hs i q]; exact h2⟩
  · by_cases q : i = t
    · subst q; rw [he] at h2; cases h2
    · exact ⟨by rw [hp i q]; exact h1, xs, by rw [hs i q]; exact h2, h3⟩
  · by_cases q : i = t
    · subst q; rw [he] at h2; cases h2
    · exact ⟨by rw [hp i q]; exact h1, f, tm, ps, as, bd, s, p, by rw [hs i q]; exact h2⟩
  · by_cases q : t' = t
    · subst q
      rw [he] at h1
      cases h1
      exact ⟨r, n', hs', by omega, fun e => by omega⟩
    · refine ⟨r', m, by rw [hs t' q]; exact h1, h2, fun hn => ?_⟩
      rcases h3 hn with h4 | ⟨g, c, arr, el, a, b, d, f⟩
      · exact .inl h4
      · exact .inr ⟨g, c, arr, el, by rw [hp t' q]; exact a, b, by rw [hw _ (hr.lt a).2]; exact d, f⟩

theorem move_ok {ro : Nat} {X : Pl} {ρ : Rn} {σ : List Ent} {w : World} (hr : Rel X ρ σ w) {t : Nat} (hro : ro ≤ t) {r : Row} {n n' : Nat} (he : σ[t]? = some (.tok r n)) (hn : n < n') (arr : Array Value) (el : TypeId) (ha : n' * r.size ≤ arr.size) :
    Rel X (ρ.put t (some w.heap.size)) (σ.set t (.tok r n')) (w.drew.alloc (.cells arr el)) ∧ Step ro X ρ σ w (ρ.put t (some w.heap.size)) (σ.set t (.tok r n')) (w.drew.alloc (.cells arr el)) := by
  have hw : ∀ b, b < w.heap.size → (w.drew.alloc (.cells arr el)).heap[b]? = w.heap[b]? := fun b hb => RowKit.Below.heap_alloc w.drew _ _ hb
  have hle := le_move (w' := w.drew.alloc (.cells arr el)) hr he hn hw
  have hlt := (List.getElem?_eq_some_iff.1 he).1
  refine ⟨⟨fun i j g hi hj => ?_, fun i g hi => ?_, fun b o hb => hr.top b o (by rw [World.size_alloc, World.size_drew] at hb; omega), fun i g hi o => ?_⟩, ⟨rfl, rfl, rfl, by rw [World.size_alloc, World.size_drew]; omega, fun b hb _ => hw b hb, fun i g hi hg => ?_, fun i hi => ⟨if_neg (by omega), List.getElem?_set_ne (by omega)⟩, hle⟩⟩
  · unfold Rn.put at hi hj
    split at hi <;> split at hj
    · omega
    · injection hi with hi
      have := (hr.lt hj).2
      omega
    · injection hj with hj
      have := (hr.lt hi).2
      omega
    · exact hr.inj i j g hi hj
  · by_cases q : i = t
    · subst q
      rw [show (ρ.put i (some w.heap.size)) i = some w.heap.size from if_pos rfl] at hi
      injection hi with hi
      subst hi
      exact ⟨_, List.getElem?_set_self hlt, arr, el, heap_new w.drew _, ha⟩
    · rw [show (ρ.put t (some w.heap.size)) i = ρ i from if_neg q] at hi
      obtain ⟨e, h1, h2⟩ := hr.ent i g hi
      exact ⟨e, by rw [List.getElem?_set_ne (Ne.symm q)]; exact h1, (h2.mono hle).world (hw g (hr.lt hi).2)⟩
  · unfold Rn.put at hi
    split at hi
    · injection hi with hi
      exact hr.top g o (by omega)
    · exact hr.fr i g hi o
  · by_cases q : i = t
    · subst q
      rw [show (ρ.put i (some w.heap.size)) i = some w.heap.size from if_pos rfl] at hg
      injection hg with hg
      exact .inr (by omega)
    · rw [show (ρ.put t (some w.heap.size)) i = ρ i from if_neg q] at hg
      exact .inl ⟨i, hi, hg⟩

theorem room_ok {n b : Nat} (h : room n b = true) : n ≤ 140737488355328 ∧ n * b ≤ 140737488355328 := by
  have := of_decide_eq_true h
  rw [Nat.mul_add, Nat.mul_one] at this
  have h2 : n * b ≤ n * b + n := Nat.le_add_right _ _
  omega

theorem set_same {σ : List Ent} {t : Nat} {e : Ent} (h : σ[t]? = some e) : σ.set t e = σ := by
  apply List.ext_getElem?
  intro i
  rw [List.getElem?_set]
  split
  · rename_i q
    subst q
    rw [if_pos (List.getElem?_eq_some_iff.1 h).1, h]
  · rfl

theorem run_append_room' {P : Program} (w : World) (t ty e el : TypeId) (i : TypeInfo) (ht : P.underlying t = some (.slice e)) (hi : P.info? e = some i)
    (g sLen sCap : Nat) (cur : Array Value) (hg : w.heap[g]? = some (.cells cur el (0, 0)))
    (a : Addr) (m c : Nat) (news : List Value) (hl : news.length = m * i.size) (hnews : ∀ (j : Nat) u, news[j]? = some u → w.cell? (a.add j) = some u) (h1 : ∀ u ∈ news, u.oneCell' = true)
    (hroom : sLen + m ≤ sCap) (hfit : sLen * i.size + news.length ≤ cur.size) :
    (Builtin.append_ #[t, t] ty #[.slice (some ⟨g, 0, none⟩) sLen sCap, .slice (some a) m c]).run P w =
      .ok (.slice (some ⟨g, 0, none⟩) (sLen + m) sCap) (w.setRow g (cur.toList.take (sLen * i.size) ++ news ++ cur.toList.drop (sLen * i.size + news.length)).toArray) := by
  have hf := run_firstCells_some (P := P) w i.size m a m c news hl hnews
  have hst := run_storeCells_at P g (sLen * i.size) el news 0 cur w hg (by simpa using hfit) h1
  simp only [Nat.add_zero] at hst
  simp [Builtin.append_, run_underlying ht, sizeOf, typeInfo, hi, Builtin.lenOf, hroom, hf, Addr.add_lit, hst]

theorem zeroCells_size {P : Program} {e : TypeId} {z : List D} (h : zeroCells P e = some z) : ∃ i zv, P.info? e = some i ∧ i.zero = some zv ∧ zv.cells.size = z.length ∧ (∀ S, Rs S z zv.cells.toList) ∧ i.size = P.cellsOf e ∧ i.bytes = P.bytesOf e := by
  obtain ⟨i, zv, h1, h2, h3⟩ := zero_ok h
  refine ⟨i, zv, h1, h2, ?_, h3, by simp [Program.cellsOf, h1], by simp [Program.bytesOf, h1]⟩
  have := Rs.length (h3 ⟨fun _ _ => True, fun _ _ => True, fun _ _ _ _ => True, fun _ _ => True, fun _ _ _ _ => True⟩)
  simpa using this

set_option maxHeartbeats 1000000 in
theorem append_own {P : Program} {ro : Nat} {X : Pl} {ρ : Rn} {σ : List Ent} {w : World} (hr : Rel X ρ σ w) {t : Nat} (hro : ro ≤ t) {r : Row} {xs ys : List r.T} {n0 : Nat} (he : σ[t]? = some (.tok r n0)) (hn0 : n0 = xs.length)
    {vs vx : Value} (hx : R (sit X ρ σ w) (.sl r xs (.own t)) vs) {tk : Tok} (hy : R (sit X ρ σ w) (.sl r ys tk) vx) {ty e stt : TypeId} (hu : P.underlying stt = some (.slice e)) {z : List D} (hz : zeroCells P e = some z) (hzl : z.length = r.size) (hs : r.size = P.cellsOf e)
    (hroom : room (xs ++ ys).length (P.bytesOf e) = true) :
    ∃ v ρ' w', (Builtin.append_ #[stt, stt] ty #[vs, vx]).run P w = .ok v w' ∧ Rel X ρ' (σ.set t (.tok r (xs ++ ys).length)) w' ∧ R (sit X ρ' (σ.set t (.tok r (xs ++ ys).length)) w') (.sl r (xs ++ ys) (.own t)) v ∧
      Step ro X ρ σ w ρ' (σ.set t (.tok r (xs ++ ys).length)) w' := by
  obtain ⟨inf, zv, hi, hzi, hzs, _, hisz, hiby⟩ := zeroCells_size hz
  have hsz : inf.size = r.size := by rw [hisz, hs]
  have hszp := Row.size_pos r
  obtain ⟨hr1, hr2⟩ := room_ok hroom
  rw [List.length_append] at hr1 hr2
  rw [← hiby] at hr2
  have hlt := (List.getElem?_eq_some_iff.1 he).1
  have hty := hy
  obtain ⟨⟨b, c2, rfl, hle2, hall2⟩, _⟩ := hy
  obtain ⟨_, _, news, hn1, hn2⟩ := slG_cells ⟨b, c2, rfl, hle2, hall2⟩
  by_cases hm : ys.length = 0
  · obtain rfl := List.length_eq_zero_iff.1 hm
    refine ⟨vs, ρ, w, ?_, ?_, ?_, ?_⟩
    · obtain ⟨⟨a, c, rfl, hle, _⟩, _⟩ := hx
      cases b with
      | none => cases a <;> simp [Builtin.append_, run_underlying hu, sizeOf, typeInfo, hi, Builtin.lenOf, hle, Builtin.firstCells, storeCells]
      | some b => cases a <;> simp [Builtin.append_, run_underlying hu, sizeOf, typeInfo, hi, Builtin.lenOf, hle, Builtin.firstCells, storeCells, Go.loadCells, Go.loadCellsFrom]
    · rw [List.append_nil, set_same (by rw [he, hn0])]; exact hr
    · rw [List.append_nil, set_same (by rw [he, hn0])]; exact hx
    · rw [List.append_nil, set_same (by rw [he, hn0])]; exact Step.refl _ _ _ _ _
  have hmp : 0 < ys.length := by omega
  obtain ⟨bd, rfl, hnew⟩ := hn2 hmp
  have hnl : news.length = ys.length * r.size := rowsR_length hn1
  have hnew' : ∀ (j : Nat) (u : Value), news[j]? = some u → w.cell? (bd.add j) = some u := fun j u hj => (hnew j u hj).2.1
  have hone := rowsR_all hn1
  obtain ⟨hxs, r', m', htk1, htk2, htk3⟩ := hx
  rw [he] at htk1
  cases htk1
  have hgrown : ∀ need old, need ≤ grownCap w need old e := fun need old => by unfold grownCap Question.cut; dsimp only; omega
  have fin : ∀ (g' cap : Nat) (olds : List Value) (arr : Array Value) (ρ' : Rn) (w' : World), RowsR (sit X ρ σ w).rd r olds xs → Le (sit X ρ σ w) (sit X ρ' (σ.set t (.tok r (xs ++ ys).length)) w') → ρ' t = some g' →
      w'.heap[g']? = some (.cells arr e (0, 0)) → arr.size = cap * r.size → (xs ++ ys).length ≤ cap → (∀ (j : Nat) (u : Value), (olds ++ news)[j]? = some u → arr[j]? = some u) → Rel X ρ' (σ.set t (.tok r (xs ++ ys).length)) w' →
      R (sit X ρ' (σ.set t (.tok r (xs ++ ys).length)) w') (.sl r (xs ++ ys) (.own t)) (.slice (some ⟨g', 0, none⟩) (xs ++ ys).length cap) := by
    intro g' cap olds arr ρ' w' ho hle hρ hg hsize hcap hcells hrel
    have hst : (σ.set t (.tok r (xs ++ ys).length))[t]? = some (.tok r (xs ++ ys).length) := List.getElem?_set_self hlt
    have hrows : RowsR (sit X ρ' (σ.set t (.tok r (xs ++ ys).length)) w').rd r (olds ++ news) (xs ++ ys) := rowsR_app (ho.mono hle.rd) (hn1.mono hle.rd)
    refine ⟨slG_mk hrows hcap fun j u hj => ?_, r, _, hst, Nat.le_refl _, fun _ => .inr ⟨g', cap, arr, e, hρ, rfl, hg, hsize⟩⟩
    rw [add_at]
    refine ⟨rfl, ?_, hrel.fr t g' hρ _, fun i hi => ?_⟩
    · simp only [World.cell?, hg, Option.isSome_none, Bool.false_eq_true, if_false, Nat.zero_add]
      exact hcells j u hj
    · obtain rfl := hrel.inj i t g' hi hρ
      refine ⟨r, _, hst, ?_⟩
      have h1 := (List.getElem?_eq_some_iff.1 hj).1
      rw [rowsR_length hrows] at h1
      simpa using h1
  rcases htk3 hn0.symm with ⟨rfl, h0⟩ | ⟨g, c, arr, el, hρ, rfl, hg, hsize⟩
  · -- from nil
    obtain rfl := List.length_eq_zero_iff.1 h0
    have hrun := run_append_nil (P := P) w stt ty e inf zv hu hi hzi bd ys.length c2 news (by rw [hnl, hsz]) hnew' hmp (by omega) (by simp at hr2; omega)
    have hcapz : (news.toArray ++ Builtin.zeroCells zv.cells (grownCap w ys.length 0 e - ys.length)).size = grownCap w ys.length 0 e * r.size := by
      rw [Array.size_append, size_zeroCells, hzs, hzl]
      simp only [List.size_toArray, hnl]
      rw [← Nat.add_mul]
      congr 1
      have := hgrown ys.length 0
      omega
    have hmv := move_ok (ro := ro) hr hro he (n' := ([] ++ ys).length) (by simp at hn0 ⊢; omega) (news.toArray ++ Builtin.zeroCells zv.cells (grownCap w ys.length 0 e - ys.length)) e (by rw [hcapz]; exact Nat.mul_le_mul_right _ (by simpa using hgrown ys.length 0))
    refine ⟨_, _, _, hrun, hmv.1, ?_, hmv.2⟩
    refine fin w.heap.size _ [] _ _ _ rfl hmv.2.le (if_pos rfl) (heap_new w.drew _) hcapz (by simpa using hgrown ys.length 0) (fun j u hj => ?_) hmv.1
    rw [Array.getElem?_append_left (by simpa using (List.getElem?_eq_some_iff.1 hj).1)]
    simpa using hj
  · obtain ⟨_, hnc, olds, ho1, ho2⟩ := slG_cells hxs
    have hol : olds.length = xs.length * r.size := rowsR_length ho1
    have holds : ∀ (j : Nat) (u : Value), olds[j]? = some u → w.cell? ((⟨g, 0, none⟩ : Addr).add j) = some u := fun j u hj => by
      have hp : 0 < xs.length := by
        have := (List.getElem?_eq_some_iff.1 hj).1
        rw [hol] at this
        exact Nat.pos_of_mul_pos_right (Nat.lt_of_le_of_lt (Nat.zero_le _) this)
      obtain ⟨ad, e1, e2⟩ := ho2 hp
      cases e1
      exact (e2 j u hj).2.1
    have hcell : ∀ (j : Nat) (u : Value), olds[j]? = some u → arr[j]? = some u := fun j u hj => by
      have := holds j u hj
      rw [add_at] at this
      simpa [World.cell?, hg] using this
    have hoa : arr.toList.take (xs.length * r.size) = olds := by
      apply List.ext_getElem?
      intro j
      rw [List.getElem?_take]
      split
      · rename_i q
        rw [← hol] at q
        rw [List.getElem?_eq_getElem q, Array.getElem?_toList]
        exact hcell j _ (List.getElem?_eq_getElem q)
      · rw [List.getElem?_eq_none (by omega)]
    by_cases hroom2 : xs.length + ys.length ≤ c
    · -- in place
      have hfit : xs.length * r.size + news.length ≤ arr.size := by
        rw [hnl, hsize, ← Nat.add_mul]
        exact Nat.mul_le_mul_right _ hroom2
      have hrun := run_append_room' (P := P) w stt ty e el inf hu hi g xs.length c arr hg bd ys.length c2 news (by rw [hnl, hsz]) hnew' hone hroom2 (by rw [hsz]; exact hfit)
      rw [hsz, hoa] at hrun
      generalize hw' : w.setRow g (olds ++ news ++ arr.toList.drop (xs.length * r.size + news.length)).toArray = w' at hrun
      have hrow : w'.heap[g]? = some (.cells (olds ++ news ++ arr.toList.drop (xs.length * r.size + news.length)).toArray el (0, 0)) := by rw [← hw']; exact setRow_heap w g _ _ _ _ hg
      have hoth : ∀ b, b ≠ g → w'.heap[b]? = w.heap[b]? := fun b q => by rw [← hw']; exact setRow_other w g b _ q
      have hszw : w'.heap.size = w.heap.size := by rw [← hw']; simp
      have hsz2 : (olds ++ news ++ arr.toList.drop (xs.length * r.size + news.length)).toArray.size = c * r.size := by
        simp only [List.size_toArray, List.length_append, List.length_drop, Array.length_toList, hol, hnl, hsize]
        rw [hnl, hsize] at hfit
        omega
      have hle := le_write (w' := w') (e' := .tok r (xs ++ ys).length) hr hρ he ⟨rfl, by rw [List.length_append]; omega⟩ hoth (fun r2 n2 q => by
        injection q with q1 q2
        subst q1 q2
        refine ⟨arr, el, _, el, hg, hrow, fun o ho => ?_, fun n' _ => .inr (by rw [hsz2, hsize])⟩
        rw [hn0] at ho
        rw [List.getElem?_toArray, List.append_assoc, List.getElem?_append_left (by rw [hol]; exact ho), ← hoa, List.getElem?_take, if_pos ho, Array.getElem?_toList])
      have hrel := rel_write (w' := w') hr hρ he hoth hszw hle ⟨_, el, hrow, by rw [hsz2]; exact Nat.mul_le_mul_right _ (by rw [List.length_append]; exact hroom2)⟩
      rw [← List.length_append] at hrun
      refine ⟨_, ρ, w', hrun, hrel, ?_, step_write hρ hro hoth hszw (by rw [← hw']; rfl) (by rw [← hw']; rfl) (by rw [← hw']; rfl) hle⟩
      have hst : (σ.set t (.tok r (xs ++ ys).length))[t]? = some (.tok r (xs ++ ys).length) := List.getElem?_set_self hlt
      have hrows : RowsR (sit X ρ (σ.set t (.tok r (xs ++ ys).length)) w').rd r (olds ++ news) (xs ++ ys) := rowsR_app (ho1.mono hle.rd) (hn1.mono hle.rd)
      refine ⟨slG_mk hrows (by rw [List.length_append]; exact hroom2) fun j u hj => ?_, r, _, hst, Nat.le_refl _, fun _ => .inr ⟨g, c, _, el, hρ, rfl, hrow, hsz2⟩⟩
      rw [add_at]
      refine ⟨rfl, ?_, hrel.fr t g hρ _, fun i hi => ?_⟩
      · simp only [World.cell?, hrow, Option.isSome_none, Bool.false_eq_true, if_false, Nat.zero_add, List.getElem?_toArray]
        rw [List.getElem?_append_left (List.getElem?_eq_some_iff.1 hj).1]
        exact hj
      · obtain rfl := hrel.inj i t g hi hρ
        refine ⟨r, _, hst, ?_⟩
        have h1 := (List.getElem?_eq_some_iff.1 hj).1
        rw [rowsR_length hrows] at h1
        simpa using h1
    · -- a new block
      have hrun := run_append_grow (P := P) w stt ty e inf zv hu hi hzi ⟨g, 0, none⟩ xs.length c olds (by rw [hol, hsz]) holds bd ys.length c2 news (by rw [hnl, hsz]) hnew' (by omega) (by omega) (growslice_fits (by omega) (by omega))
      rw [← List.length_append] at hrun
      generalize hcap : grownCap w (xs ++ ys).length c e = cap at hrun
      have hcapge : (xs ++ ys).length ≤ cap := by rw [← hcap]; exact hgrown _ _
      have hcapz : (olds.toArray ++ news.toArray ++ Builtin.zeroCells zv.cells (cap - (xs ++ ys).length)).size = cap * r.size := by
        rw [Array.size_append, Array.size_append, size_zeroCells, hzs, hzl]
        simp only [List.size_toArray, hnl, hol]
        rw [← Nat.add_mul, ← Nat.add_mul]
        congr 1
        rw [List.length_append] at hcapge ⊢
        omega
      have hmv := move_ok (ro := ro) hr hro he (n' := (xs ++ ys).length) (by rw [List.length_append]; omega) (olds.toArray ++ news.toArray ++ Builtin.zeroCells zv.cells (cap - (xs ++ ys).length)) e (by rw [hcapz]; exact Nat.mul_le_mul_right _ hcapge)
      refine ⟨_, _, _, hrun, hmv.1, ?_, hmv.2⟩
      refine fin w.heap.size cap olds _ _ _ ho1 hmv.2.le (if_pos rfl) ?_ hcapz hcapge (fun j u hj => ?_) hmv.1
      · exact heap_new w.drew _
      · have hj2 := (List.getElem?_eq_some_iff.1 hj).1
        rw [Array.getElem?_append_left (by simpa using hj2)]
        simpa [Array.getElem?_append, List.getElem?_append] using hj

end Go.Am
namespace Go.Am
open Go

theorem elemOf_sl {P : Program} {t e : TypeId} (h : elemOf P t = some e) : P.underlying t = some (.slice e) := by
  unfold elemOf at h
  split at h
  · rename_i hu; cases h; exact hu
  · cases h

mutual
theorem R.strip {S : Sit} : ∀ (d : D) (v : Value), R S d v → R S d.strip v
  | .sl r xs t, _, ⟨h, _⟩ => ⟨h, trivial⟩
  | .agg l, _, ⟨x, e, h⟩ => ⟨x, e, Rs.strips l x h⟩
  | .tup l, _, ⟨x, e, h⟩ => ⟨x, e, Rs.strips l x h⟩
  | .any, _, h => h
  | .int _ _, _, h => h
  | .bool _, _, h => h
  | .str _, _, h => h
  | .flt _ _, _, h => h
  | .ref _ _ _, _, h => h
  | .ptr _ _, _, h => h
  | .bp _ _ _, _, h => h
  | .ep _ _ _, _, h => h
  | .nilp, _, h => h
  | .fn _ _ _, _, h => h
  | .yld _, _, h => h
  | .nilf, _, h => h
theorem Rs.strips {S : Sit} : ∀ (l : List D) (vs : List Value), Rs S l vs → Rs S (D.strips l) vs
  | [], _, h => h
  | d :: l, _, ⟨v, rest, e, p, q⟩ => ⟨v, rest, e, R.strip d v p, Rs.strips l rest q⟩
end

/-- Zero cells, one row after the other. -/
theorem cyc_get (z : Array Value) (n j : Nat) (hj : j < n) : ((Array.range n).map (fun i => z[i % z.size]!)).toList[j]? = some z[j % z.size]! := by
  simp [hj]
theorem cyc_rep (z : Array Value) (hz : 0 < z.size) : ∀ (m : Nat), ((Array.range (m * z.size)).map (fun i => z[i % z.size]!)).toList = (List.replicate m z.toList).flatten
  | 0 => by simp
  | m + 1 => by
    apply List.ext_getElem?
    intro j
    rw [List.replicate_succ', List.flatten_append, ← cyc_rep z hz m]
    simp only [List.flatten_cons, List.flatten_nil, List.append_nil]
    by_cases h1 : j < m * z.size
    · rw [List.getElem?_append_left (by simpa using h1), cyc_get _ _ _ h1, cyc_get _ _ _ (by rw [Nat.add_mul]; omega)]
    · by_cases h2 : j < (m + 1) * z.size
      · rw [List.getElem?_append_right (by simpa using h1), cyc_get _ _ _ h2]
        have h3 : j - m * z.size < z.size := by rw [Nat.add_mul] at h2; omega
        have h4 : j % z.size = j - m * z.size := by
          have e : j = (j - m * z.size) + z.size * m := by rw [Nat.mul_comm z.size m]; omega
          conv => lhs; rw [e]
          rw [Nat.add_mul_mod_self_left, Nat.mod_eq_of_lt h3]
        simp only [Array.toList_map, List.length_map, Array.length_toList, Array.size_range]
        rw [h4]
        simp [h3]
      · rw [List.getElem?_eq_none (by simp; omega), List.getElem?_eq_none (by simp; rw [Nat.add_mul] at h2; omega)]

theorem rs_flat {S : Sit} {l : List D} {vs : List Value} (h : Rs S l vs) : ∀ n, Rs S (List.replicate n l).flatten (List.replicate n vs).flatten
  | 0 => by simp [Rs]
  | n + 1 => by
    simp only [List.replicate_succ, List.flatten_cons]
    exact Rs.app h (rs_flat h n)
theorem rowsR_rep {rd : Addr → Value → Prop} {r : Row} {vs : List Value} {x : r.T} (h : Row.R rd r vs x) : ∀ n, RowsR rd r (List.replicate n vs).flatten (List.replicate n x)
  | 0 => by simp [RowsR]
  | n + 1 => ⟨vs, _, by simp [List.replicate_succ], h, rowsR_rep h n⟩

theorem rowR_ofs {S : Sit} {r : Row} : ∀ (n : Nat) (ds : List D) (vs : List Value) (xs : List r.T), Rs S ds vs → r.ofs n ds = some xs → RowsR S.rd r vs xs ∧ xs.length = n
  | 0, [], vs, xs, h, e => by
    simp only [Row.ofs, Option.some.injEq] at e
    subst e
    exact ⟨h, rfl⟩
  | 0, _ :: _, _, _, _, e => by simp [Row.ofs] at e
  | n + 1, ds, vs, xs, h, e => by
    simp only [Row.ofs, Option.bind_eq_some_iff, Option.map_eq_some_iff] at e
    obtain ⟨x, h1, ys, h2, rfl⟩ := e
    obtain ⟨h3, h4⟩ := rowR_ofs n _ _ ys (Rs.drop r.size h) h2
    exact ⟨⟨vs.take r.size, vs.drop r.size, by simp, rowR_of r _ _ x (Rs.take r.size h) h1, h3⟩, by simp [h4]⟩

/-- A new row, as a buffer. -/
theorem new_ok {ro : Nat} {X : Pl} {ρ : Rn} {σ : List Ent} {w : World} (hr : Rel X ρ σ w) (hro : ro ≤ σ.length) (e : Ent) (arr : Array Value) (el : TypeId) (h : EntR (sit X ρ σ w) (w.alloc (.cells arr el)) w.heap.size e) :
    Rel X (ρ.put σ.length (some w.heap.size)) (σ ++ [e]) (w.alloc (.cells arr el)) ∧ Step ro X ρ σ w (ρ.put σ.length (some w.heap.size)) (σ ++ [e]) (w.alloc (.cells arr el)) := by
  have hst := step_new hr hro (.cells arr el) e
  exact ⟨rel_new hr _ e (h.mono hst.le), hst⟩

set_option maxHeartbeats 1000000 in
theorem makeD_ok {E : Env} {ro : Nat} {σ : List Ent} {t : TypeId} {len cap : D} {k : Kont} {r : Res} (h : makeD E σ t len cap k = some r) :
    ∃ d σ', k d σ' = some r ∧ (ro ≤ σ.length → Pre ro σ σ') ∧ ∀ X ρ w vl vc, Rel X ρ σ w → ro ≤ σ.length → R (sit X ρ σ w) len vl → R (sit X ρ σ w) cap vc →
      ∃ v ρ' w', (Instr.makeSlice t vl vc).run E.P w = .ok v w' ∧ Rel X ρ' σ' w' ∧ R (sit X ρ' σ' w') d v ∧ Step ro X ρ σ w ρ' σ' w' := by
  unfold makeD at h
  split at h
  case h_2 => cases h
  rename_i e kl n kc c he
  split at h
  · cases h
  rename_i z hz
  split at h
  case isFalse => cases h
  rename_i hcond
  obtain ⟨hzl, hc0⟩ := hcond
  obtain ⟨inf, zv, hi, hzi, hzs, hzr, hisz, hiby⟩ := zeroCells_size hz
  have hu : E.P.underlying t = some (.slice e) := elemOf_sl he
  cases hb : (decide (0 ≤ n) && decide (n = c) && room c.toNat (E.P.bytesOf e)) with
  | false => rw [hb] at h; cases h
  | true =>
  rw [hb] at h
  simp only [Bool.and_eq_true, decide_eq_true_eq, cond_true] at hb h
  obtain ⟨⟨h0, rfl⟩, hroom⟩ := hb
  have run : ∀ w, (Instr.makeSlice t (.int kl n) (.int kc n)).run E.P w = .ok (.slice (some ⟨w.heap.size, 0, none⟩) n.toNat n.toNat) (w.alloc (.cells (madeCells zv.cells (n.toNat * inf.size)) e)) := by
    intro w
    obtain ⟨r1, r2⟩ := room_ok hroom
    rw [← hiby] at r2
    exact run_make w t e inf zv hu hi hzi kl kc n n h0 (Int.le_refl _) (by
      have : (inf.bytes : Int) * n = ((n.toNat * inf.bytes : Nat) : Int) := by rw [Int.natCast_mul, Int.toNat_of_nonneg h0, Int.mul_comm]
      omega) (by omega)
  have hsz : zv.cells.size = inf.size := by rw [hzs, hzl, hisz]
  have hcy : (madeCells zv.cells (n.toNat * inf.size)).toList = (List.replicate n.toNat zv.cells.toList).flatten := by
    unfold madeCells
    rw [← hsz]
    exact cyc_rep zv.cells (by rw [hsz, hisz]; omega) _
  split at h
  · rename_i rr hrow hdyn
    split at h
    · cases h
    · rename_i x hx
      split at h
      case isFalse => cases h
      rename_i hs
      refine ⟨_, _, h, fun hro => Pre.app hro _, fun X ρ w vl vc hr hro hl hcv => ?_⟩
      rw [show vl = _ from hl, show vc = _ from hcv]
      have hR := rowR_of rr z _ x (hzr (sit X ρ σ w)) hx
      obtain ⟨h1, h2⟩ := new_ok hr hro (.buf rr (List.replicate n.toNat x)) (madeCells zv.cells (n.toNat * inf.size)) e ⟨_, e, heap_new _ _, by rw [hcy]; exact rowsR_rep hR _⟩
      refine ⟨_, _, _, run w, h1, .inr ⟨w.heap.size, rr, n.toNat, n.toNat, ⟨if_pos rfl, _, get_new _ _, by simp⟩, by omega, by simp, Nat.le_refl _⟩, h2⟩
  · refine ⟨_, _, h, fun hro => Pre.app hro _, fun X ρ w vl vc hr hro hl hcv => ?_⟩
    rw [show vl = _ from hl, show vc = _ from hcv]
    obtain ⟨h1, h2⟩ := new_ok hr hro (.box (List.replicate n.toNat (D.strips z)).flatten) (madeCells zv.cells (n.toNat * inf.size)) e ⟨_, e, heap_new _ _, by rw [hcy]; exact rs_flat (Rs.strips _ _ (hzr _)) _⟩
    exact ⟨_, _, _, run w, h1, .inl ⟨w.heap.size, n.toNat, ⟨if_pos rfl, _, get_new _ _⟩, rfl, Nat.le_refl _⟩, h2⟩

theorem run_buildSlice0 {P : Program} (w : World) (t e : TypeId) (len : Nat) (parts : Array (Nat × Value)) (cells : Array Value) (ie : TypeInfo) (z : Value)
    (hu : P.underlying t = some (.slice e)) (hie : P.info? e = some ie) (hz : ie.zero = some z) (hsmall : len * ie.size ≤ 65536) (hne : ie.size ≠ 0)
    (h : Instr.fill (fun i => some (i * ie.size, ie.size)) ((Array.range (len * ie.size)).map (z.cells[· % z.cells.size]!)) parts.toList = some cells) :
    (Instr.buildSlice t len parts).run P w = .ok (.slice (some ⟨w.heap.size, 0, none⟩) len len) (w.alloc (.cells cells e)) := by
  by_cases h0 : len * ie.size = 0
  · have hs : ¬ (16777216 < len * ie.size) := by omega
    have h' : Instr.fill (fun i => some (i * ie.size, ie.size)) #[] parts.toList = some cells := by simpa [h0, Array.range_zero'] using h
    simp [Instr.buildSlice, run_underlying hu, sizeOf, typeInfo, zeroValue, hie, hz, h0, h', newRow, Array.range_zero']
  · exact run_buildSlice w t e len parts cells ie z hu hie hz (by omega) h0 h

set_option maxHeartbeats 1000000 in
theorem buildSliceD_ok {E : Env} {ro : Nat} {σ : List Ent} {t : TypeId} {len : Nat} {tm : List D} {ps : Array (Nat × Operand)} {ts : Nat → TypeId} {k : Kont} {r : Res} (h : buildSliceD E σ t len (evs E.P ts tm ps.toList) k = some r) :
    ∃ d σ', k d σ' = some r ∧ (ro ≤ σ.length → Pre ro σ σ') ∧ ∀ X ρ w (a : Act), Rel X ρ σ w → ro ≤ σ.length → EvR (sit X ρ σ w) E.P a tm (ps.toList.map (·.2)) →
      ∃ v ρ' w', (Instr.buildSlice t len (ps.map fun (i, x) => (i, a.eval x))).run E.P w = .ok v w' ∧ Rel X ρ' σ' w' ∧ R (sit X ρ' σ' w') d v ∧ Step ro X ρ σ w ρ' σ' w' := by
  unfold buildSliceD at h
  split at h
  · cases h
  rename_i e he
  have hu : E.P.underlying t = some (.slice e) := elemOf_sl he
  split at h
  case isFalse => cases h
  rename_i hcond
  obtain ⟨hsmall, hc0⟩ := hcond
  split at h
  · cases h
  rename_i z hz
  split at h
  case isFalse => cases h
  rename_i hzl
  split at h
  · cases h
  rename_i ls hls
  obtain ⟨inf, zv, hi, hzi, hzs, hzr, hisz, hiby⟩ := zeroCells_size hz
  have hsz : zv.cells.size = inf.size := by rw [hzs, hzl, hisz]
  have hcy : ((Array.range (len * inf.size)).map (zv.cells[· % zv.cells.size]!)).toList = (List.replicate len zv.cells.toList).flatten := by
    rw [← hsz]
    exact cyc_rep zv.cells (by rw [hsz, hisz]; omega) _
  have hps : ∀ a : Act, (ps.map fun (i, x) => (i, a.eval x)).toList = ps.toList.map fun p => (p.1, a.eval p.2) := fun a => by simp
  have run : ∀ X ρ w (a : Act), EvR (sit X ρ σ w) E.P a tm (ps.toList.map (·.2)) → ∃ cs, (Instr.buildSlice t len (ps.map fun (i, x) => (i, a.eval x))).run E.P w = .ok (.slice (some ⟨w.heap.size, 0, none⟩) len len) (w.alloc (.cells cs e)) ∧ Rs (sit X ρ σ w) ls cs.toList := by
    intro X ρ w a ha
    have hev := evs_ok (P := E.P) ts ps.toList ha
    obtain ⟨cs, h4, h5⟩ := fill_ok (place' := fun i => some (i * inf.size, inf.size)) _ _ _ ls ((Array.range (len * inf.size)).map (zv.cells[· % zv.cells.size]!)) (fun i p hp => by rw [hisz]; exact hp) hev.1 hev.2 (by rw [hcy]; exact rs_flat (hzr (sit X ρ σ w)) len) hls
    exact ⟨cs, run_buildSlice0 w t e len _ cs inf zv hu hi hzi (by rw [hisz]; exact hsmall) (by rw [hisz]; exact hc0) (by rw [hps]; exact h4), h5⟩
  split at h
  · rename_i rr hrow
    split at h
    case isFalse => cases h
    rename_i hs
    split at h
    · rename_i xs hxs
      refine ⟨_, _, h, fun hro => Pre.app hro _, fun X ρ w a hr hro ha => ?_⟩
      obtain ⟨cs, h1, h2⟩ := run X ρ w a ha
      obtain ⟨h3, h4⟩ := rowR_ofs len ls _ xs h2 hxs
      have hcs : cs.size = len * rr.size := by
        have := rowsR_length h3
        rw [h4] at this
        simpa using this
      obtain ⟨h5, h6⟩ := new_ok hr hro (.tok rr xs.length) cs e ⟨_, e, heap_new _ _, by rw [hcs, h4]; exact Nat.le_refl _⟩
      refine ⟨_, _, _, h1, h5, ⟨?_, rr, xs.length, get_new _ _, Nat.le_refl _, fun _ => .inr ⟨w.heap.size, len, cs, e, if_pos rfl, by rw [h4], heap_new _ _, hcs⟩⟩, h6⟩
      rw [← h4]
      refine slG_mk (h3.mono h6.le.rd) (Nat.le_refl _) fun j u hj => ?_
      rw [add_at]
      refine ⟨rfl, ?_, h5.fr σ.length _ (if_pos rfl) _, fun i hi => ?_⟩
      · rw [Nat.zero_add, World.cell?_alloc_new]
        simpa using hj
      · obtain rfl := h5.inj i σ.length _ hi (if_pos rfl)
        refine ⟨rr, _, get_new _ _, ?_⟩
        have q := (List.getElem?_eq_some_iff.1 hj).1
        rw [Nat.zero_add, h4, ← hcs]
        simpa using q
    · cases h
  · refine ⟨_, _, h, fun hro => Pre.app hro _, fun X ρ w a hr hro ha => ?_⟩
    obtain ⟨cs, h1, h2⟩ := run X ρ w a ha
    obtain ⟨h5, h6⟩ := new_ok hr hro (.box (D.strips ls)) cs e ⟨_, e, heap_new _ _, Rs.strips _ _ h2⟩
    exact ⟨_, _, _, h1, h5, .inl ⟨w.heap.size, len, ⟨if_pos rfl, _, get_new _ _⟩, rfl, Nat.le_refl _⟩, h6⟩

end Go.Am
namespace Go.Am
open Go

theorem appendD_ok {E : Env} {ro : Nat} {σ : List Ent} {t : TypeId} {s x : D} {k : Kont} {r : Res} (h : appendD E ro σ t s x k = some r) :
    ∃ d σ', k d σ' = some r ∧ (ro ≤ σ.length → Pre ro σ σ') ∧ ∀ X ρ w vs vx ty, Rel X ρ σ w → ro ≤ σ.length → R (sit X ρ σ w) s vs → R (sit X ρ σ w) x vx →
      ∃ v ρ' w', (Builtin.append_ #[t, t] ty #[vs, vx]).run E.P w = .ok v w' ∧ Rel X ρ' σ' w' ∧ R (sit X ρ' σ' w') d v ∧ Step ro X ρ σ w ρ' σ' w' := by
  unfold appendD at h
  split at h
  · cases h
  rename_i e he
  have hu := elemOf_sl he
  split at h
  · cases h
  rename_i z hz
  split at h
  case h_2 => cases h
  rename_i rr xs tk r' ys tk'
  split at h
  · cases h
  rename_i hrr _
  subst hrr
  split at h
  case isFalse => cases h
  rename_i hcond
  obtain ⟨hs, hzl⟩ := hcond
  split at h
  · cases h
  · cases hb : room (xs ++ Row.cast rfl ys).length (E.P.bytesOf e) with
    | false => rw [hb] at h; cases h
    | true =>
      rw [hb] at h
      refine ⟨_, _, h, fun hro => Pre.app hro _, fun X ρ w vs vx ty hr hro hx hy => ?_⟩
      have h1 := rel_tok hr (.tok r' 0)
      have h2 := step_tok hr hro (.tok r' 0)
      have h0 : xs.length = 0 := by
        obtain ⟨⟨b, c, e1, _⟩, e2⟩ := hx
        rw [e2] at e1
        injection e1 with _ e3 _
        exact e3.symm
      have hx' : R (sit X ρ (σ ++ [.tok r' 0]) w) (.sl r' xs (.own σ.length)) vs :=
        ⟨SlG.mono h2.le.rd (Row.R_mono h2.le.rd r') hx.1, r', 0, get_new _ _, by omega, fun _ => .inl ⟨hx.2, h0⟩⟩
      obtain ⟨v, ρ', w', h3, h4, h5, h6⟩ := append_own (P := E.P) (ro := ro) (ty := ty) h1 hro (get_new σ (.tok r' 0)) h0.symm hx' (R.mono h2.le _ _ hy) hu hz hzl hs hb
      rw [List.set_append_right _ _ (Nat.le_refl _)] at h4 h5 h6
      simp only [Nat.sub_self, List.set_cons_zero] at h4 h5 h6
      exact ⟨v, ρ', w', h3, h4, h5, h2.trans h6⟩
  · rename_i tt
    split at h
    case isFalse => cases h
    rename_i hroid
    split at h
    case h_2 => cases h
    rename_i r2 n he2
    split at h
    case h_2 => cases h
    rename_i hr2 _
    subst hr2
    cases hb : (lenOk n xs.length && room (xs ++ Row.cast rfl ys).length (E.P.bytesOf e)) with
    | false => rw [hb] at h; cases h
    | true =>
      rw [hb] at h
      simp only [Bool.and_eq_true] at hb
      refine ⟨_, _, h, fun _ => Pre.set hroid he2 ⟨rfl, by rw [of_decide_eq_true hb.1, List.length_append]; omega⟩, fun X ρ w vs vx ty hr hro hx hy => ?_⟩
      exact append_own (P := E.P) hr hroid he2 (of_decide_eq_true hb.1) hx hy hu hz hzl hs hb.2

theorem take_min {α : Type} (l : List α) (n : Nat) : l.take n = l.take (min l.length n) := by
  by_cases h : n ≤ l.length
  · rw [Nat.min_eq_right h]
  · rw [Nat.min_eq_left (by omega), List.take_of_length_le (by omega), List.take_of_length_le (Nat.le_refl _)]

set_option maxHeartbeats 1000000 in
theorem copyD_ok {E : Env} {ro : Nat} {σ : List Ent} {t : TypeId} {d x : D} {k : Kont} {r : Res} (h : copyD E ro σ t d x k = some r) :
    ∃ d' σ', k d' σ' = some r ∧ (ro ≤ σ.length → Pre ro σ σ') ∧ ∀ X ρ w vd vx u ty, Rel X ρ σ w → ro ≤ σ.length → R (sit X ρ σ w) d vd → R (sit X ρ σ w) x vx →
      ∃ v ρ' w', (Builtin.copy_ #[t, u] ty #[vd, vx]).run E.P w = .ok v w' ∧ Rel X ρ' σ' w' ∧ R (sit X ρ' σ' w') d' v ∧ Step ro X ρ σ w ρ' σ' w' := by
  unfold copyD at h
  split at h
  case h_2 => cases h
  rename_i e id off len he
  have hu := elemOf_sl he
  split at h
  case isFalse => cases h
  rename_i hro
  have run : ∀ (w : World) (u ty : TypeId) (g o c m c2 size : Nat) (src : Option Addr) (arr : Array Value) (el : TypeId) (news : List Value) (inf : TypeInfo), E.P.info? e = some inf → inf.size = size →
      w.heap[g]? = some (.cells arr el (0, 0)) → news.length = min m len * size → (0 < news.length → ∃ bd, src = some bd ∧ ∀ (j : Nat) (v : Value), news[j]? = some v → w.cell? (bd.add j) = some v) → (∀ v ∈ news, v.oneCell' = true) → o + news.length ≤ arr.size →
      (Builtin.copy_ #[t, u] ty #[.slice (some ⟨g, o, none⟩) len c, .slice src m c2]).run E.P w = .ok (.int .i64 (min m len : Nat)) (w.setRow g (arr.toList.take o ++ news ++ arr.toList.drop (o + news.length)).toArray) := by
    intro w u ty g o c m c2 size src arr el news inf hi hsz hg hl hsrc hone hfit
    have hst := run_storeCells_at E.P g o el news 0 arr w hg (by simpa using hfit) hone
    simp only [Nat.add_zero] at hst
    have hf : (Builtin.firstCells size (min m len) (.slice src m c2)).run E.P w = .ok news.toArray w := by
      by_cases h0 : 0 < news.length
      · obtain ⟨bd, rfl, hb⟩ := hsrc h0
        exact run_firstCells_some (P := E.P) w size (min m len) bd m c2 news hl hb
      · have : news = [] := List.length_eq_zero_iff.1 (by omega)
        subst this
        cases src with
        | none => simp [Builtin.firstCells]
        | some bd => exact run_firstCells_some (P := E.P) w size (min m len) bd m c2 [] hl (fun j v hj => by simp at hj)
    have hmin : Nat.min m len = min m len := rfl
    simp [Builtin.copy_, run_underlying hu, sizeOf, typeInfo, hi, hsz, Builtin.lenOf, hmin, hf, hst, goInt]
  split at h
  · rename_i rr xs r' ys tk he2
    split at h
    · cases h
    rename_i hrr _
    subst hrr
    split at h
    case isFalse => cases h
    rename_i hs0
    obtain ⟨hs, hol⟩ := hs0
    refine ⟨_, _, h, fun _ => Pre.set hro he2 ⟨rfl, by simp [Row.cast]; omega⟩, fun X ρ w vd vx u ty hr hroσ hd hx => ?_⟩
    obtain ⟨inf, hi⟩ := cells_info (P := E.P) (t := e) (by rw [← hs]; exact Nat.pos_iff_ne_zero.1 r'.size_pos)
    have hisz : inf.size = r'.size := by rw [hs]; simp [Program.cellsOf, hi]
    rcases hd with ⟨g, c, ⟨_, l, h1⟩, _⟩ | ⟨g, r2, m, c, ⟨hid, zs, h2, h3⟩, h4, rfl, h5⟩
    · rw [he2] at h1; cases h1
    rw [he2] at h2
    simp only [Option.some.injEq, Ent.buf.injEq] at h2
    obtain ⟨rfl, h2⟩ := h2
    cases h2
    obtain ⟨e2, h6, h7⟩ := hr.ent id g hid
    rw [he2] at h6
    cases h6
    obtain ⟨arr, el, hg, hrows⟩ := h7
    obtain ⟨⟨b, c2, rfl, hle2, hall2⟩, _⟩ := hx
    obtain ⟨_, _, news, hn1, hn2⟩ := slG_cells ⟨b, c2, rfl, hle2, hall2⟩
    have hnl := rowsR_length hn1
    have hmn : min ys.length len ≤ ys.length := Nat.min_le_left _ _
    have hml : min ys.length len ≤ len := Nat.min_le_right _ _
    have hnt : (news.take (min ys.length len * r'.size)).length = min ys.length len * r'.size := by
      rw [List.length_take, hnl, Nat.min_eq_left (Nat.mul_le_mul_right _ hmn)]
    have hasz : arr.size = xs.length * r'.size := by simpa using rowsR_length hrows
    have hfit : off * r'.size + min ys.length len * r'.size ≤ arr.size := by
      rw [hasz, ← Nat.add_mul]
      exact Nat.mul_le_mul_right _ (by omega)
    have hrun := run w u ty g (off * r'.size) c ys.length c2 r'.size b arr el (news.take (min ys.length len * r'.size)) inf hi hisz hg hnt (fun h0 => by
      have hp : 0 < ys.length := by
        rw [hnt] at h0
        have := Nat.pos_of_mul_pos_right h0
        omega
      obtain ⟨bd, e1, e3⟩ := hn2 hp
      refine ⟨bd, e1, fun j v hj => (e3 j v ?_).2.1⟩
      rw [List.getElem?_take] at hj
      split at hj
      · exact hj
      · cases hj) (fun v hv => rowsR_all hn1 v (List.mem_of_mem_take hv)) (by rw [hnt]; exact hfit)
    rw [hnt] at hrun
    generalize hw' : w.setRow g (arr.toList.take (off * r'.size) ++ news.take (min ys.length len * r'.size) ++ arr.toList.drop (off * r'.size + min ys.length len * r'.size)).toArray = w' at hrun
    have hrow : w'.heap[g]? = some (.cells (arr.toList.take (off * r'.size) ++ news.take (min ys.length len * r'.size) ++ arr.toList.drop (off * r'.size + min ys.length len * r'.size)).toArray el (0, 0)) := by rw [← hw']; exact setRow_heap w g _ _ _ _ hg
    have hoth : ∀ b, b ≠ g → w'.heap[b]? = w.heap[b]? := fun b q => by rw [← hw']; exact setRow_other w g b _ q
    have hsz : w'.heap.size = w.heap.size := by rw [← hw']; simp
    have hle := le_write (w' := w') (e' := .buf r' (xs.take off ++ (Row.cast rfl ys).take len ++ xs.drop (off + min ys.length len))) hr hid he2 ⟨rfl, by simp [Row.cast]; omega⟩ hoth (fun r n q => by cases q)
    refine ⟨_, ρ, w', hrun, rel_write hr hid he2 hoth hsz hle ⟨_, el, hrow, RowsR.mono hle.rd ?_⟩, rfl, step_write hid hro hoth hsz (by rw [← hw']; rfl) (by rw [← hw']; rfl) (by rw [← hw']; rfl) hle⟩
    have hyt : (Row.cast rfl ys).take len = ys.take (min ys.length len) := take_min ys len
    rw [hyt]
    refine rowsR_app (rowsR_app (rowsR_take off hrows) (rowsR_take _ hn1)) ?_
    have := rowsR_drop (off + min ys.length len) hrows
    rwa [Nat.add_mul] at this
  · rename_i l id' off' len' he2
    split at h
    case h_2 => cases h
    rename_i l' he3
    dsimp only at h
    split at h
    case isFalse => cases h
    rename_i hcond
    obtain ⟨hone, hlen, hfit, hc0⟩ := hcond
    refine ⟨_, _, h, fun _ => Pre.set hro he2 trivial, fun X ρ w vd vx u ty hr hroσ hd hx => ?_⟩
    obtain ⟨inf, hi⟩ := cells_info hc0
    have hisz : inf.size = E.P.cellsOf e := by simp [Program.cellsOf, hi]
    rcases hd with ⟨g, c, ⟨hid, l0, h1⟩, rfl, _⟩ | ⟨g, r2, m, c, ⟨hid, zs, h2, h3⟩, _⟩
    case inr => rw [he2] at h2; cases h2
    rcases hx with ⟨g', c', ⟨hid', l0', h1'⟩, rfl, _⟩ | ⟨g', r2, m, c', ⟨hid', zs, h2, h3⟩, _⟩
    case inr => rw [he3] at h2; cases h2
    obtain ⟨e2, h6, h7⟩ := hr.ent id g hid
    rw [he2] at h6
    cases h6
    obtain ⟨arr, el, hg, hrows⟩ := h7
    obtain ⟨e4, h8, h9⟩ := hr.ent id' g' hid'
    rw [he3] at h8
    cases h8
    obtain ⟨arr', el', hg', hrows'⟩ := h9
    have hnews := Rs.take (min len' len * E.P.cellsOf e) (Rs.drop off' hrows')
    have hnl := Rs.length hnews
    rw [hlen] at hnl
    have hasz : arr.size = l.length := by simpa using Rs.length hrows
    have hrun := run w u ty g off c len' c' (E.P.cellsOf e) (some ⟨g', off', none⟩) arr el ((arr'.toList.drop off').take (min len' len * E.P.cellsOf e)) inf hi hisz hg hnl (fun h0 => ⟨_, rfl, fun j v hj => by
      rw [add_at]
      rw [List.getElem?_take] at hj
      split at hj
      · simp only [World.cell?, hg', Option.isSome_none, Bool.false_eq_true, if_false]
        simpa using hj
      · cases hj⟩) (Rs.one hnews hone) (by rw [hnl, hasz]; exact hfit)
    generalize hnn : (arr'.toList.drop off').take (min len' len * E.P.cellsOf e) = news at hrun hnews hnl
    generalize hw' : w.setRow g (arr.toList.take off ++ news ++ arr.toList.drop (off + news.length)).toArray = w' at hrun
    have hrow : w'.heap[g]? = some (.cells (arr.toList.take off ++ news ++ arr.toList.drop (off + news.length)).toArray el (0, 0)) := by rw [← hw']; exact setRow_heap w g _ _ _ _ hg
    have hoth : ∀ b, b ≠ g → w'.heap[b]? = w.heap[b]? := fun b q => by rw [← hw']; exact setRow_other w g b _ q
    have hsz : w'.heap.size = w.heap.size := by rw [← hw']; simp
    have hle := le_write (w' := w') (e' := .box (patch l ((l'.drop off').take (min len' len * E.P.cellsOf e)) off)) hr hid he2 trivial hoth (fun r n q => by cases q)
    exact ⟨_, ρ, w', hrun, rel_write hr hid he2 hoth hsz hle ⟨_, el, hrow, Rs.mono hle _ _ (patch_ok hrows hnews off)⟩, rfl, step_write hid hro hoth hsz (by rw [← hw']; rfl) (by rw [← hw']; rfl) (by rw [← hw']; rfl) hle⟩
  · cases h

end Go.Am
namespace Go.Am
open Go

/-- The fence: none, or that of a round. -/
def fen : Option Nat → Fence
  | none => .wide
  | some l => Fence.inRound .wide l
theorem fen_fn (l : Option Nat) (f : FuncId) : (fen l).fn f := by cases l <;> exact trivial
theorem fen_depth (l : Option Nat) : (fen l).depth = none := by cases l <;> rfl
theorem fen_room (l : Option Nat) (n : Nat) : (fen l).room n := fun d hd => by rw [fen_depth] at hd; cases hd
theorem fen_round (l : Option Nat) : (fen l).round = l := by cases l <;> rfl
theorem fen_callsIn {l : Option Nat} {n : Nat} {P : Program} {f : FuncId} {args : Array Value} {w : World} {Q : Ending → World → Prop} (h : Calls P f args w Q) : CallsIn (fen l) n P f args w Q := by
  have h' : CallsIn Fence.wide n P f args w Q := callsIn_wide.2 h
  cases l <;> exact h'

def RndOk (S : Sit) : Option Nat → Option Nat → Prop
  | none, none => True
  | some id, some b => S.lp id b
  | _, _ => False
theorem RndOk.mono {S S' : Sit} (h : Le S S') : ∀ {rnd l : Option Nat}, RndOk S rnd l → RndOk S' rnd l
  | none, none, _ => trivial
  | some id, some b, q => h.lp id b q
  | none, some _, q => q.elim
  | some _, none, q => q.elim

/-- An operation, by what it leaves. -/
def OpOk (P : Program) (ro : Nat) (o : Oper) (tm : List D) (σ : List Ent) (d : D) (σ' : List Ent) : Prop :=
  ∀ X ρ w (a : Act) (l : Option Nat) (n : Nat) (K : Act → World → Prop) (Q : Exit → Act → World → Prop), Rel X ρ σ w → ro ≤ σ.length → EvR (sit X ρ σ w) P a tm o.op.operands.toList →
    (∀ v ρ' w', Rel X ρ' σ' w' → R (sit X ρ' σ' w') d v → Step ro X ρ σ w ρ' σ' w' → K (a.put o.dst v) w') → o.wpIn (fen l) n P a w K Q

theorem wpIn_val {P : Program} {o : Oper} {a : Act} {l : Option Nat} {n : Nat} {w w' : World} {v : Value} {K : Act → World → Prop} {Q : Exit → Act → World → Prop} (hd : ∀ c, o.op ≠ .defer c)
    (h : (execOp a.eval o).run P w = .ok (.value v) w' ∨ ((execOp a.eval o).run P w = .ok .skip w' ∧ v = undef)) (hk : K (a.put o.dst v) w') : o.wpIn (fen l) n P a w K Q := by
  refine ⟨fun f _ => fen_fn l f, ?_⟩
  rw [Oper.semAt_eq _ _ _ hd]
  rcases h with h | ⟨h, rfl⟩ <;> rw [h] <;> exact hk

theorem OpOk.of_run {P : Program} {ro : Nat} {o : Oper} {tm : List D} {σ σ' : List Ent} {d : D} (hd : ∀ c, o.op ≠ .defer c)
    (h : ∀ X ρ w (a : Act), Rel X ρ σ w → ro ≤ σ.length → EvR (sit X ρ σ w) P a tm o.op.operands.toList → MRun P ro X ρ σ w (execOp a.eval o) d σ') : OpOk P ro o tm σ d σ' := by
  intro X ρ w a l n K Q hr hro ha hk
  obtain ⟨v, ρ', w', h1, h2, h3, h4⟩ := h X ρ w a hr hro ha
  exact wpIn_val hd h1 (hk v ρ' w' h2 h3 h4)

theorem pure_op {E : Env} (hok : EqOk E.P E.eqOk) {ro : Nat} {o : Oper} {tm : List D} {σ : List Ent} {k : D → Option Res} {r : Res} (hd : ∀ c, o.op ≠ .defer c) (h : pureD E o tm k = some r) : ∃ d, k d = some r ∧ OpOk E.P ro o tm σ d σ := by
  obtain ⟨d, h1, h2⟩ := pureD_ok hok h
  refine ⟨d, h1, OpOk.of_run hd fun X ρ w a hr hro ha => ?_⟩
  obtain ⟨v, h3, h4⟩ := h2 _ a ha w
  exact ⟨v, ρ, w, .inl h3, hr, h4, Step.refl _ _ _ _ _⟩

/-- Calls, by what they leave. -/
def CallOk (P : Program) (ro : Nat) (f : FuncId) (args : List D) (σ : List Ent) (d : D) (σ' : List Ent) : Prop :=
  ∀ X ρ w vs, Rel X ρ σ w → ro ≤ σ.length → Rs (sit X ρ σ w) args vs →
    Calls P f vs.toArray w fun e w' => ∃ v ρ', e = .returned v ∧ Rel X ρ' σ' w' ∧ R (sit X ρ' σ' w') d v ∧ Step ro X ρ σ w ρ' σ' w'
def CallSound (P : Program) (call : Nat → FuncId → List D → List Ent → Kont → Option Res) : Prop :=
  ∀ ro f args σ k r, call ro f args σ k = some r → ro ≤ σ.length → ∃ d σ', k d σ' = some r ∧ CallOk P ro f args σ d σ' ∧ Pre ro σ σ' ∧ (∃ fn, P.funcs[f]? = some fn ∧ fn.body.isSome = true)

/-- Blocks of the deferred calls of loops: set aside, empty. -/
def Dfs (N : Nat) (ρ : Rn) (w : World) : List Deferred → Prop
  | [] => True
  | d :: l => (∃ b, d = { target := .collected b, args := #[] } ∧ N ≤ b ∧ (∀ i, ρ i ≠ some b) ∧ w.heap[b]? = some (.deferred (some [])) ∧ ∀ e ∈ l, e ≠ d) ∧ Dfs N ρ w l
theorem Dfs.step {N ro : Nat} {X : Pl} {ρ ρ' : Rn} {σ σ' : List Ent} {w w' : World} (h : Step ro X ρ σ w ρ' σ' w') : ∀ {l : List Deferred}, Dfs N ρ w l → Dfs N ρ' w' l
  | [], _ => trivial
  | d :: l, ⟨⟨b, h1, h2, h3, h4, h5⟩, h6⟩ => by
    have hb := (Array.getElem?_eq_some_iff.1 h4).1
    refine ⟨⟨b, h1, h2, fun i hi => ?_, by rw [h.old b hb fun i _ => h3 i]; exact h4, h5⟩, Dfs.step h h6⟩
    by_cases q : i < ro
    · exact h3 i ((h.keep i q).1 ▸ hi)
    · rcases h.img i b (by omega) hi with ⟨j, _, hj⟩ | q
      · exact h3 j hj
      · omega

/-- A piece of code, by what it leaves. -/
def CodeOk (P : Program) (ro : Nat) (rnd : Option Nat) (c : Code) (st : St) (e : Exit) (st' : St) : Prop :=
  ∀ X ρ w (a : Act) (l : Option Nat) (n N : Nat), Rel X ρ st.σ w → ro ≤ st.σ.length → Rs (sit X ρ st.σ w) st.tm a.tmps.toList → RndOk (sit X ρ st.σ w) rnd l → N ≤ w.heap.size → Dfs N ρ w a.defers →
    c.wpIn (fen l) n P (fun e2 a' w' => e2 = e ∧ ∃ ρ', Rel X ρ' st'.σ w' ∧ Rs (sit X ρ' st'.σ w') st'.tm a'.tmps.toList ∧ Step ro X ρ st.σ w ρ' st'.σ w' ∧ Dfs N ρ' w' a'.defers) a w
def RunSound (P : Program) (run : FuncId → Nat → Option Nat → Code → St → (Exit → St → Option Res) → Option Res) : Prop :=
  ∀ g ro rnd c st k r, run g ro rnd c st k = some r → ro ≤ st.σ.length → ∃ e st', k e st' = some r ∧ CodeOk P ro rnd c st e st' ∧ Pre ro st.σ st'.σ

end Go.Am
namespace Go.Am
open Go

/-! ### Blocks given up -/
def Rn.cut (ρ : Rn) (n : Nat) : Rn := fun i => if i < n then ρ i else none
theorem take_get {σ : List Ent} {n i : Nat} (h : i < n) : (σ.take n)[i]? = σ[i]? := by rw [List.getElem?_take, if_pos h]
theorem take_lt {σ : List Ent} {n i : Nat} {e : Ent} (h : (σ.take n)[i]? = some e) : i < n ∧ σ[i]? = some e := by
  rw [List.getElem?_take] at h
  split at h
  · exact ⟨by assumption, h⟩
  · cases h

theorem leN_cut (X : Pl) (ρ : Rn) (σ : List Ent) (w : World) (n : Nat) : LeN n (sit X ρ σ w) (sit X (ρ.cut n) (σ.take n) w) where
  rd a v := fun ⟨h1, h2, h3, h4⟩ => ⟨h1, h2, h3, fun i hi => by
    unfold Rn.cut at hi
    split at hi
    · obtain ⟨r, m, h5, h6⟩ := h4 i hi
      exact ⟨r, m, by rw [take_get (by assumption)]; exact h5, h6⟩
    · cases hi⟩
  pt i g hi := fun ⟨h1, l, h2⟩ => ⟨by unfold Rn.cut; rw [if_pos hi]; exact h1, l, by rw [take_get hi]; exact h2⟩
  bf i g r m hi := fun ⟨h1, xs, h2, h3⟩ => ⟨by unfold Rn.cut; rw [if_pos hi]; exact h1, xs, by rw [take_get hi]; exact h2, h3⟩
  lp i g hi := fun ⟨h1, f, tm, ps, a, b, s, p, h2⟩ => ⟨by unfold Rn.cut; rw [if_pos hi]; exact h1, f, tm, ps, a, b, s, p, by rw [take_get hi]; exact h2⟩
  tk t r m v hi := fun ⟨r', m', h1, h2, h3⟩ => ⟨r', m', by rw [take_get hi]; exact h1, h2, fun e => by
    rcases h3 e with h4 | ⟨g, c, arr, el, a, b⟩
    · exact .inl h4
    · exact .inr ⟨g, c, arr, el, by unfold Rn.cut; rw [if_pos hi]; exact a, b⟩⟩

theorem lts_get {n : Nat} : ∀ {σ : List Ent}, Ent.lts n σ = true → ∀ {i : Nat} {e : Ent}, σ[i]? = some e → e.lt n = true
  | [], _, i, e, h => by simp at h
  | a :: σ, hl, 0, e, h => by
    have hl' : (a.lt n && Ent.lts n σ) = true := hl
    rw [Bool.and_eq_true] at hl'
    simp only [List.getElem?_cons_zero, Option.some.injEq] at h
    subst h
    exact hl'.1
  | a :: σ, hl, i + 1, e, h => by
    have hl' : (a.lt n && Ent.lts n σ) = true := hl
    rw [Bool.and_eq_true] at hl'
    exact lts_get hl'.2 (by simpa using h)

theorem rel_cut {X : Pl} {ρ : Rn} {σ : List Ent} {w : World} {n : Nat} (h : Rel X ρ σ w) (hl : Ent.lts n (σ.take n) = true) : Rel X (ρ.cut n) (σ.take n) w where
  inj i j g hi hj := by
    unfold Rn.cut at hi hj
    split at hi <;> split at hj
    · exact h.inj i j g hi hj
    · cases hj
    · cases hi
    · cases hi
  ent i g hi := by
    unfold Rn.cut at hi
    split at hi
    · rename_i q
      obtain ⟨e, h1, h2⟩ := h.ent i g hi
      have h3 : (σ.take n)[i]? = some e := by rw [take_get q]; exact h1
      exact ⟨e, h3, h2.monoN (leN_cut X ρ σ w n) (lts_get hl h3)⟩
    · cases hi
  top := h.top
  fr i g hi := by
    unfold Rn.cut at hi
    split at hi
    · exact h.fr i g hi
    · cases hi

theorem step_cut {ro n : Nat} {X : Pl} {ρ0 ρ : Rn} {σ0 σ : List Ent} {w0 w : World} (h : Step ro X ρ0 σ0 w0 ρ σ w) (hn : σ0.length ≤ n) (hro : ro ≤ σ0.length) : Step ro X ρ0 σ0 w0 (ρ.cut n) (σ.take n) w where
  os := h.os
  tape := h.tape
  output := h.output
  size := h.size
  old := h.old
  img i g hi hg := by
    unfold Rn.cut at hg
    split at hg
    · exact h.img i g hi hg
    · cases hg
  keep i hi := ⟨by unfold Rn.cut; rw [if_pos (by omega)]; exact (h.keep i hi).1, by rw [take_get (by omega)]; exact (h.keep i hi).2⟩
  le := by
    have hc := leN_cut X ρ σ w n
    have lt : ∀ {i : Nat} {e : Ent}, σ0[i]? = some e → i < n := fun q => Nat.lt_of_lt_of_le (List.getElem?_eq_some_iff.1 q).1 hn
    exact ⟨fun a v q => hc.rd _ _ (h.le.rd _ _ q), fun i g q => hc.pt i g (lt q.2.choose_spec) (h.le.pt _ _ q), fun i g r m q => hc.bf i g r m (lt q.2.choose_spec.1) (h.le.bf _ _ _ _ q),
      fun i g q => hc.lp i g (by obtain ⟨_, _, _, _, _, _, _, _, q2⟩ := q; exact lt q2) (h.le.lp _ _ q), fun t r m v q => hc.tk t r m v (by obtain ⟨_, _, q2, _⟩ := q; exact lt q2) (h.le.tk _ _ _ _ q)⟩

theorem Dfs.cut {N n : Nat} {ρ : Rn} {w : World} : ∀ {l : List Deferred}, Dfs N ρ w l → Dfs N (ρ.cut n) w l
  | [], _ => trivial
  | d :: l, ⟨⟨b, h1, h2, h3, h4, h5⟩, h6⟩ => ⟨⟨b, h1, h2, fun i => by
      unfold Rn.cut
      split
      · exact h3 i
      · simp, h4, h5⟩, Dfs.cut h6⟩

/-- 'trunc', whatever it does. -/
theorem trunc_ok {ro n : Nat} {X : Pl} {ρ0 ρ : Rn} {σ0 : List Ent} {w0 w : World} {st : St} {vs : List Value} (hr : Rel X ρ st.σ w) (hv : Rs (sit X ρ st.σ w) st.tm vs) (hs : Step ro X ρ0 σ0 w0 ρ st.σ w) (hn : σ0.length ≤ n) (hro : ro ≤ σ0.length) :
    ∃ ρ', Rel X ρ' (st.trunc n).σ w ∧ Rs (sit X ρ' (st.trunc n).σ w) (st.trunc n).tm vs ∧ Step ro X ρ0 σ0 w0 ρ' (st.trunc n).σ w ∧ (∀ i, ρ' i = ρ i ∨ ρ' i = none) ∧ ∀ N l, Dfs N ρ w l → Dfs N ρ' w l := by
  unfold St.trunc
  split
  · rename_i hc
    rw [Bool.and_eq_true] at hc
    exact ⟨ρ.cut n, rel_cut hr hc.2, Rs.monoN (leN_cut X ρ st.σ w n) _ _ hc.1 hv, step_cut hs hn hro, fun i => by unfold Rn.cut; split <;> simp, fun N l h => h.cut⟩
  · exact ⟨ρ, hr, hv, hs, fun i => .inl rfl, fun N l h => h⟩

theorem Step.ro_le {ro : Nat} {X : Pl} {ρ ρ' : Rn} {σ σ' : List Ent} {w w' : World} (h : Step ro X ρ σ w ρ' σ' w') (hro : ro ≤ σ.length) : ro ≤ σ'.length := by
  cases ro with
  | zero => omega
  | succ m =>
    have := (h.keep m (by omega)).2
    rw [List.getElem?_eq_getElem (l := σ) (i := m) (by omega)] at this
    exact (List.getElem?_eq_some_iff.1 this).1

theorem mask_ok {S : Sit} {kp : List Nat} : ∀ {l : List D} {vs : List Value} (i : Nat), Rs S l vs → Rs S (maskL kp i l) vs
  | [], _, i, h => h
  | d :: l, _, i, ⟨v, rest, e, p, q⟩ => by
    refine ⟨v, rest, e, ?_, mask_ok (i + 1) q⟩
    split
    · exact p
    · exact trivial
theorem St.mask_σ (st : St) (kp : Option (List Nat)) : (st.mask kp).σ = st.σ := by cases kp <;> rfl
theorem St.mask_ok {S : Sit} {st : St} {vs : List Value} (kp : Option (List Nat)) (h : Rs S st.tm vs) : Rs S (st.mask kp).tm vs := by
  cases kp with
  | none => exact h
  | some l => exact Am.mask_ok 0 h
theorem St.own_ok {ro : Nat} {X : Pl} {ρ : Rn} {w : World} {st : St} {vs : List Value} (hr : Rel X ρ st.σ w) (hro : ro ≤ st.σ.length) (h : Rs (sit X ρ st.σ w) st.tm vs) :
    Rel X ρ st.own.σ w ∧ Step ro X ρ st.σ w ρ st.own.σ w ∧ Rs (sit X ρ st.own.σ w) st.own.tm vs := by
  obtain ⟨h1, h2, h3, _⟩ := ownL_ok (ro := ro) st.tm st.σ vs hr hro h
  exact ⟨h1, h2, h3⟩

end Go.Am
namespace Go.Am
open Go

/-! ### Block numbers moved up -/
structure LeS (m : Nat) (S S' : Sit) : Prop where
  rd : ∀ a v, S.rd a v → S'.rd a v
  pt : ∀ i g, S.pt i g → S'.pt (m + i) g
  bf : ∀ i g r n, S.bf i g r n → S'.bf (m + i) g r n
  lp : ∀ i g, S.lp i g → S'.lp (m + i) g
  tk : ∀ t r n v, S.tk t r n v → S'.tk (m + t) r n v

mutual
theorem R.shift {m : Nat} {S S' : Sit} (h : LeS m S S') : ∀ (d : D) (v : Value), R S d v → R S' (d.shift m) v
  | .any, _, _ => trivial
  | .int _ _, _, q => q
  | .bool _, _, q => q
  | .str _, _, q => q
  | .flt _ _, _, q => q
  | .sl r xs .no, _, ⟨q, _⟩ => ⟨SlG.mono h.rd (Row.R_mono h.rd r) q, trivial⟩
  | .sl r xs .fresh, _, ⟨q, e⟩ => ⟨SlG.mono h.rd (Row.R_mono h.rd r) q, e⟩
  | .sl r xs (.own t), _, ⟨q, e⟩ => ⟨SlG.mono h.rd (Row.R_mono h.rd r) q, h.tk _ _ _ _ e⟩
  | .ref id off len, _, q => by
    rcases q with ⟨g, c, p, e⟩ | ⟨g, r, n, c, p, e⟩
    · exact .inl ⟨g, c, h.pt _ _ p, e⟩
    · exact .inr ⟨g, r, n, c, h.bf _ _ _ _ p, e⟩
  | .ptr id off, _, ⟨g, p, e⟩ => ⟨g, h.pt _ _ p, e⟩
  | .bp id i j, _, ⟨g, r, n, p, e⟩ => ⟨g, r, n, h.bf _ _ _ _ p, e⟩
  | .ep r x j, _, ⟨ad, vs, e1, e2, e3, e4⟩ => ⟨ad, vs, e1, e2, fun i u hu => h.rd _ _ (e3 i u hu), Row.R_mono h.rd r _ _ e4⟩
  | .nilp, _, q => q
  | .fn f a b, _, ⟨x, y, e, p, q⟩ => ⟨x, y, e, Rs.shift h a x p, Rs.shift h b y q⟩
  | .yld id, _, ⟨l, p, e⟩ => ⟨l, h.lp _ _ p, e⟩
  | .nilf, _, q => q
  | .agg l, _, ⟨x, e, p⟩ => ⟨x, e, Rs.shift h l x p⟩
  | .tup l, _, ⟨x, e, p⟩ => ⟨x, e, Rs.shift h l x p⟩
theorem Rs.shift {m : Nat} {S S' : Sit} (h : LeS m S S') : ∀ (l : List D) (vs : List Value), Rs S l vs → Rs S' (D.shifts m l) vs
  | [], _, q => q
  | d :: l, _, ⟨v, rest, e, p, q⟩ => ⟨v, rest, e, R.shift h d v p, Rs.shift h l rest q⟩
end

theorem EntR.shift {m : Nat} {S S' : Sit} (h : LeS m S S') {w : World} {g : Nat} {e : Ent} (k : EntR S w g e) : EntR S' w g (e.shift m) := by
  cases e with
  | free => exact k
  | box l => obtain ⟨arr, el, h1, h2⟩ := k; exact ⟨arr, el, h1, Rs.shift h _ _ h2⟩
  | buf r xs => obtain ⟨arr, el, h1, h2⟩ := k; exact ⟨arr, el, h1, h2.mono h.rd⟩
  | tok r n => exact k
  | loop f tm ps a b s p => obtain ⟨L, h1, h2, h3⟩ := k; exact ⟨L, h1, Rs.shift h _ _ h2, h3⟩

/-- Where cells may be read by a call that is told of none of the blocks at hand. -/
def apartX (X : Pl) (ρ : Rn) (σ : List Ent) (w : World) : Pl := fun b o => b < w.heap.size → X b o ∧ ∀ i, ρ i = some b → ∃ r n, σ[i]? = some (.tok r n) ∧ o < n * r.size
def noRn : Rn := fun _ => none

theorem apart_rd {X : Pl} {ρ : Rn} {σ : List Ent} {w : World} {a : Addr} {v : Value} (h : (sit X ρ σ w).rd a v) : (sit (apartX X ρ σ w) noRn [] w).rd a v :=
  ⟨h.1, h.2.1, fun _ => ⟨h.2.2.1, h.2.2.2⟩, fun i hi => by cases hi⟩
theorem apart_leN {X : Pl} {ρ : Rn} {σ : List Ent} {w : World} : LeN 0 (sit X ρ σ w) (sit (apartX X ρ σ w) noRn [] w) :=
  ⟨fun a v h => apart_rd h, fun i g h => (by omega), fun i g r m h => (by omega), fun i g h => (by omega), fun t r m v h => (by omega)⟩
theorem apart_rel {X : Pl} {ρ : Rn} {σ : List Ent} {w : World} : Rel (apartX X ρ σ w) noRn [] w :=
  ⟨fun i j g hi => (by cases hi), fun i g hi => (by cases hi), fun b o h q => (by omega), fun i g hi => (by cases hi)⟩

/-- What the call has made is named behind what was at hand. -/
def Rn.join (ρ : Rn) (n : Nat) (ρ2 : Rn) : Rn := fun i => if i < n then ρ i else ρ2 (i - n)
theorem shift_get (m : Nat) (σ : List Ent) (i : Nat) : (σ.map (Ent.shift m))[i]? = (σ[i]?).map (Ent.shift m) := by simp

theorem join_ok {X : Pl} {ρ ρ2 : Rn} {σ σ2 : List Ent} {w w2 : World} (hr : Rel X ρ σ w) (h2 : Rel (apartX X ρ σ w) ρ2 σ2 w2) (hs : Step 0 (apartX X ρ σ w) noRn [] w ρ2 σ2 w2) {ro : Nat} (hro : ro ≤ σ.length) :
    Rel X (ρ.join σ.length ρ2) (σ ++ σ2.map (Ent.shift σ.length)) w2 ∧ LeS σ.length (sit (apartX X ρ σ w) ρ2 σ2 w2) (sit X (ρ.join σ.length ρ2) (σ ++ σ2.map (Ent.shift σ.length)) w2) ∧
      Step ro X ρ σ w (ρ.join σ.length ρ2) (σ ++ σ2.map (Ent.shift σ.length)) w2 := by
  have himg : ∀ i g, ρ2 i = some g → w.heap.size ≤ g := fun i g hi => by
    rcases hs.img i g (Nat.zero_le _) hi with ⟨j, _, hj⟩ | q
    · cases hj
    · exact q
  have hold : ∀ b, b < w.heap.size → w2.heap[b]? = w.heap[b]? := fun b hb => hs.old b hb fun i _ hi => by cases hi
  have j1 : ∀ i, i < σ.length → (ρ.join σ.length ρ2) i = ρ i := fun i hi => if_pos hi
  have j2 : ∀ i, (ρ.join σ.length ρ2) (σ.length + i) = ρ2 i := fun i => by
    unfold Rn.join
    rw [if_neg (by omega), Nat.add_sub_cancel_left]
  have s1 : ∀ i, i < σ.length → (σ ++ σ2.map (Ent.shift σ.length))[i]? = σ[i]? := fun i hi => List.getElem?_append_left hi
  have s2 : ∀ i, (σ ++ σ2.map (Ent.shift σ.length))[σ.length + i]? = (σ2[i]?).map (Ent.shift σ.length) := fun i => by
    rw [List.getElem?_append_right (by omega), Nat.add_sub_cancel_left, shift_get]
  have hle := le_more (ρ' := ρ.join σ.length ρ2) (σ' := σ ++ σ2.map (Ent.shift σ.length)) (w' := w2) hr j1 (fun i g hi hg => by
    obtain ⟨k, rfl⟩ : ∃ k, i = σ.length + k := ⟨i - σ.length, by omega⟩
    rw [j2] at hg
    exact himg _ _ hg) s1 hold
  have hls : LeS σ.length (sit (apartX X ρ σ w) ρ2 σ2 w2) (sit X (ρ.join σ.length ρ2) (σ ++ σ2.map (Ent.shift σ.length)) w2) := by
    refine ⟨fun a v ⟨h1, h3, h4, h5⟩ => ⟨h1, h3, ?_, fun i hi => ?_⟩, fun i g ⟨h1, l, h3⟩ => ⟨by rw [j2]; exact h1, _, by rw [s2, h3]; rfl⟩, fun i g r n ⟨h1, xs, h3, h4⟩ => ⟨by rw [j2]; exact h1, xs, by rw [s2, h3]; rfl, h4⟩,
      fun i g ⟨h1, f, tm, ps, a, b, s, p, h3⟩ => ⟨by rw [j2]; exact h1, f, _, ps, a, b, s, p, by rw [s2, h3]; rfl⟩, fun t r n v ⟨r', m, h1, h3, h4⟩ => ⟨r', m, by rw [s2, h1]; rfl, h3, fun e => by rw [j2]; exact h4 e⟩⟩
    · by_cases q : a.block < w.heap.size
      · exact (h4 q).1
      · exact hr.top _ _ (by omega)
    · by_cases q : i < σ.length
      · rw [j1 i q] at hi
        obtain ⟨r, n, h6, h7⟩ := (h4 (hr.lt hi).2).2 i hi
        exact ⟨r, n, by rw [s1 i q]; exact h6, h7⟩
      · obtain ⟨k, rfl⟩ : ∃ k, i = σ.length + k := ⟨i - σ.length, by omega⟩
        rw [j2] at hi
        obtain ⟨r, n, h6, h7⟩ := h5 k hi
        exact ⟨r, n, by rw [s2, h6]; rfl, h7⟩
  refine ⟨⟨fun i j g hi hj => ?_, fun i g hi => ?_, fun b o hb => hr.top b o (Nat.le_trans hs.size hb), fun i g hi o => ?_⟩, hls, ⟨hs.os, hs.tape, hs.output, hs.size, fun b hb _ => hold b hb, fun i g hi hg => ?_, fun i hi => ⟨j1 i (by omega), s1 i (by omega)⟩, hle⟩⟩
  · by_cases qi : i < σ.length <;> by_cases qj : j < σ.length
    · rw [j1 i qi] at hi
      rw [j1 j qj] at hj
      exact hr.inj i j g hi hj
    · obtain ⟨k, rfl⟩ : ∃ k, j = σ.length + k := ⟨j - σ.length, by omega⟩
      rw [j1 i qi] at hi
      rw [j2] at hj
      have := (hr.lt hi).2
      have := himg _ _ hj
      omega
    · obtain ⟨k, rfl⟩ : ∃ k, i = σ.length + k := ⟨i - σ.length, by omega⟩
      rw [j1 j qj] at hj
      rw [j2] at hi
      have := (hr.lt hj).2
      have := himg _ _ hi
      omega
    · obtain ⟨k, rfl⟩ : ∃ k, i = σ.length + k := ⟨i - σ.length, by omega⟩
      obtain ⟨k', rfl⟩ : ∃ k, j = σ.length + k := ⟨j - σ.length, by omega⟩
      rw [j2] at hi hj
      have := h2.inj _ _ g hi hj
      omega
  · by_cases q : i < σ.length
    · rw [j1 i q] at hi
      obtain ⟨e, h3, h4⟩ := hr.ent i g hi
      exact ⟨e, by rw [s1 i q]; exact h3, (h4.mono hle).world (hold g (hr.lt hi).2)⟩
    · obtain ⟨k, rfl⟩ : ∃ k, i = σ.length + k := ⟨i - σ.length, by omega⟩
      rw [j2] at hi
      obtain ⟨e, h3, h4⟩ := h2.ent k g hi
      exact ⟨e.shift σ.length, by rw [s2, h3]; rfl, h4.shift hls⟩
  · by_cases q : i < σ.length
    · rw [j1 i q] at hi
      exact hr.fr i g hi o
    · obtain ⟨k, rfl⟩ : ∃ k, i = σ.length + k := ⟨i - σ.length, by omega⟩
      rw [j2] at hi
      exact hr.top g o (himg _ _ hi)
  · by_cases q : i < σ.length
    · rw [j1 i q] at hg
      exact .inl ⟨i, hi, hg⟩
    · obtain ⟨k, rfl⟩ : ∃ k, i = σ.length + k := ⟨i - σ.length, by omega⟩
      rw [j2] at hg
      exact .inr (himg _ _ hg)

end Go.Am
namespace Go.Am
open Go

/-! ### A call that is handed one own list: what it does with that list alone is what it does -/
/-- Block number t alone, as number 0. -/
structure UnS (t : Nat) (S S0 : Sit) : Prop where
  rd : ∀ a v, S.rd a v → S0.rd a v
  tk : ∀ r n v, S.tk t r n v → S0.tk 0 r n v
theorem Rs.unTok {t : Nat} {S S0 : Sit} (h : UnS t S S0) : ∀ {l l0 : List D} {vs : List Value}, unTok t l = some l0 → Rs S l vs → Rs S0 l0 vs
  | [], l0, vs, e, q => by
    cases e
    exact q
  | d :: l, l0, vs, e, ⟨v, rest, e1, p, q⟩ => by
    unfold Am.unTok at e
    cases hl : Am.unTok t l with
    | none => rw [hl] at e; cases e
    | some l' =>
      rw [hl] at e
      dsimp only at e
      have ih := Rs.unTok h hl q
      have low : ∀ d0 : D, d0.lt 0 = true → R S d0 v → R S0 d0 v := fun d0 h0 hd => R.monoN (n := 0) ⟨h.rd, fun i g hi => by omega, fun i g r m hi => by omega, fun i g hi => by omega, fun t r m v hi => by omega⟩ d0 v h0 hd
      split at e
      · rename_i r xs u
        split at e
        · rename_i hu
          subst hu
          cases e
          exact ⟨v, rest, e1, ⟨SlG.mono h.rd (Row.R_mono h.rd r) p.1, h.tk _ _ _ p.2⟩, ih⟩
        · cases e
      · split at e
        · rename_i h0
          cases e
          exact ⟨v, rest, e1, low _ h0 p, ih⟩
        · cases e

def oneX (X : Pl) (ρ : Rn) (σ : List Ent) (w : World) (t : Nat) : Pl := fun b o => b < w.heap.size → X b o ∧ ∀ i, i ≠ t → ρ i = some b → ∃ r n, σ[i]? = some (.tok r n) ∧ o < n * r.size
def oneR (ρ : Rn) (t : Nat) : Rn := fun i => if i = 0 then ρ t else none
def backR (ρ : Rn) (t : Nat) (ρ0 : Rn) : Rn := fun i => if i = t then ρ0 0 else ρ i

theorem tok_frame {P : Program} {f : FuncId} {ro t n n' : Nat} {r : Row} {a a0 : List D} {d : D} {σ : List Ent} (hc : CallOk P 0 f a0 [.tok r n] d [.tok r n']) (hn : n ≤ n') (ht : σ[t]? = some (.tok r n)) (hrt : ro ≤ t) (ha : unTok t a = some a0) :
    CallOk P ro f a σ (d.shift t) (σ.set t (.tok r n')) := by
  intro X ρ w vs hr hro hv
  have htl : t < σ.length := (List.getElem?_eq_some_iff.1 ht).1
  have r0 : ∀ i g, oneR ρ t i = some g → i = 0 ∧ ρ t = some g := fun i g h => by
    unfold oneR at h
    split at h
    · exact ⟨by assumption, h⟩
    · cases h
  have l0 : ∀ i e, ([.tok r n] : List Ent)[i]? = some e → i = 0 ∧ e = .tok r n := fun i e h => by
    cases i with
    | zero => exact ⟨rfl, (Option.some.inj h).symm⟩
    | succ i => cases h
  have l1 : ∀ i e, ([.tok r n'] : List Ent)[i]? = some e → i = 0 ∧ e = .tok r n' := fun i e h => by
    cases i with
    | zero => exact ⟨rfl, (Option.some.inj h).symm⟩
    | succ i => cases h
  have hrel0 : Rel (oneX X ρ σ w t) (oneR ρ t) [.tok r n] w := by
    refine ⟨fun i j g hi hj => ?_, fun i g hi => ?_, fun b o hb q => by omega, fun i g hi o _ => ?_⟩
    · rw [(r0 i g hi).1, (r0 j g hj).1]
    · obtain ⟨rfl, hg⟩ := r0 i g hi
      obtain ⟨e, h1, h2⟩ := hr.ent t g hg
      rw [ht] at h1
      cases h1
      exact ⟨_, rfl, h2⟩
    · obtain ⟨rfl, hg⟩ := r0 i g hi
      exact ⟨hr.fr t g hg o, fun j hj hjg => absurd (hr.inj j t g hjg hg) hj⟩
  have hun : UnS t (sit X ρ σ w) (sit (oneX X ρ σ w t) (oneR ρ t) [.tok r n] w) := by
    refine ⟨fun a v ⟨h1, h2, h3, h4⟩ => ⟨h1, h2, fun _ => ⟨h3, fun i _ hi => h4 i hi⟩, fun i hi => ?_⟩, fun r1 n1 v ⟨r', m, h1, h2, h3⟩ => ?_⟩
    · obtain ⟨rfl, hg⟩ := r0 i _ hi
      obtain ⟨r1, n1, h5, h6⟩ := h4 t hg
      rw [ht] at h5
      cases h5
      exact ⟨r, n, rfl, h6⟩
    · rw [ht] at h1
      cases h1
      exact ⟨r, n, rfl, h2, h3⟩
  refine (hc _ _ w vs hrel0 (Nat.zero_le _) (Rs.unTok hun ha hv)).mono fun e w' ⟨v, ρ0, he, hr2, hR, hs⟩ => ?_
  have himg : ∀ g, ρ0 0 = some g → ρ t = some g ∨ w.heap.size ≤ g := fun g hg => by
    rcases hs.img 0 g (Nat.zero_le _) hg with ⟨j, _, hj⟩ | q
    · exact .inl (r0 j g hj).2
    · exact .inr q
  have hold : ∀ b, b < w.heap.size → ρ t ≠ some b → w'.heap[b]? = w.heap[b]? := fun b hb hne => hs.old b hb fun i _ hi => hne (r0 i b hi).2
  have b1 : backR ρ t ρ0 t = ρ0 0 := if_pos rfl
  have b2 : ∀ i, i ≠ t → backR ρ t ρ0 i = ρ i := fun i hi => if_neg hi
  have s1 : (σ.set t (.tok r n'))[t]? = some (.tok r n') := by simp [htl]
  have s2 : ∀ i, i ≠ t → (σ.set t (.tok r n'))[i]? = σ[i]? := fun i hi => by rw [List.getElem?_set_ne (Ne.symm hi)]
  have hne : ∀ i g, i ≠ t → ρ i = some g → ρ t ≠ some g := fun i g hi h1 h2 => hi (hr.inj i t g h1 h2)
  have hle : Le (sit X ρ σ w) (sit X (backR ρ t ρ0) (σ.set t (.tok r n')) w') := by
    refine ⟨fun a v h => ?_, fun i g ⟨h1, l, h2⟩ => ?_, fun i g r1 m ⟨h1, xs, h2, h3⟩ => ?_, fun i g ⟨h1, f, tm, ps, a, b, s, p, h2⟩ => ?_, fun t1 r1 n1 v h => ?_⟩
    · obtain ⟨h1, h2, h3, h4⟩ := h
      obtain ⟨_, k2, _, k4⟩ := hs.le.rd a v (hun.rd a v ⟨h1, h2, h3, h4⟩)
      refine ⟨h1, k2, h3, fun i hi => ?_⟩
      by_cases q : i = t
      · subst q
        rw [b1] at hi
        obtain ⟨r2, n2, h5, h6⟩ := k4 0 hi
        cases h5
        exact ⟨r, n', s1, h6⟩
      · rw [b2 i q] at hi
        rw [s2 i q]
        exact h4 i hi
    · have q : i ≠ t := fun q => by subst q; rw [ht] at h2; cases h2
      exact ⟨by rw [b2 i q]; exact h1, l, by rw [s2 i q]; exact h2⟩
    · have q : i ≠ t := fun q => by subst q; rw [ht] at h2; cases h2
      exact ⟨by rw [b2 i q]; exact h1, xs, by rw [s2 i q]; exact h2, h3⟩
    · have q : i ≠ t := fun q => by subst q; rw [ht] at h2; cases h2
      exact ⟨by rw [b2 i q]; exact h1, f, tm, ps, a, b, s, p, by rw [s2 i q]; exact h2⟩
    · by_cases q : t1 = t
      · subst q
        obtain ⟨r', m, h5, h6, h7⟩ := hs.le.tk 0 r1 n1 v (hun.tk r1 n1 v h)
        cases h5
        exact ⟨r, n', s1, h6, fun e => by rw [b1]; exact h7 e⟩
      · obtain ⟨r', m, h5, h6, h7⟩ := h
        refine ⟨r', m, by rw [s2 t1 q]; exact h5, h6, fun e => ?_⟩
        rcases h7 e with h8 | ⟨g, c, arr, el, k1, k2, k3, k4⟩
        · exact .inl h8
        · exact .inr ⟨g, c, arr, el, by rw [b2 t1 q]; exact k1, k2, by rw [hold g (hr.lt k1).2 (hne t1 g q k1)]; exact k3, k4⟩
  have hls : LeS t (sit (oneX X ρ σ w t) ρ0 [.tok r n'] w') (sit X (backR ρ t ρ0) (σ.set t (.tok r n')) w') := by
    refine ⟨fun a v ⟨h1, h2, h3, h4⟩ => ⟨h1, h2, ?_, fun i hi => ?_⟩, fun i g ⟨h1, l, h2⟩ => ?_, fun i g r1 m ⟨h1, xs, h2, h3⟩ => ?_, fun i g ⟨h1, f, tm, ps, a, b, s, p, h2⟩ => ?_, fun t1 r1 n1 v ⟨r', m, h5, h6, h7⟩ => ?_⟩
    · by_cases q : a.block < w.heap.size
      · exact (h3 q).1
      · exact hr.top _ _ (by omega)
    · by_cases q : i = t
      · subst q
        rw [b1] at hi
        obtain ⟨r2, n2, h5, h6⟩ := h4 0 hi
        cases h5
        exact ⟨r, n', s1, h6⟩
      · rw [b2 i q] at hi
        rw [s2 i q]
        exact (h3 (hr.lt hi).2).2 i q hi
    · have := (l1 i _ h2).2
      cases this
    · have := (l1 i _ h2).2
      cases this
    · have := (l1 i _ h2).2
      cases this
    · obtain ⟨rfl, e⟩ := l1 t1 _ h5
      cases e
      exact ⟨r, n', by rw [Nat.add_zero]; exact s1, h6, fun e => by rw [Nat.add_zero, b1]; exact h7 e⟩
  refine ⟨v, backR ρ t ρ0, he, ⟨fun i j g hi hj => ?_, fun i g hi => ?_, fun b o hb => hr.top b o (Nat.le_trans hs.size hb), fun i g hi o => ?_⟩, R.shift hls d v hR, ⟨hs.os, hs.tape, hs.output, hs.size, fun b hb h => hold b hb (h t hrt), fun i g hi hg => ?_, fun i hi => ⟨b2 i (by omega), s2 i (by omega)⟩, hle⟩⟩
  · have mix : ∀ j, j ≠ t → ρ0 0 = some g → ρ j = some g → False := fun j hj h1 h2 => by
      rcases himg g h1 with q | q
      · exact hne j g hj h2 q
      · have := (hr.lt h2).2
        omega
    by_cases qi : i = t <;> by_cases qj : j = t
    · rw [qi, qj]
    · subst qi
      rw [b1] at hi
      rw [b2 j qj] at hj
      exact (mix j qj hi hj).elim
    · subst qj
      rw [b1] at hj
      rw [b2 i qi] at hi
      exact (mix i qi hj hi).elim
    · rw [b2 i qi] at hi
      rw [b2 j qj] at hj
      exact hr.inj i j g hi hj
  · by_cases q : i = t
    · subst q
      rw [b1] at hi
      obtain ⟨e, h1, h2⟩ := hr2.ent 0 g hi
      cases h1
      exact ⟨_, s1, h2⟩
    · rw [b2 i q] at hi
      obtain ⟨e, h1, h2⟩ := hr.ent i g hi
      exact ⟨e, by rw [s2 i q]; exact h1, (h2.mono hle).world (hold g (hr.lt hi).2 (hne i g q hi))⟩
  · by_cases q : i = t
    · subst q
      rw [b1] at hi
      rcases himg g hi with q | q
      · exact hr.fr i g q o
      · exact hr.top g o q
    · rw [b2 i q] at hi
      exact hr.fr i g hi o
  · by_cases q : i = t
    · subst q
      rw [b1] at hg
      rcases himg g hg with q | q
      · exact .inl ⟨i, hi, q⟩
      · exact .inr q
    · rw [b2 i q] at hg
      exact .inl ⟨i, hi, hg⟩
theorem tok_pre {ro t n n' : Nat} {r : Row} {σ : List Ent} (hn : n ≤ n') (ht : σ[t]? = some (.tok r n)) (hrt : ro ≤ t) : Pre ro σ (σ.set t (.tok r n')) := by
  have htl : t < σ.length := (List.getElem?_eq_some_iff.1 ht).1
  refine ⟨fun j hj => by rw [List.getElem?_set_ne (by omega)], fun i e he => ?_⟩
  by_cases q : i = t
  · subst q
    rw [ht] at he
    cases he
    exact ⟨.tok r n', by simp [htl], (⟨rfl, hn⟩ : r = r ∧ n ≤ n')⟩
  · exact ⟨e, by rw [List.getElem?_set_ne (Ne.symm q)]; exact he, Kind.refl e⟩
end Go.Am
namespace Go.Am
open Go

/-- What a function that is told by a specification owes: it may be called in whatever world, and changes nothing that was there. -/
def rsit (Y : Pl) (w : World) : Sit := sit Y noRn [] w
def SpecOk (P : Program) (f : FuncId) (sp : List D → (D → Option Res) → Option Res) : Prop :=
  (∃ fn, P.funcs[f]? = some fn ∧ fn.body.isSome = true) ∧ ∀ args k r, sp args k = some r → ∃ d, k d = some r ∧ ∀ (Y : Pl) w vs, (∀ b o, w.heap.size ≤ b → Y b o) → Rs (rsit Y w) args vs →
    Calls P f vs.toArray w fun e w' => ∃ v, e = .returned v ∧ R (rsit Y w') d v ∧ RowKit.Below w.heap.size w w'
def NamesOk (P : Program) : Prop := ∀ (f : FuncId) (fn : Func), P.funcs[f]? = some fn → (fn.name == "runtime.NumGoroutine") = false

/-- What a function owes that is told of by what it does with the one list it is handed. -/
def TokOk (P : Program) (f : FuncId) (sp : List D → Row → Nat → (D → Nat → Option Res) → Option Res) : Prop :=
  (∃ fn, P.funcs[f]? = some fn ∧ fn.body.isSome = true) ∧ ∀ args r n k res, sp args r n k = some res → ∃ d n', k d n' = some res ∧ n ≤ n' ∧ CallOk P 0 f args [.tok r n] d [.tok r n']
structure EnvOk (E : Env) : Prop where
  eq : EqOk E.P E.eqOk
  names : NamesOk E.P
  mixed : E.P.follows .mixedOrders = true
  spec : ∀ f sp, E.spec f = some sp → SpecOk E.P f sp
  tok : ∀ f sp, E.tok f = some sp → TokOk E.P f sp
  call : CallSound E.P E.call
  run : RunSound E.P E.run

theorem calls_below {X : Pl} {ρ : Rn} {σ : List Ent} {w w' : World} (hr : Rel X ρ σ w) {ro : Nat} (hro : ro ≤ σ.length) (h : RowKit.Below w.heap.size w w') : Rel X ρ σ w' ∧ Step ro X ρ σ w ρ σ w' := by
  have hst : Step ro X ρ σ w ρ σ w' := step_more hr hro (fun _ _ => rfl) (fun i g hi hg => (by have := (hr.lt hg).1; omega)) (fun _ _ => rfl) h.block h.size h.os h.tape h.output
  exact ⟨⟨hr.inj, fun i g hi => by
    obtain ⟨e, h1, h2⟩ := hr.ent i g hi
    exact ⟨e, h1, (h2.mono hst.le).world (h.block g (hr.lt hi).2)⟩, fun b o hb => hr.top b o (Nat.le_trans h.size hb), hr.fr⟩, hst⟩

mutual
theorem R.flat {S S' : Sit} : ∀ (d : D) (v : Value), d.flat = true → R S d v → R S' d v
  | .int _ _, _, _, h => h
  | .bool _, _, _, h => h
  | .str _, _, _, h => h
  | .flt _ _, _, _, h => h
  | .nilp, _, _, h => h
  | .nilf, _, _, h => h
  | .agg l, _, hf, ⟨x, e, h⟩ => ⟨x, e, Rs.flat l x hf h⟩
  | .tup l, _, hf, ⟨x, e, h⟩ => ⟨x, e, Rs.flat l x hf h⟩
  | .any, _, hf, _ => by cases hf
  | .sl _ _ _, _, hf, _ => by cases hf
  | .ref _ _ _, _, hf, _ => by cases hf
  | .ptr _ _, _, hf, _ => by cases hf
  | .bp _ _ _, _, hf, _ => by cases hf
  | .ep _ _ _, _, hf, _ => by cases hf
  | .fn _ _ _, _, hf, _ => by cases hf
  | .yld _, _, hf, _ => by cases hf
theorem Rs.flat {S S' : Sit} : ∀ (l : List D) (vs : List Value), D.flats l = true → Rs S l vs → Rs S' l vs
  | [], _, _, h => h
  | d :: l, _, hf, ⟨v, rest, e, p, q⟩ => by
    have hf' : (d.flat && D.flats l) = true := hf
    rw [Bool.and_eq_true] at hf'
    exact ⟨v, rest, e, R.flat d v hf'.1 p, Rs.flat l rest hf'.2 q⟩
end

theorem ct_R {S : Sit} : ∀ {d : D} {v : Value} {c : Sigma CT.T}, R S d v → D.ct d = some c → CT.R S.rd c.1 v c.2
  | .int _ _, _, _, h, e => by cases e; exact h
  | .bool _, _, _, h, e => by cases e; exact h
  | .str _, _, _, h, e => by cases e; exact h
  | .sl _ _ _, _, _, h, e => by cases e; exact h.1
  | .flt _ _, _, _, _, e => by cases e
  | .any, _, _, _, e => by cases e
  | .ref _ _ _, _, _, _, e => by cases e
  | .ptr _ _, _, _, _, e => by cases e
  | .bp _ _ _, _, _, _, e => by cases e
  | .ep _ _ _, _, _, _, e => by cases e
  | .nilp, _, _, _, e => by cases e
  | .fn _ _ _, _, _, _, e => by cases e
  | .yld _, _, _, _, e => by cases e
  | .nilf, _, _, _, e => by cases e
  | .agg _, _, _, _, e => by cases e
  | .tup _, _, _, _, e => by cases e
theorem row_R {S : Sit} : ∀ {l : List D} {vs : List Value} {r : Sigma Row.T}, Rs S l vs → D.row l = some r → Row.R S.rd r.1 vs r.2
  | [], _, _, _, e => by cases e
  | d :: l, _, r, ⟨v, rest, rfl, h, hs⟩, e => by
    unfold D.row at e
    cases hc : D.ct d with
    | none => rw [hc] at e; cases l <;> cases e
    | some c =>
      rw [hc] at e
      cases l with
      | nil =>
        cases e
        cases hs
        exact ⟨v, rfl, ct_R h hc⟩
      | cons d' l' =>
        dsimp only at e
        cases hr : D.row (d' :: l') with
        | none => rw [hr] at e; cases e
        | some r' =>
          rw [hr] at e
          cases e
          exact ⟨v, rest, rfl, ct_R h hc, row_R hs hr⟩
theorem snapP_id {σ : List Ent} : ∀ d : D, d.lt 0 = true → D.snapP σ d = d
  | .ptr _ _, h => by simp [D.lt] at h
  | .any, _ => rfl
  | .int _ _, _ => rfl
  | .bool _, _ => rfl
  | .str _, _ => rfl
  | .flt _ _, _ => rfl
  | .sl _ _ _, _ => rfl
  | .ref _ _ _, _ => rfl
  | .bp _ _ _, _ => rfl
  | .ep _ _ _, _ => rfl
  | .nilp, _ => rfl
  | .fn _ _ _, _ => rfl
  | .yld _, _ => rfl
  | .nilf, _ => rfl
  | .agg _, _ => rfl
  | .tup _, _ => rfl
theorem mapP_id {σ : List Ent} : ∀ l : List D, D.lts 0 l = true → l.map (D.snapP σ) = l
  | [], _ => rfl
  | d :: l, h => by
    have h' : (d.lt 0 && D.lts 0 l) = true := h
    rw [Bool.and_eq_true] at h'
    rw [List.map_cons, snapP_id d h'.1, mapP_id l h'.2]
theorem R.snapP {X : Pl} {ρ : Rn} {σ : List Ent} {w : World} (hr : Rel X ρ σ w) (all : LeN 0 (sit X ρ σ w) (rsit (fun _ _ => True) w)) {d : D} {v : Value} (h : R (sit X ρ σ w) d v) (hl : (D.snapP σ d).lt 0 = true) : R (rsit (fun _ _ => True) w) (D.snapP σ d) v := by
  by_cases q : ∃ id off l rx, d = .ptr id off ∧ σ[id]? = some (.box l) ∧ D.row l = some rx
  · obtain ⟨id, off, l, rx, rfl, he, hx⟩ := q
    simp only [D.snapP, he, hx] at hl ⊢
    obtain ⟨g, ⟨hid, l2, h2⟩, rfl⟩ := h
    obtain ⟨e2, h6, h7⟩ := hr.ent id g hid
    rw [he] at h6
    cases h6
    obtain ⟨arr, el, hg, hrs⟩ := h7
    have hrow := row_R hrs hx
    refine ⟨⟨g, 0, none⟩, arr.toList, by rw [add_at, Nat.zero_add], Row.R_size _ _ _ hrow, fun i u hu => ?_, Row.R_mono all.rd _ _ _ hrow⟩
    rw [add_at]
    refine ⟨rfl, ?_, trivial, fun j hj => (by cases hj)⟩
    simp only [World.cell?, hg, Option.isSome_none, Bool.false_eq_true, if_false]
    simpa using hu
  · have e : D.snapP σ d = d := by
      unfold D.snapP
      split
      · split
        · split
          · exact absurd ⟨_, _, _, _, rfl, ‹_›, ‹_›⟩ q
          · rfl
        · rfl
      · rfl
    rw [e] at hl ⊢
    exact R.monoN all _ _ hl h
theorem Rs.snapPs {X : Pl} {ρ : Rn} {σ : List Ent} {w : World} (hr : Rel X ρ σ w) (all : LeN 0 (sit X ρ σ w) (rsit (fun _ _ => True) w)) : ∀ (l : List D) (vs : List Value), Rs (sit X ρ σ w) l vs → D.lts 0 (l.map (D.snapP σ)) = true → Rs (rsit (fun _ _ => True) w) (l.map (D.snapP σ)) vs
  | [], _, h, _ => h
  | d :: l, _, ⟨v, rest, e, p, q⟩, hl => by
    have hl' : ((D.snapP σ d).lt 0 && D.lts 0 (l.map (D.snapP σ))) = true := hl
    rw [Bool.and_eq_true] at hl'
    exact ⟨v, rest, e, R.snapP hr all p hl'.1, Rs.snapPs hr all l rest q hl'.2⟩
/-- A mutable buffer, as it stands, read as a slice. -/
theorem R.snap {X : Pl} {ρ : Rn} {σ : List Ent} {w : World} (hr : Rel X ρ σ w) {d : D} {v : Value} (h : R (sit X ρ σ w) d v) (hl : (d.snap σ).strip.lt 0 = true) : R (rsit (fun _ _ => True) w) (d.snap σ).strip v := by
  have all : LeN 0 (sit X ρ σ w) (rsit (fun _ _ => True) w) := ⟨fun a v q => ⟨q.1, q.2.1, trivial, fun i hi => (by cases hi)⟩, fun i g h => (by omega), fun i g r m h => (by omega), fun i g h => (by omega), fun t r m v h => (by omega)⟩
  by_cases q : ∃ id off len r xs, d = .ref id off len ∧ σ[id]? = some (.buf r xs)
  · obtain ⟨id, off, len, r, xs, rfl, he⟩ := q
    simp only [D.snap, he, D.strip] at hl ⊢
    rcases h with ⟨g, c, ⟨_, l, h1⟩, _⟩ | ⟨g, r2, m, c, ⟨hid, zs, h2, h3⟩, h4, rfl, h5⟩
    · rw [he] at h1; cases h1
    rw [he] at h2
    simp only [Option.some.injEq, Ent.buf.injEq] at h2
    obtain ⟨rfl, h2⟩ := h2
    cases h2
    obtain ⟨e2, h6, h7⟩ := hr.ent id g hid
    rw [he] at h6
    cases h6
    obtain ⟨arr, el, hg, hrows⟩ := h7
    have hlen : ((xs.drop off).take len).length = len := by simp; omega
    have hrr := rowsR_take len (rowsR_drop off hrows)
    have := slG_mk (ad := ⟨g, off * r.size, none⟩) (c := c) (hrr.mono all.rd) (by rw [hlen]; exact h5) (fun j u hj => by
      rw [add_at]
      refine ⟨rfl, ?_, trivial, fun i hi => (by cases hi)⟩
      rw [List.getElem?_take] at hj
      split at hj
      · simp only [World.cell?, hg, Option.isSome_none, Bool.false_eq_true, if_false]
        simpa using hj
      · cases hj)
    rw [hlen] at this
    exact ⟨this, trivial⟩
  · cases d with
    | fn f a b =>
      obtain ⟨x, y, e, p1, p2⟩ := h
      have hl' : (D.lts 0 (a.map (D.snapP σ)) && D.lts 0 (b.map (D.snapP σ))) = true := hl
      rw [Bool.and_eq_true] at hl'
      exact ⟨x, y, e, Rs.snapPs hr all a x p1 hl'.1, Rs.snapPs hr all b y p2 hl'.2⟩
    | ptr id off =>
      have e : (D.snap σ (.ptr id off)).strip = D.snapP σ (.ptr id off) := by
        show (D.snapP σ (.ptr id off)).strip = _
        simp only [D.snapP]
        split
        · split <;> rfl
        · rfl
      rw [e] at hl ⊢
      exact R.snapP hr all h hl
    | ref id off len =>
      have e : D.snap σ (.ref id off len) = .ref id off len := by
        unfold D.snap
        dsimp only
        split
        · exact absurd ⟨_, _, _, _, _, rfl, ‹_›⟩ q
        · rfl
      rw [e] at hl ⊢
      exact R.monoN all _ _ hl (R.strip _ v h)
    | any => exact R.monoN all _ _ hl (R.strip _ v h)
    | int k n => exact R.monoN all _ _ hl (R.strip _ v h)
    | bool b => exact R.monoN all _ _ hl (R.strip _ v h)
    | str s => exact R.monoN all _ _ hl (R.strip _ v h)
    | flt k n => exact R.monoN all _ _ hl (R.strip _ v h)
    | sl r xs t => exact R.monoN all _ _ hl (R.strip (.sl r xs t) v h)
    | bp i j l => exact R.monoN all _ _ hl (R.strip _ v h)
    | ep r x j => exact R.monoN all _ _ hl (R.strip _ v h)
    | nilp => exact R.monoN all _ _ hl (R.strip _ v h)
    | yld i => exact R.monoN all _ _ hl (R.strip _ v h)
    | nilf => exact R.monoN all _ _ hl (R.strip _ v h)
    | agg l => exact R.monoN all _ _ hl (R.strip (.agg l) v h)
    | tup l => exact R.monoN all _ _ hl (R.strip (.tup l) v h)
theorem Rs.snaps {X : Pl} {ρ : Rn} {σ : List Ent} {w : World} (hr : Rel X ρ σ w) : ∀ (l : List D) (vs : List Value), Rs (sit X ρ σ w) l vs → D.lts 0 (D.strips (l.map (D.snap σ))) = true → Rs (rsit (fun _ _ => True) w) (D.strips (l.map (D.snap σ))) vs
  | [], _, h, _ => h
  | d :: l, _, ⟨v, rest, e, p, q⟩, hl => by
    have hl' : ((d.snap σ).strip.lt 0 && D.lts 0 (D.strips (l.map (D.snap σ)))) = true := hl
    rw [Bool.and_eq_true] at hl'
    exact ⟨v, rest, e, R.snap hr p hl'.1, Rs.snaps hr l rest q hl'.2⟩

theorem callD_ok {E : Env} (hE : EnvOk E) {ro : Nat} {f : FuncId} {args : List D} {σ : List Ent} {k : Kont} {r : Res} (h : callD E ro f args σ k = some r) (hro0 : ro ≤ σ.length) :
    ∃ d σ', k d σ' = some r ∧ CallOk E.P ro f args σ d σ' ∧ Pre ro σ σ' ∧ ∃ fn, E.P.funcs[f]? = some fn ∧ fn.body.isSome = true := by
  have full : E.call ro f (if E.keepTok f then args else D.strips args) σ k = some r → ∃ d σ', k d σ' = some r ∧ CallOk E.P ro f args σ d σ' ∧ Pre ro σ σ' ∧ ∃ fn, E.P.funcs[f]? = some fn ∧ fn.body.isSome = true := fun h => by
    obtain ⟨d, σ', h1, h2, h3⟩ := hE.call _ _ _ _ _ _ h hro0
    refine ⟨d, σ', h1, fun X ρ w vs hr hro hv => ?_, h3⟩
    cases q : E.keepTok f with
    | true => rw [q] at h2; exact h2 X ρ w vs hr hro hv
    | false => rw [q] at h2; exact h2 X ρ w vs hr hro (Rs.strips _ _ hv)
  unfold callD at h
  split at h
  · rename_i sp hsp
    dsimp only at h
    obtain ⟨hb, hs⟩ := hE.spec f sp hsp
    split at h
    · rename_i hl
      split at h
      · rename_i hl2
        obtain ⟨d, h1, h2⟩ := hs _ _ _ h
        split at h1
        · rename_i hd
          refine ⟨d, σ, h1, fun X ρ w vs hr hro hv => ?_, Pre.refl _ _, hb⟩
          have hv2 : Rs (rsit (apartX X ρ σ w) w) (D.strips (args.map (D.snap σ))) vs := by
            have : D.strips (args.map (D.snap σ)) = D.strips args := by
              have key : ∀ l : List D, D.lts 0 (D.strips l) = true → D.strips (l.map (D.snap σ)) = D.strips l := by
                intro l
                induction l with
                | nil => exact fun _ => rfl
                | cons a l ih =>
                  intro q
                  have q' : (a.strip.lt 0 && D.lts 0 (D.strips l)) = true := q
                  rw [Bool.and_eq_true] at q'
                  simp only [List.map_cons, D.strips, ih q'.2]
                  congr 1
                  cases a with
                  | fn f x y =>
                    have q2 : (D.lts 0 x && D.lts 0 y) = true := q'.1
                    rw [Bool.and_eq_true] at q2
                    show D.fn f (x.map (D.snapP σ)) (y.map (D.snapP σ)) = _
                    rw [mapP_id x q2.1, mapP_id y q2.2]
                    rfl
                  | _ => first | rfl | (exact absurd q'.1 (by simp [D.strip, D.lt]))
              exact key args hl2
            rw [this]
            exact Rs.monoN apart_leN _ _ hl2 (Rs.strips _ _ hv)
          refine (h2 (apartX X ρ σ w) w vs (fun b o hb' q => (by omega)) hv2).mono fun e w' ⟨v, he, hR, hbel⟩ => ?_
          obtain ⟨h3, h4⟩ := calls_below hr hro hbel
          refine ⟨v, ρ, he, h3, ?_, h4⟩
          have hle : LeN 0 (rsit (apartX X ρ σ w) w') (sit X ρ σ w') := by
            refine ⟨fun a u ⟨q1, q2, q3, q4⟩ => ⟨q1, q2, ?_, fun i hi => ?_⟩, fun i g h => (by omega), fun i g r m h => (by omega), fun i g h => (by omega), fun t r m v h => (by omega)⟩
            · by_cases q : a.block < w.heap.size
              · exact (q3 q).1
              · exact hr.top _ _ (by omega)
            · exact (q3 (hr.lt hi).2).2 i hi
          exact R.monoN hle d v hd hR
        · cases h1
      · obtain ⟨d, h1, h2⟩ := hs _ _ _ h
        split at h1
        · rename_i hd
          refine ⟨d, σ, h1, fun X ρ w vs hr hro hv => ?_, Pre.refl _ _, hb⟩
          refine (h2 (fun _ _ => True) w vs (fun _ _ _ => trivial) (Rs.snaps hr _ _ hv hl)).mono fun e w' ⟨v, he, hR, hbel⟩ => ?_
          obtain ⟨h3, h4⟩ := calls_below hr hro hbel
          exact ⟨v, ρ, he, h3, R.flat d v hd hR, h4⟩
        · cases h1
    · exact full h
  · dsimp only at h
    by_cases hl : D.lts 0 (if E.keepTok f then args else D.strips args) = true
    · rw [if_pos hl] at h
      obtain ⟨d, σ2, h1, h2, _, h3⟩ := hE.call _ _ _ _ _ _ h (Nat.zero_le _)
      refine ⟨_, _, h1, fun X ρ w vs hr hro hv => ?_, Pre.app hro0 _, h3⟩
      have hv2 : Rs (sit (apartX X ρ σ w) noRn [] w) (if E.keepTok f then args else D.strips args) vs := by
        refine Rs.monoN apart_leN _ _ hl ?_
        split
        · exact hv
        · exact Rs.strips _ _ hv
      refine (h2 (apartX X ρ σ w) noRn w vs apart_rel (Nat.le_refl _) hv2).mono fun e w' ⟨v, ρ2, he, hr2, hR, hs2⟩ => ?_
      obtain ⟨h4, h5, h6⟩ := join_ok hr hr2 hs2 hro
      exact ⟨v, _, he, h4, R.shift h5 d v hR, h6⟩
    · rw [if_neg hl] at h
      split at h
      · rename_i sp hsp
        obtain ⟨hb, hs⟩ := hE.tok f sp hsp
        unfold tokD at h
        split at h
        · rename_i t _
          split at h
          · rename_i a0 ha0
            split at h
            · rename_i r n hσ
              split at h
              · rename_i hrt
                obtain ⟨d, n', h1, hn, h2⟩ := hs _ _ _ _ _ h
                refine ⟨_, _, h1, fun X ρ w vs hr hro hv => ?_, tok_pre hn hσ hrt, hb⟩
                refine tok_frame h2 hn hσ hrt ha0 X ρ w vs hr hro ?_
                split
                · exact hv
                · exact Rs.strips _ _ hv
              · cases h
            · cases h
          · cases h
        · cases h
      · exact full h

theorem call_op {E : Env} (hE : EnvOk E) {ro : Nat} {o : Oper} {f : Operand} {args : Array Operand} {ats : Array TypeId} (ho : o.op = .call ⟨.value f, args, ats⟩) {g : FuncId} {x y : List D} {tm : List D} {σ : List Ent} (hf : ev E.P 0 tm f = .fn g x y) {d : D} {σ' : List Ent}
    (h : CallOk E.P ro g (x ++ evArgs E.P tm args.toList ats.toList ++ y) σ d σ') (hb : ∃ fn, E.P.funcs[g]? = some fn ∧ fn.body.isSome = true) : OpOk E.P ro o tm σ d σ' := by
  intro X ρ w a l n K Q hr hro ha hk
  have hfe := ha f (by simp [ho, Op.operands, Call.operands]) 0
  rw [hf] at hfe
  obtain ⟨vx, vy, e1, h1, h2⟩ := hfe
  obtain ⟨fn, hfn, hbody⟩ := hb
  have hargs := evArgs_ok (P := E.P) args.toList ats.toList fun z hz => ha z (by simp [ho, Op.operands, Call.operands] at hz ⊢; exact .inr hz)
  have hc := h X ρ w _ hr hro (Rs.app (Rs.app h1 hargs) h2)
  have hnone : fn.body.isNone = false := by cases q : fn.body <;> simp [q] at hbody ⊢
  have hrun : (execOp a.eval o).run E.P w = .ok (.enter g (vx ++ args.toList.map a.eval ++ vy).toArray) w := by
    have e2 : vx.toArray ++ args.map a.eval ++ vy.toArray = (vx ++ args.toList.map a.eval ++ vy).toArray := by
      apply Array.ext'
      simp
    simp only [execOp, ho, resolve, e1, Deferred.ofValue, Sem.run_bind, Sem.run_pure, Result.andThen_ok, invoke, callFunc, run_program, hfn, hE.names g fn hfn, Bool.false_eq_true, if_false, hnone, e2]
  refine ⟨fun f _ => fen_fn l f, ?_⟩
  rw [Oper.semAt_eq _ _ _ (by rw [ho]; intro c hc; cases hc), hrun]
  refine ⟨fun hd => (by rw [fen_depth] at hd; cases hd), (fen_callsIn hc).mono fun e w' ⟨v, ρ', he, h3, h4, h5⟩ => ?_⟩
  subst he
  exact hk v ρ' w' h3 h4 h5

end Go.Am
namespace Go.Am
open Go

theorem loop_put {ro : Nat} {X : Pl} {ρ : Rn} {σ : List Ent} {w : World} (hr : Rel X ρ σ w) {id g : Nat} (hid : ρ id = some g) (hro : ro ≤ id) {f : FuncId} {tm : List D} {ps : List Tmp} {a b : Code} {s : LoopState} {p : Option Code} (he : σ[id]? = some (.loop f tm ps a b s p)) (s' : LoopState) (p' : Option Code) :
    ∃ L : Loop, w.heap[g]? = some (.loop L) ∧ Rs (sit X ρ σ w) tm L.tmps.toList ∧ L.params = ps.toArray ∧ L.assign = a ∧ L.body = b ∧ L.state = s ∧ L.pending = p ∧
      Rel X ρ (σ.set id (.loop f tm ps a b s' p')) (w.putObj g (.loop { L with state := s', pending := p' })) ∧ Step ro X ρ σ w ρ (σ.set id (.loop f tm ps a b s' p')) (w.putObj g (.loop { L with state := s', pending := p' })) := by
  obtain ⟨e, h1, h2⟩ := hr.ent id g hid
  rw [he] at h1
  cases h1
  obtain ⟨L, h2, h3, h4, h5, h6, h7, h8⟩ := h2
  have hg := (Array.getElem?_eq_some_iff.1 h2).1
  have hoth : ∀ b, b ≠ g → (w.putObj g (.loop { L with state := s', pending := p' })).heap[b]? = w.heap[b]? := fun b q => World.putObj_heap_other q
  have hle := le_write (w' := w.putObj g (.loop { L with state := s', pending := p' })) (e' := .loop f tm ps a b s' p') hr hid he trivial hoth (fun r n q => by cases q)
  exact ⟨L, h2, h3, h4, h5, h6, h7, h8, rel_write hr hid he hoth World.putObj_size hle ⟨_, World.putObj_heap_same hg, Rs.mono hle _ _ h3, h4, h5, h6, rfl, rfl⟩,
    step_write hid hro hoth World.putObj_size rfl rfl rfl hle⟩

theorem foldl_set {S : Sit} : ∀ (ps : List Tmp) (as : List D) (vs : List Value) (tm : List D) (t : Array Value), as.length = ps.length → Rs S as vs → Rs S tm t.toList →
    Rs S ((ps.zip as).foldl (fun t p => t.set p.1 p.2) tm) ((ps.zip vs).foldl (fun (t : Array Value) (p : Tmp × Value) => t.setIfInBounds p.1 p.2) t).toList
  | [], as, vs, tm, t, h, _, ht => by simpa using ht
  | p :: ps, [], vs, tm, t, h, _, _ => by simp at h
  | p :: ps, a :: as, _, tm, t, h, ⟨v, rest, e, q1, q2⟩, ht => by
    rw [e]
    simp only [List.zip_cons_cons, List.foldl_cons]
    exact foldl_set ps as rest _ _ (by simpa using h) q2 (by rw [Array.toList_setIfInBounds]; exact Rs.set p ht q1)

theorem Step.lp {ro : Nat} {X : Pl} {ρ ρ' : Rn} {σ σ' : List Ent} {w w' : World} (h : Step ro X ρ σ w ρ' σ' w') {id g : Nat} (hl : (sit X ρ σ w).lp id g) : ρ' id = some g := (h.le.lp id g hl).1

theorem fen_in (l : Option Nat) (g : Nat) : (fen l).inRound g = fen (some g) := by cases l <;> rfl

set_option maxHeartbeats 1000000 in
theorem yieldD_ok {E : Env} (hE : EnvOk E) {ro : Nat} {o : Oper} {f : Operand} {args : Array Operand} {ats : Array TypeId} (ho : o.op = .call ⟨.value f, args, ats⟩) {id : Nat} {tm : List D} {σ : List Ent} (hf : ev E.P 0 tm f = .yld id) {k : Kont} {r : Res}
    (h : yieldD E ro id (evArgs E.P tm args.toList ats.toList) σ k = some r) (hro0 : ro ≤ σ.length) : ∃ d σ', k d σ' = some r ∧ OpOk E.P ro o tm σ d σ' ∧ Pre ro σ σ' := by
  unfold yieldD at h
  split at h
  case isFalse => cases h
  rename_i hroid
  split at h
  case h_2 => cases h
  rename_i fn tm0 ps assign body he
  split at h
  case isFalse => cases h
  rename_i hlen
  obtain ⟨e1, st1, h1, hc1, hp1⟩ := hE.run _ _ _ _ _ _ _ h hro0
  split at h1
  case h_2 => cases h1
  split at h1
  case h_2 => cases h1
  rename_i fn1 tm1 ps1 assign1 body1 he1
  have hro1 : ro ≤ (st1.σ.set id (.loop fn1 tm1 ps1 assign1 body1 .busy none)).length := by
    rw [List.length_set]
    exact Nat.le_trans hro0 hp1.2.length
  obtain ⟨e2, st2, h2, hc2, hp2⟩ := hE.run _ _ _ _ _ _ _ h1 hro1
  split at h2
  case h_2 => cases h2
  rename_i fn2 tm2 ps2 assign2 body2 s2 p2 he2
  -- what the round's end hands back
  have key : ∀ (s : LoopState) (j : Option Code) (b : Bool), j.isNone = b → s = (if b then .ready else .done) →
      (∀ (Q : Ending → World → Prop) (a' : Act) (w' : World) (g : Nat), (∃ v w2, (Instr.endRound g j).run E.P w' = .ok v w2 ∧ Q (.returned v) w2) → roundPost E.P g Q e2 a' w') →
      OpOk E.P ro o tm σ (.bool b) ((St.mk [] (st2.σ.set id (.loop fn2 tm2 ps2 assign2 body2 s j))).trunc σ.length).σ := by
    intro s j b hj hs hpost X ρ w a l n K Q hr hro ha hk
    have hfe := ha f (by simp [ho, Op.operands, Call.operands]) 0
    rw [hf] at hfe
    obtain ⟨g, hlp, hfe⟩ := hfe
    have hid := hlp.1
    obtain ⟨L, q1, q2, q3, q4, q5, q6, q7, _, _⟩ := loop_put (ro := ro) hr hid hroid he .ready none
    have hargs := evArgs_ok (P := E.P) args.toList ats.toList fun z hz => ha z (by simp [ho, Op.operands, Call.operands] at hz ⊢; exact .inr hz)
    have hal : (args.toList.map a.eval).length = ps.length := by rw [Rs.length hargs, hlen]
    have hrun : (execOp a.eval o).run E.P w = .ok (.round g L.fn ((L.params.zip (args.map a.eval)).foldl (fun tmps (t, a) => tmps.setIfInBounds t a) L.tmps) L.assign L.body) w := by
      have hy := run_yield (P := E.P) (args := args.map a.eval) q1 (by rw [q3]; simpa using hal)
      simp only [execOp, ho, resolve, hfe, Deferred.ofValue, Sem.run_bind, Sem.run_pure, Result.andThen_ok, invoke]
      rw [show (#[] : Array Value) ++ args.map a.eval = args.map a.eval by simp]
      exact hy
    refine ⟨fun f _ => fen_fn l f, ?_⟩
    rw [Oper.semAt_eq _ _ _ (by rw [ho]; intro c hc; cases hc), hrun]
    refine ⟨fun hd => (by rw [fen_depth] at hd; cases hd), roundIn_of_wpIn (fen_fn l _) ?_⟩
    rw [fen_in]
    have hstart := foldl_set (S := sit X ρ σ w) ps _ _ tm0 L.tmps hlen hargs q2
    have hzip : ((L.params.zip (args.map a.eval)).foldl (fun tmps (t, a) => tmps.setIfInBounds t a) L.tmps) = ((ps.zip (args.toList.map a.eval)).foldl (fun (t : Array Value) (p : Tmp × Value) => t.setIfInBounds p.1 p.2) L.tmps) := by
      rw [q3, ← Array.foldl_toList]
      simp
    rw [hzip, q4, q5]
    refine wpIn_mono (hc1 X ρ w _ (some g) _ w.heap.size hr hro hstart hlp (Nat.le_refl _) trivial) ?_
    rintro e a1 w1 ⟨rfl, ρ1, r1, t1, s1, d1⟩
    have hid1 : ρ1 id = some g := s1.lp hlp
    have hro1 := s1.ro_le hro
    obtain ⟨L1, u1, u2, u3, u4, u5, u6, u7, r2, s2'⟩ := loop_put (ro := ro) r1 hid1 hroid he1 .busy none
    refine ⟨_, run_beginRound u1 u6, ?_⟩
    have heq : w1.putObj g (.loop { L1 with state := .busy }) = w1.putObj g (.loop { L1 with state := .busy, pending := none }) := by rw [← u7]
    rw [heq]
    have hlp1 : (sit X ρ1 (st1.σ.set id (.loop fn1 tm1 ps1 assign1 body1 .busy none)) (w1.putObj g (.loop { L1 with state := .busy, pending := none }))).lp id g :=
      s2'.le.lp id g (s1.le.lp id g hlp)
    refine wpIn_mono (hc2 X ρ1 _ a1 (some g) _ w.heap.size r2 (by rw [List.length_set]; exact hro1) (Rs.mono s2'.le _ _ t1) hlp1 (Nat.le_trans s1.size s2'.size) (Dfs.step s2' d1)) ?_
    rintro e a2 w2 ⟨rfl, ρ2, r3, t3, s3, _⟩
    have hid2 : ρ2 id = some g := s3.lp hlp1
    obtain ⟨L2, v1, v2, v3, v4, v5, v6, v7, r4, s4⟩ := loop_put (ro := ro) r3 hid2 hroid he2 s j
    apply hpost
    refine ⟨_, _, run_endRound j v1, ?_⟩
    have hs' : (if j.isNone then LoopState.ready else .done) = s := by rw [hj, hs]
    rw [hs', hj]
    obtain ⟨ρ5, r5, _, s5, _⟩ := trunc_ok (st := ⟨[], st2.σ.set id (.loop fn2 tm2 ps2 assign2 body2 s j)⟩) (vs := []) (n := σ.length) r4 rfl (((s1.trans s2').trans s3).trans s4) (Nat.le_refl _) hro
    exact hk _ ρ5 _ r5 rfl s5
  have hpre : ∀ s j, Pre ro σ ((St.mk [] (st2.σ.set id (.loop fn2 tm2 ps2 assign2 body2 s j))).trunc σ.length).σ := fun s j => by
    have h9 := ((hp1.trans (Pre.set (e' := .loop fn1 tm1 ps1 assign1 body1 .busy none) hroid he1 trivial)).trans hp2).trans (Pre.set (e' := .loop fn2 tm2 ps2 assign2 body2 s j) hroid he2 trivial)
    unfold St.trunc
    split
    · exact h9.take (Nat.le_refl _) hro0
    · exact h9
  dsimp only at h2
  split at h2
  · exact ⟨_, _, h2, key .ready none true rfl rfl fun Q a' w' g q => q, hpre _ _⟩
  · exact ⟨_, _, h2, key .done (some .ret) false rfl rfl fun Q a' w' g q => q, hpre _ _⟩
  · exact ⟨_, _, h2, key .done (some (.exit _)) false rfl rfl fun Q a' w' g q => q, hpre _ _⟩
  · cases h2

end Go.Am
namespace Go.Am
open Go

theorem ownL_app : ∀ (l : List D) (σ : List Ent), ∃ new, (ownL l σ).2 = σ ++ new
  | [], σ => ⟨[], by simp [ownL]⟩
  | d :: l, σ => by
    by_cases q : ∃ r xs, d = .sl r xs .fresh
    · obtain ⟨r, xs, rfl⟩ := q
      obtain ⟨new, h⟩ := ownL_app l (σ ++ [.tok r 0])
      exact ⟨.tok r 0 :: new, by simp only [ownL]; rw [h]; simp⟩
    · obtain ⟨new, h⟩ := ownL_app l σ
      have e : (ownL (d :: l) σ).2 = (ownL l σ).2 := by
        rw [ownL]
        exact fun r xs hd => q ⟨r, xs, hd⟩
      exact ⟨new, by rw [e, h]⟩
theorem boxD_pre {ro : Nat} {σ : List Ent} (hro : ro ≤ σ.length) (l : List D) : Pre ro σ (boxD σ l).2 := by
  obtain ⟨new, h⟩ := ownL_app l σ
  show Pre ro σ ((ownL l σ).2 ++ _)
  rw [h, List.append_assoc]
  exact Pre.app hro _
theorem storeD_pre {P : Program} {ro : Nat} {σ σ' : List Ent} {t : TypeId} {p d : D} (hro : ro ≤ σ.length) (h : storeD P ro σ t p d = some σ') : Pre ro σ σ' := by
  unfold storeD at h
  split at h
  · cases h
  rename_i ls hc
  split at h
  case isFalse => cases h
  split at h
  · split at h
    case isFalse => cases h
    rename_i hid
    split at h
    · rename_i l he
      split at h
      case isFalse => cases h
      simp only [Option.some.injEq] at h
      subst h
      obtain ⟨new, hn⟩ := ownL_app ls σ
      rw [hn]
      exact (Pre.app hro new).trans (Pre.set hid (get_app he) trivial)
    · cases h
  · split at h
    case isFalse => cases h
    rename_i hid
    split at h
    · rename_i r xs he
      split at h
      case isFalse => cases h
      simp only [Option.map_eq_some_iff] at h
      obtain ⟨x, _, rfl⟩ := h
      exact Pre.set hid he ⟨rfl, by simp⟩
    · cases h
  · cases h

theorem boxed_op {P : Program} {ro : Nat} {o : Oper} {tm : List D} {σ : List Ent} {l : List D} (hd : ∀ c, o.op ≠ .defer c)
    (h : ∀ S (a : Act), EvR S P a tm o.op.operands.toList → ∃ cs : Array Value, Rs S l cs.toList ∧ ∃ el, ∀ w, (execOp a.eval o).run P w = .ok (.value (.pointer (some ⟨w.heap.size, 0, none⟩))) (w.alloc (.cells cs el))) :
    OpOk P ro o tm σ (boxD σ l).1 (boxD σ l).2 :=
  OpOk.of_run hd fun X ρ w a hr hro ha => by
    obtain ⟨cs, h1, el, h2⟩ := h _ a ha
    obtain ⟨ρ', h3, h4, h5⟩ := boxD_ok (P := P) hr hro h1 el
    exact ⟨_, ρ', _, .inl (h2 w), h3, h4, h5⟩

set_option maxHeartbeats 1000000 in
theorem opD_ok {E : Env} (hE : EnvOk E) {ro : Nat} {o : Oper} {st : St} {k : Kont} {r : Res} (hd : ∀ c, o.op ≠ .defer c) (hro0 : ro ≤ st.σ.length) (h : opD E ro o st k = some r) : ∃ d σ', k d σ' = some r ∧ OpOk E.P ro o st.tm st.σ d σ' ∧ Pre ro st.σ σ' := by
  unfold opD at h
  split at h
  · obtain ⟨d, h1, h2⟩ := pure_op (ro := ro) (σ := st.σ) hE.eq hd h
    exact ⟨d, st.σ, h1, h2, Pre.refl _ _⟩
  unfold memD at h
  split at h
  case h_1 t ho =>
    split at h
    · rename_i l hl
      obtain ⟨i, z, h1, h2, h3⟩ := zero_ok hl
      refine ⟨_, _, h, boxed_op hd fun S a ha => ⟨z.cells, h3 S, t, fun w => ?_⟩, boxD_pre hro0 _⟩
      simp [execOp, ho, Instr.alloc, zeroValue, typeInfo, h1, h2, newVar, newRow]
    · cases h
  case h_2 t x ho =>
    split at h
    · rename_i l hl
      refine ⟨_, _, h, boxed_op hd fun S a ha => ⟨(a.eval x).cells, R.cells (ha x (by simp [ho, Op.operands]) t) hl, t, fun w => ?_⟩, boxD_pre hro0 _⟩
      simp [execOp, ho, Instr.box, newVar, newRow]
    · cases h
  case h_3 t n ps ho =>
    obtain ⟨d, σ', h1, hp, h2⟩ := buildSliceD_ok (ro := ro) h
    refine ⟨d, σ', h1, OpOk.of_run hd fun X ρ w a hr hro ha => ?_, hp hro0⟩
    obtain ⟨v, ρ', w', h3, h4⟩ := h2 X ρ w a hr hro (fun x hx => ha x (by simpa [ho, Op.operands] using hx))
    exact ⟨v, ρ', w', .inl (by simp [execOp, ho, h3]), h4⟩
  case h_4 t x ho =>
    split at h
    · rename_i d hl
      refine ⟨d, _, h, OpOk.of_run hd fun X ρ w a hr hro ha => ?_, Pre.refl _ _⟩
      obtain ⟨ad, u, h1, h2, h3⟩ := loadD_ok (P := E.P) hr (ha x (by simp [ho, Op.operands]) 0) hl
      exact ⟨u, ρ, w, .inl (by simp [execOp, ho, Instr.loadAt, Instr.sureAddr, h1, h2]), hr, h3, Step.refl _ _ _ _ _⟩
    · cases h
  case h_5 t x y ho =>
    split at h
    · rename_i σ' hs
      refine ⟨_, σ', h, OpOk.of_run hd fun X ρ w a hr hro ha => ?_, storeD_pre hro0 hs⟩
      obtain ⟨ad, w', h1, h2, h3, h4⟩ := storeD_ok (P := E.P) hr hro (ha x (by simp [ho, Op.operands]) 0) (ha y (by simp [ho, Op.operands]) t) hs
      exact ⟨undef, ρ, w', .inr ⟨by simp [execOp, ho, Instr.storeAt, Instr.sureAddr, h1, h2], rfl⟩, h3, ⟨[], rfl, rfl⟩, h4⟩
    · cases h
  case h_6 t l c ho =>
    obtain ⟨d, σ', h1, hp, h2⟩ := makeD_ok (ro := ro) h
    refine ⟨d, σ', h1, OpOk.of_run hd fun X ρ w a hr hro ha => ?_, hp hro0⟩
    obtain ⟨v, ρ', w', h3, h4⟩ := h2 X ρ w _ _ hr hro (ha l (by simp [ho, Op.operands]) 0) (ha c (by simp [ho, Op.operands]) 0)
    exact ⟨v, ρ', w', .inl (by simp [execOp, ho, h3]), h4⟩
  case h_7 t x lo hi ho =>
    obtain ⟨d, h1, h2⟩ := sliceD_ok h
    refine ⟨d, st.σ, h1, OpOk.of_run hd fun X ρ w a hr hro ha => ?_, Pre.refl _ _⟩
    obtain ⟨v, h3, h4⟩ := h2 _ _ (lo.map a.eval) (hi.map a.eval) (ha x (by simp [ho, Op.operands]) t) (fun d hd => by
      cases lo with
      | none => cases hd
      | some q => cases hd; exact ⟨_, rfl, ha q (by simp [ho, Op.operands]) 0⟩) (fun hd => by cases lo <;> simp_all) (fun d hd => by
      cases hi with
      | none => cases hd
      | some q => cases hd; exact ⟨_, rfl, ha q (by simp [ho, Op.operands]) 0⟩) (fun hd => by cases hi <;> simp_all)
    exact ⟨v, ρ, w, .inl (by simp [execOp, ho, h4 w]), hr, h3, Step.refl _ _ _ _ _⟩
  case h_8 t x ix ho =>
    obtain ⟨d, h1, h2⟩ := indexD_ok h
    refine ⟨d, st.σ, h1, OpOk.of_run hd fun X ρ w a hr hro ha => ?_, Pre.refl _ _⟩
    obtain ⟨v, h3, h4⟩ := h2 X ρ st.σ w _ _ (Kin.refl _) (ha x (by simp [ho, Op.operands]) t) (ha ix (by simp [ho, Op.operands]) 0)
    exact ⟨v, ρ, w, .inl (by simp [execOp, ho, h4 w]), hr, h3, Step.refl _ _ _ _ _⟩
  case h_9 args ats ho =>
    split at h
    · rename_i s x t u he1 he2
      have e1 : args = #[s, x] := by rw [← Array.toArray_toList (xs := args), he1]
      have e2 : ats = #[t, u] := by rw [← Array.toArray_toList (xs := ats), he2]
      subst e1 e2
      split at h
      case isFalse => cases h
      rename_i htu
      subst htu
      obtain ⟨d, σ', h1, hp, h2⟩ := appendD_ok h
      refine ⟨d, σ', h1, OpOk.of_run hd fun X ρ w a hr hro ha => ?_, hp hro0⟩
      obtain ⟨v, ρ', w', h3, h4⟩ := h2 X ρ w _ _ o.type hr hro (ha s (by simp [ho, Op.operands, Call.operands]) t) (ha x (by simp [ho, Op.operands, Call.operands]) t)
      exact ⟨v, ρ', w', .inl (by simp [execOp, ho, resolve, invoke, builtin, h3]), h4⟩
    · cases h
  case h_10 args ats ho =>
    split at h
    · rename_i s x t u he1 he2
      have e1 : args = #[s, x] := by rw [← Array.toArray_toList (xs := args), he1]
      have e2 : ats = #[t, u] := by rw [← Array.toArray_toList (xs := ats), he2]
      subst e1 e2
      obtain ⟨d, σ', h1, hp, h2⟩ := copyD_ok h
      refine ⟨d, σ', h1, OpOk.of_run hd fun X ρ w a hr hro ha => ?_, hp hro0⟩
      obtain ⟨v, ρ', w', h3, h4⟩ := h2 X ρ w _ _ u o.type hr hro (ha s (by simp [ho, Op.operands, Call.operands]) t) (ha x (by simp [ho, Op.operands, Call.operands]) u)
      exact ⟨v, ρ', w', .inl (by simp [execOp, ho, resolve, invoke, builtin, h3]), h4⟩
    · cases h
  case h_11 f args ats ho =>
    split at h
    · rename_i g x y hf
      obtain ⟨d, σ', h1, h2, hp, h3⟩ := callD_ok hE h hro0
      exact ⟨d, σ', h1, call_op hE ho hf h2 h3, hp⟩
    · rename_i id hf
      exact yieldD_ok hE ho hf h hro0
    · cases h
  case h_12 => cases h

end Go.Am
namespace Go.Am
open Go

theorem rs_get {S : Sit} {tm : List D} {t : Array Value} (h : Rs S tm t.toList) {i : Nat} {d : D} (hd : tm.getD i .any = d) (hn : d ≠ .any) : ∃ v, t[i]? = some v ∧ R S d v := by
  rw [List.getD_eq_getElem?_getD] at hd
  cases q : tm[i]? with
  | none => rw [q] at hd; exact absurd hd.symm hn
  | some d' =>
    rw [q] at hd
    simp only [Option.getD_some] at hd
    subst hd
    obtain ⟨v, h1, h2⟩ := Rs.get h q
    exact ⟨v, by simpa using h1, h2⟩

/-- A temporary that is known to hold this. -/
theorem rs_known {S : Sit} {tm : List D} {t : Array Value} (h : Rs S tm t.toList) {i : Nat} {d : D} {v : Value} (hv : t[i]? = some v) (hd : R S d v) : Rs S (tm.set i d) t.toList := by
  have := Rs.set i h hd
  have e : t.toList.set i v = t.toList := by
    apply List.ext_getElem?
    intro j
    rw [List.getElem?_set]
    split
    · rename_i q
      subst q
      have hlt := (Array.getElem?_eq_some_iff.1 hv).1
      rw [if_pos (by simpa using hlt)]
      simpa using hv.symm
    · rfl
  rwa [e] at this

theorem guardD_ok {ops : List Oper} {o : Oper} {tm : List D} {yes no : List D → Option Res} {r : Res} (h : guardD ops o tm yes no = some r) :
    (∃ tm', yes tm' = some r ∧ ∀ S (t : Array Value), Rs S tm t.toList → Rs S tm' t.toList ∧ Region.wanted o (yielded ops.toArray t) = true) ∨
    (∃ tm', no tm' = some r ∧ ∀ S (t : Array Value), Rs S tm t.toList → Rs S tm' t.toList ∧ Region.wanted o (yielded ops.toArray t) = false) := by
  unfold guardD at h
  split at h
  · rename_i hg
    exact .inl ⟨tm, h, fun S t ht => ⟨ht, by unfold Region.wanted; rw [hg]⟩⟩
  · rename_i j want hg
    split at h
    · rename_i hj
      refine .inr ⟨tm, h, fun S t ht => ⟨ht, ?_⟩⟩
      unfold Region.wanted yielded
      rw [hg]
      simp [hj]
    · rename_i i hj
      split at h
      · rename_i b hb
        have key : ∀ S (t : Array Value), Rs S tm t.toList → t[i]? = some (.bool b) ∧ yielded ops.toArray t j = some b := fun S t ht => by
          obtain ⟨v, h1, h2⟩ := rs_get ht hb (by simp)
          rw [show v = _ from h2] at h1
          exact ⟨h1, by unfold yielded; simp [hj, h1]⟩
        have fin : ∀ (S : Sit) (t : Array Value), Rs S tm t.toList → Rs S (tm.set i (.bool b)) t.toList ∧ Region.wanted o (yielded ops.toArray t) = (b == want) := fun S t ht => by
          obtain ⟨h1, h2⟩ := key S t ht
          refine ⟨rs_known ht h1 rfl, ?_⟩
          unfold Region.wanted
          rw [hg]
          simp [h2]
        cases b <;> cases want <;> simp only [cond_true, cond_false, if_true, if_false, Bool.false_eq_true] at h
        · exact .inl ⟨_, h, fun S t ht => ⟨(fin S t ht).1, (fin S t ht).2⟩⟩
        · exact .inr ⟨_, h, fun S t ht => ⟨(fin S t ht).1, (fin S t ht).2⟩⟩
        · exact .inr ⟨_, h, fun S t ht => ⟨(fin S t ht).1, (fin S t ht).2⟩⟩
        · exact .inl ⟨_, h, fun S t ht => ⟨(fin S t ht).1, (fin S t ht).2⟩⟩
      · rename_i hb
        refine .inr ⟨tm, h, fun S t ht => ⟨ht, ?_⟩⟩
        obtain ⟨v, h1, h2⟩ := rs_get ht hb (by simp)
        obtain ⟨x, h3, h4⟩ := h2
        unfold Region.wanted yielded
        rw [hg]
        simp [hj, h1, h3]
      · cases h

theorem put_tmps {S : Sit} {tm : List D} {a : Act} {d : D} {v : Value} (dst : Option Tmp) (h : Rs S tm a.tmps.toList) (hd : R S d v) : Rs S ((St.mk tm []).put dst d []).tm (a.put dst v).tmps.toList := by
  cases dst with
  | none => exact h
  | some t =>
    show Rs S (tm.set t d) (a.tmps.setIfInBounds t v).toList
    rw [Array.toList_setIfInBounds]
    exact Rs.set t h hd
theorem put_σ (tm : List D) (σ0 σ : List Ent) (dst : Option Tmp) (d : D) : ((St.mk tm σ0).put dst d σ).σ = σ := by cases dst <;> rfl
theorem put_tm (tm : List D) (σ0 σ : List Ent) (dst : Option Tmp) (d : D) : ((St.mk tm σ0).put dst d σ).tm = ((St.mk tm []).put dst d []).tm := by cases dst <;> rfl
theorem put_defers (a : Act) (dst : Option Tmp) (v : Value) : (a.put dst v).defers = a.defers := by cases dst <;> rfl

def NoSel (ops : List Oper) : Prop := ∀ o ∈ ops, (∀ c, o.op ≠ .defer c) ∧ ∀ cs b, o.op ≠ .select cs b
theorem noSel_ok {ops : List Oper} (h : noSelB ops = true) : NoSel ops := fun o ho => by
  have := List.all_eq_true.1 h o ho
  constructor <;> (intros; intro q; rw [q] at this; cases this)

theorem regionD_ok {E : Env} (hE : EnvOk E) {ro : Nat} {ops : List Oper} : ∀ (rest : List Oper) (st : St) (k : St → Option Res) (r : Res), NoSel rest → ro ≤ st.σ.length → regionD E ro ops rest st k = some r →
    ∃ st', k st' = some r ∧ Pre ro st.σ st'.σ ∧ ∀ X ρ w (a : Act) (l : Option Nat) (n N : Nat) (Q : Exit → Act → World → Prop), Rel X ρ st.σ w → ro ≤ st.σ.length → Rs (sit X ρ st.σ w) st.tm a.tmps.toList → Dfs N ρ w a.defers →
      (∀ a' ρ' w', Rel X ρ' st'.σ w' → Rs (sit X ρ' st'.σ w') st'.tm a'.tmps.toList → Step ro X ρ st.σ w ρ' st'.σ w' → Dfs N ρ' w' a'.defers → Q .normal a' w') → wpListIn (fen l) n E.P ops.toArray Q rest a w
  | [], st, k, r, _, _, h => ⟨st, h, Pre.refl _ _, fun X ρ w a l n N Q hr hro ha hd hq => hq a ρ w hr ha (Step.refl _ _ _ _ _) hd⟩
  | o :: rest, st, k, r, hns, hro0, h => by
    unfold regionD at h
    rcases guardD_ok h with ⟨tm, h1, h2⟩ | ⟨tm, h1, h2⟩
    · obtain ⟨d, σ1, h3, h4, hp1⟩ := opD_ok hE (hns o (List.mem_cons_self ..)).1 (st := ⟨tm, st.σ⟩) hro0 h1
      obtain ⟨st', h5, hp2, h6⟩ := regionD_ok hE rest _ k r (fun x hx => hns x (List.mem_cons_of_mem _ hx)) (by rw [put_σ]; exact Nat.le_trans hro0 hp1.2.length) h3
      rw [put_σ] at hp2
      refine ⟨st', h5, hp1.trans hp2, fun X ρ w a l n N Q hr hro ha hd hq => ?_⟩
      obtain ⟨ha', hw⟩ := h2 _ _ ha
      simp only [wpListIn, hw, if_true]
      refine h4 X ρ w a l n _ Q hr hro (EvR.of ha' _) fun v ρ1 w1 hr1 hv hs1 => ?_
      rw [put_σ, put_tm] at h6
      exact h6 X ρ1 w1 _ l n N Q hr1 (hs1.ro_le hro) (put_tmps o.dst (Rs.mono hs1.le _ _ ha') hv) (by rw [put_defers]; exact hd.step hs1) fun a' ρ' w' q1 q2 q3 q4 => hq a' ρ' w' q1 q2 (hs1.trans q3) q4
    · obtain ⟨st', h5, hp2, h6⟩ := regionD_ok hE rest _ k r (fun x hx => hns x (List.mem_cons_of_mem _ hx)) (by rw [put_σ]; exact hro0) h1
      rw [put_σ] at hp2
      refine ⟨st', h5, hp2, fun X ρ w a l n N Q hr hro ha hd hq => ?_⟩
      obtain ⟨ha', hw⟩ := h2 _ _ ha
      simp only [wpListIn, hw, Bool.false_eq_true, if_false]
      refine ⟨fun f _ => fen_fn l f, ?_⟩
      rw [put_σ, put_tm] at h6
      exact h6 X ρ w _ l n N Q hr hro (put_tmps o.dst ha' ⟨[], rfl, rfl⟩) (by rw [put_defers]; exact hd) hq

end Go.Am
