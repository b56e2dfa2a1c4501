/- The abstract machine, 2: what the operations do, as a function that can be evaluated; symbolic parts stand behind irreducible words. -/
import Derived.Test.YtblmoikhfmkfnaaM1
namespace Go.Proofs.Ytblmoikhfmkfnaa
set_option linter.unusedSimpArgs false
set_option linter.unusedVariables false
open Go.RowKit Go

/-! ### Words that are not opened by evaluation -/
def iadd (k : IntKind) (a b : Int) : Int := k.wrap (a + b)
def isub (k : IntKind) (a b : Int) : Int := k.wrap (a - b)
def imul (k : IntKind) (a b : Int) : Int := k.wrap (a * b)
def iquo (k : IntKind) (a b : Int) : Int := k.wrap (a.tdiv b)
def irem (a b : Int) : Int := a.tmod b
def iconv (k : IntKind) (a : Int) : Int := k.wrap a
@[irreducible] def ilt (a b : Int) : Bool := decide (a < b)
@[irreducible] def ile (a b : Int) : Bool := decide (a ≤ b)
@[irreducible] def ieq (a b : Int) : Bool := a == b
def bnot (b : Bool) : Bool := match b with
  | true => false
  | false => true
theorem bnot_eq (b : Bool) : bnot b = !b := by cases b <;> rfl
@[irreducible] def beq (a b : Bool) : Bool := a == b
@[irreducible] def band (a b : Bool) : Bool := a && b
@[irreducible] def nz (b : Int) : Bool := b != 0
@[irreducible] def seq (a b : List UInt8) : Bool := a == b
@[irreducible] def slen (a : List UInt8) : Int := a.length
@[irreducible] def slenN (a : List UInt8) : Nat := a.length
@[irreducible] def scat (a b : List UInt8) : Option (List UInt8) := if a.length + b.length ≤ 9223372036854775807 then some (a ++ b) else none
@[irreducible] def ssub (a : List UInt8) (i j : Nat) : List UInt8 := (a.drop i).take (j - i)
@[irreducible] def sget (a : List UInt8) (i : Int) : Option Int := if 0 ≤ i then (a[i.toNat]?).map fun b => (b.toNat : Int) else none
@[irreducible] def llen (xs : List D) : Nat := xs.length
@[irreducible] def nint (n : Nat) : Int := n
@[irreducible] def lget (xs : List D) (i : Nat) : Option D := xs[i]?
@[irreducible] def lset (xs : List D) (i : Nat) (x : D) : List D := xs.set i x
@[irreducible] def lsub (xs : List D) (i j : Nat) : List D := (xs.drop i).take (j - i)
/-- len elements from off on, if there are so many -/
@[irreducible] def lsubc (xs : List D) (off len : Nat) : Option (List D) := if off + len ≤ xs.length then some ((xs.drop off).take len) else none
@[irreducible] def lapp (xs ys : List D) : List D := xs ++ ys
@[irreducible] def lrep (n : Nat) (x : D) : List D := List.replicate n x
def idx (i : Int) (n : Nat) : Option Nat := match i with
  | .ofNat k => match Nat.blt k n with
    | true => some k
    | false => none
  | .negSucc _ => none
theorem idx_iff (i : Int) (n : Nat) : idx i n = if 0 ≤ i ∧ i < n then some i.toNat else none := by
  cases i with
  | ofNat k =>
    simp only [idx]
    by_cases h : k < n
    · have h2 : Nat.blt k n = true := by simpa [Nat.blt_eq] using h
      rw [h2, if_pos ⟨Int.natCast_nonneg k, Int.ofNat_lt.2 h⟩]; rfl
    · have h2 : Nat.blt k n = false := by rw [← Bool.not_eq_true]; simpa [Nat.blt_eq] using h
      rw [h2, if_neg (fun hh => h (Int.ofNat_lt.1 hh.2))]
  | negSucc k => rw [if_neg (fun hh => by have := hh.1; omega)]; rfl
def nadd (a b : Nat) : Nat := match a with
  | 0 => b
  | a + 1 => a + 1 + b
theorem nadd_def (a b : Nat) : nadd a b = a + b := by cases a <;> simp [nadd]
@[irreducible] def nateq (a b : Nat) : Bool := a == b
/-- the length behind an append, where memory bears it -/
@[irreducible] def apn (a b bytes : Nat) : Option Nat := if (a + b) * bytes ≤ 70368744177664 ∧ a + b ≤ maxLen then some (a + b) else none
def nsub (a b : Nat) : Nat := match b with
  | 0 => a
  | b + 1 => a - (b + 1)
theorem nsub_def (a b : Nat) : nsub a b = a - b := by cases b <;> simp [nsub]
/-- the two bounds of a slice of something of length n -/
@[irreducible] def sbnd (lo hi : Int) (n : Nat) : Option (Nat × Nat) := if 0 ≤ lo ∧ lo ≤ hi ∧ hi ≤ n then some (lo.toNat, hi.toNat) else none
/-- a length and a capacity that memory bears -/
@[irreducible] def mkn (n c : Int) (bytes : Nat) : Option (Nat × Nat) := if 0 ≤ n ∧ n ≤ c ∧ c ≤ maxLen ∧ bytes * c ≤ 140737488355328 then some (n.toNat, c.toNat) else none

/-- the two bounds of a part of a slice: not behind its end, if it is not all of it -/
@[irreducible] def sbndo (lo hi : Int) (n : Nat) : Option (Nat × Nat) := if 0 ≤ lo ∧ lo ≤ hi ∧ hi ≤ n ∧ (lo = 0 ∨ lo < n) then some (lo.toNat, hi.toNat) else none

/-! ### The types -/
inductive TD where
  | bool | int (k : IntKind) | str | sl (e : Nat) | struct (fs : List (Nat × Nat)) | arr (n e : Nat) | other
  deriving DecidableEq, Inhabited
structure Row where
  td : TD
  size : Nat
  bytes : Nat
  agg : Bool
  eq : Bool
  zero : List D
  deriving Inhabited

/-- a type's row, if the table has it -/
def rowAt : List (Option Row) → Nat → Option Row
  | [], _ => none
  | r :: _, 0 => r
  | _ :: L, n + 1 => rowAt L n

structure XS where
  sl : List V
  mem : List (Option Blk)
  deriving Inhabited

def getV : List V → Nat → V
  | [], _ => .undef
  | x :: _, 0 => x
  | _ :: r, i + 1 => getV r i
def putV : List V → Nat → V → List V
  | [], _, _ => []
  | _ :: r, 0, v => v :: r
  | x :: r, i + 1, v => x :: putV r i v
def ofConst : Value → V
  | .int k n => .d (.int k n)
  | .bool b => .d (.bool b)
  | .string s => .d (.str s.data.toList)
  | .slice none 0 0 => .d (.sl 0 true [])
  | _ => .undef
def XS.ev (s : XS) : Operand → V
  | .tmp t => getV s.sl t
  | .const v => ofConst v
  | .func f => .fn f []
  | .global _ => .undef
def allD : List V → Option (List D)
  | [] => some []
  | .d x :: r => match allD r with
    | some l => some (x :: l)
    | none => none
  | _ :: _ => none
def vagg (cs : List V) : V := match allD cs with
  | some ds => .d (.agg ds)
  | none => .agg cs
/-- a value that takes one cell -/
def vone : V → Bool
  | .d (.agg _) => false
  | .agg _ => false
  | .tup _ => false
  | .undef => false
  | _ => true
/-- the cells of a value of a type -/
def vcells (agg : Bool) (v : V) : Option (List V) := match agg with
  | true => match v with
    | .d (.agg ds) => some (ds.map .d)
    | .agg cs => some cs
    | _ => none
  | false => match vone v with
    | true => some [v]
    | false => none
def blkAt (mem : List (Option Blk)) (id : Nat) : Option Blk := match mem[id]? with
  | some (some b) => some b
  | _ => none
def splice (cs : List V) (off : Nat) (vs : List V) : List V := cs.take off ++ (vs ++ cs.drop (off + vs.length))
def isOne : D → Bool
  | .agg _ => false
  | _ => true
/-- part of a datum, from a cell on -/
def dpart (r : Row) (x : D) (off : Nat) : Option D := match x with
  | .agg cs => match r.agg with
    | true => match Nat.ble (off + r.size) cs.length with
      | true => some (.agg ((cs.drop off).take r.size))
      | false => none
    | false => cs[off]?
  | x => match off, r.agg with
    | 0, false => some x
    | _, _ => none
/-- the elements of a row of cells, each of so many -/
def chunks (agg : Bool) (size : Nat) : Nat → List V → Option (List D)
  | 0, _ => some []
  | n + 1, cs => match allD (cs.take size), chunks agg size n (cs.drop size) with
    | some ds, some rest => match Nat.beq ds.length size, agg with
      | true, true => some (.agg ds :: rest)
      | true, false => match ds with
        | [x] => match isOne x with
          | true => some (x :: rest)
          | false => none
        | _ => none
      | false, _ => none
    | _, _ => none

/-- 0: needs no memory · 1: reads it · 2: turns it -/
def opClass (op : Op) : Nat := match op with
  | .move _ => 0
  | .assign _ => 0
  | .pick _ _ _ => 0
  | .unOp _ _ _ => 0
  | .fieldAddr _ _ _ => 0
  | .field _ _ _ => 0
  | .index _ _ _ => 0
  | .extract _ _ => 0
  | .nilCheck _ => 0
  | .load _ _ => 1
  | .binOp _ _ _ _ _ => 0
  | .convert _ _ _ => 0
  | .slice _ _ _ _ _ => 0
  | .indexAddr _ _ _ => 0
  | _ => 2

section
variable (L : List (Option Row))
def fill (place : Nat → Option (Nat × Row)) (cells : List V) : List (Nat × V) → Option (List V)
  | [] => some cells
  | (i, v) :: rest => match place i with
    | some (off, r) => match vcells r.agg v with
      | some vs => match Nat.beq vs.length r.size, Nat.ble (off + vs.length) cells.length with
        | true, true => fill place (splice cells off vs) rest
        | _, _ => none
      | none => none
    | none => none

/-- equality of two plain data of a type -/
def deq : TD → D → D → Option Bool
  | .int _, .int k a, .int k' b => match decide (k = k') with
    | true => some (ieq a b)
    | false => none
  | .bool, .bool a, .bool b => some (beq a b)
  | .str, .str a, .str b => some (seq a b)
  | _, _, _ => none
def eqFs (rec : Nat → List D → List D → Option Bool) (as bs : List D) : List (Nat × Nat) → Option Bool
  | [] => some true
  | (o, t) :: fs => match (rowAt L t) with
    | some r => match Nat.ble (o + r.size) as.length, rec t ((as.drop o).take r.size) ((bs.drop o).take r.size), eqFs rec as bs fs with
      | true, some a, some b => some (band a b)
      | _, _, _ => none
    | none => none
/-- equality by type, on the cells of two values -/
def eqT : Nat → Nat → List D → List D → Option Bool
  | 0, _, _, _ => none
  | n + 1, t, as, bs => match (rowAt L t) with
    | some r => match r.td with
      | .struct fs => match r.eq, Nat.beq as.length bs.length with
        | true, true => eqFs L (eqT n) as bs fs
        | _, _ => none
      | td => match as, bs with
        | [a], [b] => deq td a b
        | _, _ => none
    | none => none

/-- an optional bound -/
def xbound (s : XS) (dflt : Int) : Option Operand → Option Int
  | none => some dflt
  | some o => match s.ev o with
    | .d (.int _ n) => some n
    | _ => none
/-- a datum in memory, or a part of it -/
def xelem (r : Row) (es : Nat) (x : D) (off : Nat) : Option V := match r.agg, off, Nat.beq r.size es with
  | true, 0, true => match x with
    | .agg cs => some (.d (.agg cs))
    | _ => none
  | _, _, _ => match dpart r x off with
    | some y => some (.d y)
    | none => none
def xload (s : XS) (r : Row) (p : V) : Option V := match p with
  | .ptr id off => match blkAt s.mem id with
    | some (.box cells) => match r.agg with
      | true => match Nat.ble (off + r.size) cells.length with
        | true => some (vagg ((cells.drop off).take r.size))
        | false => none
      | false => match r.size with
        | 1 => cells[off]?
        | _ => none
    | _ => none
  | .iptr es xs k off => match lget xs k with
    | some x => xelem r es x off
    | none => none
  | .aptr es id k off => match blkAt s.mem id with
    | some (.arr es' xs) => match Nat.beq es es', lget xs k with
      | true, some x => xelem r es x off
      | _, _ => none
    | _ => none
  | _ => none
def xint (op : BinOp) (k : IntKind) (a b : Int) : Option V := match op with
  | .add => some (.d (.int k (iadd k a b)))
  | .sub => some (.d (.int k (isub k a b)))
  | .mul => some (.d (.int k (imul k a b)))
  | .quo => match nz b with
    | true => some (.d (.int k (iquo k a b)))
    | false => none
  | .rem => match nz b with
    | true => some (.d (.int k (irem a b)))
    | false => none
  | .eql => some (.d (.bool (ieq a b)))
  | .neq => some (.d (.bool (bnot (ieq a b))))
  | .lss => some (.d (.bool (ilt a b)))
  | .leq => some (.d (.bool (ile a b)))
  | .gtr => some (.d (.bool (ilt b a)))
  | .geq => some (.d (.bool (ile b a)))
  | _ => none
def xstr (op : BinOp) (a b : List UInt8) : Option V := match op with
  | .eql => some (.d (.bool (seq a b)))
  | .neq => some (.d (.bool (bnot (seq a b))))
  | .add => match scat a b with
    | some c => some (.d (.str c))
    | none => none
  | _ => none
def xbin (op : BinOp) (t : Nat) (x y : V) : Option V := match x, y with
  | .d (.int k a), .d (.int k' b) => match decide (k = k') with
    | true => xint op k a b
    | false => none
  | .d (.bool a), .d (.bool b) => match (rowAt L t) with
    | some r => match r.td, op with
      | .bool, .eql => some (.d (.bool (beq a b)))
      | .bool, .neq => some (.d (.bool (bnot (beq a b))))
      | _, _ => none
    | none => none
  | .d (.str a), .d (.str b) => xstr op a b
  | .d (.agg as), .d (.agg bs) => match (rowAt L t) with
    | some r => match r.agg, r.eq, eqT L 6 t as bs, op with
      | true, true, some b, .eql => some (.d (.bool b))
      | true, true, some b, .neq => some (.d (.bool (bnot b)))
      | _, _, _, _ => none
    | none => none
  | _, _ => none
def xun (op : UnOp) (x : V) : Option V := match op, x with
  | .not, .d (.bool b) => some (.d (.bool (bnot b)))
  | .neg, .d (.int k n) => some (.d (.int k (isub k 0 n)))
  | _, _ => none
def xconv (r : Row) (x : V) : Option V := match r.td, x with
  | .int k, .d (.int _ n) => some (.d (.int k (iconv k n)))
  | .str, .d (.str l) => some (.d (.str l))
  | _, _ => none
def xsliceStr (l : List UInt8) (a b : Option Int) : Option V := match a, b with
  | some a, some b => match sbnd a b (slenN l) with
    | some (i, j) => some (.d (.str (ssub l i j)))
    | none => none
  | _, _ => none
def xfieldAddr (r : Row) (x : V) (f : Nat) : Option V := match r.td with
  | .struct fs => match fs[f]? with
    | some (fo, ft) => match (rowAt L ft) with
      | some fr => match Nat.ble 1 fr.size with
        | true => match x with
          | .ptr id off => some (.ptr id (off + fo))
          | .aptr es id k off => some (.aptr es id k (off + fo))
          | .iptr es xs k off => some (.iptr es xs k (off + fo))
          | _ => none
        | false => none
      | none => none
    | none => none
  | _ => none
def xfield (r : Row) (x : V) (f : Nat) : Option V := match r.td, x with
  | .struct fs, .d (.agg cs) => match fs[f]? with
    | some (fo, ft) => match (rowAt L ft) with
      | some fr => match dpart fr (.agg cs) fo with
        | some y => some (.d y)
        | none => none
      | none => none
    | none => none
  | _, _ => none
def xindexAddr (s : XS) (r : Row) (x : V) (i : Int) : Option V := match r.td, x with
  | .sl e, .d (.sl es _ xs) => match idx i (llen xs), (rowAt L e) with
    | some k, some re => match Nat.beq re.size es with
      | true => some (.iptr es xs k 0)
      | false => none
    | _, _ => none
  | .sl e, .own es id off len _ => match idx i len, (rowAt L e) with
    | some k, some re => match Nat.beq re.size es, blkAt s.mem id with
      | true, some (.box _) => some (.ptr id ((off + k) * es))
      | true, some (.arr _ _) => some (.aptr es id (nadd off k) 0)
      | _, _ => none
    | _, _ => none
  | .arr n e, .ptr id off => match idx i n, (rowAt L e) with
    | some k, some re => some (.ptr id (off + k * re.size))
    | _, _ => none
  | _, _ => none
def xindex (r : Row) (x : V) (i : Int) : Option V := match r.td, x with
  | .arr n e, .d (.agg cs) => match idx i n, (rowAt L e) with
    | some k, some re => match dpart re (.agg cs) (k * re.size) with
      | some y => some (.d y)
      | none => none
    | _, _ => none
  | .str, .d (.str l) => match sget l i with
    | some n => some (.d (.int .u8 n))
    | none => none
  | _, _ => none
def xlen (r : Row) (x : V) : Option V := match r.td, x with
  | .sl _, .d (.sl _ _ xs) => some (.d (.int .i64 (nint (llen xs))))
  | .sl _, .own _ _ _ len _ => some (.d (.int .i64 (nint len)))
  | .str, .d (.str l) => some (.d (.int .i64 (slen l)))
  | _, _ => none
def xplaces (r : Row) (i : Nat) : Option (Nat × Row) := match r.td with
  | .struct fs => match fs[i]? with
    | some (fo, ft) => match (rowAt L ft) with
      | some fr => some (fo, fr)
      | none => none
    | none => none
  | .arr _ e => match (rowAt L e) with
    | some re => some (i * re.size, re)
    | none => none
  | _ => none
def evParts (s : XS) : List (Nat × Operand) → List (Nat × V)
  | [] => []
  | (i, o) :: r => (i, s.ev o) :: evParts s r

/-- operations that leave memory alone -/
def xpure (op : Op) (s : XS) : Option V := match op with
  | .move x => some (s.ev x)
  | .assign x => some (s.ev x)
  | .pick c a b => match s.ev c with
    | .d (.bool t) => match t with
      | true => some (s.ev a)
      | false => some (s.ev b)
    | _ => none
  | .build t parts => match (rowAt L t) with
    | some r => match r.agg, fill (xplaces L r) (r.zero.map .d) (evParts s parts.toList) with
      | true, some cs => some (vagg cs)
      | _, _ => none
    | none => none
  | .load t p => match (rowAt L t) with
    | some r => xload s r (s.ev p)
    | none => none
  | .nilCheck x => match s.ev x with
    | .ptr id off => some (.ptr id off)
    | .fn f cap => some (.fn f cap)
    | _ => none
  | .binOp op t x y _ => xbin L op t (s.ev x) (s.ev y)
  | .unOp op _ x => xun op (s.ev x)
  | .convert src dst x => match (rowAt L src), (rowAt L dst) with
    | some _, some r => xconv r (s.ev x)
    | _, _ => none
  | .slice t x lo hi mx => match (rowAt L t) with
    | some r => match r.td, mx with
      | .str, none => match s.ev x with
        | .d (.str l) => xsliceStr l (xbound s 0 lo) (xbound s (slen l) hi)
        | _ => none
      | _, _ => none
    | none => none
  | .fieldAddr t x f => match (rowAt L t) with
    | some r => xfieldAddr L r (s.ev x) f
    | none => none
  | .field t x f => match (rowAt L t) with
    | some r => xfield L r (s.ev x) f
    | none => none
  | .indexAddr t x i => match s.ev i, (rowAt L t) with
    | .d (.int _ i), some r => xindexAddr L s r (s.ev x) i
    | _, _ => none
  | .index t x i => match s.ev i, (rowAt L t) with
    | .d (.int _ i), some r => xindex L r (s.ev x) i
    | _, _ => none
  | .extract x i => match s.ev x with
    | .tup vs => vs[i]?
    | _ => none
  | .call c => match c.callee, c.args.toList, c.argTypes.toList with
    | .builtin .len, [x], [t] => match (rowAt L t) with
      | some r => xlen r (s.ev x)
      | none => none
    | _, _, _ => none
  | _ => none

/-! ### Operations that write or make memory -/
mutual
def V.kill (id : Nat) : V → V
  | .d x => .d x
  | .agg cs => .agg (V.killL id cs)
  | .tup vs => .tup (V.killL id vs)
  | .ptr i o => match Nat.beq i id with
    | true => .undef
    | false => .ptr i o
  | .own es i o n c => match Nat.beq i id with
    | true => .undef
    | false => .own es i o n c
  | .aptr es i k o => match Nat.beq i id with
    | true => .undef
    | false => .aptr es i k o
  | .iptr es xs k o => .iptr es xs k o
  | .fn f cap => .fn f (V.killL id cap)
  | .undef => .undef
def V.killL (id : Nat) : List V → List V
  | [] => []
  | x :: r => V.kill id x :: V.killL id r
end
def Blk.kill (id : Nat) : Blk → Blk
  | .box cs => .box (V.killL id cs)
  | .arr es xs => .arr es xs
def killMem (id : Nat) : List (Option Blk) → List (Option Blk)
  | [] => []
  | none :: r => none :: killMem id r
  | some b :: r => some (b.kill id) :: killMem id r

/-- the elements that a slice holds, as data -/
def xcontent (s : XS) (re : Row) (v : V) : Option (List D) := match v with
  | .d (.sl es _ xs) => match Nat.beq es re.size, xs with
    | _, [] => some []
    | true, xs => some xs
    | false, _ => none
  | .own es id off len _ => match Nat.beq es re.size, blkAt s.mem id with
    | true, some (.arr es' xs) => match Nat.beq es es' with
      | true => lsubc xs off len
      | false => none
    | true, some (.box cells) => chunks re.agg re.size len (cells.drop (off * es))
    | _, _ => none
  | _ => none
def sameOp : Operand → Operand → Bool
  | .tmp a, .tmp b => Nat.beq a b
  | _, _ => false
def zel (r : Row) : Option D := match r.agg, r.zero with
  | true, zs => some (.agg zs)
  | false, [z] => some z
  | false, _ => none
def dcells : D → List D
  | .agg cs => cs
  | x => [x]
/-- a datum with a part of its cells replaced -/
def dsplice (x : D) (off : Nat) (r : Row) (v : D) : Option D := match r.agg, v, x with
  | true, .agg vs, .agg cs => match Nat.beq vs.length r.size && Nat.ble 1 r.size, Nat.ble (off + vs.length) cs.length with
    | true, true => some (.agg (cs.take off ++ (vs ++ cs.drop (off + vs.length))))
    | _, _ => none
  | false, v, .agg cs => match isOne v, Nat.blt off cs.length with
    | true, true => some (.agg (cs.take off ++ (v :: cs.drop (off + 1))))
    | _, _ => none
  | false, v, _ => match isOne v, off with
    | true, 0 => some v
    | _, _ => none
  | _, _, _ => none
/-- is the operation one that wants a word from outside (a test, an index, memory that bears it)? -/
def asks (op : Op) (s : XS) : Bool := match op with
  | .binOp op _ x _ _ => match s.ev x with
    | .d (.int _ _) => match op with
      | .add => false
      | .sub => false
      | .mul => false
      | _ => true
    | _ => true
  | .load t p => match rowAt L t with
    | some r => match r.td with
      | .bool => true
      | _ => match s.ev p with
        | .ptr _ _ => false
        | _ => true
    | none => false
  | .indexAddr _ x i => match i with
    | .const _ => match s.ev x with
      | .ptr _ _ => false
      | .own _ id _ _ _ => match blkAt s.mem id with
        | some (.box _) => false
        | _ => true
      | _ => true
    | _ => true
  | .index _ x i => match i with
    | .const _ => match s.ev x with
      | .d (.agg _) => false
      | _ => true
    | _ => true
  | .slice _ _ _ _ _ => true
  | .makeSlice _ _ _ => true
  | .convert _ _ x => match s.ev x with
    | .d (.int _ _) => false
    | _ => true
  | .store _ p _ => match s.ev p with
    | .ptr _ _ => false
    | _ => true
  | .call c => match c.callee with
    | .builtin .len => false
    | _ => true
  | _ => false
/-- what an operation yields, and the state behind it -/
def xeff (op : Op) (s : XS) : Option (V × XS) := match op with
  | .alloc t => match (rowAt L t) with
    | some r => some (.ptr s.mem.length 0, ⟨s.sl, s.mem ++ [some (.box (r.zero.map .d))]⟩)
    | none => none
  | .box t x => match (rowAt L t) with
    | some r => match vcells r.agg (s.ev x) with
      | some cs => some (.ptr s.mem.length 0, ⟨s.sl, s.mem ++ [some (.box cs)]⟩)
      | none => none
    | none => none
  | .buildSlice t n parts => match (rowAt L t) with
    | some r => match r.td with
      | .sl e => match (rowAt L e) with
        | some re => match Nat.ble (n * re.size) 16777216 && Nat.ble n 16777216, fill (fun i => some (i * re.size, re)) (List.replicate n (re.zero.map V.d)).flatten (evParts s parts.toList) with
          | true, some cs => some (.own re.size s.mem.length 0 n true, ⟨s.sl, s.mem ++ [some (.box cs)]⟩)
          | _, _ => none
        | none => none
      | _ => none
    | none => none
  | .store t p x => match (rowAt L t) with
    | some r => match s.ev p with
      | .ptr id off => match blkAt s.mem id, vcells r.agg (s.ev x) with
        | some (.box cells), some vs => match Nat.beq vs.length r.size && Nat.ble 1 r.size, Nat.ble (off + vs.length) cells.length with
          | true, true => some (.tup [], ⟨s.sl, s.mem.set id (some (.box (splice cells off vs)))⟩)
          | _, _ => none
        | _, _ => none
      | .aptr es id k off => match blkAt s.mem id, s.ev x with
        | some (.arr es' xs), .d v => match Nat.beq es es', lget xs k with
          | true, some x0 => match dsplice x0 off r v with
            | some x1 => some (.tup [], ⟨s.sl, s.mem.set id (some (.arr es (lset xs k x1)))⟩)
            | none => none
          | _, _ => none
        | _, _ => none
      | _ => none
    | none => none
  | .makeSlice t l c => match (rowAt L t) with
    | some r => match r.td, s.ev l, s.ev c with
      | .sl e, .d (.int _ n), .d (.int _ m) => match (rowAt L e) with
        | some re => match mkn n m re.bytes, zel re with
          | some (n', m'), some z => some (.own re.size s.mem.length 0 n' (sameOp l c), ⟨s.sl, s.mem ++ [some (.arr re.size (lrep n' z))]⟩)
          | _, _ => none
        | none => none
      | _, _, _ => none
    | none => none
  | .call c => match c.callee, c.args.toList, c.argTypes.toList with
    | .builtin .append, [a, b], [t, u] => match (rowAt L t), (rowAt L u) with
      | some r, some _ => match r.td, Nat.beq t u with
        | .sl e, true => match (rowAt L e) with
          | some re => match xcontent s re (s.ev b) with
            | some ys => match s.ev a with
              | .d (.sl _ true []) => match apn 0 (llen ys) re.bytes with
                | some n => some (.own re.size s.mem.length 0 n false, ⟨V.killL s.mem.length s.sl, killMem s.mem.length s.mem ++ [some (.arr re.size ys)]⟩)
                | none => none
              | .own es id off len clip => match Nat.beq es re.size, off, apn len (llen ys) re.bytes with
                | true, 0, some n => match blkAt s.mem id with
                  | some (.arr es' xs) => match Nat.beq es es', nateq len (llen xs) with
                    | true, true => some (.own es id 0 n false, ⟨V.killL id s.sl, (killMem id s.mem).set id (some (.arr es (lapp xs ys)))⟩)
                    | _, _ => none
                  | some (.box cells) => match chunks re.agg re.size len cells, Nat.beq (len * es) cells.length with
                    | some xs, true => some (.own es id 0 n false, ⟨V.killL id s.sl, (killMem id s.mem).set id (some (.arr es (lapp xs ys)))⟩)
                    | _, _ => none
                  | none => none
                | _, _, _ => none
              | _ => none
            | none => none
          | none => none
        | _, _ => none
      | _, _ => none
    | _, _, _ => none
  | _ => none
end
end Go.Proofs.Ytblmoikhfmkfnaa
