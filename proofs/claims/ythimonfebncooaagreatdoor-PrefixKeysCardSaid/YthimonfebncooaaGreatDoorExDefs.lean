/- The executor: a plain evaluator of Go code over addresses of its own (definitions). -/
import Derived.WalkKit
import Derived.Below
import Derived.Orders
namespace Go.Ex

inductive Dg where
  | a | b | c | d

abbrev Pa := List Dg

def dig (n : Nat) : Dg := bif Nat.beq n 0 then .a else bif Nat.beq n 1 then .b else bif Nat.beq n 2 then .c else .d

/-- the path of m + 1 -/
def paF : Nat → Nat → Pa
  | 0, _ => []
  | f + 1, m => dig (m % 4) :: (match m / 4 with | 0 => [] | m' + 1 => paF f m')

def pa : Nat → Pa
  | 0 => []
  | m + 1 => paF (m + 1) m

inductive Tr (α : Type) where
  | e
  | n (v : Option α) (a b c d : Tr α)

namespace Tr
variable {α : Type}
def get : Pa → Tr α → Option α
  | [], .e => none
  | [], .n v _ _ _ _ => v
  | _ :: _, .e => none
  | x :: p, .n _ a b c d => match x with
    | .a => get p a
    | .b => get p b
    | .c => get p c
    | .d => get p d
def set (x : α) : Pa → Tr α → Tr α
  | [], .e => .n (some x) .e .e .e .e
  | [], .n _ a b c d => .n (some x) a b c d
  | y :: p, .e => match y with
    | .a => .n none (set x p .e) .e .e .e
    | .b => .n none .e (set x p .e) .e .e
    | .c => .n none .e .e (set x p .e) .e
    | .d => .n none .e .e .e (set x p .e)
  | y :: p, .n v a b c d => match y with
    | .a => .n v (set x p a) b c d
    | .b => .n v a (set x p b) c d
    | .c => .n v a b (set x p c) d
    | .d => .n v a b c (set x p d)
end Tr

inductive Cap where
  | lim (n : Nat)
  | open_ (skip : Nat)

inductive SV where
  | bool (b : Bool)
  | int (k : IntKind) (n : Int)
  | opq (i : Nat) (lo hi : Int)
  | str (s : List Nat)
  | ptr (p : Nat) (off : Nat)
  | nilp
  | slice (p : Nat) (off len : Nat) (cap : Cap)
  | nils
  | etail (p : Nat) (off l size skip : Nat)
  | map (p : Nat)
  | nilm
  | func (fn : Fn) (first captured : List SV)
  | nilf
  | iface (t : TypeId) (v : SV)
  | nili
  | agg (l : List SV)
  | tup (l : List SV)
  deriving Inhabited

structure ME where
  k : SV
  v : SV
  born : Nat

inductive SO where
  | row (cells : Tr SV) (n : Nat) (elem : TypeId) (op : Bool)
  | map (es : List ME) (clock : Nat)
  | dead

structure Hp where
  m : Tr SO
  next : Nat

abbrev Env := Tr SV

def Hp.get (H : Hp) (p : Nat) : Option SO := H.m.get (pa p)
def Hp.set (H : Hp) (p : Nat) (o : SO) : Hp := { H with m := H.m.set o (pa p) }
def Hp.new (H : Hp) (o : SO) : Hp := { m := H.m.set o (pa H.next), next := H.next + 1 }

/-- a value of one cell, as it stands in a program's text or among zero values -/
def toS0 : Value → Option SV
  | .bool b => some (.bool b)
  | .int k n => some (.int k n)
  | .string s => some (.str (s.data.toList.map UInt8.toNat))
  | .pointer none => some .nilp
  | .slice none 0 0 => some .nils
  | .map none => some .nilm
  | .nilFunc => some .nilf
  | .nilIface => some .nili
  | .func fn first captured => if first.isEmpty && captured.isEmpty then some (.func fn [] []) else none
  | _ => none

def mapO {α β : Type} (f : α → Option β) : List α → Option (List β)
  | [] => some []
  | x :: l => match f x with
    | none => none
    | some y => match mapO f l with
      | none => none
      | some r => some (y :: r)

def toS : Value → Option SV
  | .agg cs => match mapO toS0 cs.toList with
    | some l => some (.agg l)
    | none => none
  | .tuple vs => if vs.isEmpty then some (.tup []) else none
  | v => toS0 v

def ev (E : Env) : Operand → Option SV
  | .tmp t => E.get (pa t)
  | .const v => toS v
  | .global _ => none
  | .func f => some (.func (.func f) [] [])

def SV.cells : SV → List SV
  | .agg l => l
  | v => [v]

def SV.one : SV → Bool
  | .agg _ | .tup _ => false
  | _ => true

section
variable (P : Program)

def isAggB (t : TypeId) : Option Bool :=
  match P.underlying t with
  | some (.struct _) | some (.array _ _) => some true
  | some _ => some false
  | none => none

def sizeB (t : TypeId) : Option Nat := (P.info? t).map (·.size)

def zeroB (t : TypeId) : Option SV :=
  match P.info? t with
  | some i => match i.zero with
    | some v => toS v
    | none => none
  | none => none

def ldFrom (c : Tr SV) : Nat → Nat → Option (List SV)
  | _, 0 => some []
  | off, n + 1 => match c.get (pa off) with
    | none => none
    | some v => match ldFrom c (off + 1) n with
      | none => none
      | some l => some (v :: l)

def stFrom : List SV → Nat → Tr SV → Tr SV
  | [], _, c => c
  | v :: l, off, c => stFrom l (off + 1) (c.set v (pa off))

def allOne : List SV → Bool
  | [] => true
  | v :: l => match v.one with
    | true => allOne l
    | false => false

/-- the cells off, off + 1, .. of a row are n in all -/
def ldRow (H : Hp) (p off n : Nat) : Option (List SV) :=
  match H.get p with
  | some (.row c _ _ _) => ldFrom c off n
  | _ => none

def stRow (H : Hp) (p off : Nat) (l : List SV) : Option Hp :=
  match H.get p with
  | some (.row c n e op) =>
    if off + l.length ≤ n && allOne l then some (H.set p (.row (stFrom l off c) n e op)) else none
  | _ => none

def loadS (H : Hp) (t : TypeId) : SV → Option SV
  | .ptr p off => match isAggB P t with
    | some true => match sizeB P t with
      | some n => match ldRow H p off n with
        | some l => some (.agg l)
        | none => none
      | none => none
    | some false => match H.get p with
      | some (.row c _ _ _) => c.get (pa off)
      | _ => none
    | none => none
  | _ => none

def storeS (H : Hp) (t : TypeId) (a v : SV) : Option Hp :=
  match a with
  | .ptr p off => match sizeB P t with
    | some n => if v.cells.length == n then stRow H p off v.cells else none
    | none => none
  | _ => none

def newRowS (H : Hp) (elem : TypeId) (l : List SV) (op : Bool) : Hp := H.new (.row (stFrom l 0 .e) l.length elem op)

def fieldAddrS (s : TypeId) (x : SV) (i : Nat) : Option SV :=
  match P.underlying s, x with
  | some (.struct fields), .ptr p off => match fields[i]? with
    | some f => match sizeB P f.type with
      | some (_ + 1) => some (.ptr p (off + f.offset))
      | _ => none
    | none => none
  | _, _ => none

def natOf : SV → Option Nat
  | .int _ (.ofNat n) => some n
  | _ => none

def indexAddrS (t : TypeId) (x i : SV) : Option SV :=
  match natOf i with
  | none => none
  | some i => match P.underlying t, x with
    | some (.array len elem), .ptr p off => if i < len then (match sizeB P elem with | some n => some (.ptr p (off + i * n)) | none => none) else none
    | some (.slice elem), .slice p off len _ => if i < len then (match sizeB P elem with | some n => some (.ptr p (off + i * n)) | none => none) else none
    | _, _ => none

/-- n cells from off on -/
def cut {α : Type} : List α → Nat → Nat → Option (List α)
  | _, 0, 0 => some []
  | [], 0, _ + 1 => none
  | x :: l, 0, n + 1 => match cut l 0 n with
    | some r => some (x :: r)
    | none => none
  | [], _ + 1, _ => none
  | _ :: l, off + 1, n => cut l off n

def partS (t : TypeId) (cs : List SV) (off : Nat) : Option SV :=
  match isAggB P t with
  | some true => match sizeB P t with
    | some n => match cut cs off n with
      | some l => some (.agg l)
      | none => none
    | none => none
  | some false => match cut cs off 1 with
    | some [v] => some v
    | _ => none
  | none => none

def fieldS (t : TypeId) (x : SV) (i : Nat) : Option SV :=
  match P.underlying t, x with
  | some (.struct fields), .agg cs => match fields[i]? with
    | some f => partS P f.type cs f.offset
    | none => none
  | _, _ => none

def nth {α : Type} : List α → Nat → Option α
  | [], _ => none
  | x :: _, 0 => some x
  | _ :: l, n + 1 => nth l n

def indexS (t : TypeId) (x i : SV) : Option SV :=
  match natOf i with
  | none => none
  | some i => match P.underlying t, x with
    | some (.array len elem), .agg cs => if i < len then (match sizeB P elem with | some n => partS P elem cs (i * n) | none => none) else none
    | some .string, .str s => match nth s i with
      | some b => some (.int .u8 (.ofNat b))
      | none => none
    | _, _ => none

/-- l with r in the place of what lies from off on -/
def put {α : Type} : List α → Nat → List α → Option (List α)
  | l, 0, [] => some l
  | [], 0, _ :: _ => none
  | _ :: l, 0, y :: r => match put l 0 r with
    | some z => some (y :: z)
    | none => none
  | [], _ + 1, _ => none
  | x :: l, off + 1, r => match put l off r with
    | some z => some (x :: z)
    | none => none

def fillS (place : Nat → Option (Nat × Nat)) : List SV → List (Nat × SV) → Option (List SV)
  | cs, [] => some cs
  | cs, (i, v) :: rest => match place i with
    | none => none
    | some (off, size) => if v.cells.length == size then (match put cs off v.cells with
        | some cs' => fillS place cs' rest
        | none => none) else none

def placeB (f : Field) : Option (Nat × Nat) :=
  match sizeB P f.type with
  | some n => some (f.offset, n)
  | none => none

def buildS (t : TypeId) (parts : List (Nat × SV)) : Option SV :=
  match zeroB P t with
  | none => none
  | some z => match P.underlying t with
    | some (.struct fields) => match mapO (placeB P) fields.toList with
      | some places => match fillS (nth places) z.cells parts with
        | some l => some (.agg l)
        | none => none
      | none => none
    | some (.array _ elem) => match sizeB P elem with
      | some n => match fillS (fun i => some (i * n, n)) z.cells parts with
        | some l => some (.agg l)
        | none => none
      | none => none
    | _ => none

def rep {α : Type} : Nat → List α → List α
  | 0, _ => []
  | n + 1, l => l ++ rep n l

/-- an open or a closed row of n zero elements -/
def zerosB (elem : TypeId) (n : Nat) : Option (List SV) :=
  match n with
  | 0 => some []
  | _ => match zeroB P elem with
    | some z => match sizeB P elem with
      | some s => if z.cells.length == s then some (rep n z.cells) else none
      | none => none
    | none => none

def buildSliceS (H : Hp) (t : TypeId) (len : Nat) (parts : List (Nat × SV)) : Option (SV × Hp) :=
  match P.underlying t with
  | some (.slice elem) => match sizeB P elem with
    | some n => if len * n ≤ 16777216 then (match zerosB P elem len with
      | some z => match fillS (fun i => some (i * n, n)) z parts with
        | some l => some (.slice H.next 0 len (.lim len), newRowS H elem l false)
        | none => none
      | none => none) else none
    | none => none
  | _ => none

def makeSliceS (H : Hp) (t : TypeId) (len cap : SV) : Option (SV × Hp) :=
  match P.underlying t, natOf len, natOf cap with
  | some (.slice elem), some l, some c => match P.info? elem with
    | some i => if l ≤ c && i.bytes * c ≤ 281474976710656 && c ≤ 9223372036854775807 then (match zerosB P elem c with
      | some z => some (.slice H.next 0 l (.lim c), newRowS H elem z false)
      | none => none) else none
    | none => none
  | _, _, _ => none

def optNat : Option SV → Option (Option Nat)
  | none => some none
  | some v => match natOf v with
    | some n => some (some n)
    | none => none

def sliceStr (s : List Nat) (lo hi : Option Nat) : Option SV :=
  let h := hi.getD s.length
  let l := lo.getD 0
  if h ≤ s.length && l ≤ h then (match cut s l (h - l) with
    | some r => some (.str r)
    | none => none) else none

def sliceRow (elem : TypeId) (p off len : Nat) (cap : Cap) (lo hi mx : Option Nat) : Option SV :=
  match sizeB P elem with
  | none => none
  | some size =>
    let h := hi.getD len
    let l := lo.getD 0
    if l ≤ h then match cap, mx with
      | .lim c, none => if h ≤ c then some (.slice p (if c == l then off else off + l * size) (h - l) (.lim (c - l))) else none
      | .lim c, some m => if h ≤ m && m ≤ c then some (.slice p (if m == l then off else off + l * size) (h - l) (.lim (m - l))) else none
      | .open_ k, none => if h ≤ len then (if l < len then some (.slice p (off + l * size) (h - l) (.open_ (k + l))) else some (.etail p off l size k)) else none
      | .open_ _, some m => if h ≤ m && m ≤ len then some (.slice p (if m == l then off else off + l * size) (h - l) (.lim (m - l))) else none
    else none

def sliceS (t : TypeId) (x : SV) (lo hi mx : Option SV) : Option SV :=
  match optNat lo, optNat hi, optNat mx with
  | some lo, some hi, some mx => if mx.isSome && hi.isNone then none else match P.underlying t, x with
    | some .string, .str s => if mx.isSome then none else sliceStr s lo hi
    | some (.slice elem), .slice p off len cap => sliceRow P elem p off len cap lo hi mx
    | some (.slice elem), .nils => if (sizeB P elem).isSome && (lo.getD 0 == 0 && hi.getD 0 == 0 && mx.getD 0 == 0) then some .nils else none
    | some (.array n elem), .ptr p off => sliceRow P elem p off n (.lim n) lo hi mx
    | _, _ => none
  | _, _, _ => none

def eqFields (rec : TypeId → SV → SV → Option Bool) : List Field → List SV → List SV → Option Bool
  | [], _, _ => some true
  | f :: fs, xs, ys => if f.name = "_" then eqFields rec fs xs ys else
    match partS P f.type xs f.offset, partS P f.type ys f.offset with
    | some a, some b => match rec f.type a b with
      | some true => eqFields rec fs xs ys
      | some false => some false
      | none => none
    | _, _ => none

/-- are two values one, by a type? (where this answers at all) -/
def eqS : Nat → TypeId → SV → SV → Option Bool
  | 0, _, _, _ => none
  | d + 1, t, x, y => match P.underlying t, x, y with
    | some .bool, .bool a, .bool b => some (a == b)
    | some (.int _), .int k a, .int k' b => if k = k' then some (a == b) else none
    | some (.int _), .opq _ lo hi, .int k b => if k = .i64 then (if b < lo then some false else if hi < b then some false else none) else none
    | some .string, .str a, .str b => some (a == b)
    | some (.pointer _), .nilp, .nilp => some true
    | some (.pointer _), .nilp, .ptr _ _ => some false
    | some (.pointer _), .ptr _ _, .nilp => some false
    | some (.interface _), .nili, .nili => some true
    | some (.interface _), .nili, .iface _ _ => some false
    | some (.interface _), .iface _ _, .nili => some false
    | some (.interface _), .iface t v, .iface u w => if t ≠ u then some false else (match P.info? t with
      | some i => if i.comparable then eqS d t v w else none
      | none => none)
    | some (.struct fields), .agg xs, .agg ys => if P.stoodInHeld t then none else eqFields P (eqS d) fields.toList xs ys
    | some (.slice _), .nils, .nils => some true
    | some (.slice _), .nils, .slice _ _ _ _ => some false
    | some (.slice _), .slice _ _ _ _, .nils => some false
    | some (.map _ _), .nilm, .nilm => some true
    | some (.map _ _), .nilm, .map _ => some false
    | some (.map _ _), .map _, .nilm => some false
    | some (.func _ _ _), .nilf, .nilf => some true
    | some (.func _ _ _), .nilf, .func _ _ _ => some false
    | some (.func _ _ _), .func _ _ _, .nilf => some false
    | _, _, _ => none

def eqDeep : Nat := 10000

def SV.shape : SV → Nat
  | .int _ _ => 0
  | .opq _ _ _ => 0
  | .str _ => 1
  | .nili => 2
  | .agg _ => 3
  | _ => 4

/-- == of two values: the guard asks nothing where this answers -/
def eqOpS (t : TypeId) (x y : SV) : Option Bool :=
  match x, y with
  | .agg _, .agg _ => if P.eqGuardType P.depth t then none else eqS P eqDeep t x y
  | _, _ => if Nat.beq x.shape y.shape && !(Nat.beq x.shape 4) then none else eqS P eqDeep t x y

def isNilC : Operand → Bool
  | .const .nilIface => true
  | _ => false

def bytesLt : List Nat → List Nat → Bool
  | _, [] => false
  | [], _ :: _ => true
  | a :: x, b :: y => Nat.blt a b || (Nat.beq a b && bytesLt x y)

def intOp (op : BinOp) (k : IntKind) (a b : Int) : Option SV :=
  match op with
  | .add => some (.int k (k.wrap (a + b)))
  | .sub => some (.int k (k.wrap (a - b)))
  | .mul => some (.int k (k.wrap (a * b)))
  | .quo => if b = 0 then none else some (.int k (k.wrap (a.tdiv b)))
  | .rem => if b = 0 then none else some (.int k (a.tmod b))
  | .and => some (.int k (k.wrap (BitVec.ofInt k.bits a &&& BitVec.ofInt k.bits b).toNat))
  | .or => some (.int k (k.wrap (BitVec.ofInt k.bits a ||| BitVec.ofInt k.bits b).toNat))
  | .xor => some (.int k (k.wrap (BitVec.ofInt k.bits a ^^^ BitVec.ofInt k.bits b).toNat))
  | .eql => some (.bool (a == b))
  | .neq => some (.bool (a != b))
  | .lss => some (.bool (a < b))
  | .leq => some (.bool (a ≤ b))
  | .gtr => some (.bool (a > b))
  | .geq => some (.bool (a ≥ b))
  | _ => none

/-- a comparison with a number that lies between two others -/
def cmpIv (op : BinOp) (lo hi b : Int) : Option Bool :=
  match op with
  | .lss => if hi < b then some true else if b ≤ lo then some false else none
  | .leq => if hi ≤ b then some true else if b < lo then some false else none
  | .gtr => if b < lo then some true else if hi ≤ b then some false else none
  | .geq => if b ≤ lo then some true else if hi < b then some false else none
  | .eql => if b < lo then some false else if hi < b then some false else none
  | .neq => if b < lo then some true else if hi < b then some true else none
  | _ => none

def shiftOp (op : BinOp) (k : IntKind) (a : Int) (b : Int) : Option SV :=
  if b < 0 then none else
  match op with
  | .shl => some (.int k (k.wrap (a * 2 ^ (min b.toNat k.bits))))
  | .shr => some (.int k (a.fdiv (2 ^ (min b.toNat k.bits))))
  | _ => none

def strOp (op : BinOp) (a b : List Nat) : Option SV :=
  match op with
  | .add => if a.length + b.length ≤ 9223372036854775807 then some (.str (a ++ b)) else none
  | .eql => some (.bool (a == b))
  | .neq => some (.bool (!(a == b)))
  | .lss => some (.bool (bytesLt a b))
  | .leq => some (.bool (bytesLt a b || a == b))
  | .gtr => some (.bool (!(bytesLt a b || a == b)))
  | .geq => some (.bool (!bytesLt a b))
  | _ => none

def isShift : BinOp → Bool
  | .shl | .shr => true
  | _ => false

def binS (op : BinOp) (t : TypeId) (ox oy : Operand) (x y : SV) : Option SV :=
  match x, y with
  | .int k a, .int k' b => if isShift op then shiftOp op k a b else if k = k' then intOp op k a b else none
  | .opq _ lo hi, .int k b => if k = .i64 then (match cmpIv op lo hi b with
    | some r => some (.bool r)
    | none => none) else none
  | .str a, .str b => strOp op a b
  | .nili, .nili => if isNilC ox || isNilC oy then (match op, P.underlying t with
    | .eql, some (.interface _) => some (.bool true)
    | .neq, some (.interface _) => some (.bool false)
    | _, _ => none) else none
  | x, y => match op with
    | .eql => (eqOpS P t x y).map .bool
    | .neq => (eqOpS P t x y).map fun b => .bool !b
    | _ => none

def unS (op : UnOp) (x : SV) : Option SV :=
  match op, x with
  | .neg, .int k n => some (.int k (k.wrap (0 - n)))
  | .not, .bool b => some (.bool !b)
  | _, _ => none

def convS (src dst : TypeId) (x : SV) : Option SV :=
  match P.underlying src, P.underlying dst, x with
  | some _, some (.int k), .int _ n => some (.int k (k.wrap n))
  | some _, some .string, .str s => some (.str s)
  | _, _, _ => none

/-- the place, and the value, of a key -/
def findS (rec : SV → SV → Option Bool) : List ME → Nat → SV → Option (Option (Nat × SV))
  | [], _, _ => some none
  | e :: es, i, k => match rec k e.k with
    | some true => some (some (i, e.v))
    | some false => findS rec es (i + 1) k
    | none => none

def keyFields (rec : TypeId → SV → Bool) (cs : List SV) : List Field → Bool
  | [] => true
  | f :: fs => if f.name = "_" then keyFields rec cs fs else match partS P f.type cs f.offset with
    | some a => match rec f.type a with
      | true => keyFields rec cs fs
      | false => false
    | none => false

/-- keys that are asked for by == at once -/
def keyS : Nat → TypeId → SV → Bool
  | 0, _, _ => false
  | d + 1, t, v => match P.underlying t, v with
    | some .bool, _ => true
    | some (.int _), _ => true
    | some .string, _ => true
    | some (.struct fields), .agg cs => keyFields P (keyS d) cs fields.toList
    | _, _ => false

def sb0 : SV → SV → Bool
  | .bool a, .bool b => a == b
  | .int j a, .int k b => j == k && a == b
  | .str a, .str b => a == b
  | _, _ => false

def sbL : List SV → List SV → Bool
  | [], [] => true
  | a :: x, b :: y => sb0 a b && sbL x y
  | _, _ => false

/-- are two keys one to the bit? -/
def sbS : SV → SV → Bool
  | .agg x, .agg y => sbL x y
  | a, b => sb0 a b

def esOf (H : Hp) : SV → Option (List ME)
  | .nilm => some []
  | .map p => match H.get p with
    | some (.map es _) => some es
    | _ => none
  | _ => none

def lookupS (H : Hp) (t : TypeId) (x k : SV) (ok : Bool) : Option SV :=
  match P.underlying t with
  | some (.map key elem) => if keyS P 10000 key k then
      match esOf H x with
      | some es => match findS (eqS P eqDeep key) es 0 k with
        | some (some (_, v)) => some (if ok then .tup [v, .bool true] else v)
        | some none => match zeroB P elem with
          | some z => some (if ok then .tup [z, .bool false] else z)
          | none => none
        | none => none
      | none => none
    else none
  | _ => none

def modME (k v : SV) : List ME → Nat → List ME
  | [], _ => []
  | e :: es, 0 => { e with k := k, v := v } :: es
  | e :: es, i + 1 => e :: modME k v es i

def mapUpdS (H : Hp) (t : TypeId) (x k v : SV) : Option Hp :=
  match P.underlying t with
  | some (.map key _) => if keyS P 10000 key k then
      match x with
      | .map p => match H.get p with
        | some (.map es clock) => match findS (eqS P eqDeep key) es 0 k with
          | some (some (i, _)) => match nth es i with
            | some e => if sbS e.k k then some (H.set p (.map (modME k v es i) clock)) else none
            | none => none
          | some none => some (H.set p (.map (es ++ [{ k := k, v := v, born := clock }]) (clock + 1)))
          | none => none
        | _ => none
      | _ => none
    else none
  | _ => none

def assertS (x : SV) (asserted : TypeId) (ok : Bool) : Option SV :=
  match P.underlying asserted, x with
  | some (.interface _), .nili => if ok then (match zeroB P asserted with
    | some z => some (.tup [z, .bool false])
    | none => none) else none
  | some (.interface want), .iface t _ => match P.info? t with
    | some i => match Instr.missingMethod want i.methods with
      | none => some (if ok then .tup [x, .bool true] else x)
      | some _ => if ok then (match zeroB P asserted with
        | some z => some (.tup [z, .bool false])
        | none => none) else none
    | none => none
  | some _, .nili => if ok then (match zeroB P asserted with
    | some z => some (.tup [z, .bool false])
    | none => none) else none
  | some _, .iface t v => if t = asserted then some (if ok then .tup [v, .bool true] else v)
    else if ok then (match zeroB P asserted with
    | some z => some (.tup [z, .bool false])
    | none => none) else none
  | _, _ => none

def intNat (n : Nat) : SV := .int .i64 (.ofNat n)

def lenS (H : Hp) (t : TypeId) (x : SV) : Option SV :=
  match P.underlying t, x with
  | some .string, .str s => some (intNat s.length)
  | some (.array n _), _ => some (intNat n)
  | some (.slice _), .slice _ _ n _ => some (intNat n)
  | some (.slice _), .nils => some (intNat 0)
  | some (.slice _), .etail _ _ _ _ _ => some (intNat 0)
  | some (.map _ _), .nilm => some (intNat 0)
  | some (.map _ _), .map p => match H.get p with
    | some (.map es _) => some (intNat es.length)
    | _ => none
  | some (.pointer arr), _ => match P.underlying arr with
    | some (.array n _) => some (intNat n)
    | _ => none
  | _, _ => none

def capS (t : TypeId) (x : SV) : Option SV :=
  match P.underlying t, x with
  | some (.slice _), .slice _ _ _ (.lim n) => some (intNat n)
  | some (.slice _), .nils => some (intNat 0)
  | _, _ => none

def minL : SV → List SV → Option SV
  | x, [] => some x
  | .int k a, .int _ b :: r => minL (.int k (if b < a then b else a)) r
  | _, _ => none
def maxL : SV → List SV → Option SV
  | x, [] => some x
  | .int k a, .int _ b :: r => maxL (.int k (if b > a then b else a)) r
  | _, _ => none

/-- the cells of what is appended or copied, n elements of a size -/
def srcCells (H : Hp) (size n : Nat) : SV → Option (List SV)
  | .slice p off len _ => if n ≤ len then ldRow H p off (n * size) else none
  | .nils => if n = 0 then some [] else none
  | .etail _ _ _ _ _ => if n = 0 then some [] else none
  | .str s => if size = 1 then (match cut s 0 n with
    | some r => some (r.map fun b => .int .u8 (.ofNat b))
    | none => none) else none
  | _ => none

def lenOfS : SV → Option Nat
  | .slice _ _ n _ => some n
  | .nils => some 0
  | .etail _ _ _ _ _ => some 0
  | .str s => some s.length
  | _ => none

/-- may a row of so many elements be made anew by append? -/
def growsB (i : TypeInfo) (z : SV) (n : Nat) : Bool :=
  !(Nat.beq i.size 0) && Nat.beq z.cells.length i.size && Nat.ble i.bytes 65536 && Nat.ble (n * i.bytes) 1099511627776 && Nat.ble n 1099511627776

/-- append: in place where there is room for certain, else a new row that may grow; the old one, if it may grow itself, is given up -/
def appendS (H : Hp) (t : TypeId) (s x : SV) (intArg : Option Bool) : Option (SV × Hp) :=
  match P.underlying t with
  | some (.slice elem) => match P.info? elem, zeroB P elem with
    | some i, some z => match intArg with
      | none => none
      | some true => match s, natOf x with
        | .nils, some n => if growsB i z n && !(Nat.beq n 0) && allOne z.cells then some (.slice H.next 0 n (.open_ 0), newRowS H elem (rep n z.cells) true) else none
        | _, _ => none
      | some false => match lenOfS x with
        | none => none
        | some n => match srcCells H i.size n x with
          | none => none
          | some new => if allOne new then (match s with
            | .nils => if Nat.beq n 0 then some (.nils, H) else if growsB i z n then some (.slice H.next 0 n (.open_ 0), newRowS H elem new true) else none
            | .slice p off len (.lim c) =>
              if len + n ≤ c then (match stRow H p (off + len * i.size) new with
                | some H' => some (.slice p off (len + n) (.lim c), H')
                | none => none)
              else if growsB i z (len + n + c) then (match ldRow H p off (len * i.size) with
                | some old => some (.slice H.next 0 (len + n) (.open_ 0), newRowS H elem (old ++ new) true)
                | none => none) else none
            | .slice p off len (.open_ k) => match H.get p with
              | some (.row c m e op) =>
                if Nat.beq n 0 then some (s, H)
                else if Nat.beq e elem && op && growsB i z (len + n + len) then
                  if Nat.beq off (k * i.size) && Nat.ble (off + (len + n) * i.size) m then (match stRow H p (off + len * i.size) new with
                    | some H' => some (.slice p off (len + n) (.open_ k), H')
                    | none => none)
                  else if Nat.beq off 0 && Nat.beq k 0 && Nat.beq m (len * i.size) then
                    some (.slice H.next 0 (len + n) (.open_ 0), (H.set p .dead).new (.row (stFrom new m c) (m + new.length) elem true))
                  else none
                else none
              | _ => none
            | _ => none) else none
    | _, _ => none
  | _ => none

def copyS (H : Hp) (t : TypeId) (d x : SV) : Option (SV × Hp) :=
  match P.underlying t with
  | some (.slice elem) => match sizeB P elem, lenOfS x with
    | some size, some n => match d with
      | .slice p off m _ => match srcCells H size (Nat.min n m) x with
        | none => none
        | some cs => match stRow H p off cs with
          | some H' => some (intNat (Nat.min n m), H')
          | none => none
      | .nils => match srcCells H size (Nat.min n 0) x with
        | none => none
        | some _ => some (intNat (Nat.min n 0), H)
      | _ => none
    | _, _ => none
  | _ => none

def clearS (H : Hp) (t : TypeId) (x : SV) : Option Hp :=
  match P.underlying t, x with
  | some (.map _ _), .nilm => some H
  | some (.map _ _), .map p => match H.get p with
    | some (.map _ clock) => some (H.set p (.map [] clock))
    | _ => none
  | some (.slice _), .nils => some H
  | some (.slice _), .etail _ _ _ _ _ => some H
  | some (.slice elem), .slice p off n _ => match n with
    | 0 => some H
    | _ => match zerosB P elem n with
      | some z => stRow H p off z
      | none => none
  | _, _ => none

/-- what an operation comes to -/
inductive Out where
  | val (v : SV) (H : Hp)
  | call (f : FuncId) (args : List SV)

def vO (H : Hp) : Option SV → Option Out
  | some v => some (.val v H)
  | none => none
def hO : Option Hp → Option Out
  | some H => some (.val (.tup []) H)
  | none => none
def pO : Option (SV × Hp) → Option Out
  | some (v, H) => some (.val v H)
  | none => none

def evL (E : Env) : List Operand → Option (List SV)
  | [] => some []
  | x :: l => match ev E x with
    | none => none
    | some v => match evL E l with
      | none => none
      | some r => some (v :: r)

def evP (E : Env) : List (Nat × Operand) → Option (List (Nat × SV))
  | [] => some []
  | (i, x) :: l => match ev E x with
    | none => none
    | some v => match evP E l with
      | none => none
      | some r => some ((i, v) :: r)

def evO (E : Env) : Option Operand → Option (Option SV)
  | none => some none
  | some x => match ev E x with
    | some v => some (some v)
    | none => none

def ev1 (E : Env) (x : Operand) (k : SV → Option Out) : Option Out :=
  match ev E x with
  | some v => k v
  | none => none
def ev2 (E : Env) (x y : Operand) (k : SV → SV → Option Out) : Option Out :=
  match ev E x with
  | some v => match ev E y with
    | some w => k v w
    | none => none
  | none => none
def ev3 (E : Env) (x y z : Operand) (k : SV → SV → SV → Option Out) : Option Out :=
  match ev E x with
  | some v => match ev E y with
    | some w => match ev E z with
      | some u => k v w u
      | none => none
    | none => none
  | none => none

/-- may a function be entered by a call? -/
def enters (f : FuncId) : Bool :=
  match P.funcs[f]? with
  | some fn => !(fn.name == "runtime.NumGoroutine") && fn.body.isSome
  | none => false

def callS (f : FuncId) (args : List SV) : Option Out := if enters P f then some (.call f args) else none

def methodS (t : TypeId) (name : String) : Option FuncId :=
  match P.info? t with
  | some i => match i.methods.find? (·.name == name) with
    | some m => if m.path.isEmpty then (match m.func, P.underlying t with
      | some (f, true), some (.pointer _) => some f
      | some (_, false), some (.pointer _) => none
      | some (f, false), some _ => some f
      | _, _ => none) else none
    | none => none
  | none => none

def isIntT : Option TypeId → Option Bool
  | some t => match P.underlying t with
    | some (.int _) => some true
    | some _ => some false
    | none => none
  | none => some false

def builtinS (H : Hp) (b : Builtin) (ts : Array TypeId) (args : List SV) : Option Out :=
  match b, ts[0]?, args with
  | .len, some t, [x] => vO H (lenS P H t x)
  | .cap, some t, [x] => vO H (capS P t x)
  | .append, some t, [s, x] => pO (appendS P H t s x (isIntT P ts[1]?))
  | .copy, some t, [d, x] => pO (copyS P H t d x)
  | .clear, some t, [x] => hO (clearS P H t x)
  | .min, _, x :: r => vO H (minL x r)
  | .max, _, x :: r => vO H (maxL x r)
  | _, _, _ => none

def callOpS (E : Env) (H : Hp) (c : Call) : Option Out :=
  match evL E c.args.toList with
  | none => none
  | some args => match c.callee with
    | .builtin b => builtinS P H b c.argTypes args
    | .value f => match ev E f with
      | some (.func (.func g) first captured) => callS P g (first ++ args ++ captured)
      | _ => none
    | .invoke recv name => match ev E recv with
      | some (.iface t v) => match methodS P t name with
        | some f => callS P f (v :: args)
        | none => none
      | _ => none

def opS (E : Env) (H : Hp) (op : Op) : Option Out :=
  match op with
  | .move x | .assign x => ev1 E x fun v => some (.val v H)
  | .pick c a b => ev3 E c a b fun c a b => match c with
    | .bool t => some (.val (if t then a else b) H)
    | _ => none
  | .alloc t => match zeroB P t with
    | some z => some (.val (.ptr H.next 0) (newRowS H t z.cells false))
    | none => none
  | .box t x => ev1 E x fun v => some (.val (.ptr H.next 0) (newRowS H t v.cells false))
  | .build t parts => match evP E parts.toList with
    | some ps => vO H (buildS P t ps)
    | none => none
  | .buildSlice t len parts => match evP E parts.toList with
    | some ps => pO (buildSliceS P H t len ps)
    | none => none
  | .load t a => ev1 E a fun a => vO H (loadS P H t a)
  | .store t a x => ev2 E a x fun a x => hO (storeS P H t a x)
  | .nilCheck x => ev1 E x fun v => match v with
    | .nilp | .nili | .nilf => none
    | .func (.func f) first captured => some (.val (.func (.func f) first captured) H)
    | .func _ _ _ => none
    | v => some (.val v H)
  | .binOp op t x y _ => ev2 E x y fun v w => vO H (binS P op t x y v w)
  | .unOp op _ x => ev1 E x fun v => vO H (unS op v)
  | .convert src dst x => ev1 E x fun v => vO H (convS P src dst v)
  | .makeInterface t x => ev1 E x fun v => match P.underlying t with
    | some (.interface _) => none
    | some _ => some (.val (.iface t v) H)
    | none => none
  | .makeFunc fn first captured => match evL E first.toList, evL E captured.toList with
    | some a, some b => some (.val (.func fn a b) H)
    | _, _ => none
  | .makeMap _ none => some (.val (.map H.next) (H.new (.map [] 0)))
  | .makeMap t (some x) => ev1 E x fun v => match P.underlying t, natOf v with
    | some (.map _ _), some _ => some (.val (.map H.next) (H.new (.map [] 0)))
    | _, _ => none
  | .makeSlice t l c => ev2 E l c fun l c => pO (makeSliceS P H t l c)
  | .slice t x lo hi mx => match evO E lo, evO E hi, evO E mx with
    | some lo, some hi, some mx => ev1 E x fun v => vO H (sliceS P t v lo hi mx)
    | _, _, _ => none
  | .fieldAddr s x f => ev1 E x fun v => vO H (fieldAddrS P s v f)
  | .field t x f => ev1 E x fun v => vO H (fieldS P t v f)
  | .indexAddr t x i => ev2 E x i fun v i => vO H (indexAddrS P t v i)
  | .index t x i => ev2 E x i fun v i => vO H (indexS P t v i)
  | .lookup t x k ok => ev2 E x k fun x k => vO H (lookupS P H t x k ok)
  | .mapUpdate t m k x | .insert t m k x => ev3 E m k x fun m k x => hO (mapUpdS P H t m k x)
  | .typeAssert x _ asserted ok => ev1 E x fun v => vO H (assertS P v asserted ok)
  | .extract x i => ev1 E x fun v => match v with
    | .tup l => vO H (nth l i)
    | _ => none
  | .call c => callOpS P E H c
  | _ => none

def quietB : Builtin → Bool
  | .len | .cap | .min | .max => true
  | _ => false

/-- operations that leave memory as it is -/
def quietOp : Op → Bool
  | .move _ | .assign _ | .pick _ _ _ | .build _ _ | .load _ _ | .nilCheck _ | .binOp _ _ _ _ _ | .unOp _ _ _ | .convert _ _ _ | .makeInterface _ _ | .makeFunc _ _ _
  | .slice _ _ _ _ _ | .fieldAddr _ _ _ | .field _ _ _ | .indexAddr _ _ _ | .index _ _ _ | .lookup _ _ _ _ | .typeAssert _ _ _ _ | .extract _ _ => true
  | .call c => match c.callee with
    | .builtin b => quietB b
    | _ => false
  | _ => false

/-- of these, the ones that look at memory -/
def readOp : Op → Bool
  | .load _ _ | .lookup _ _ _ _ => true
  | .call c => match c.callee with
    | .builtin .len => true
    | _ => false
  | _ => false

/-- operations that make a block out of their operands, and do nothing else -/
def allocOp : Op → Bool
  | .alloc _ | .box _ _ | .buildSlice _ _ _ => true
  | _ => false

inductive Xt where
  | normal
  | exit (id : Nat)
  | ret

/-- what a function comes to -/
abbrev CallF := FuncId → List SV → Hp → Option (SV × Hp)

def putS (N : Nat) (E : Env) (d : Option Tmp) (v : SV) : Option Env :=
  match d with
  | none => some E
  | some t => if t < N then some (E.set v (pa t)) else none

def wantedS (ops : Array Oper) (E : Env) (o : Oper) : Option Bool :=
  match o.guard with
  | none => some true
  | some (j, want) => match (ops[j]?).bind (·.dst) with
    | some t => match E.get (pa t) with
      | some (.bool b) => some (b == want)
      | some (.tup []) => some false
      | _ => none
    | none => some false

/-- one operation of a region -/
def stepS (N : Nat) (call : CallF) (ops : Array Oper) (o : Oper) (E : Env) (H : Hp) : Option (Env × Hp) :=
  match wantedS ops E o with
  | none => none
  | some false => match putS N E o.dst (.tup []) with
    | some E' => some (E', H)
    | none => none
  | some true => match opS P E H o.op with
    | none => none
    | some (.val v H') => match putS N E o.dst v with
      | some E' => some (E', H')
      | none => none
    | some (.call f args) => match call f args H with
      | none => none
      | some (v, H') => match putS N E o.dst v with
        | some E' => some (E', H')
        | none => none

def opsS (N : Nat) (call : CallF) (ops : Array Oper) : List Oper → Env → Hp → Option (Env × Hp)
  | [], E, H => some (E, H)
  | o :: l, E, H => match stepS P N call ops o E H with
    | none => none
    | some (E', H') => opsS N call ops l E' H'

/-! a region that draws its order: what leaves memory as it is comes as soon as it may -/

def waitsB (o : Oper) (q : Nat) : Bool := o.after.toList.any fun e => Region.binds .any e && Nat.beq e.on q

def isQuiet (o : Oper) : Bool := quietOp o.op

/-- behind how many of the others an operation comes -/
def levelOf (lv : Tr Nat) : List Edge → Nat → Nat
  | [], m => m
  | e :: l, m => match lv.get (pa e.on) with
    | some x => levelOf lv l (Nat.max m x)
    | none => levelOf lv l m

/-- of each operation: its number, does it leave memory as it is, its level (of another: which one it is) -/
def levels : List Oper → Nat → Nat → Tr Nat → List (Nat × Bool × Nat)
  | [], _, _, _ => []
  | o :: l, i, r, lv => match isQuiet o with
    | true =>
      let m := levelOf lv o.after.toList 0
      (i, true, m) :: levels l (i + 1) r (lv.set m (pa i))
    | false => (i, false, r + 1) :: levels l (i + 1) (r + 1) (lv.set (r + 1) (pa i))

def pickLevel (m : Nat) (q : Bool) : List (Nat × Bool × Nat) → List Nat
  | [] => []
  | (i, q', m') :: l => match q, q', Nat.beq m m' with
    | true, true, true => i :: pickLevel m q l
    | false, false, true => i :: pickLevel m q l
    | _, _, _ => pickLevel m q l

def orderBy (l : List (Nat × Bool × Nat)) : Nat → Nat → List Nat
  | 0, _ => []
  | f + 1, m => match pickLevel m true l, pickLevel (m + 1) false l with
    | a, [] => a
    | a, b => a ++ b ++ orderBy l f (m + 1)

structure SStep where
  i : Nat
  o : Oper
  quiet : Bool
  read : Bool

def sstep (ops : Array Oper) (i : Nat) : Option SStep :=
  match ops[i]? with
  | some o => some { i := i, o := o, quiet := quietOp o.op, read := readOp o.op }
  | none => none

def sched (ops : Array Oper) : Option (List SStep) := mapO (sstep ops) (orderBy (levels ops.toList 0 0 .e) (ops.size + 1) 0)

/-- may an operation come up ahead of time, since all it does is to make a block? -/
def floatB (ops : Array Oper) (listed : Array Bool) (c : Nat) : Bool :=
  match ops[c]? with
  | some o => allocOp o.op && o.guard.isNone && o.dst.isSome && Region.free .any ops listed c
  | none => false

/-- does such an order serve? -/
def okS (ops : Array Oper) : Array Bool → List SStep → Bool
  | listed, [] => (Region.ready .any ops listed).isEmpty
  | listed, s :: rest => (match s.quiet with
      | true => (Region.ready .any ops listed).contains s.i && Region.free .any ops listed s.i
      | false => match Region.ready .any ops listed with
        | [i] => i == s.i
        | [i, j] => (i == s.i && j != s.i && floatB ops listed j && rest.any (fun t => t.i == j) && Region.ready .any ops (listed.setIfInBounds j true) == [s.i]) ||
            (j == s.i && i != s.i && floatB ops listed i && rest.any (fun t => t.i == i) && Region.ready .any ops (listed.setIfInBounds i true) == [s.i])
        | _ => false) && okS ops (listed.setIfInBounds s.i true) rest

def okRegion (ops : Array Oper) : Bool :=
  match sched ops with
  | some l => l.length == ops.size && Region.noSelect ops && okS ops (Array.replicate ops.size false) l
  | none => false

/-- what was read ahead -/
structure Tk where
  i : Nat
  E : Env
  o : Oper
  s : SV

mutual
def svEq : SV → SV → Bool
  | .bool a, .bool b => a == b
  | .int j a, .int k b => j == k && a == b
  | .opq a l m, .opq b n o => Nat.beq a b && l == n && m == o
  | .str a, .str b => a == b
  | .ptr p a, .ptr q b => Nat.beq p q && Nat.beq a b
  | .nilp, .nilp => true
  | .slice p a l (.lim c), .slice q b m (.lim d) => Nat.beq p q && Nat.beq a b && Nat.beq l m && Nat.beq c d
  | .slice p a l (.open_ c), .slice q b m (.open_ d) => Nat.beq p q && Nat.beq a b && Nat.beq l m && Nat.beq c d
  | .nils, .nils => true
  | .map p, .map q => Nat.beq p q
  | .nilm, .nilm => true
  | .func (.func f) a b, .func (.func g) c d => Nat.beq f g && svEqL a c && svEqL b d
  | .nilf, .nilf => true
  | .iface t v, .iface u w => Nat.beq t u && svEq v w
  | .nili, .nili => true
  | .agg a, .agg b => svEqL a b
  | .tup a, .tup b => svEqL a b
  | _, _ => false
def svEqL : List SV → List SV → Bool
  | [], [] => true
  | a :: l, b :: m => svEq a b && svEqL l m
  | _, _ => false
end

def holdsB (H : Hp) (t : Tk) : Bool :=
  match opS P t.E H t.o.op with
  | some (.val s _) => svEq s t.s
  | _ => false

/-- operations that make a block and may come up ahead of one -/
def floatsOf (s : SStep) (rest : List SStep) : List Oper :=
  (rest.filter fun t => allocOp t.o.op && t.o.guard.isNone && t.o.after.toList.all fun e => !(Region.binds .any e) || !((s :: rest).any fun u => Nat.beq u.i e.on)).map SStep.o

def valB (E : Env) (H : Hp) (o : Oper) : Bool :=
  match opS P E H o.op with
  | some (.val _ _) => true
  | _ => false

def drawS (N : Nat) (call : CallF) (ops : Array Oper) : List SStep → List Tk → Env → Hp → Option (Env × Hp)
  | [], _, E, H => some (E, H)
  | s :: rest, tk, E, H => match wantedS ops E s.o with
    | none => none
    | some false => match putS N E s.o.dst (.tup []) with
      | some E' => if s.quiet || (floatsOf s rest).all (valB P E H) then drawS N call ops rest tk E' H else none
      | none => none
    | some true => match s.quiet with
      | true => match opS P E H s.o.op with
        | some (.val v _) => match putS N E s.o.dst v with
          | some E' => drawS N call ops rest (match s.read with | true => { i := s.i, E := E, o := s.o, s := v } :: tk | false => tk) E' H
          | none => none
        | _ => none
      | false => match stepS P N call ops s.o E H with
        | none => none
        | some (E', H') =>
          let tk' := tk.filter fun t => !waitsB s.o t.i
          if (floatsOf s rest).all (valB P E H) && tk'.all (holdsB P H') then drawS N call ops rest tk' E' H' else none

def loopS (body : Env → Hp → Option (Xt × Env × Hp)) : Nat → Env → Hp → Option (Xt × Env × Hp)
  | 0, _, _ => none
  | n + 1, E, H => match body E H with
    | none => none
    | some (.normal, E', H') => loopS body n E' H'
    | some r => some r

def loopFuel : Nat := 100000

def codeS (N : Nat) (call : CallF) : Code → Env → Hp → Option (Xt × Env × Hp)
  | .skip, E, H => some (.normal, E, H)
  | .label _, E, H => some (.normal, E, H)
  | .ret, E, H => some (.ret, E, H)
  | .exit id, E, H => some (.exit id, E, H)
  | .region _ ops false, E, H => match opsS P N call ops ops.toList E H with
    | some (E', H') => some (.normal, E', H')
    | none => none
  | .region _ ops true, E, H => match sched ops with
    | none => none
    | some l => match drawS P N call ops l [] E H with
      | some (E', H') => some (.normal, E', H')
      | none => none
  | .seq a b, E, H => match codeS N call a E H with
    | none => none
    | some (.normal, E', H') => codeS N call b E' H'
    | some r => some r
  | .cond c a b, E, H => match ev E c with
    | some (.bool true) => codeS N call a E H
    | some (.bool false) => codeS N call b E H
    | _ => none
  | .block id c, E, H => match codeS N call c E H with
    | some (.exit i, E', H') => if Nat.beq i id then some (.normal, E', H') else some (.exit i, E', H')
    | r => r
  | .loop c, E, H => loopS (codeS N call c) loopFuel E H
  | .scope c, E, H => codeS N call c E H
  | _, _, _ => none

def argsE : List SV → Nat → Env → Env
  | [], _, E => E
  | v :: l, i, E => argsE l (i + 1) (E.set v (pa i))

def resV (E : Env) (H : Hp) : ResultVar → Option SV
  | .tmp t => E.get (pa t)
  | .cell a t => match E.get (pa a) with
    | some a => loadS P H t a
    | none => none

def resS (E : Env) (H : Hp) (rs : List ResultVar) : Option SV :=
  match mapO (resV P E H) rs with
  | none => none
  | some [v] => some v
  | some l => some (.tup l)

def fnS : Nat → CallF
  | 0, _, _, _ => none
  | n + 1, f, args, H => match P.funcs[f]? with
    | none => none
    | some fn => match fn.body with
      | none => none
      | some c => if args.length ≤ fn.ntmps then
          (match codeS P fn.ntmps (fnS n) c (argsE args 0 .e) H with
          | some (.normal, E, H') => (match resS P E H' fn.results.toList with
            | some v => some (v, H')
            | none => none)
          | some (.ret, E, H') => (match resS P E H' fn.results.toList with
            | some v => some (v, H')
            | none => none)
          | _ => none)
        else none

/-- are all regions of a text such that they are taken in order? -/
def codeOk : Code → Bool
  | .region _ ops true => okRegion ops
  | .seq a b => codeOk a && codeOk b
  | .cond _ a b => codeOk a && codeOk b
  | .block _ c => codeOk c
  | .loop c => codeOk c
  | .scope c => codeOk c
  | _ => true

def fnsOk : List Func → Bool
  | [] => true
  | f :: l => (match f.body with
    | some c => codeOk c
    | none => true) && fnsOk l

end
end Go.Ex
