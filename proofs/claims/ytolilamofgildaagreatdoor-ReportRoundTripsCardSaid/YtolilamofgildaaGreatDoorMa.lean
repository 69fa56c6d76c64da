/-
The abstract machine, part Ma: its texts one after the other. Conditions: those that each theorem names.
-/
import GoSem.Dispatch
import GoSem.Machine.Frame
import Derived.WalkKit
import Derived.Below
import Derived.Laws.Sem
import Derived.Laws.World
import Derived.Laws.IdiomCopy
import Derived.Laws.Cells
import Derived.Laws.Strings
import Derived.Laws.Concat
import Derived.Laws.StructEq
import Derived.Laws.Small
import Derived.Laws.Pointers
import Derived.Laws.Cover3
import Derived.ChangeKeysEq
import Derived.Lib.ConvBytes
import Derived.Lib.UnsafeStr
import Derived.Lib.Builder
import Derived.Laws.IdiomStrings
set_option linter.unusedSimpArgs false
set_option linter.unusedVariables false
set_option linter.defProp false

/- An abstract machine for the translated code: values whose addresses are names of blocks, a heap of named blocks, and the evaluation of compiled code over them. Its conditions: none, these are definitions. -/
namespace Go.Am

/-- Values. A block is told by a name (a number); 'sl i o z n c': n elements of z cells each from cell o of block i on, capacity c where it is known. -/
inductive AV where
  | undef
  | bool (b : Bool)
  | int (k : IntKind) (n : Int)
  | str (s : List UInt8)
  | nilp
  | ptr (i o : Nat)
  | nils
  | sl (i o z n : Nat) (c : Option Nat)
  | esl
  | func (f : FuncId) (cs : List AV)
  | nilf
  | iface (t : TypeId) (v : AV)
  | nili
  | agg (cs : List AV)
  | tup (vs : List AV)
  deriving Inhabited

structure Blk where
  cells : List AV
  ro : Bool
  ty : TypeId
  wh : Bool
  s0 : Bool
  deriving Inhabited

def lk {α : Type} : List (Nat × α) → Nat → Option α
  | [], _ => none
  | (j, a) :: l, i => if j = i then some a else lk l i

def rpl {α : Type} : List (Nat × α) → Nat → α → List (Nat × α)
  | [], _, _ => []
  | (j, a) :: l, i, b => if j = i then (j, b) :: l else (j, a) :: rpl l i b

def del {α : Type} : List (Nat × α) → Nat → List (Nat × α)
  | [], _ => []
  | (j, a) :: l, i => if j = i then del l i else (j, a) :: del l i

/-- The heap: live blocks, newest first; the next name; blocks with names below 'floor' may not be written. -/
structure AH where
  blks : List (Nat × Blk)
  next : Nat
  floor : Nat
  deriving Inhabited

def AH.get (H : AH) (i : Nat) : Option Blk := lk H.blks i
def AH.push (H : AH) (ty : TypeId) (wh : Bool) (cs : List AV) : AH := { H with blks := (H.next, ⟨cs, false, ty, wh, true⟩) :: H.blks, next := H.next + 1 }
def AH.put (H : AH) (i : Nat) (b : Blk) : AH := { H with blks := rpl H.blks i b }
/-- Block i goes; a new one holds cs. -/
def AH.turn (H : AH) (i : Nat) (ty : TypeId) (s0 : Bool) (cs : List AV) : AH := { H with blks := (H.next, ⟨cs, false, ty, false, s0⟩) :: del H.blks i, next := H.next + 1 }
/-- Block i goes. -/
def AH.kill (H : AH) (i : Nat) : AH := { H with blks := del H.blks i }

inductive Out where
  | ok (v : AV)
  | pan (v : AV)
  deriving Inhabited

inductive Arg where
  | t (n : Nat)
  | c (v : AV)
  deriving Inhabited

/-- How a type's values are compared. -/
inductive ETy where
  | int
  | bool
  | str
  | ptr
  | iface
  | slice
  | func
  | st (fs : List (Nat × Option Nat × ETy))
  deriving Inhabited

inductive AOp where
  | mov (x : Arg)
  | pick (c a b : Arg)
  | box (ty : TypeId) (x : Arg)
  | alloc (ty : TypeId) (z : List AV)
  | ld1 (a : Arg)
  | ldn (n : Nat) (a : Arg)
  | st (n : Nat) (a x : Arg)
  | bin (op : BinOp) (x y : Arg)
  | eqv (neg lit : Bool) (d : ETy) (x y : Arg)
  | un (op : UnOp) (x : Arg)
  | conv (k : IntKind) (x : Arg)
  | s2b (ty : TypeId) (x : Arg)
  | b2s (x : Arg)
  | fld (off : Nat) (n : Option Nat) (x : Arg)
  | fa (off : Nat) (x : Arg)
  | ia (z : Nat) (x i : Arg)
  | iaa (len z : Nat) (x i : Arg)
  | ids (x i : Arg)
  | ida (len z : Nat) (n : Option Nat) (x i : Arg)
  | bld (zero : List AV) (parts : List (Nat × Nat × Arg))
  | bsl (ty : TypeId) (z len : Nat) (zero : List AV) (parts : List (Nat × Nat × Arg))
  | sub (x : Arg) (lo hi : Option Arg)
  | sls (z : Nat) (x : Arg) (lo hi mx : Option Arg)
  | sla (n z : Nat) (x : Arg) (lo hi mx : Option Arg)
  | lens (x : Arg)
  | lenl (x : Arg)
  | cvs (x : Arg)
  | app (ty : TypeId) (z bytes : Nat) (x y : Arg)
  | cpy (z : Nat) (x y : Arg)
  | mn (x y : Arg)
  | mx (x y : Arg)
  | mks (ty : TypeId) (z bytes : Nat) (zero : List AV) (l c : Arg)
  | ext (i : Nat) (x : Arg)
  | call (f : FuncId) (args : List Arg)
  | callv (f : Arg) (args : List Arg)
  | mkf (f : FuncId) (cs : List Arg)
  | mki (t : TypeId) (x : Arg)
  | ta (t : TypeId) (zero : AV) (ok : Bool) (x : Arg)
  | nlc (x : Arg)
  | pan (x : Arg)
  | tous (x : Arg)
  | frus (ty : TypeId) (n : Nat) (x : Arg)
  | usd (x : Arg)
  | ustr (ty : TypeId) (x n : Arg)
  | cap (x : Arg)
  deriving Inhabited

structure AIns where
  dst : Option Nat
  op : AOp
  guard : Option (Nat × Bool)
  deriving Inhabited

/-- An operation of a region that draws its order: 'deps': all that come before it in every order; 'late': all that come behind it in every order; 'kind': 0 pure, 1 it reads memory or makes blocks alone, 2 it may write, and is ordered with every operation of kinds 1 and 2. -/
structure DIns where
  ins : AIns
  deps : List Nat
  late : List Nat
  kind : Nat
  deriving Inhabited

inductive ACode where
  | skip
  | reg (is : List AIns)
  | regd (is : List DIns)
  | seq (a b : ACode)
  | cond (c : Arg) (a b : ACode)
  | block (id : Nat) (b : ACode)
  | loop (live : Option (List Nat)) (b : ACode)
  | exit (id : Nat)
  | ret
  | trim (l : List Nat)
  deriving Inhabited

inductive ARes where
  | tmp (t : Nat)
  | cell1 (a : Nat)
  | celln (a n : Nat)
  deriving Inhabited

/-- 'view': it is called by value: it sees the cells of its slices, in a heap of its own, and leaves the caller's heap. 'pre': what comes ahead of its 'defer', and the temporary that holds the closure deferred. -/
structure AFun where
  nt : Nat
  res : List ARes
  code : ACode
  view : Bool := false
  pre : Option (ACode × Nat) := none
  deriving Inhabited

abbrev Env := List (Nat × AV)
def Env.at (e : Env) (t : Nat) : AV := (lk e t).getD .undef
def Arg.val (e : Env) : Arg → AV
  | .t n => e.at n
  | .c v => v

abbrev Call := FuncId → List AV → AH → Option (Out × AH)

/-- The cells that a value takes in memory. -/
def AV.cells? : AV → Option (List AV)
  | .undef => none
  | .agg cs => some cs
  | .tup _ => none
  | v => some [v]

def aeq : ETy → Bool → AV → AV → Option Bool
  | .int, _, .int k a, .int k' b => if k = k' then some (a == b) else none
  | .bool, _, .bool a, .bool b => some (a == b)
  | .str, _, .str a, .str b => some (a == b)
  | .ptr, _, .nilp, .nilp => some true
  | .ptr, _, .ptr i o, .ptr j p => if i = j then some (o == p) else none
  | .ptr, _, .nilp, .ptr _ _ => some false
  | .ptr, _, .ptr _ _, .nilp => some false
  | .iface, lit, .nili, .nili => if lit then some true else none
  | .iface, _, .nili, .iface _ _ => some false
  | .iface, _, .iface _ _, .nili => some false
  | .slice, _, .nils, .nils => some true
  | .slice, _, .nils, .sl .. => some false
  | .slice, _, .nils, .esl => some false
  | .slice, _, .sl .., .nils => some false
  | .slice, _, .esl, .nils => some false
  | .func, _, .nilf, .nilf => some true
  | .func, _, .nilf, .func _ _ => some false
  | .func, _, .func _ _, .nilf => some false
  | _, _, _, _ => none

def fldOf (cs : List AV) (off : Nat) : Option Nat → Option AV
  | none => cs[off]?
  | some n => some (.agg ((cs.drop off).take n))

/-- Structs' fields one by one; a struct within is laid flat by the compiler. -/
def aeqs : List (Nat × Option Nat × ETy) → List AV → List AV → Option Bool
  | [], _, _ => some true
  | (o, _, d) :: fs, xs, ys =>
    match xs[o]?, ys[o]? with
    | some x, some y =>
      match aeq d false x y with
      | some true => aeqs fs xs ys
      | some false => some false
      | none => none
    | _, _ => none

def aeqv (neg lit : Bool) (d : ETy) (x y : AV) : Option AV :=
  match d, x, y with
  | .st fs, .agg xs, .agg ys => (aeqs fs xs ys).map fun b => .bool (b != neg)
  | d, x, y => (aeq d lit x y).map fun b => .bool (b != neg)

def abin (op : BinOp) : AV → AV → Option AV
  | .int k a, .int k' b =>
    match op with
    | .shl => if b < 0 then none else some (.int k (k.wrap (a * 2 ^ (min b.toNat k.bits))))
    | .shr => if b < 0 then none else some (.int k (a.fdiv (2 ^ (min b.toNat k.bits))))
    | .add => if k = k' then some (.int k (k.wrap (a + b))) else none
    | .sub => if k = k' then some (.int k (k.wrap (a - b))) else none
    | .mul => if k = k' then some (.int k (k.wrap (a * b))) else none
    | .quo => if k = k' then (if b = 0 then none else some (.int k (k.wrap (a.tdiv b)))) else none
    | .rem => if k = k' then (if b = 0 then none else some (.int k (a.tmod b))) else none
    | .and => if k = k' then some (.int k (k.wrap (BitVec.ofInt k.bits a &&& BitVec.ofInt k.bits b).toNat)) else none
    | .or => if k = k' then some (.int k (k.wrap (BitVec.ofInt k.bits a ||| BitVec.ofInt k.bits b).toNat)) else none
    | .xor => if k = k' then some (.int k (k.wrap (BitVec.ofInt k.bits a ^^^ BitVec.ofInt k.bits b).toNat)) else none
    | .andNot => if k = k' then some (.int k (k.wrap (BitVec.ofInt k.bits a &&& ~~~ BitVec.ofInt k.bits b).toNat)) else none
    | .eql => if k = k' then some (.bool (a == b)) else none
    | .neq => if k = k' then some (.bool (a != b)) else none
    | .lss => if k = k' then some (.bool (a < b)) else none
    | .leq => if k = k' then some (.bool (a ≤ b)) else none
    | .gtr => if k = k' then some (.bool (a > b)) else none
    | .geq => if k = k' then some (.bool (a ≥ b)) else none
  | .str a, .str b =>
    match op with
    | .add => if a.length + b.length ≤ 281474976710656 then some (.str (a ++ b)) else none
    | .eql => some (.bool (a == b))
    | .neq => some (.bool (!(a == b)))
    | .lss => some (.bool (Op.bytesLess a b))
    | .leq => some (.bool (Op.bytesLess a b || a == b))
    | .gtr => some (.bool (!(Op.bytesLess a b || a == b)))
    | .geq => some (.bool (!(Op.bytesLess a b)))
    | _ => none
  | _, _ => none

def aun (op : UnOp) : AV → Option AV
  | .int k n =>
    match op with
    | .neg => some (.int k (k.wrap (0 - n)))
    | .xor => some (.int k (k.wrap (BitVec.ofInt k.bits (if k.signed then -1 else k.max) ^^^ BitVec.ofInt k.bits n).toNat))
    | _ => none
  | .bool b => match op with | .not => some (.bool (!b)) | _ => none
  | _ => none

/-- cs with vs from o on. -/
def putAt (cs : List AV) (o : Nat) : List AV → List AV
  | [] => cs
  | v :: vs => putAt (cs.set o v) (o + 1) vs

def afill (z : List AV) : List (Nat × Nat × AV) → Option (List AV)
  | [] => some z
  | (off, n, v) :: rest =>
    match v.cells? with
    | some cs => if cs.length = n ∧ off + n ≤ z.length then afill (putAt z off cs) rest else none
    | none => none

def rep (n : Nat) (z : List AV) : List AV := (List.replicate n z).flatten

def toBytes : List AV → Option (List UInt8)
  | [] => some []
  | .int .u8 n :: l => if 0 ≤ n ∧ n < 256 then (toBytes l).map fun s => UInt8.ofNat n.toNat :: s else none
  | _ => none

def ofBytes (s : List UInt8) : List AV := s.map fun b => .int .u8 b.toNat

def AH.cellsAt (H : AH) (i o n : Nat) : Option (List AV) :=
  match H.get i with
  | some b => if o + n ≤ b.cells.length then some ((b.cells.drop o).take n) else none
  | none => none

/-- What may be stored in a cell. -/
def solid : AV → Bool
  | .undef | .agg _ | .tup _ => false
  | _ => true

/-- What 'append' and 'copy' take over from their last argument. -/
def takeFrom (H : AH) (z : Nat) : AV → Option (List AV)
  | .nils => some []
  | .esl => some []
  | .sl i o z' n _ => if z' = z then H.cellsAt i o (n * z) else none
  | .str s => if z = 1 then some (ofBytes s) else none
  | _ => none

def lenOf : AV → Option Nat
  | .nils => some 0
  | .esl => some 0
  | .sl _ _ _ n _ => some n
  | .str s => some s.length
  | _ => none

/-- A bound of a slice expression. -/
def bnd (x : AV) (y : Nat) : Option Nat :=
  match x with
  | .int _ i => if 0 ≤ i ∧ i ≤ y then some i.toNat else none
  | _ => none

/-- low and high of a slice expression whose greatest high is m. -/
def bnds (n m : Nat) (lo hi : Option AV) : Option (Nat × Nat) :=
  match (match hi with | some v => bnd v m | none => some n) with
  | none => none
  | some h => match (match lo with | some v => bnd v h | none => some 0) with
    | none => none
    | some l => some (l, h)

def AH.store (H : AH) (i o : Nat) (vs : List AV) : Option AH :=
  if i < H.floor then none else
  match H.get i with
  | some b => if b.ro then none else if o + vs.length ≤ b.cells.length ∧ vs.all solid = true then some (H.put i { b with cells := putAt b.cells o vs }) else none
  | none => none

def ok1 (H : AH) (v : AV) : Option (Out × AH) := some (.ok v, H)
def okM (H : AH) : Option AV → Option (Out × AH)
  | some v => some (.ok v, H)
  | none => none

/-- 'append' of these cells. -/
def aapp (H : AH) (ty : TypeId) (z bytes : Nat) (s : AV) (new : List AV) : Option (Out × AH) :=
  match s with
  | .nils => if (new.length / z) * (bytes + 1) ≤ 140737488355328 ∧ ¬ z = 0 ∧ new.length % z = 0 then
      (if new = [] then ok1 H .nils else ok1 (H.push ty false new) (.sl H.next 0 z (new.length / z) none)) else none
  | .sl i o z' n c =>
    if z' = z ∧ ¬ z = 0 ∧ (n + new.length / z) * (bytes + 1) ≤ 140737488355328 ∧ new.length % z = 0 then
      (if new = [] then ok1 H (.sl i o z n c) else
       match H.cellsAt i o (n * z), H.get i with
       | some old, some b =>
         if c = some n then ok1 (H.push ty false (old ++ new)) (.sl H.next 0 z (n + new.length / z) none)
         else if b.ro = false ∧ H.floor ≤ i ∧ b.ty = ty then ok1 (H.turn i ty (b.s0 && o == 0) (old ++ new)) (.sl H.next 0 z (n + new.length / z) none)
         else none
       | _, _ => none)
    else none
  | _ => none

def exe (call : Call) (e : Env) (op : AOp) (H : AH) : Option (Out × AH) :=
  match op with
  | .mov x => ok1 H (x.val e)
  | .pick c a b => match c.val e with
    | .bool t => ok1 H (if t then a.val e else b.val e)
    | _ => none
  | .box ty x => match (x.val e).cells? with
    | some cs => ok1 (H.push ty true cs) (.ptr H.next 0)
    | none => none
  | .alloc ty z => ok1 (H.push ty true z) (.ptr H.next 0)
  | .ld1 a => match a.val e with
    | .ptr i o => match H.get i with
      | some b => okM H b.cells[o]?
      | none => none
    | _ => none
  | .ldn n a => match a.val e with
    | .ptr i o => okM H ((H.cellsAt i o n).map .agg)
    | _ => none
  | .st n a x => match a.val e, (x.val e).cells? with
    | .ptr i o, some cs => if cs.length = n then (H.store i o cs).map fun H' => (.ok (.tup []), H') else none
    | _, _ => none
  | .bin op x y => okM H (abin op (x.val e) (y.val e))
  | .eqv neg lit d x y => okM H (aeqv neg lit d (x.val e) (y.val e))
  | .un op x => okM H (aun op (x.val e))
  | .conv k x => match x.val e with
    | .int _ n => ok1 H (.int k (k.wrap n))
    | _ => none
  | .s2b ty x => match x.val e with
    | .str s => ok1 (H.push ty false (ofBytes s)) (.sl H.next 0 1 s.length none)
    | _ => none
  | .b2s x => match x.val e with
    | .str _ => none
    | u => match takeFrom H 1 u with
      | some cs => okM H ((toBytes cs).map .str)
      | none => none
  | .fld off n x => match x.val e with
    | .agg cs => okM H (fldOf cs off n)
    | _ => none
  | .fa off x => match x.val e with
    | .ptr i o => ok1 H (.ptr i (o + off))
    | _ => none
  | .ia z x i => match x.val e, i.val e with
    | .sl b o z' n _, .int _ j => if z' = z ∧ 0 ≤ j ∧ j < n then ok1 H (.ptr b (o + j.toNat * z)) else none
    | _, _ => none
  | .iaa len z x i => match x.val e, i.val e with
    | .ptr b o, .int _ j => if 0 ≤ j ∧ j < len then ok1 H (.ptr b (o + j.toNat * z)) else none
    | _, _ => none
  | .ids x i => match x.val e, i.val e with
    | .str s, .int _ j => if 0 ≤ j then okM H (s[j.toNat]?.map fun b => .int .u8 b.toNat) else none
    | _, _ => none
  | .ida len z n x i => match x.val e, i.val e with
    | .agg cs, .int _ j => if 0 ≤ j ∧ j < len then okM H (fldOf cs (j.toNat * z) n) else none
    | _, _ => none
  | .bld zero parts => okM H ((afill zero (parts.map fun (o, n, x) => (o, n, x.val e))).map .agg)
  | .bsl ty z len zero parts => match afill (rep len zero) (parts.map fun (o, n, x) => (o, n, x.val e)) with
    | some cs => ok1 (H.push ty true cs) (.sl H.next 0 z len (some len))
    | none => none
  | .sub x lo hi => match x.val e with
    | .str s => match bnds s.length s.length (lo.map (·.val e)) (hi.map (·.val e)) with
      | some (l, h) => ok1 H (.str ((s.drop l).take (h - l)))
      | none => none
    | _ => none
  | .sls z x lo hi mx => match x.val e with
    | .sl i o z' n c =>
      if z' = z then
        match mx with
        | none => match bnds n n (lo.map (·.val e)) (hi.map (·.val e)) with
          | some (l, h) => ok1 H (.sl i (o + l * z) z (h - l) (c.map (· - l)))
          | none => none
        | some m => match bnd (m.val e) n with
          | none => none
          | some m => match hi with
            | none => none
            | some hv => match bnds n m (lo.map (·.val e)) (some (hv.val e)) with
              | some (l, h) => ok1 H (.sl i (o + l * z) z (h - l) (some (m - l)))
              | none => none
      else none
    | .nils => match mx with
      | none => match bnds 0 0 (lo.map (·.val e)) (hi.map (·.val e)) with
        | some _ => ok1 H .nils
        | none => none
      | some _ => none
    | .esl => match mx with
      | none => match bnds 0 0 (lo.map (·.val e)) (hi.map (·.val e)) with
        | some _ => ok1 H .esl
        | none => none
      | some _ => none
    | _ => none
  | .sla n z x lo hi mx => match x.val e with
    | .ptr i o => match mx, H.get i with
      | none, some b => if o + n * z ≤ b.cells.length then match bnds n n (lo.map (·.val e)) (hi.map (·.val e)) with
        | some (l, h) => ok1 H (.sl i (o + l * z) z (h - l) (some (n - l)))
        | none => none
        else none
      | _, _ => none
    | _ => none
  | .lens x => match x.val e with
    | .str s => ok1 H (.int .i64 s.length)
    | _ => none
  | .lenl x => match x.val e with
    | .nils => ok1 H (.int .i64 0)
    | .esl => ok1 H (.int .i64 0)
    | .sl _ _ _ n _ => ok1 H (.int .i64 n)
    | _ => none
  | .cvs x => match x.val e with
    | .str s => ok1 H (.str s)
    | _ => none
  | .app ty z bytes x y => match takeFrom H z (y.val e) with
    | none => none
    | some new => if new.all solid = false then none else aapp H ty z bytes (x.val e) new
  | .cpy z x y => match x.val e, lenOf (y.val e), takeFrom H z (y.val e) with
    | .sl i o z' n _, some m, some cs =>
      if z' = z ∧ cs.length = m * z then
        (let k := min m n
         (H.store i o (cs.take (k * z))).map fun H' => (.ok (.int .i64 k), H'))
      else none
    | .nils, some _, some _ => ok1 H (.int .i64 0)
    | _, _, _ => none
  | .mn x y => match x.val e, y.val e with
    | .int k a, .int k' b => if k = k' then ok1 H (.int k (if b < a then b else a)) else none
    | _, _ => none
  | .mx x y => match x.val e, y.val e with
    | .int k a, .int k' b => if k = k' then ok1 H (.int k (if b > a then b else a)) else none
    | _, _ => none
  | .mks ty z bytes zero l c => match l.val e, c.val e with
    | .int .i64 a, .int .i64 b =>
      if 0 ≤ a ∧ a ≤ b ∧ b.toNat * bytes ≤ 140737488351232 ∧ b ≤ 140737488351232 ∧ zero.length = z then
        ok1 (H.push ty false (rep a.toNat zero)) (.sl H.next 0 z a.toNat (if a = b then some a.toNat else none))
      else none
    | _, _ => none
  | .ext i x => match x.val e with
    | .tup vs => okM H vs[i]?
    | _ => none
  | .call f args => call f (args.map (·.val e)) H
  | .callv f args => match f.val e with
    | .func f cs => call f (args.map (·.val e) ++ cs) H
    | _ => none
  | .mkf f cs => ok1 H (.func f (cs.map (·.val e)))
  | .mki t x => match x.val e with
    | .undef => none
    | v => ok1 H (.iface t v)
  | .ta t zero ok x => match x.val e with
    | .iface t' v => if t' = t then ok1 H (if ok then .tup [v, .bool true] else v) else if ok then ok1 H (.tup [zero, .bool false]) else none
    | .nili => if ok then ok1 H (.tup [zero, .bool false]) else none
    | _ => none
  | .nlc x => match x.val e with
    | .ptr i o => ok1 H (.ptr i o)
    | _ => none
  | .pan x => match x.val e with
    | .iface t v => some (.pan (.iface t v), H)
    | _ => none
  | .tous x => match x.val e with
    | .ptr i o => match H.get i with
      | some b => if o < b.cells.length ∧ b.ro = false then ok1 H (.ptr i o) else none
      | none => none
    | _ => none
  | .frus ty n x => match x.val e with
    | .ptr i o => match H.get i with
      | some b => if b.ty = ty ∧ o = 0 ∧ n ≤ b.cells.length ∧ b.wh = true ∧ b.ro = false then ok1 H (.ptr i o) else none
      | none => none
    | _ => none
  | .usd x => match x.val e with
    | .nils => ok1 H .nilp
    | .sl i o _ n _ => if 0 < n then ok1 H (.ptr i o) else none
    | _ => none
  | .ustr ty x n => match x.val e, n.val e with
    | .nilp, .int .i64 m => if m = 0 then ok1 H (.str []) else none
    | .ptr i o, .int .i64 m => match H.get i with
      | some b => if b.ty = ty ∧ b.ro = false ∧ b.s0 = true ∧ o = 0 ∧ H.floor ≤ i ∧ 0 < m ∧ m ≤ 140737488351232 then
          match H.cellsAt i o m.toNat with
          | some cs => okM (H.kill i) ((toBytes cs).map .str)
          | none => none
        else none
      | none => none
    | _, _ => none
  | .cap x => match x.val e with
    | .nils => ok1 H (.int .i64 0)
    | .sl _ _ _ _ (some c) => ok1 H (.int .i64 c)
    | _ => none

structure St where
  e : Env
  H : AH
  deriving Inhabited

def putd (e : Env) : Option Nat → AV → Env
  | none, _ => e
  | some d, v => (d, v) :: e

/-- Whether an operation is wanted, where that is known. -/
def want (e : Env) : Option (Nat × Bool) → Option Bool
  | none => some true
  | some (g, b) => match e.at g with
    | .bool b' => some (b' == b)
    | .tup [] => some false
    | _ => none

inductive AX where
  | nrm
  | exit (id : Nat)
  | ret
  | pan (v : AV)
  deriving Inhabited

/-- A guard's value, at hand. -/
def know (e : Env) : Option (Nat × Bool) → Env
  | none => e
  | some (g, _) => (g, e.at g) :: e

def knowA (e : Env) : Arg → Env
  | .t n => (n, e.at n) :: e
  | .c _ => e

def runR (call : Call) : List AIns → St → Option (AX × St)
  | [], s => some (.nrm, s)
  | i :: is, s => match want s.e i.guard with
    | none => none
    | some false => runR call is { s with e := putd (know s.e i.guard) i.dst (.tup []) }
    | some true => match exe call s.e i.op s.H with
      | none => none
      | some (.ok v, H) => runR call is ⟨putd (know s.e i.guard) i.dst v, H⟩
      | some (.pan v, H) => some (.pan v, ⟨s.e, H⟩)

/-- What an operation of a drawing region has left: its number, its temporary, its value, its new blocks. -/
structure DRes where
  j : Nat
  dst : Option Nat
  v : AV
  new : List (Nat × Blk)
  deriving Inhabited

/-- The temporaries as an operation sees them in every order. -/
def dEnv (done : List DRes) (all : List DIns) (deps late : List Nat) (j : Nat) (e : Env) : Env :=
  (done.filter (fun r => deps.contains r.j)).flatMap (fun r => match r.dst with | some d => [(d, r.v)] | none => []) ++
  ((all.zipIdx.filter fun (o, k) => !(deps.contains k) && !(late.contains k) && k != j).flatMap fun (o, _) => match o.ins.dst with | some d => [(d, AV.undef)] | none => []) ++ e

def newBlks (l : List (Nat × Blk)) (n : Nat) : List (Nat × Blk) := l.filter fun p => n ≤ p.1
def oldBlks (l : List (Nat × Blk)) (n : Nat) : List (Nat × Blk) := l.filter fun p => p.1 < n

/-- 'base': the heap behind the last operation of kind 2; 'seg': what was done since. -/
structure DSt where
  done : List DRes
  base : AH
  seg : List DRes
  next : Nat
  deriving Inhabited

def stepD (call : Call) (all : List DIns) (e0 : Env) (o : DIns) (j : Nat) (t : DSt) : Option DSt :=
  let e := dEnv t.done all o.deps o.late j e0
  match want e o.ins.guard with
  | none => none
  | some false => some { t with done := ⟨j, o.ins.dst, .tup [], []⟩ :: t.done }
  | some true =>
    if o.kind = 0 then
      match exe call e o.ins.op { blks := [], next := t.next, floor := t.next } with
      | some (.ok v, H) => if H.next = t.next then some { t with done := ⟨j, o.ins.dst, v, []⟩ :: t.done } else none
      | _ => none
    else if o.kind = 1 then
      match exe call e o.ins.op { blks := (t.seg.filter fun r => o.deps.contains r.j).flatMap (·.new) ++ t.base.blks, next := t.next, floor := t.next } with
      | some (.ok v, H) => some { done := ⟨j, o.ins.dst, v, newBlks H.blks t.next⟩ :: t.done, base := t.base, seg := ⟨j, o.ins.dst, v, newBlks H.blks t.next⟩ :: t.seg, next := H.next }
      | _ => none
    else
      match exe call e o.ins.op { blks := t.seg.flatMap (·.new) ++ t.base.blks, next := t.next, floor := t.base.floor } with
      | some (.ok v, H) => some { done := ⟨j, o.ins.dst, v, []⟩ :: t.done, base := H, seg := [], next := H.next }
      | _ => none

def runD (call : Call) (all : List DIns) (e0 : Env) : List DIns → Nat → DSt → Option DSt
  | [], _, t => some t
  | o :: os, j, t => match stepD call all e0 o j t with
    | some t' => runD call all e0 os (j + 1) t'
    | none => none

def runDr (call : Call) (is : List DIns) (s : St) : Option (AX × St) :=
  match runD call is s.e is 0 ⟨[], s.H, [], s.H.next⟩ with
  | some t => some (.nrm, ⟨t.done.flatMap (fun r => match r.dst with | some d => [(d, r.v)] | none => []) ++ s.e, { t.base with blks := t.seg.flatMap (·.new) ++ t.base.blks, next := t.next }⟩)
  | none => none

def keep (e : Env) : Option (List Nat) → Env
  | none => e
  | some l => l.map fun t => (t, e.at t)

def iter (body : St → Option (AX × St)) (live : Option (List Nat)) : Nat → St → Option (AX × St)
  | 0, _ => none
  | n + 1, s => match body { s with e := keep s.e live } with
    | some (.nrm, s') => iter body live n s'
    | r => r

def run (call : Call) (lf : Nat) : ACode → St → Option (AX × St)
  | .skip, s => some (.nrm, s)
  | .reg is, s => runR call is s
  | .regd is, s => runDr call is s
  | .seq a b, s => match run call lf a s with
    | some (.nrm, s') => run call lf b s'
    | r => r
  | .cond c a b, s => match c.val s.e with
    | .bool t => if t then run call lf a { s with e := knowA s.e c } else run call lf b { s with e := knowA s.e c }
    | _ => none
  | .block id b, s => match run call lf b s with
    | some (.exit id', s') => if id' = id then some (.nrm, s') else some (.exit id', s')
    | r => r
  | .loop live b, s => iter (run call lf b) live lf s
  | .exit id, s => some (.exit id, s)
  | .ret, s => some (.ret, s)
  | .trim l, s => some (.nrm, { s with e := keep s.e (some l) })

def resOf (e : Env) (H : AH) : ARes → Option AV
  | .tmp t => some (e.at t)
  | .cell1 a => match e.at a with
    | .ptr i o => match H.get i with | some b => b.cells[o]? | none => none
    | _ => none
  | .celln a n => match e.at a with
    | .ptr i o => (H.cellsAt i o n).map .agg
    | _ => none

def resAll (e : Env) (H : AH) : List ARes → Option (List AV)
  | [] => some []
  | r :: rs => match resOf e H r, resAll e H rs with
    | some v, some vs => some (v :: vs)
    | _, _ => none

def pack : List AV → AV
  | [v] => v
  | vs => .tup vs

/-- Whether a value bears no address. -/
def flat1 : AV → Bool
  | .bool _ | .int _ _ | .str _ | .nilp | .nils | .nilf | .nili | .esl => true
  | .func _ [] => true
  | _ => false
def flat2 : AV → Bool
  | .agg cs => cs.all flat1
  | v => flat1 v
def flat : AV → Bool
  | .tup vs => vs.all flat2
  | v => flat2 v

def number : List AV → Nat → Env
  | [], _ => []
  | v :: vs, n => (n, v) :: number vs (n + 1)

abbrev Tab := FuncId → Option AFun
abbrev Ext := FuncId → Option (List AV → AH → Option (Out × AH))

/-- Cells handed over by value: slices' cells are laid into blocks of their own, from k on. -/
def viewCs (H : AH) : List AV → Nat → Option (List AV × List (Nat × Blk) × Nat)
  | [], k => some ([], [], k)
  | v :: l, k =>
    if flat1 v then match viewCs H l k with
      | some (as, bs, k') => some (v :: as, bs, k')
      | none => none
    else match v with
      | .sl i o z n c => match H.get i with
        | some b => if o + n * z ≤ b.cells.length ∧ ((b.cells.drop o).take (n * z)).all flat1 = true then match viewCs H l (k + 1) with
            | some (as, bs, k') => some (.sl k 0 z n c :: as, (k, ⟨(b.cells.drop o).take (n * z), b.ro, b.ty, false, false⟩) :: bs, k')
            | none => none
          else none
        | none => none
      | _ => none

/-- Arguments handed over by value. -/
def views (H : AH) : List AV → Nat → Option (List AV × List (Nat × Blk) × Nat)
  | [], k => some ([], [], k)
  | .agg cs :: l, k => match viewCs H cs k with
    | some (cs', bs, k') => match views H l k' with
      | some (as, bs', k'') => some (.agg cs' :: as, bs ++ bs', k'')
      | none => none
    | none => none
  | v :: l, k => match viewCs H [v] k with
    | some ([v'], bs, k') => match views H l k' with
      | some (as, bs', k'') => some (v' :: as, bs ++ bs', k'')
      | none => none
    | _ => none

/-- Results handed back: at most one is a slice, whose block goes over to the caller. -/
def backs (H2 : AH) (kp : Nat) (H : AH) : List AV → Option (List AV × AH)
  | [] => some ([], H)
  | v :: vs =>
    if flat2 v then match backs H2 kp H vs with
      | some (vs', H') => some (v :: vs', H')
      | none => none
    else match v with
      | .sl i o z n c => if kp ≤ i ∧ vs.all flat2 = true then match H2.get i with
          | some b => if b.ro = false ∧ b.cells.all flat1 = true then some (.sl H.next o z n c :: vs, { H with blks := (H.next, b) :: H.blks, next := H.next + 1 }) else none
          | none => none
        else none
      | _ => none

/-- A function's code, and the call of a closure deferred behind it ('okc': which ones may be). -/
def abody (call : Call) (okc : FuncId → Bool) (n : Nat) (fn : AFun) (args : List AV) (H : AH) : Option (Out × AH) :=
  match fn.pre with
  | none => match run call n fn.code ⟨number args 0, H⟩ with
    | some (.nrm, s) | some (.ret, s) => match resAll s.e s.H fn.res with
      | some vs => some (.ok (pack vs), s.H)
      | none => none
    | some (.pan v, s) => some (.pan v, s.H)
    | _ => none
  | some (c1, t) => match run call n c1 ⟨number args 0, H⟩ with
    | some (.nrm, s1) => match s1.e.at t with
      | .func g cs => if okc g then match run call n fn.code s1 with
          | some (.nrm, s) | some (.ret, s) => match call g cs s.H with
            | some (.ok _, H2) => match resAll s.e H2 fn.res with
              | some vs => some (.ok (pack vs), H2)
              | none => none
            | _ => none
          | _ => none
        else none
      | _ => none
    | _ => none

def okc (X : Ext) (M : Tab) (g : FuncId) : Bool := match X g, M g with
  | none, some k => k.pre.isNone
  | _, _ => false

def acall (G : Nat) (T : List (Nat × Blk)) (X : Ext) (M : Tab) : Nat → Call
  | 0, _, _, _ => none
  | n + 1, f, args, H => match X f with
    | some g => g args H
    | none => match M f with
      | none => none
      | some fn =>
        if fn.view then match views H args G with
          | none => none
          | some (as, bs, kp) => match run (acall G T X M n) n fn.code ⟨number as 0, ⟨bs ++ T, kp, kp⟩⟩ with
            | some (.nrm, s) | some (.ret, s) => match resAll s.e s.H fn.res with
              | some vs => match backs s.H kp H vs with
                | some (vs', H') => some (.ok (pack vs'), H')
                | none => none
              | none => none
            | _ => none
        else abody (acall G T X M n) (okc X M) n fn args H

end Go.Am

/- The compiler from the translated code to the abstract machine's code. Its conditions: none, these are definitions. -/
namespace Go.Am

def ofV1 : Value → Option AV
  | .bool b => some (.bool b)
  | .int k n => some (.int k n)
  | .string s => some (.str s.data.toList)
  | .pointer none => some .nilp
  | .slice none 0 0 => some .nils
  | .nilFunc => some .nilf
  | .nilIface => some .nili
  | _ => none

def ofVs : List Value → Option (List AV)
  | [] => some []
  | v :: vs => match ofV1 v, ofVs vs with
    | some a, some as => some (a :: as)
    | _, _ => none

def ofV : Value → Option AV
  | .agg cs => (ofVs cs.toList).map .agg
  | v => ofV1 v

def ofOp (P : Program) : Operand → Option Arg
  | .tmp t => some (.t t)
  | .const v => (ofV v).map .c
  | .global g => if g < P.globals.size then some (.c (.ptr g 0)) else none
  | .func f => some (.c (.func f []))

def ofOps (P : Program) : List Operand → Option (List Arg)
  | [] => some []
  | x :: xs => match ofOp P x, ofOps P xs with
    | some a, some as => some (a :: as)
    | _, _ => none

def szOf (P : Program) (t : TypeId) : Option Nat := (P.info? t).map (·.size)
def byOf (P : Program) (t : TypeId) : Option Nat := (P.info? t).map (·.bytes)
def zOf (P : Program) (t : TypeId) : Option (List AV) :=
  match (P.info? t).bind (·.zero) with
  | some z => ofVs z.cells.toList
  | none => none
def aggT (P : Program) (t : TypeId) : Option Bool :=
  match P.underlying t with
  | some (.struct _) => some true
  | some (.array _ _) => some true
  | some _ => some false
  | none => none

/-- A part of a value: how many cells it has where it is a struct or an array. -/
def partN (P : Program) (t : TypeId) : Option (Option Nat) :=
  match aggT P t with
  | some true => (szOf P t).map some
  | some false => some none
  | none => none

def ety1 (P : Program) (t : TypeId) : Option ETy :=
  match P.underlying t with
  | some (.int _) => some .int
  | some .bool => some .bool
  | some .string => some .str
  | some (.pointer e) => match szOf P e with
    | some (_ + 1) => some .ptr
    | _ => none
  | some (.interface _) => some .iface
  | some (.slice _) => some .slice
  | some (.func _ _ _) => some .func
  | _ => none

/-- A struct's fields of n cells from off on, each by g. -/
def flatFs (P : Program) (n : Nat) (g : TypeId → Nat → Option (List (Nat × Option Nat × ETy))) (off : Nat) : List Field → Option (List (Nat × Option Nat × ETy))
  | [] => some []
  | f :: fs => if f.name = "_" then none else
    match szOf P f.type with
    | some (m + 1) => if f.offset + (m + 1) ≤ n then
        match g f.type (off + f.offset), flatFs P n g off fs with
        | some a, some b => some (a ++ b)
        | _, _ => none
      else none
    | _ => none

/-- k elements of z cells from element i on, each by g. -/
def flatEs (g : Nat → Option (List (Nat × Option Nat × ETy))) (z off : Nat) : Nat → Nat → Option (List (Nat × Option Nat × ETy))
  | 0, _ => some []
  | k + 1, i => match g (off + i * z), flatEs g z off k (i + 1) with
    | some a, some b => some (a ++ b)
    | _, _ => none

/-- The cells of a type's values, laid flat. -/
def flatTy (P : Program) : Nat → TypeId → Nat → Option (List (Nat × Option Nat × ETy))
  | 0, _, _ => none
  | d + 1, t, off => match P.underlying t with
    | some (.int _) => some [(off, none, .int)]
    | some .bool => some [(off, none, .bool)]
    | some .string => some [(off, none, .str)]
    | some (.struct fs) => if P.stoodInHeld t then none else match szOf P t with
      | some n => flatFs P n (flatTy P d) off fs.toList
      | none => none
    | some (.array len e) => match szOf P t, szOf P e with
      | some n, some (z + 1) => if len * (z + 1) ≤ n then flatEs (flatTy P d e) (z + 1) off len 0 else none
      | _, _ => none
    | _ => none

def ety (P : Program) (t : TypeId) : Option ETy :=
  match aggT P t with
  | some true => if P.eqGuardType P.depth t then none else (flatTy P 6 t 0).map .st
  | _ => ety1 P t

def isConst : Operand → Bool
  | .const _ => true
  | _ => false

def optOp (P : Program) : Option Operand → Option (Option Arg)
  | none => some none
  | some x => (ofOp P x).map some

def partsOf (P : Program) (place : Nat → Option (Nat × Nat)) : List (Nat × Operand) → Option (List (Nat × Nat × Arg))
  | [] => some []
  | (i, x) :: rest => match place i, ofOp P x, partsOf P place rest with
    | some (o, n), some a, some l => some ((o, n, a) :: l)
    | _, _, _ => none

def fplace (P : Program) (fs : Array Field) (i : Nat) : Option (Nat × Nat) :=
  match fs[i]? with
  | some f => (szOf P f.type).map fun n => (f.offset, n)
  | none => none

def fszs (P : Program) : List Field → Bool
  | [] => true
  | f :: fs => (szOf P f.type).isSome && fszs P fs

/-- A builtin's call. -/
def cbi (P : Program) (b : Builtin) (ats : List TypeId) (args : List Operand) : Option AOp :=
  match b, ats, args with
  | .len, [t], [x] => match P.underlying t, ofOp P x with
    | some .string, some a => some (.lens a)
    | some (.slice _), some a => some (.lenl a)
    | some (.array n _), some _ => some (.mov (.c (.int .i64 n)))
    | some (.pointer arr), some _ => match P.underlying arr with
      | some (.array n _) => some (.mov (.c (.int .i64 n)))
      | _ => none
    | _, _ => none
  | .append, [t, u], [x, y] => match P.underlying t, ofOp P x, ofOp P y with
    | some (.slice e), some a, some b => match P.underlying u, szOf P e, byOf P e, zOf P e with
      | some (.slice _), some z, some by_, some zl => if zl.length = z then some (.app e z by_ a b) else none
      | some .string, some z, some by_, some zl => if zl.length = z then some (.app e z by_ a b) else none
      | _, _, _, _ => none
    | _, _, _ => none
  | .copy, [t, _], [x, y] => match P.underlying t, ofOp P x, ofOp P y with
    | some (.slice e), some a, some b => (szOf P e).map fun z => .cpy z a b
    | _, _, _ => none
  | .min, [_, _], [x, y] => match ofOp P x, ofOp P y with
    | some a, some b => some (.mn a b)
    | _, _ => none
  | .max, [_, _], [x, y] => match ofOp P x, ofOp P y with
    | some a, some b => some (.mx a b)
    | _, _ => none
  | .panic, _, [x] => (ofOp P x).map .pan
  | .cap, [t], [x] => match P.underlying t with
    | some (.slice _) => (ofOp P x).map .cap
    | _ => none
  | .unsafeSliceData, _, [x] => (ofOp P x).map .usd
  | .unsafeString, [t, _], [x, n] => match P.underlying t, ofOp P x, ofOp P n with
    | some (.pointer e), some a, some b => if szOf P e = some 1 then some (.ustr e a b) else none
    | _, _, _ => none
  | _, _, _ => none

def ccall (P : Program) (c : Go.Call) : Option AOp :=
  match c.callee with
  | .value (.func f) => match P.funcs[f]?, ofOps P c.args.toList with
    | some _, some as => some (.call f as)
    | _, _ => none
  | .value (.tmp t) => (ofOps P c.args.toList).map fun as => .callv (.t t) as
  | .builtin b => cbi P b c.argTypes.toList c.args.toList
  | _ => none

def cop (P : Program) (o : Oper) : Option AOp :=
  match o.op with
  | .move x => (ofOp P x).map .mov
  | .assign x => (ofOp P x).map .mov
  | .pick c a b => match ofOp P c, ofOp P a, ofOp P b with
    | some c, some a, some b => some (.pick c a b)
    | _, _, _ => none
  | .alloc t => (zOf P t).map (.alloc t)
  | .box t x => (ofOp P x).map (.box t)
  | .build t parts => match zOf P t, P.underlying t with
    | some z, some (.struct fs) => if fszs P fs.toList then (partsOf P (fplace P fs) parts.toList).map fun l => .bld z l else none
    | some z, some (.array _ e) => match szOf P e with
      | some n => (partsOf P (fun i => some (i * n, n)) parts.toList).map fun l => .bld z l
      | none => none
    | _, _ => none
  | .buildSlice t len parts => match P.underlying t with
    | some (.slice e) => match szOf P e, zOf P e with
      | some n, some z => if len * n ≤ 16777216 ∧ z.length = n then (partsOf P (fun i => some (i * n, n)) parts.toList).map fun l => .bsl e n len z l else none
      | _, _ => none
    | _ => none
  | .load t a => match partN P t, ofOp P a with
    | some none, some x => some (.ld1 x)
    | some (some n), some x => some (.ldn n x)
    | _, _ => none
  | .store t a x => match szOf P t, ofOp P a, ofOp P x with
    | some n, some a, some x => some (.st n a x)
    | _, _, _ => none
  | .nilCheck x => (ofOp P x).map .nlc
  | .binOp op t x y _ => match ofOp P x, ofOp P y with
    | some a, some b =>
      if op = .eql ∨ op = .neq then
        match ety P t with
        | some .int => some (.bin op a b)
        | some .str => some (.bin op a b)
        | some d => some (.eqv (op == .neq) (isConst x || isConst y) d a b)
        | none => none
      else some (.bin op a b)
    | _, _ => none
  | .unOp op _ x => (ofOp P x).map fun a => .un op a
  | .convert s d x => match P.underlying s, P.underlying d, ofOp P x with
    | some (.int _), some (.int k), some a => some (.conv k a)
    | some .string, some .string, some a => some (.cvs a)
    | some .string, some (.slice e), some a => match P.underlying e with
      | some (.int .u8) => some (.s2b e a)
      | _ => none
    | some (.slice e), some .string, some a => match P.underlying e with
      | some (.int .u8) => some (.b2s a)
      | _ => none
    | some (.pointer t), some .unsafePointer, some a => match szOf P t with
      | some (_ + 1) => some (.tous a)
      | _ => none
    | some .unsafePointer, some (.pointer u), some a => match szOf P u with
      | some (n + 1) => some (.frus u (n + 1) a)
      | _ => none
    | _, _, _ => none
  | .makeInterface t x => match P.underlying t, ofOp P x with
    | some (.interface _), _ => none
    | some _, some a => some (.mki t a)
    | _, _ => none
  | .makeFunc (.func f) first cs => if first.size = 0 then (ofOps P cs.toList).map fun as => .mkf f as else none
  | .makeSlice t l c => match P.underlying t, ofOp P l, ofOp P c with
    | some (.slice e), some a, some b => match szOf P e, byOf P e, zOf P e with
      | some n, some by_, some z => if z.length = n then some (.mks e n by_ z a b) else none
      | _, _, _ => none
    | _, _, _ => none
  | .slice t x lo hi mx => match P.underlying t, ofOp P x, optOp P lo, optOp P hi, optOp P mx with
    | some .string, some a, some lo, some hi, some none => some (.sub a lo hi)
    | some (.slice e), some a, some lo, some hi, some mx => (szOf P e).map fun z => .sls z a lo hi mx
    | some (.array n e), some a, some lo, some hi, some mx => (szOf P e).map fun z => .sla n z a lo hi mx
    | _, _, _, _, _ => none
  | .fieldAddr t x f => match P.underlying t, ofOp P x with
    | some (.struct fs), some a => match fs[f]? with
      | some fd => match szOf P fd.type with
        | some (_ + 1) => some (.fa fd.offset a)
        | _ => none
      | none => none
    | _, _ => none
  | .field t x f => match P.underlying t, ofOp P x with
    | some (.struct fs), some a => match fs[f]? with
      | some fd => (partN P fd.type).map fun n => .fld fd.offset n a
      | none => none
    | _, _ => none
  | .indexAddr t x i => match P.underlying t, ofOp P x, ofOp P i with
    | some (.array n e), some a, some b => (szOf P e).map fun z => .iaa n z a b
    | some (.slice e), some a, some b => (szOf P e).map fun z => .ia z a b
    | _, _, _ => none
  | .index t x i => match P.underlying t, ofOp P x, ofOp P i with
    | some .string, some a, some b => some (.ids a b)
    | some (.array n e), some a, some b => match szOf P e, partN P e with
      | some z, some p => some (.ida n z p a b)
      | _, _ => none
    | _, _, _ => none
  | .typeAssert x _ t ok => match P.underlying t, (P.info? t).bind (·.zero), ofOp P x with
    | some (.interface _), _, _ => none
    | some _, some z, some a => (ofV z).map fun z => .ta t z ok a
    | _, _, _ => none
  | .extract x i => (ofOp P x).map fun a => .ext i a
  | .call c => ccall P c
  | .panic x => (ofOp P x).map .pan
  | _ => none

/-- What the machine can't do is 'extract' of no tuple: it is stuck there. -/
def bad : AOp := .ext 0 (.c .nilp)

def cins (P : Program) (nt : Nat) (ops : Array Oper) (o : Oper) : AIns :=
  if o.dst.all (· < nt) then
    match o.guard with
    | none => ⟨o.dst, (cop P o).getD bad, none⟩
    | some (j, b) => match (ops[j]?).bind (·.dst) with
      | some g => ⟨o.dst, (cop P o).getD bad, some (g, b)⟩
      | none => ⟨none, bad, none⟩
  else ⟨none, bad, none⟩

def heapOp : AOp → Bool
  | .mov _ | .pick _ _ _ | .bin _ _ _ | .eqv _ _ _ _ _ | .un _ _ | .conv _ _ | .fld _ _ _ | .fa _ _ | .ia _ _ _ | .iaa _ _ _ _ | .ids _ _ | .ida _ _ _ _ _
  | .bld _ _ | .sub _ _ _ | .sls _ _ _ _ _ | .lens _ | .lenl _ | .cvs _ | .mn _ _ | .mx _ _ | .ext _ _ | .mkf _ _ | .mki _ _ | .ta _ _ _ _ | .nlc _ | .cap _ | .usd _ => false
  | _ => true

/-- All that must precede each operation, by the numbers. -/
def depsAll : List Oper → List (List Nat) → List (List Nat)
  | [], acc => acc
  | o :: os, acc =>
    let ds := (o.after.toList.filter fun e => Region.binds .any e).map (·.on)
    let all := (ds ++ ds.flatMap fun d => acc.getD d []).eraseDups
    depsAll os (acc ++ [all])

def dins (P : Program) (nt : Nat) (ops : Array Oper) : List DIns :=
  let deps := depsAll ops.toList []
  let is := ops.toList.map (cins P nt ops)
  let heap := is.map fun i => heapOp i.op
  is.zipIdx.map fun (i, j) =>
    let dj := deps.getD j []
    let late := (List.range is.length).filter fun k => (deps.getD k []).contains j
    let tot := (List.range is.length).all fun k => k == j || !(heap.getD k true) || dj.contains k || late.contains k
    ⟨i, dj, late, if !(heap.getD j true) then 0 else if tot then 2 else 1⟩

def nodup : List Nat → Bool
  | [] => true
  | x :: xs => !xs.contains x && nodup xs

def comp (P : Program) (nt : Nat) : Code → ACode
  | .skip => .skip
  | .label _ => .skip
  | .region _ ops false => .reg (ops.toList.map (cins P nt ops))
  | .region _ ops true => if nodup (ops.toList.filterMap (·.dst)) && ((dins P nt ops).zipIdx.all fun (o, j) => o.deps.all (· < j)) then .regd (dins P nt ops) else .reg [⟨none, bad, none⟩]
  | .seq a b => .seq (comp P nt a) (comp P nt b)
  | .cond c a b => match ofOp P c with
    | some x => .cond x (comp P nt a) (comp P nt b)
    | none => .reg [⟨none, bad, none⟩]
  | .block id b => .block id (comp P nt b)
  | .loop b => .loop none (comp P nt b)
  | .exit id => .exit id
  | .ret => .ret
  | _ => .reg [⟨none, bad, none⟩]

def cres (P : Program) : ResultVar → Option ARes
  | .tmp t => some (.tmp t)
  | .cell a t => match partN P t with
    | some none => some (.cell1 a)
    | some (some n) => some (.celln a n)
    | none => none

def cress (P : Program) : List ResultVar → Option (List ARes)
  | [] => some []
  | r :: rs => match cres P r, cress P rs with
    | some a, some as => some (a :: as)
    | _, _ => none

def cfun (P : Program) (fn : Func) : Option AFun :=
  match fn.body, cress P fn.results.toList with
  | some c, some rs => if fn.name != "runtime.NumGoroutine" then some ⟨fn.ntmps, rs, comp P fn.ntmps c, false, none⟩ else none
  | _, _ => none

/-- What the generator tells: nothing; a loop's temporaries; a region's pieces: how many operations, and what is kept behind them. -/
inductive Hint where
  | no
  | keep (l : List Nat)
  | cut (l : List (Nat × List Nat))

def pieces (is : List AIns) : List (Nat × List Nat) → ACode
  | [] => .reg is
  | [(_, t)] => .seq (.reg is) (.trim t)
  | (n, t) :: l => .seq (.seq (.reg (is.take n)) (.trim t)) (pieces (is.drop n) l)

def relive : ACode → List Hint → ACode × List Hint
  | .seq a b, l => ((.seq (relive a l).1 (relive b (relive a l).2).1), (relive b (relive a l).2).2)
  | .cond c a b, l => ((.cond c (relive a l).1 (relive b (relive a l).2).1), (relive b (relive a l).2).2)
  | .block id b, l => (.block id (relive b l).1, (relive b l).2)
  | .loop _ b, .keep x :: l => (.loop (some x) (relive b l).1, (relive b l).2)
  | .loop k b, .no :: l => (.loop k (relive b l).1, (relive b l).2)
  | .reg is, .cut h :: l => (pieces is h, l)
  | .reg is, .no :: l => (.reg is, l)
  | .regd is, .keep x :: l => (.seq (.regd is) (.trim x), l)
  | .regd is, .no :: l => (.regd is, l)
  | c, l => (c, l)

def cfunL (P : Program) (fn : Func) (l : List Hint) (view : Bool) : Option AFun :=
  (cfun P fn).map fun f => { f with code := (relive f.code l).1, view := view }

/-- What comes ahead of the region that ends with a 'defer', that region, and what comes behind it. -/
def splitD : Code → Option (List Code × Nat × Array Oper × List Code)
  | .region id ops false => match (ops.toList.getLast?).map (fun o : Oper => o.op) with
    | some (.defer _) => some ([], id, ops, [])
    | _ => none
  | .seq a b => match splitD a with
    | some (x, id, ops, y) => some (x, id, ops, y ++ [b])
    | none => match splitD b with
      | some (x, id, ops, y) => some (a :: x, id, ops, y)
      | none => none
  | _ => none

/-- The closure deferred is a temporary, and it is handed nothing. -/
def deferT (o : Oper) : Option Nat := match o.op, o.guard, o.dst with
  | .defer c, none, none => match c.callee, c.args.toList with
    | .value (.tmp t), [] => some t
    | _, _ => none
  | _, _, _ => none

def compL (P : Program) (nt : Nat) : List Code → ACode
  | [] => .skip
  | c :: cs => .seq (comp P nt c) (compL P nt cs)

/-- A function that defers one call, once, of a closure. -/
def cfunD (P : Program) (fn : Func) (l m : List Hint) : Option AFun :=
  match fn.body.bind splitD, cress P fn.results.toList with
  | some (x, _, ops, y), some rs => match (ops.toList.getLast?).bind deferT with
    | some t => if fn.name != "runtime.NumGoroutine" then
        some ⟨fn.ntmps, rs, (relive (compL P fn.ntmps y) m).1, false, some (.seq (relive (compL P fn.ntmps x) l).1 (.reg (ops.toList.dropLast.map (cins P fn.ntmps ops))), t)⟩
      else none
    | none => none
  | _, _ => none

end Go.Am

/- How the abstract machine's values and heap stand to the model's values and worlds, and what pushing, storing and turning a block keeps of it. Conditions: those that each theorem names. -/
namespace Go.Am
open Go.RowKit

/-- Where a block lies: its block of memory, where it begins there, and, of one's own, how many cells that block has. -/
abbrev Emb := Nat → Option (Nat × Nat × Option Nat)

inductive VRs (φ : Emb) : List AV → List Value → Prop
  | nil : VRs φ [] []
  | undef {as vs} (v : Value) : VRs φ as vs → VRs φ (.undef :: as) (v :: vs)
  | bool {as vs} (b : Bool) : VRs φ as vs → VRs φ (.bool b :: as) (.bool b :: vs)
  | int {as vs} (k : IntKind) (n : Int) : VRs φ as vs → VRs φ (.int k n :: as) (.int k n :: vs)
  | str {as vs} (s : List UInt8) : VRs φ as vs → VRs φ (.str s :: as) (.string ⟨s.toArray⟩ :: vs)
  | nilp {as vs} : VRs φ as vs → VRs φ (.nilp :: as) (.pointer none :: vs)
  | ptr {as vs} {i o p s m} : φ i = some (p, s, m) → VRs φ as vs → VRs φ (.ptr i o :: as) (.pointer (some ⟨p, s + o, none⟩) :: vs)
  | nils {as vs} : VRs φ as vs → VRs φ (.nils :: as) (.slice none 0 0 :: vs)
  | sl {as vs} {i o z n p s m} {c : Option Nat} {cc : Nat} : φ i = some (p, s, m) → (∀ r, m = some r → s + o + cc * z ≤ r) → n ≤ cc → (∀ d, c = some d → cc = d) → VRs φ as vs →
      VRs φ (.sl i o z n c :: as) (.slice (some ⟨p, s + o, none⟩) n cc :: vs)
  | slz {as vs} {i o z} {c : Option Nat} (a : Addr) : (∀ d, c = some d → 0 = d) → VRs φ as vs → VRs φ (.sl i o z 0 c :: as) (.slice (some a) 0 0 :: vs)
  | esl {as vs} (a : Addr) (cc : Nat) : VRs φ as vs → VRs φ (.esl :: as) (.slice (some a) 0 cc :: vs)
  | func {as vs cs} {ds : Array Value} (f : FuncId) : VRs φ cs ds.toList → VRs φ as vs → VRs φ (.func f cs :: as) (.func (.func f) #[] ds :: vs)
  | nilf {as vs} : VRs φ as vs → VRs φ (.nilf :: as) (.nilFunc :: vs)
  | iface {as vs a v} (t : TypeId) : VRs φ [a] [v] → VRs φ as vs → VRs φ (.iface t a :: as) (.iface t v :: vs)
  | nili {as vs} : VRs φ as vs → VRs φ (.nili :: as) (.nilIface :: vs)
  | agg {as vs cs} {ds : Array Value} : VRs φ cs ds.toList → VRs φ as vs → VRs φ (.agg cs :: as) (.agg ds :: vs)
  | tup {as vs cs} {ds : Array Value} : VRs φ cs ds.toList → VRs φ as vs → VRs φ (.tup cs :: as) (.tuple ds :: vs)

def VR (φ : Emb) (a : AV) (v : Value) : Prop := VRs φ [a] [v]

def Emb.le (φ ψ : Emb) : Prop := ∀ i x, φ i = some x → ψ i = some x

theorem Emb.le_refl (φ : Emb) : φ.le φ := fun _ _ h => h
theorem Emb.le_trans {φ ψ χ : Emb} (h : φ.le ψ) (k : ψ.le χ) : φ.le χ := fun i x e => k i x (h i x e)

theorem VRs.mono {φ ψ : Emb} (h : φ.le ψ) {as vs} (k : VRs φ as vs) : VRs ψ as vs := by
  induction k with
  | nil => exact .nil
  | undef v _ ih => exact .undef v ih
  | bool b _ ih => exact .bool b ih
  | int k n _ ih => exact .int k n ih
  | str s _ ih => exact .str s ih
  | nilp _ ih => exact .nilp ih
  | ptr e _ ih => exact .ptr (h _ _ e) ih
  | nils _ ih => exact .nils ih
  | sl e a b c _ ih => exact .sl (h _ _ e) a b c ih
  | slz a b _ ih => exact .slz a b ih
  | esl a c _ ih => exact .esl a c ih
  | func f _ _ ih ih' => exact .func f ih ih'
  | nilf _ ih => exact .nilf ih
  | iface t _ _ ih ih' => exact .iface t ih ih'
  | nili _ ih => exact .nili ih
  | agg _ _ ih ih' => exact .agg ih ih'
  | tup _ _ ih ih' => exact .tup ih ih'

theorem VR.mono {φ ψ : Emb} (h : φ.le ψ) {a v} (k : VR φ a v) : VR ψ a v := VRs.mono h k

theorem VRs.cons {φ : Emb} {a v as vs} (h : VR φ a v) (k : VRs φ as vs) : VRs φ (a :: as) (v :: vs) := by
  unfold VR at h
  cases h <;> constructor <;> assumption

theorem VRs.head {φ : Emb} {a v as vs} (h : VRs φ (a :: as) (v :: vs)) : VR φ a v := by
  unfold VR
  cases h <;> constructor <;> first | assumption | exact .nil

theorem VRs.tail {φ : Emb} {a v as vs} (h : VRs φ (a :: as) (v :: vs)) : VRs φ as vs := by
  cases h <;> assumption

theorem VRs.cons_inv {φ : Emb} {a as l} (h : VRs φ (a :: as) l) : ∃ v vs, l = v :: vs ∧ VR φ a v ∧ VRs φ as vs := by
  cases l with
  | nil => cases h
  | cons v vs => exact ⟨v, vs, rfl, h.head, h.tail⟩

theorem VRs.nil_inv {φ : Emb} {l} (h : VRs φ [] l) : l = [] := by cases h; rfl

theorem VRs.length {φ : Emb} {as vs} (h : VRs φ as vs) : as.length = vs.length := by
  induction as generalizing vs with
  | nil => cases h; rfl
  | cons a as ih => obtain ⟨v, vs, rfl, _, h2⟩ := h.cons_inv; simp [ih h2]

theorem VRs.get {φ : Emb} {as vs} (h : VRs φ as vs) {i : Nat} {a : AV} (hi : as[i]? = some a) : ∃ v, vs[i]? = some v ∧ VR φ a v := by
  induction as generalizing vs i with
  | nil => simp at hi
  | cons b as ih =>
    obtain ⟨v, vs, rfl, h1, h2⟩ := h.cons_inv
    cases i with
    | zero => simp at hi; subst hi; exact ⟨v, by simp, h1⟩
    | succ i => simpa using ih h2 (by simpa using hi)

theorem VRs.of_get {φ : Emb} : ∀ {as : List AV} {vs : List Value}, as.length = vs.length → (∀ (i : Nat) (a : AV), as[i]? = some a → ∃ v, vs[i]? = some v ∧ VR φ a v) → VRs φ as vs
  | [], [], _, _ => .nil
  | a :: as, v :: vs, hl, h => by
    obtain ⟨v', e, hv⟩ := h 0 a (by simp)
    simp at e; subst e
    exact .cons hv (VRs.of_get (by simpa using hl) fun i a hi => by simpa using h (i + 1) a (by simpa using hi))
  | [], _ :: _, hl, _ => by simp at hl
  | _ :: _, [], hl, _ => by simp at hl

theorem VRs.append {φ : Emb} {as vs bs ws} (h : VRs φ as vs) (k : VRs φ bs ws) : VRs φ (as ++ bs) (vs ++ ws) := by
  induction as generalizing vs with
  | nil => cases h; exact k
  | cons a as ih => obtain ⟨v, vs, rfl, h1, h2⟩ := h.cons_inv; exact .cons h1 (ih h2)

theorem VRs.drop {φ : Emb} {as vs} (h : VRs φ as vs) (n : Nat) : VRs φ (as.drop n) (vs.drop n) := by
  induction n generalizing as vs with
  | zero => simpa using h
  | succ n ih =>
    cases as with
    | nil => cases h; exact .nil
    | cons a as => obtain ⟨v, vs, rfl, _, h2⟩ := h.cons_inv; simpa using ih h2

theorem VRs.take {φ : Emb} {as vs} (h : VRs φ as vs) (n : Nat) : VRs φ (as.take n) (vs.take n) := by
  induction n generalizing as vs with
  | zero => simpa using VRs.nil
  | succ n ih =>
    cases as with
    | nil => cases h; exact .nil
    | cons a as => obtain ⟨v, vs, rfl, h1, h2⟩ := h.cons_inv; simpa using VRs.cons h1 (ih h2)

theorem VRs.set {φ : Emb} {as vs a v} (h : VRs φ as vs) (k : VR φ a v) (n : Nat) : VRs φ (as.set n a) (vs.set n v) := by
  induction as generalizing vs n with
  | nil => cases h; simpa using VRs.nil
  | cons b as ih =>
    obtain ⟨u, vs, rfl, h1, h2⟩ := h.cons_inv
    cases n with
    | zero => simpa using VRs.cons k h2
    | succ n => simpa using VRs.cons h1 (ih h2 n)

theorem VRs.undefs {φ : Emb} : ∀ vs : List Value, VRs φ (List.replicate vs.length .undef) vs
  | [] => .nil
  | v :: vs => .undef v (VRs.undefs vs)

theorem VRs.replicate {φ : Emb} {a v} (h : VR φ a v) : ∀ n, VRs φ (List.replicate n a) (List.replicate n v)
  | 0 => .nil
  | n + 1 => .cons h (VRs.replicate h n)

/-! ### Inversion -/
section
variable {φ : Emb} {v : Value}
theorem VR.bool_inv {b} (h : VR φ (.bool b) v) : v = .bool b := by cases h; rfl
theorem VR.int_inv {k n} (h : VR φ (.int k n) v) : v = .int k n := by cases h; rfl
theorem VR.str_inv {s} (h : VR φ (.str s) v) : v = .string ⟨s.toArray⟩ := by cases h; rfl
theorem VR.nilp_inv (h : VR φ .nilp v) : v = .pointer none := by cases h; rfl
theorem VR.nils_inv (h : VR φ .nils v) : v = .slice none 0 0 := by cases h; rfl
theorem VR.nilf_inv (h : VR φ .nilf v) : v = .nilFunc := by cases h; rfl
theorem VR.nili_inv (h : VR φ .nili v) : v = .nilIface := by cases h; rfl
theorem VR.ptr_inv {i o} (h : VR φ (.ptr i o) v) : ∃ p s m, φ i = some (p, s, m) ∧ v = .pointer (some ⟨p, s + o, none⟩) := by cases h; exact ⟨_, _, _, ‹_›, rfl⟩
theorem VR.sl_inv {i o z n c} (h : VR φ (.sl i o z n c) v) : (∃ p s m cc, φ i = some (p, s, m) ∧ (∀ r, m = some r → s + o + cc * z ≤ r) ∧ n ≤ cc ∧ (∀ d, c = some d → cc = d) ∧ v = .slice (some ⟨p, s + o, none⟩) n cc) ∨
    (n = 0 ∧ (∀ d, c = some d → 0 = d) ∧ ∃ a, v = .slice (some a) 0 0) := by
  cases h
  · exact .inl ⟨_, _, _, _, ‹_›, ‹_›, ‹_›, ‹_›, rfl⟩
  · exact .inr ⟨rfl, ‹_›, _, rfl⟩
theorem VR.esl_inv (h : VR φ .esl v) : ∃ a cc, v = .slice (some a) 0 cc := by cases h; exact ⟨_, _, rfl⟩
theorem VR.func_inv {f cs} (h : VR φ (.func f cs) v) : ∃ ds : Array Value, VRs φ cs ds.toList ∧ v = .func (.func f) #[] ds := by cases h; exact ⟨_, ‹_›, rfl⟩
theorem VR.iface_inv {t a} (h : VR φ (.iface t a) v) : ∃ u, VR φ a u ∧ v = .iface t u := by cases h; exact ⟨_, ‹_›, rfl⟩
theorem VR.agg_inv {cs} (h : VR φ (.agg cs) v) : ∃ ds : Array Value, VRs φ cs ds.toList ∧ v = .agg ds := by cases h; exact ⟨_, ‹_›, rfl⟩
theorem VR.tup_inv {cs} (h : VR φ (.tup cs) v) : ∃ ds : Array Value, VRs φ cs ds.toList ∧ v = .tuple ds := by cases h; exact ⟨_, ‹_›, rfl⟩
end

theorem VR.bool {φ : Emb} (b : Bool) : VR φ (.bool b) (.bool b) := VRs.bool b .nil
theorem VR.int {φ : Emb} (k : IntKind) (n : Int) : VR φ (.int k n) (.int k n) := VRs.int k n .nil
theorem VR.str {φ : Emb} (s : List UInt8) : VR φ (.str s) (.string ⟨s.toArray⟩) := VRs.str s .nil
theorem VR.undef {φ : Emb} (v : Value) : VR φ .undef v := VRs.undef v .nil
theorem VR.tupn {φ : Emb} : VR φ (.tup []) Go.undef := VRs.tup (ds := #[]) .nil .nil
theorem VR.ptr {φ : Emb} {i o p s m} (h : φ i = some (p, s, m)) : VR φ (.ptr i o) (.pointer (some ⟨p, s + o, none⟩)) := VRs.ptr h .nil
theorem VR.agg {φ : Emb} {cs} {ds : Array Value} (h : VRs φ cs ds.toList) : VR φ (.agg cs) (.agg ds) := VRs.agg h .nil
theorem VR.tup {φ : Emb} {cs} {ds : Array Value} (h : VRs φ cs ds.toList) : VR φ (.tup cs) (.tuple ds) := VRs.tup h .nil

theorem ofV1_ok {φ : Emb} {v a} (h : ofV1 v = some a) : VR φ a v := by
  cases v with
  | bool b => simp [ofV1] at h; subst h; exact .bool b
  | int k n => simp [ofV1] at h; subst h; exact .int k n
  | string s => simp [ofV1] at h; subst h; have : VR φ (.str s.data.toList) (.string ⟨s.data.toList.toArray⟩) := .str _; simpa using this
  | pointer a => cases a <;> simp [ofV1] at h; subst h; exact VRs.nilp .nil
  | slice a n c =>
    cases a with
    | some _ => simp [ofV1] at h
    | none =>
      cases n with
      | succ _ => simp [ofV1] at h
      | zero => cases c with
        | succ _ => simp [ofV1] at h
        | zero => simp [ofV1] at h; subst h; exact VRs.nils .nil
  | nilFunc => simp [ofV1] at h; subst h; exact VRs.nilf .nil
  | nilIface => simp [ofV1] at h; subst h; exact VRs.nili .nil
  | _ => simp [ofV1] at h

theorem ofVs_ok {φ : Emb} : ∀ {vs as}, ofVs vs = some as → VRs φ as vs
  | [], as, h => by simp [ofVs] at h; subst h; exact .nil
  | v :: vs, as, h => by
    simp only [ofVs] at h
    split at h
    · rename_i a as' h1 h2
      simp at h; subst h
      exact .cons (ofV1_ok h1) (ofVs_ok h2)
    · simp at h

theorem ofV_ok {φ : Emb} {v a} (h : ofV v = some a) : VR φ a v := by
  cases v with
  | agg cs =>
    simp only [ofV, Option.map_eq_some_iff] at h
    obtain ⟨as, h1, rfl⟩ := h
    exact .agg (ofVs_ok h1)
  | _ => exact ofV1_ok h

theorem cells_ok {φ : Emb} {a v cs} (h : VR φ a v) (hc : a.cells? = some cs) : VRs φ cs v.cells.toList := by
  cases a with
  | agg l => simp [AV.cells?] at hc; subst hc; obtain ⟨ds, h1, rfl⟩ := h.agg_inv; exact h1
  | undef => simp [AV.cells?] at hc
  | tup _ => simp [AV.cells?] at hc
  | bool b => simp [AV.cells?] at hc; subst hc; obtain rfl := h.bool_inv; exact h
  | int k n => simp [AV.cells?] at hc; subst hc; obtain rfl := h.int_inv; exact h
  | str s => simp [AV.cells?] at hc; subst hc; obtain rfl := h.str_inv; exact h
  | nilp => simp [AV.cells?] at hc; subst hc; obtain rfl := h.nilp_inv; exact h
  | nils => simp [AV.cells?] at hc; subst hc; obtain rfl := h.nils_inv; exact h
  | nilf => simp [AV.cells?] at hc; subst hc; obtain rfl := h.nilf_inv; exact h
  | nili => simp [AV.cells?] at hc; subst hc; obtain rfl := h.nili_inv; exact h
  | ptr i o => simp [AV.cells?] at hc; subst hc; obtain ⟨_, _, _, _, rfl⟩ := h.ptr_inv; exact h
  | sl i o z n c => simp [AV.cells?] at hc; subst hc; rcases h.sl_inv with ⟨_, _, _, _, _, _, _, _, rfl⟩ | ⟨_, _, _, rfl⟩ <;> exact h
  | esl => simp [AV.cells?] at hc; subst hc; obtain ⟨_, _, rfl⟩ := h.esl_inv; exact h
  | func f l => simp [AV.cells?] at hc; subst hc; obtain ⟨_, _, rfl⟩ := h.func_inv; exact h
  | iface t b => simp [AV.cells?] at hc; subst hc; obtain ⟨_, _, rfl⟩ := h.iface_inv; exact h

theorem solid_ok {φ : Emb} {a v} (h : VR φ a v) (hs : solid a = true) : v.oneCell' = true := by
  cases h <;> first | rfl | simp [solid] at hs

/-! ### Lists with names -/
section
variable {α : Type}
theorem lk_rpl (l : List (Nat × α)) (i j : Nat) (b : α) : lk (rpl l i b) j = if j = i then (lk l i).map (fun _ => b) else lk l j := by
  induction l with
  | nil => simp [lk, rpl]
  | cons p l ih =>
    obtain ⟨k, a⟩ := p
    by_cases hk : k = i
    · subst hk
      by_cases hj : j = k
      · subst hj; simp [rpl, lk]
      · have : ¬ k = j := fun e => hj e.symm
        simp [rpl, lk, hj, this]
    · by_cases hj : j = i
      · subst hj
        simp only [rpl, hk, if_false, lk, ih, if_true]
      · by_cases hkj : k = j
        · subst hkj; simp [rpl, hk, lk]
        · simp [rpl, hk, lk, hkj, ih, hj]

theorem lk_del (l : List (Nat × α)) (i j : Nat) : lk (del l i) j = if j = i then none else lk l j := by
  induction l with
  | nil => simp [lk, del]
  | cons p l ih =>
    obtain ⟨k, a⟩ := p
    by_cases hk : k = i
    · subst hk
      by_cases hj : j = k
      · subst hj; simp [del, ih]
      · have : ¬ k = j := fun e => hj e.symm
        simp [del, lk, hj, this, ih]
    · by_cases hkj : k = j
      · subst hkj; simp [del, hk, lk]
      · simp [del, hk, lk, hkj, ih]

theorem lk_append (l m : List (Nat × α)) (j : Nat) : lk (l ++ m) j = (lk l j).or (lk m j) := by
  induction l with
  | nil => simp [lk]
  | cons p l ih => obtain ⟨k, a⟩ := p; by_cases h : k = j <;> simp [lk, h, ih]

theorem lk_filter (l : List (Nat × α)) (q : Nat → Bool) (j : Nat) : lk (l.filter fun p => q p.1) j = if q j then lk l j else none := by
  induction l with
  | nil => simp [lk]
  | cons p l ih =>
    obtain ⟨k, a⟩ := p
    by_cases hq : q k
    · by_cases hk : k = j
      · subst hk; simp [lk, hq]
      · simp [hq, lk, hk, ih]
    · by_cases hk : k = j
      · subst hk; simp [hq, ih]
      · simp [hq, lk, hk, ih]
end

/-! ### The heap and the world -/

/-- What a run begins with: how many blocks of memory are not its own, how many variables of packages there are, which of these are tables, and what else is known of the memory that is not its own. -/
structure Base where
  n : Nat
  G : Nat
  T : List (Nat × Blk)
  K : World → Prop
  keep : ∀ w w' : World, (∀ p, p < n → w'.heap[p]? = w.heap[p]?) → n ≤ w'.heap.size → K w → K w'

def glob (G : Nat) : Emb := fun i => if i < G then some (i, 0, none) else none

/-- The tables hold what they hold. -/
def Knows (B : Base) (w : World) : Prop := (B.K w ∧ B.n ≤ w.heap.size) ∧ ∀ i b, lk B.T i = some b → b.ro = true ∧ i < B.n ∧ i < B.G ∧ ∀ (j : Nat) (v : AV), b.cells[j]? = some v → ∃ v', w.cell? ⟨i, j, none⟩ = some v' ∧ VR (glob B.G) v v'

theorem Knows.keep {B : Base} {w w' : World} (h : Knows B w) (k : ∀ p, p < B.n → w'.heap[p]? = w.heap[p]?) (hs : B.n ≤ w'.heap.size) : Knows B w' := ⟨⟨B.keep w w' k hs h.1.1, hs⟩, fun i b hb => by
  obtain ⟨h1, h2, h3, h4⟩ := h.2 i b hb
  refine ⟨h1, h2, h3, fun j v hj => ?_⟩
  obtain ⟨v', h5, h6⟩ := h4 j v hj
  exact ⟨v', by rw [World.cell?_of_block (w := w) (a := ⟨i, j, none⟩) (k i h2)]; exact h5, h6⟩⟩

structure BR (B : Base) (φ : Emb) (w : World) (b : Blk) (p s : Nat) (m : Option Nat) : Prop where
  ro : b.ro = true → p < B.n ∧ m = none
  own : b.ro = false → B.n ≤ p ∧ ∃ r, m = some r ∧ w.shape? p = some (b.ty, r) ∧ s + b.cells.length ≤ r ∧ (b.wh = true → s = 0 ∧ r = b.cells.length) ∧ (b.s0 = true → s = 0) ∧ ∀ j, s ≤ j → j < r → w.frozen? ⟨p, j, none⟩ = false
  cell : ∀ j v, b.cells[j]? = some v → ∃ v', w.cell? ⟨p, s + j, none⟩ = some v' ∧ VR φ v v'

structure Rel (B : Base) (φ : Emb) (H : AH) (w : World) : Prop where
  know : Knows B w
  hB : B.n ≤ w.heap.size
  live : ∀ i b, H.get i = some b → i < H.next
  fl : H.floor ≤ H.next
  blk : ∀ i b, H.get i = some b → ∃ p s m, φ i = some (p, s, m) ∧ BR B φ w b p s m
  inj : ∀ i j b c p s m q t n, H.get i = some b → H.get j = some c → b.ro = false → c.ro = false → φ i = some (p, s, m) → φ j = some (q, t, n) → i ≠ j → (H.floor ≤ i ∨ H.floor ≤ j) → p ≠ q

/-- A block of memory that may be written. -/
def Foot (φ : Emb) (H : AH) (p : Nat) : Prop := ∃ i b s m, H.floor ≤ i ∧ H.get i = some b ∧ b.ro = false ∧ φ i = some (p, s, m)

/-- What a step leaves. -/
structure Step (B : Base) (φ : Emb) (H : AH) (w : World) (ψ : Emb) (H' : AH) (w' : World) : Prop where
  rel : Rel B ψ H' w'
  emb : ∀ i, i < H.next ∨ H'.next ≤ i → ψ i = φ i
  nxt : H.next ≤ H'.next
  flo : H'.floor = H.floor
  old : ∀ i, i < H.floor → H'.get i = H.get i
  sub : ∀ i b, i < H.next → H'.get i = some b → ∃ c, H.get i = some c ∧ c.ro = b.ro
  os : w'.os = w.os
  tape : w'.tape = w.tape
  output : w'.output = w.output
  size : w.heap.size ≤ w'.heap.size
  frame : ∀ p, p < w.heap.size → ¬ Foot φ H p → w'.heap[p]? = w.heap[p]?
  foot : ∀ p, Foot ψ H' p → Foot φ H p ∨ w.heap.size ≤ p

def Free (φ : Emb) (a b : Nat) : Prop := ∀ i, a ≤ i → i < b → φ i = none

theorem Free.mono {φ : Emb} {a b c d : Nat} (h : Free φ a b) (h1 : a ≤ c) (h2 : d ≤ b) : Free φ c d := fun i hi hj => h i (by omega) (by omega)

theorem Step.le {B φ H w ψ H' w'} (h : Step B φ H w ψ H' w') (hf : Free φ H.next H'.next) : φ.le ψ := by
  intro i x hx
  by_cases h1 : i < H.next
  · rw [h.emb i (.inl h1)]; exact hx
  · by_cases h2 : H'.next ≤ i
    · rw [h.emb i (.inr h2)]; exact hx
    · rw [hf i (by omega) (by omega)] at hx; cases hx

theorem Step.refl {B φ H w} (h : Rel B φ H w) : Step B φ H w φ H w :=
  ⟨h, fun _ _ => rfl, Nat.le_refl _, rfl, fun _ _ => rfl, fun _ b _ hb => ⟨b, hb, rfl⟩, rfl, rfl, rfl, Nat.le_refl _, fun _ _ _ => rfl, fun _ hp => .inl hp⟩

theorem Step.trans {B φ H w ψ H1 w1 χ H2 w2} (h : Step B φ H w ψ H1 w1) (k : Step B ψ H1 w1 χ H2 w2) : Step B φ H w χ H2 w2 where
  rel := k.rel
  emb := fun i hi => by
    have a := h.nxt; have b := k.nxt
    rw [k.emb i (by omega), h.emb i (by omega)]
  nxt := Nat.le_trans h.nxt k.nxt
  flo := k.flo.trans h.flo
  old := fun i hi => (k.old i (by rw [h.flo]; exact hi)).trans (h.old i hi)
  sub := fun i b hi hb => by
    obtain ⟨c, hc, e⟩ := k.sub i b (Nat.lt_of_lt_of_le hi h.nxt) hb
    obtain ⟨d, hd, e'⟩ := h.sub i c hi hc
    exact ⟨d, hd, e'.trans e⟩
  os := k.os.trans h.os
  tape := k.tape.trans h.tape
  output := k.output.trans h.output
  size := Nat.le_trans h.size k.size
  frame := fun p hp hn => by
    have hs := h.size
    rw [k.frame p (by omega) (fun hf => by rcases h.foot p hf with h' | h'; exact hn h'; omega), h.frame p hp hn]
  foot := fun p hp => by
    rcases k.foot p hp with h' | h'
    · exact h.foot p h'
    · have := h.size; exact .inr (by omega)

theorem Step.free {B φ H w ψ H' w'} (h : Step B φ H w ψ H' w') {n : Nat} (hf : Free φ H.next n) : Free ψ H'.next n := fun i hi hj => by
  rw [h.emb i (.inr hi)]; exact hf i (Nat.le_trans h.nxt hi) hj

/-- Below B nothing has turned. -/
theorem Step.below {B φ H w ψ H' w'} (hr : Rel B φ H w) (h : Step B φ H w ψ H' w') : Below B.n w w' where
  os := h.os
  tape := h.tape
  output := h.output
  size := h.size
  block := fun k hk => h.frame k (by have := hr.hB; omega) fun ⟨i, b, s, m, _, hb, ho, hi⟩ => by
    obtain ⟨p, s', m', e, br⟩ := hr.blk i b hb
    rw [hi] at e
    simp at e
    have := (br.own ho).1
    omega

/-! ### Worlds that hold the same memory -/

def Alike (w w' : World) : Prop := w'.heap = w.heap ∧ w'.os = w.os ∧ w'.tape = w.tape ∧ w'.output = w.output
theorem Alike.refl (w : World) : Alike w w := ⟨rfl, rfl, rfl, rfl⟩
theorem Alike.drew (w : World) : Alike w w.drew := ⟨rfl, rfl, rfl, rfl⟩
theorem Alike.trans {a b c : World} (h : Alike a b) (k : Alike b c) : Alike a c := ⟨k.1.trans h.1, k.2.1.trans h.2.1, k.2.2.1.trans h.2.2.1, k.2.2.2.trans h.2.2.2⟩

theorem Alike.cell {w w' : World} (h : Alike w w') (a : Addr) : w'.cell? a = w.cell? a := by simp [World.cell?, h.1]
theorem Alike.frozen {w w' : World} (h : Alike w w') (a : Addr) : w'.frozen? a = w.frozen? a := by simp [World.frozen?, h.1]
theorem Alike.shape {w w' : World} (h : Alike w w') (a : Nat) : w'.shape? a = w.shape? a := by simp [World.shape?, h.1]

theorem Rel.alike {B φ H w w'} (h : Rel B φ H w) (k : Alike w w') : Rel B φ H w' where
  know := h.know.keep (fun p _ => by rw [k.1]) (by rw [k.1]; exact h.hB)
  hB := by rw [k.1]; exact h.hB
  live := h.live
  fl := h.fl
  blk := fun i b hb => by
    obtain ⟨p, s, m, e, br⟩ := h.blk i b hb
    refine ⟨p, s, m, e, br.ro, fun ho => ?_, fun j v hj => ?_⟩
    · obtain ⟨h1, r, h2, h3, h4, h5, h7, h6⟩ := br.own ho
      exact ⟨h1, r, h2, by rw [k.shape]; exact h3, h4, h5, h7, fun j a b => by rw [k.frozen]; exact h6 j a b⟩
    · rw [k.cell]; exact br.cell j v hj
  inj := h.inj

theorem Step.alike {B φ H w w'} (h : Rel B φ H w) (k : Alike w w') : Step B φ H w φ H w' :=
  ⟨h.alike k, fun _ _ => rfl, Nat.le_refl _, rfl, fun _ _ => rfl, fun _ b _ hb => ⟨b, hb, rfl⟩, k.2.1, k.2.2.1, k.2.2.2, by rw [k.1]; exact Nat.le_refl _, fun _ _ _ => by rw [k.1], fun _ hp => .inl hp⟩

/-! ### A new block -/

def Emb.upd (φ : Emb) (i : Nat) (x : Nat × Nat × Option Nat) : Emb := fun j => if j = i then some x else φ j
theorem Emb.upd_same (φ : Emb) (i x) : φ.upd i x i = some x := by simp [Emb.upd]
theorem Emb.upd_other (φ : Emb) (i x) {j} (h : j ≠ i) : φ.upd i x j = φ j := by simp [Emb.upd, h]
theorem Emb.le_upd {φ : Emb} {i} (x) (h : φ i = none) : φ.le (φ.upd i x) := fun j y hy => by
  by_cases e : j = i
  · subst e; rw [h] at hy; cases hy
  · rw [Emb.upd_other _ _ _ e]; exact hy

theorem shape_alloc_new (w : World) (cs : Array Value) (ty : TypeId) : (w.alloc (.cells cs ty)).shape? w.heap.size = some (ty, cs.size) := by
  simp only [World.shape?, World.alloc, Array.getElem?_push, if_true]
theorem shape_alloc_old (w : World) (o : Obj) {p : Nat} (h : p < w.heap.size) : (w.alloc o).shape? p = w.shape? p := by
  simp only [World.shape?, World.alloc, Array.getElem?_push]
  rw [if_neg (by omega)]
theorem shape_lt {w : World} {p : Nat} {x} (h : w.shape? p = some x) : p < w.heap.size := by
  unfold World.shape? at h
  rcases Nat.lt_or_ge p w.heap.size with h' | h'
  · exact h'
  · simp [Array.getElem?_eq_none h'] at h

theorem get_push {H : AH} {ty wh cs} (i : Nat) : (H.push ty wh cs).get i = if i = H.next then some ⟨cs, false, ty, wh, true⟩ else H.get i := by
  by_cases h : i = H.next
  · subst h; simp [AH.push, AH.get, lk]
  · have : ¬ H.next = i := fun e => h e.symm
    simp [AH.push, AH.get, lk, h, this]

theorem Rel.lt_heap {B φ H w} (h : Rel B φ H w) {i b p s m} (hb : H.get i = some b) (ho : b.ro = false) (e : φ i = some (p, s, m)) : p < w.heap.size := by
  obtain ⟨p', s', m', e', br⟩ := h.blk i b hb
  rw [e] at e'; simp at e'; obtain ⟨rfl, rfl, rfl⟩ := e'
  obtain ⟨_, r, _, h3, _⟩ := br.own ho
  exact shape_lt h3

/-- The blocks that are there stay as they were when a world changes in none of theirs. -/
theorem BR.keep {B φ ψ w w' b p s m} (h : BR B φ w b p s m) (hl : φ.le ψ) (hp : w'.heap[p]? = w.heap[p]?) : BR B ψ w' b p s m where
  ro := h.ro
  own := fun ho => by
    obtain ⟨h1, r, h2, h3, h4, h5, h7, h6⟩ := h.own ho
    exact ⟨h1, r, h2, by simpa [World.shape?, hp] using h3, h4, h5, h7, fun j a b => by rw [World.frozen?_of_block (w := w) (a := ⟨p, j, none⟩) hp]; exact h6 j a b⟩
  cell := fun j v hj => by
    obtain ⟨v', e, hv⟩ := h.cell j v hj
    exact ⟨v', by rw [World.cell?_of_block (w := w) (a := ⟨p, s + j, none⟩) hp]; exact e, hv.mono hl⟩

theorem heap_alloc_lt (w : World) (o : Obj) {p : Nat} (h : p < w.heap.size) : (w.alloc o).heap[p]? = w.heap[p]? := Below.heap_alloc w o p h

theorem mark_get (w : World) (C : Array Value) (t : TypeId) (fr : Nat × Nat) : (w.alloc (.cells C t fr)).heap[w.heap.size]? = some (.cells C t fr) := by
  show (w.heap.push (.cells C t fr))[w.heap.size]? = _
  simp

/-- A new block of memory, whatever its mark, behind draws. -/
theorem Step.pushW {B φ H w} (h : Rel B φ H w) (ty : TypeId) (wh : Bool) (cs : List AV) (ds : Array Value) (fz : Nat × Nat) (hf : φ H.next = none)
    (hc : ∀ (j : Nat) (v : AV), cs[j]? = some v → ∃ v', ds[j]? = some v' ∧ VR φ v v') (hl : cs.length ≤ ds.size) (hw : wh = true → ds.size = cs.length) (hz : ∀ j, j < ds.size → ¬ (fz.1 ≤ j ∧ j < fz.2))
    {w' : World} (hnew : w'.heap[w.heap.size]? = some (.cells ds ty fz)) (hold : ∀ p, p < w.heap.size → w'.heap[p]? = w.heap[p]?) (hsize : w'.heap.size = w.heap.size + 1) (hos : w'.os = w.os) (htp : w'.tape = w.tape) (hou : w'.output = w.output) :
    Step B φ H w (φ.upd H.next (w.heap.size, 0, some ds.size)) (H.push ty wh cs) w' := by
  have hle := Emb.le_upd (w.heap.size, 0, some ds.size) hf
  have ne : ∀ {i b}, H.get i = some b → i ≠ H.next := fun hb e => by have := h.live _ _ hb; omega
  refine ⟨⟨h.know.keep (fun p hp => hold p (Nat.lt_of_lt_of_le hp h.hB)) (by have := h.hB; omega), ?_, ?_, ?_, ?_, ?_⟩, ?_, ?_, rfl, ?_, ?_, hos, htp, hou, ?_, ?_, ?_⟩
  · have := h.hB; omega
  · intro i b hb
    rw [get_push] at hb
    show i < H.next + 1
    split at hb
    · omega
    · have := h.live i b hb; omega
  · have := h.fl; show H.floor ≤ H.next + 1; omega
  · intro i b hb
    rw [get_push] at hb
    split at hb
    · rename_i e
      subst e
      simp at hb
      subst hb
      refine ⟨w.heap.size, 0, some ds.size, Emb.upd_same _ _ _, fun e => by simp at e, fun _ => ⟨h.hB, ds.size, rfl, by simp [World.shape?, hnew], by simpa using hl, fun e => ⟨rfl, hw e⟩, fun _ => rfl, fun j _ hj => ?_⟩, fun j v hj => ?_⟩
      · have := hz j hj
        simp only [World.frozen?, hnew]
        rw [Bool.eq_false_iff]
        simpa using this
      · obtain ⟨v', e, hv⟩ := hc j v hj
        exact ⟨v', by simp [World.cell?, hnew, e], hv.mono hle⟩
    · obtain ⟨p, s, m, e, br⟩ := h.blk i b hb
      refine ⟨p, s, m, by rw [Emb.upd_other _ _ _ (ne hb)]; exact e, br.keep hle (hold p ?_)⟩
      cases hro : b.ro with
      | true => have := (br.ro hro).1; have := h.hB; omega
      | false => exact h.lt_heap hb hro e
  · intro i j b c p s m q t n hi hj hb hc' e1 e2 hij hfl
    rw [get_push] at hi hj
    split at hi
    · rename_i ei
      subst ei
      rw [if_neg (Ne.symm hij)] at hj
      rw [Emb.upd_same] at e1
      rw [Emb.upd_other _ _ _ (ne hj)] at e2
      have := h.lt_heap hj hc' e2
      simp at e1
      omega
    · split at hj
      · rename_i ej
        subst ej
        rw [Emb.upd_same] at e2
        rw [Emb.upd_other _ _ _ (ne hi)] at e1
        have := h.lt_heap hi hb e1
        simp at e2
        omega
      · rw [Emb.upd_other _ _ _ (ne hi)] at e1
        rw [Emb.upd_other _ _ _ (ne hj)] at e2
        exact h.inj i j b c p s m q t n hi hj hb hc' e1 e2 hij hfl
  · intro i hi
    refine Emb.upd_other _ _ _ ?_
    have : (H.push ty wh cs).next = H.next + 1 := rfl
    omega
  · show H.next ≤ H.next + 1; omega
  · intro i hi
    rw [get_push, if_neg]
    have := h.fl
    omega
  · intro i b hi hb
    rw [get_push, if_neg (by omega)] at hb
    exact ⟨b, hb, rfl⟩
  · omega
  · intro p hp _
    exact hold p hp
  · rintro p ⟨i, b, s, m, hi, hb, ho, e⟩
    rw [get_push] at hb
    split at hb
    · rename_i ei
      subst ei
      rw [Emb.upd_same] at e
      simp at e
      exact .inr (by omega)
    · rw [Emb.upd_other _ _ _ (ne hb)] at e
      exact .inl ⟨i, b, s, m, hi, hb, ho, e⟩

theorem Step.push {B φ H w} (h : Rel B φ H w) (ty : TypeId) (wh : Bool) (cs : List AV) (ds : Array Value) (hf : φ H.next = none)
    (hc : ∀ (j : Nat) (v : AV), cs[j]? = some v → ∃ v', ds[j]? = some v' ∧ VR φ v v') (hl : cs.length ≤ ds.size) (hw : wh = true → ds.size = cs.length) :
    Step B φ H w (φ.upd H.next (w.heap.size, 0, some ds.size)) (H.push ty wh cs) (w.alloc (.cells ds ty)) :=
  Step.pushW h ty wh cs ds (0, 0) hf hc hl hw (fun j _ hj => by omega) (mark_get w ds ty (0, 0)) (fun p hp => heap_alloc_lt _ _ hp) (by simp) rfl rfl rfl

end Go.Am

/- What a store into a block, an append in place and the forgetting of blocks keep of the relation between the abstract heap and the world. Conditions: those that each theorem names. -/
namespace Go.Am
open Go.RowKit

theorem setCells_heap (b : Nat) : ∀ (vs : List Value) (o : Nat) (w : World) (p : Nat), p ≠ b → (w.setCells b o vs).heap[p]? = w.heap[p]?
  | [], _, _, _, _ => rfl
  | v :: r, o, w, p, h => by rw [World.setCells, setCells_heap b r _ _ p h, Below.heap_setCell _ _ _ _ h]
theorem setCells_size (b : Nat) : ∀ (vs : List Value) (o : Nat) (w : World), (w.setCells b o vs).heap.size = w.heap.size
  | [], _, _ => rfl
  | v :: r, o, w => by rw [World.setCells, setCells_size b r]; simp
theorem setCells_rest (b : Nat) : ∀ (vs : List Value) (o : Nat) (w : World), (w.setCells b o vs).os = w.os ∧ (w.setCells b o vs).tape = w.tape ∧ (w.setCells b o vs).output = w.output
  | [], _, _ => ⟨rfl, rfl, rfl⟩
  | v :: r, o, w => by rw [World.setCells]; exact setCells_rest b r _ _
theorem setCell_shape (w : World) (a : Addr) (v : Value) (p : Nat) : (w.setCell a v).shape? p = w.shape? p := by
  simp only [World.setCell, World.shape?, Array.getElem?_modify]
  by_cases hb : a.block = p
  · simp only [hb, if_true]
    cases hh : w.heap[p]? with
    | none => simp
    | some x =>
      cases x <;> simp
      split <;> simp
  · simp [hb]
theorem setCells_shape (b : Nat) : ∀ (vs : List Value) (o : Nat) (w : World) (p : Nat), (w.setCells b o vs).shape? p = w.shape? p
  | [], _, _, _ => rfl
  | v :: r, o, w, p => by rw [World.setCells, setCells_shape b r, setCell_shape]

theorem putAt_length : ∀ (vs : List AV) (cs : List AV) (o : Nat), (putAt cs o vs).length = cs.length
  | [], _, _ => rfl
  | v :: vs, cs, o => by rw [putAt, putAt_length vs]; simp

theorem putAt_out : ∀ (vs : List AV) (cs : List AV) (o j : Nat), j < o ∨ o + vs.length ≤ j → (putAt cs o vs)[j]? = cs[j]?
  | [], _, _, _, _ => rfl
  | v :: vs, cs, o, j, h => by
    rw [putAt, putAt_out vs _ (o + 1) j (by simp at h; omega), List.getElem?_set_ne (by simp at h; omega)]

theorem putAt_in : ∀ (vs : List AV) (cs : List AV) (o j : Nat), o + vs.length ≤ cs.length → j < vs.length → (putAt cs o vs)[o + j]? = vs[j]?
  | [], _, _, _, _, h => by simp at h
  | v :: vs, cs, o, 0, h, _ => by
    rw [putAt, putAt_out vs _ (o + 1) (o + 0) (by omega)]
    simp at h
    simp [List.getElem?_set_self (show o < cs.length by omega)]
  | v :: vs, cs, o, j + 1, h, hj => by
    have := putAt_in vs (cs.set o v) (o + 1) j (by simp at h ⊢; omega) (by simpa using hj)
    rw [putAt, show o + (j + 1) = o + 1 + j by omega, this]
    simp

theorem get_put {H : AH} {i : Nat} {b : Blk} (j : Nat) : (H.put i b).get j = if j = i then (H.get i).map (fun _ => b) else H.get j := lk_rpl _ _ _ _

theorem add_eq (p o n : Nat) : (⟨p, o, none⟩ : Addr).add n = ⟨p, o + n, none⟩ := by unfold Addr.add; split <;> simp_all

/-- A store of cells into a block of one's own. -/
theorem Step.store {B φ H w H'} (h : Rel B φ H w) {i o : Nat} {vs : List AV} {ds : List Value} (hs : H.store i o vs = some H') (hv : VRs φ vs ds) :
    ∃ p s m, φ i = some (p, s, m) ∧ (∀ P : Program, (storeCells ⟨p, s + o, none⟩ ds).run P w = .ok () (w.setCells p (s + o) ds)) ∧ Step B φ H w φ H' (w.setCells p (s + o) ds) := by
  unfold AH.store at hs
  split at hs
  · simp at hs
  rename_i hfl
  split at hs
  · rename_i b hb
    split at hs
    · simp at hs
    rename_i hro
    split at hs
    · rename_i hlen
      obtain ⟨hlen, hsol⟩ := hlen
      simp at hs
      subst hs
      have hro : b.ro = false := by simpa using hro
      obtain ⟨p, s, m, e, br⟩ := h.blk i b hb
      obtain ⟨hBp, r, hm, hsh, hsr, hwh, hs0, hfz⟩ := br.own hro
      have hl := hv.length
      have hcell : ∀ j, j < b.cells.length → (w.cell? ⟨p, s + j, none⟩).isSome = true := fun j hj => by
        obtain ⟨v', e', _⟩ := br.cell j b.cells[j] (by simp [hj])
        simp [e']
      have hsolid : ∀ v ∈ ds, v.oneCell' = true := fun v hv' => by
        obtain ⟨j, hj, rfl⟩ := List.getElem_of_mem hv'
        have hj' : j < vs.length := by omega
        obtain ⟨u, e', hu⟩ := hv.get (i := j) (a := vs[j]) (by simp [hj'])
        have : u = ds[j] := by simpa [hj] using e'.symm
        subst this
        exact solid_ok hu (List.all_eq_true.1 hsol _ (List.getElem_mem hj'))
      refine ⟨p, s, m, e, fun P => ?_, ?_⟩
      · have := run_storeCells_cells (P := P) p (s + o) ds 0 w (fun j hj => by
          have := hcell (o + j) (by omega)
          rwa [show s + (o + j) = s + o + 0 + j by omega] at this) (fun j hj => hfz _ (by omega) (by omega)) hsolid
        simpa using this
      · have hrest := setCells_rest p ds (s + o) w
        have hne : ∀ {j c q t n}, H.get j = some c → φ j = some (q, t, n) → j ≠ i → BR B φ w c q t n → q ≠ p := fun {j c q t n} hj ej hji brj => by
          cases hcr : c.ro with
          | true => have := (brj.ro hcr).1; omega
          | false => exact h.inj j i c b q t n p s m hj hb hcr hro ej e hji (.inr (by omega))
        refine ⟨⟨h.know.keep (fun q hq => setCells_heap _ _ _ _ _ (by omega)) (by rw [setCells_size]; exact h.hB), ?_, ?_, h.fl, ?_, ?_⟩, fun _ _ => rfl, Nat.le_refl _, rfl, ?_, ?_, hrest.1, hrest.2.1, hrest.2.2, ?_, ?_, ?_⟩
        · rw [setCells_size]; exact h.hB
        · intro j c hj
          rw [get_put] at hj
          split at hj
          · rename_i ej; subst ej; exact h.live _ b hb
          · exact h.live j c hj
        · intro j c hj
          rw [get_put] at hj
          split at hj
          · rename_i ej
            subst ej
            rw [hb] at hj
            simp at hj
            subst hj
            refine ⟨p, s, m, e, br.ro, fun _ => ⟨hBp, r, hm, by rw [setCells_shape]; exact hsh, by simpa [putAt_length] using hsr, fun x => by simpa [putAt_length] using hwh x, hs0, fun j a b => by rw [World.frozen?_setCells]; exact hfz j a b⟩, fun j v hj => ?_⟩
            by_cases hin : o ≤ j ∧ j < o + vs.length
            · obtain ⟨k, rfl⟩ : ∃ k, j = o + k := ⟨j - o, by omega⟩
              rw [putAt_in vs b.cells o k hlen (by omega)] at hj
              obtain ⟨v', e', hv'⟩ := hv.get hj
              have hk : k < ds.length := by omega
              refine ⟨v', ?_, hv'⟩
              have := World.cell?_setCells_in p ds (s + o) w (fun j hj => by
                have := hcell (o + j) (by omega)
                rwa [show s + (o + j) = s + o + j by omega] at this) k hk
              rw [show s + (o + k) = s + o + k by omega, this]
              rw [List.getElem?_eq_getElem hk] at e'
              exact e'
            · rw [putAt_out vs b.cells o j (by omega)] at hj
              obtain ⟨v', e', hv'⟩ := br.cell j v hj
              refine ⟨v', ?_, hv'⟩
              rw [World.cell?_setCells_out p ds (s + o) w _ (fun _ _ => by simp; omega)]
              exact e'
          · rename_i ej
            obtain ⟨q, t, n, e', brj⟩ := h.blk j c hj
            exact ⟨q, t, n, e', brj.keep (Emb.le_refl φ) (setCells_heap _ _ _ _ _ (hne hj e' ej brj))⟩
        · intro j k c d q t n q' t' n' hj hk hc hd e1 e2 hjk
          rw [get_put] at hj hk
          have look : ∀ {j c}, (if j = i then (H.get i).map (fun _ => { b with cells := putAt b.cells o vs }) else H.get j) = some c → ∃ c', H.get j = some c' ∧ c'.ro = c.ro := fun {j c} hj => by
            split at hj
            · rename_i ej; subst ej; rw [hb] at hj; simp at hj; subst hj; exact ⟨b, hb, rfl⟩
            · exact ⟨c, hj, rfl⟩
          obtain ⟨c', hc1, hc2⟩ := look hj
          obtain ⟨d', hd1, hd2⟩ := look hk
          exact h.inj j k c' d' q t n q' t' n' hc1 hd1 (hc2.trans hc) (hd2.trans hd) e1 e2 hjk
        · intro j hj
          rw [get_put, if_neg (by omega)]
        · intro j c hj hc
          rw [get_put] at hc
          split at hc
          · rename_i ej; subst ej; rw [hb] at hc; simp at hc; subst hc; exact ⟨b, hb, rfl⟩
          · exact ⟨c, hc, rfl⟩
        · rw [setCells_size]; exact Nat.le_refl _
        · intro q hq hnf
          refine setCells_heap _ _ _ _ _ (fun eq => hnf ⟨i, b, s, m, ?_, hb, hro, ?_⟩)
          · show H.floor ≤ i; omega
          · rw [eq]; exact e
        · rintro q ⟨j, c, t, n, hj, hc, hcr, ej⟩
          rw [get_put] at hc
          split at hc
          · rename_i eji; subst eji; rw [hb] at hc; simp at hc; subst hc
            exact .inl ⟨_, b, t, n, hj, hb, hro, ej⟩
          · exact .inl ⟨j, c, t, n, hj, hc, hcr, ej⟩
    · simp at hs
  · simp at hs

theorem get_del {H : AH} {i : Nat} (j : Nat) : (H.kill i).get j = if j = i then none else H.get j := lk_del _ _ _

theorem get_turn {H : AH} {i ty s0 cs} (j : Nat) : (H.turn i ty s0 cs).get j = if j = H.next then some ⟨cs, false, ty, false, s0⟩ else if j = i then none else H.get j := by
  by_cases h : j = H.next
  · subst h; simp [AH.turn, AH.get, lk]
  · have : ¬ H.next = j := fun e => h e.symm
    simp only [AH.turn, AH.get, lk, this, h, if_false]
    exact lk_del _ _ _

/-- Forgetting blocks. -/
theorem Rel.restrict {B φ H w} (h : Rel B φ H w) {H' : AH} (hsub : ∀ i b, H'.get i = some b → H.get i = some b) (hn : H.next ≤ H'.next) (hf : H'.floor ≤ H'.next) (hff : H.floor ≤ H'.floor) : Rel B φ H' w where
  know := h.know
  hB := h.hB
  live := fun i b hb => Nat.lt_of_lt_of_le (h.live i b (hsub i b hb)) hn
  fl := hf
  blk := fun i b hb => h.blk i b (hsub i b hb)
  inj := fun i j b c p s m q t n hi hj h1 h2 h3 h4 h5 h6 => h.inj i j b c p s m q t n (hsub i b hi) (hsub j c hj) h1 h2 h3 h4 h5 (by omega)

/-- A block goes, and a world that has turned in its block of memory alone. -/
theorem Step.kill {B φ H w} (h : Rel B φ H w) {i : Nat} {b : Blk} (hb : H.get i = some b) (hro : b.ro = false) (hfl : H.floor ≤ i) {p s m} (e : φ i = some (p, s, m)) {w' : World}
    (hsz : w'.heap.size = w.heap.size) (hheap : ∀ q, q ≠ p → w'.heap[q]? = w.heap[q]?) (hos : w'.os = w.os) (htp : w'.tape = w.tape) (hou : w'.output = w.output) :
    Step B φ H w φ (H.kill i) w' := by
  have hsub : ∀ j c, (H.kill i).get j = some c → j ≠ i ∧ H.get j = some c := fun j c hj => by
    rw [get_del] at hj
    split at hj
    · simp at hj
    · rename_i ej; exact ⟨ej, hj⟩
  obtain ⟨p', s', m', e', br⟩ := h.blk i b hb
  rw [e] at e'; simp at e'; obtain ⟨rfl, rfl, rfl⟩ := e'
  have hBp := (br.own hro).1
  have hne : ∀ {j c q t n}, H.get j = some c → φ j = some (q, t, n) → j ≠ i → BR B φ w c q t n → q ≠ p := fun {j c q t n} hj ej hji brj => by
    cases hcr : c.ro with
    | true => have := (brj.ro hcr).1; omega
    | false => exact h.inj j i c b q t n p s m hj hb hcr hro ej e hji (.inr (by omega))
  refine ⟨⟨h.know.keep (fun q hq => hheap q (by omega)) (by rw [hsz]; exact h.hB), by rw [hsz]; exact h.hB, fun j c hj => h.live j c (hsub j c hj).2, h.fl, ?_, ?_⟩, fun _ _ => rfl, Nat.le_refl _, rfl, ?_, ?_, hos, htp, hou, by omega, ?_, ?_⟩
  · intro j c hj
    obtain ⟨h1, h2⟩ := hsub j c hj
    obtain ⟨q, t, n, e1, brj⟩ := h.blk j c h2
    exact ⟨q, t, n, e1, brj.keep (Emb.le_refl φ) (hheap q (hne h2 e1 h1 brj))⟩
  · intro j k c d q t n q' t' n' hj hk
    exact h.inj j k c d q t n q' t' n' (hsub j c hj).2 (hsub k d hk).2
  · intro j hj; rw [get_del, if_neg (by omega)]
  · intro j c _ hj; exact ⟨c, (hsub j c hj).2, rfl⟩
  · intro q hq hnf
    exact hheap q fun eq => hnf ⟨i, b, s, m, hfl, hb, hro, by rw [eq]; exact e⟩
  · rintro q ⟨j, c, t, n, hj, hc, hcr, ej⟩
    exact .inl ⟨j, c, t, n, hj, (hsub j c hc).2, hcr, ej⟩

/-- An append in place: the new name stands for the old block of memory from cell o on. -/
theorem Step.turnIn {B φ H w} (h : Rel B φ H w) {i o : Nat} {b : Blk} (hb : H.get i = some b) (hro : b.ro = false) (hfl : H.floor ≤ i) (hf : φ H.next = none) {p s r} (e : φ i = some (p, s, some r))
    (old new : List AV) (ds : List Value) (hold : old = (b.cells.drop o).take old.length) (hlen : o + old.length ≤ b.cells.length) (hv : VRs φ new ds) (hsol : new.all solid = true) (hroom : s + o + old.length + new.length ≤ r) :
    (∀ P : Program, (storeCells ⟨p, s + o + old.length, none⟩ ds).run P w = .ok () (w.setCells p (s + o + old.length) ds)) ∧
    Step B φ H w (φ.upd H.next (p, s + o, some r)) (H.turn i b.ty (b.s0 && o == 0) (old ++ new)) (w.setCells p (s + o + old.length) ds) := by
  have hle := Emb.le_upd (p, s + o, some r) hf
  obtain ⟨p', s', m', e', br⟩ := h.blk i b hb
  rw [e] at e'; simp at e'; obtain ⟨rfl, rfl, rfl⟩ := e'
  obtain ⟨hBp, r', hm, hsh, hsr, hwh, hs0, hfz⟩ := br.own hro
  simp at hm; subst hm
  have hl := hv.length
  have hcellAll : ∀ j, j < r → (w.cell? ⟨p, j, none⟩).isSome = true := fun j hj => by
    unfold World.shape? at hsh
    split at hsh
    · rename_i c elem fz hheap
      simp at hsh
      have : j < c.size := by omega
      simp [World.cell?, hheap, this]
    · simp at hsh
  have hsolid : ∀ v ∈ ds, v.oneCell' = true := fun v hv' => by
    obtain ⟨j, hj, rfl⟩ := List.getElem_of_mem hv'
    have hj' : j < new.length := by omega
    obtain ⟨u, e', hu⟩ := hv.get (i := j) (a := new[j]) (by simp [hj'])
    have : u = ds[j] := by simpa [hj] using e'.symm
    subst this
    exact solid_ok hu (List.all_eq_true.1 hsol _ (List.getElem_mem hj'))
  have hrest := setCells_rest p ds (s + o + old.length) w
  have hlt : p < w.heap.size := shape_lt hsh
  have ne : ∀ {j c}, H.get j = some c → j ≠ H.next := fun hb e => by have := h.live _ _ hb; omega
  have hne : ∀ {j c q t n}, H.get j = some c → φ j = some (q, t, n) → j ≠ i → BR B φ w c q t n → q ≠ p := fun {j c q t n} hj ej hji brj => by
    cases hcr : c.ro with
    | true => have := (brj.ro hcr).1; omega
    | false => exact h.inj j i c b q t n p s _ hj hb hcr hro ej e hji (.inr hfl)
  refine ⟨fun P => ?_, ⟨⟨h.know.keep (fun q hq => setCells_heap _ _ _ _ _ (by omega)) (by rw [setCells_size]; exact h.hB), ?_, ?_, ?_, ?_, ?_⟩, ?_, ?_, rfl, ?_, ?_, hrest.1, hrest.2.1, hrest.2.2, ?_, ?_, ?_⟩⟩
  · have := run_storeCells_cells (P := P) p (s + o + old.length) ds 0 w (fun j hj => hcellAll _ (by omega)) (fun j hj => hfz _ (by omega) (by omega)) hsolid
    simpa using this
  · rw [setCells_size]; exact h.hB
  · intro j c hj
    rw [get_turn] at hj
    show j < H.next + 1
    split at hj
    · omega
    · split at hj
      · simp at hj
      · have := h.live j c hj; omega
  · have := h.fl; show H.floor ≤ H.next + 1; omega
  · intro j c hj
    rw [get_turn] at hj
    split at hj
    · rename_i ej
      subst ej
      simp at hj
      subst hj
      refine ⟨p, s + o, some r, Emb.upd_same _ _ _, fun x => by simp at x, fun _ => ⟨hBp, r, rfl, by rw [setCells_shape]; exact hsh, by simp; omega, fun x => by simp at x, fun x => by simp at x; have := hs0 x.1; omega, fun j a b => by rw [World.frozen?_setCells]; exact hfz j (by omega) b⟩, fun j v hj => ?_⟩
      by_cases hin : j < old.length
      · rw [List.getElem?_append_left hin] at hj
        have h2 : b.cells[o + j]? = some v := by
          rw [hold] at hj
          rw [List.getElem?_take_of_lt hin, List.getElem?_drop] at hj
          exact hj
        obtain ⟨v', e', hv'⟩ := br.cell _ v h2
        refine ⟨v', ?_, hv'.mono hle⟩
        rw [World.cell?_setCells_out p ds _ w _ (fun _ _ => by simp; omega), show s + o + j = s + (o + j) by omega]
        exact e'
      · rw [List.getElem?_append_right (by omega)] at hj
        obtain ⟨v', e', hv'⟩ := hv.get hj
        have hk : j - old.length < ds.length := by
          rcases Nat.lt_or_ge (j - old.length) ds.length with h' | h'
          · exact h'
          · rw [List.getElem?_eq_none h'] at e'; simp at e'
        refine ⟨v', ?_, hv'.mono hle⟩
        have := World.cell?_setCells_in p ds (s + o + old.length) w (fun j hj => hcellAll _ (by omega)) (j - old.length) hk
        rw [show s + o + j = s + o + old.length + (j - old.length) by omega, this]
        rw [List.getElem?_eq_getElem hk] at e'
        exact e'
    · split at hj
      · simp at hj
      · rename_i ej eji
        obtain ⟨q, t, n, e', brj⟩ := h.blk j c hj
        exact ⟨q, t, n, by rw [Emb.upd_other _ _ _ ej]; exact e', brj.keep hle (setCells_heap _ _ _ _ _ (hne hj e' eji brj))⟩
  · intro j k c d q t n q' t' n' hj hk hc hd e1 e2 hjk hfl2
    rw [get_turn] at hj hk
    split at hj
    · rename_i ej
      subst ej
      rw [if_neg (Ne.symm hjk)] at hk
      split at hk
      · simp at hk
      · rename_i eki
        rw [Emb.upd_same] at e1
        rw [Emb.upd_other _ _ _ (ne hk)] at e2
        obtain ⟨q2, t2, n2, e3, brk⟩ := h.blk k d hk
        rw [e2] at e3; simp at e3; obtain ⟨rfl, rfl, rfl⟩ := e3
        have := hne hk e2 eki brk
        simp at e1
        omega
    · split at hj
      · simp at hj
      · rename_i ej eji
        split at hk
        · rename_i ek
          subst ek
          rw [Emb.upd_same] at e2
          rw [Emb.upd_other _ _ _ (ne hj)] at e1
          obtain ⟨q2, t2, n2, e3, brk⟩ := h.blk j c hj
          rw [e1] at e3; simp at e3; obtain ⟨rfl, rfl, rfl⟩ := e3
          have := hne hj e1 eji brk
          simp at e2
          omega
        · split at hk
          · simp at hk
          · rw [Emb.upd_other _ _ _ (ne hj)] at e1
            rw [Emb.upd_other _ _ _ (ne hk)] at e2
            exact h.inj j k c d q t n q' t' n' hj hk hc hd e1 e2 hjk hfl2
  · intro j hj
    refine Emb.upd_other _ _ _ ?_
    have : (H.turn i b.ty (b.s0 && o == 0) (old ++ new)).next = H.next + 1 := rfl
    omega
  · show H.next ≤ H.next + 1; omega
  · intro j hj
    have := h.fl
    rw [get_turn, if_neg (by omega), if_neg (by omega)]
  · intro j c hj hc
    rw [get_turn, if_neg (by omega)] at hc
    split at hc
    · simp at hc
    · exact ⟨c, hc, rfl⟩
  · rw [setCells_size]; exact Nat.le_refl _
  · intro q hq hnf
    exact setCells_heap _ _ _ _ _ fun eq => hnf ⟨i, b, s, _, hfl, hb, hro, by rw [eq]; exact e⟩
  · rintro q ⟨j, c, t, n, hj, hc, hcr, ej⟩
    rw [get_turn] at hc
    split at hc
    · rename_i ejn
      subst ejn
      rw [Emb.upd_same] at ej
      simp at ej
      obtain ⟨rfl, rfl, rfl⟩ := ej
      exact .inl ⟨i, b, s, _, hfl, hb, hro, e⟩
    · split at hc
      · simp at hc
      · rw [Emb.upd_other _ _ _ (ne hc)] at ej
        exact .inl ⟨j, c, t, n, hj, hc, hcr, ej⟩

/-- An append that makes a new row: the old name goes as well. -/
theorem Step.turnNew {B φ H w} (h : Rel B φ H w) {i : Nat} (hfl : H.floor ≤ i) (ty : TypeId) (cs : List AV) (ds : Array Value) (s0 : Bool) (hf : φ H.next = none)
    (hc : ∀ (j : Nat) (v : AV), cs[j]? = some v → ∃ v', ds[j]? = some v' ∧ VR φ v v') (hl : cs.length ≤ ds.size) :
    Step B φ H w (φ.upd H.next (w.heap.size, 0, some ds.size)) (H.turn i ty s0 cs) (w.alloc (.cells ds ty)) := by
  have hp := Step.push h ty false cs ds hf hc hl (fun e => by cases e)
  have hsub : ∀ j c, (H.turn i ty s0 cs).get j = some c → ∃ c', (H.push ty false cs).get j = some c' ∧ c'.ro = c.ro ∧ c'.cells = c.cells ∧ c'.ty = c.ty ∧ c'.wh = c.wh ∧ (c'.s0 = c.s0 ∨ c'.s0 = true) := fun j c hj => by
    rw [get_turn] at hj
    rw [get_push]
    split at hj
    · rename_i ej; rw [if_pos ej]; simp at hj; subst hj; exact ⟨_, rfl, rfl, rfl, rfl, rfl, .inr rfl⟩
    · rename_i ej
      rw [if_neg ej]
      split at hj
      · simp at hj
      · exact ⟨c, hj, rfl, rfl, rfl, rfl, .inl rfl⟩
  have hbr : ∀ {c' c : Blk} {p s m}, BR B (φ.upd H.next (w.heap.size, 0, some ds.size)) (w.alloc (.cells ds ty)) c' p s m → c'.ro = c.ro → c'.cells = c.cells → c'.ty = c.ty → c'.wh = c.wh → (c'.s0 = c.s0 ∨ c'.s0 = true) → BR B (φ.upd H.next (w.heap.size, 0, some ds.size)) (w.alloc (.cells ds ty)) c p s m := by
    intro c' c p s m br e1 e2 e3 e4 e5
    refine ⟨fun x => br.ro (e1.trans x), fun x => ?_, fun j v hj => br.cell j v (by rw [e2]; exact hj)⟩
    obtain ⟨h1, r, h2, h3, h4, h5, h7, h6⟩ := br.own (e1.trans x)
    refine ⟨h1, r, h2, by rw [← e3]; exact h3, by rw [← e2]; exact h4, fun y => by rw [← e2]; exact h5 (e4.trans y), fun y => ?_, h6⟩
    rcases e5 with e5 | e5
    · exact h7 (e5.trans y)
    · exact h7 e5
  refine ⟨⟨hp.rel.know, hp.rel.hB, ?_, hp.rel.fl, ?_, ?_⟩, hp.emb, hp.nxt, rfl, ?_, ?_, rfl, rfl, rfl, hp.size, hp.frame, ?_⟩
  · intro j c hj
    obtain ⟨c', h1, _⟩ := hsub j c hj
    exact hp.rel.live j c' h1
  · intro j c hj
    obtain ⟨c', h1, h2, h3, h4, h5, h6⟩ := hsub j c hj
    obtain ⟨p, s, m, e, br⟩ := hp.rel.blk j c' h1
    exact ⟨p, s, m, e, hbr br h2 h3 h4 h5 h6⟩
  · intro j k c d p s m q t n hj hk hc hd
    obtain ⟨c', h1, h2, _⟩ := hsub j c hj
    obtain ⟨d', h3, h4, _⟩ := hsub k d hk
    exact hp.rel.inj j k c' d' p s m q t n h1 h3 (h2.trans hc) (h4.trans hd)
  · intro j hj
    have := h.fl
    rw [get_turn, if_neg (by omega), if_neg (by omega)]
  · intro j c hj hc'
    obtain ⟨c', h1, h2, _⟩ := hsub j c hc'
    obtain ⟨d, h3, h4⟩ := hp.sub j c' hj h1
    exact ⟨d, h3, h4.trans h2⟩
  · rintro q ⟨j, c, t, n, hj, hc', hcr, ej⟩
    obtain ⟨c', h1, h2, _⟩ := hsub j c hc'
    exact hp.foot q ⟨j, c', t, n, hj, h1, h2.trans hcr, ej⟩

end Go.Am

/- The operations of the model stand to those of the abstract machine as values stand to values: arithmetic, comparisons, conversions, parts of values, slice expressions. Conditions: those that each theorem names. -/
namespace Go.Am
open Go.RowKit

/-- What an operation comes to. -/
def Does (P : Program) (R : Ending → World → Prop) : Result Next → Prop
  | .ok (.value v) w => R (.returned v) w
  | .ok .skip w => R (.returned Go.undef) w
  | .ok (.enter f args) w => Calls P f args w R
  | .halt (.panic v) w => R (.panicked [{ v, recovered := false }]) w
  | _ => False

def Post (B : Base) (φ : Emb) (H : AH) (w : World) (out : Out) (H' : AH) (e : Ending) (w' : World) : Prop :=
  ∃ ψ, Step B φ H w ψ H' w' ∧ match out with
    | .ok v => ∃ v', e = .returned v' ∧ VR ψ v v'
    | .pan v => ∃ v', e = .panicked [{ v := v', recovered := false }] ∧ VR ψ v v'

theorem Post.ok {B φ H w ψ H' w' v v'} (h : Step B φ H w ψ H' w') (hv : VR ψ v v') : Post B φ H w (.ok v) H' (.returned v') w' := ⟨ψ, h, v', rfl, hv⟩

section
variable {P : Program} {B : Base} {φ : Emb} {H : AH} {w : World} {ρ : Operand → Value}

theorem does_val {o : Oper} {s : Sem Value} {v v' w' ψ H'} (he : execOp ρ o = (do pure (.value (← s)))) (hs : s.run P w = .ok v' w') (h : Step B φ H w ψ H' w') (hv : VR ψ v v') :
    Does P (Post B φ H w (.ok v) H') ((execOp ρ o).run P w) := by
  rw [he]
  simp [hs, Does]
  exact Post.ok h hv

/-- An operation that leaves heap and world. -/
theorem does_same {o : Oper} {s : Sem Value} {v v'} (hr : Rel B φ H w) (he : execOp ρ o = (do pure (.value (← s)))) (hs : s.run P w = .ok v' w) (hv : VR φ v v') :
    Does P (Post B φ H w (.ok v) H) ((execOp ρ o).run P w) := does_val he hs (Step.refl hr) hv

theorem abin_ok {op : BinOp} {t : TypeId} {x y : Operand} {a b r : AV} {u v : Value} (h : abin op a b = some r) (ha : VR φ a u) (hb : VR φ b v) :
    ∃ r', (do eqGuard op t x y u v; binOp op t u v : Sem Value).run P w = .ok r' w ∧ VR φ r r' := by
  unfold abin at h
  split at h
  · rename_i k a k' b
    obtain rfl := ha.int_inv
    obtain rfl := hb.int_inv
    rw [eqGuard_at_int]
    cases op
    case shl =>
      by_cases hz : b < 0
      · simp [hz] at h
      · simp only [hz, if_false, Option.some.injEq] at h
        subst h
        exact ⟨_, by simp only [binOp, Op.shift, hz, if_false, Sem.run_bind, Sem.run_pure, Result.andThen_ok], VR.int _ _⟩
    case shr =>
      by_cases hz : b < 0
      · simp [hz] at h
      · simp only [hz, if_false, Option.some.injEq] at h
        subst h
        exact ⟨_, by simp only [binOp, Op.shift, hz, if_false, Sem.run_bind, Sem.run_pure, Result.andThen_ok], VR.int _ _⟩
    all_goals
      dsimp only at h
      by_cases hk : k = k'
      case neg => simp [hk] at h
      subst hk
      rw [if_pos rfl] at h
      first
        | (by_cases hz : b = 0
           · rw [if_pos hz] at h; cases h
           · rw [if_neg hz] at h
             simp only [Option.some.injEq] at h
             subst h
             refine ⟨_, ?_, VR.int _ _⟩
             simp [binOp, Op.intDiv, hz])
        | (simp only [Option.some.injEq] at h
           subst h
           first
             | (refine ⟨_, ?_, VR.int _ _⟩; simp [binOp, Op.intArith, Op.intBits])
             | (refine ⟨_, ?_, VR.bool _⟩; simp [binOp, Op.intCmp]))
  · rename_i a b
    obtain rfl := ha.str_inv
    obtain rfl := hb.str_inv
    rw [eqGuard_at_string]
    cases op
    case add =>
      dsimp only at h
      split at h <;> simp at h
      subst h
      rename_i hl
      refine ⟨_, ?_, VR.str _⟩
      have h2 : ¬ (((⟨a.toArray⟩ : ByteArray).size + (⟨b.toArray⟩ : ByteArray).size : Nat) : Int) > IntKind.i64.max := by
        simp [ByteArray.size, IntKind.max, IntKind.signed, IntKind.bits]; omega
      simp only [binOp, Op.stringOp, Sem.run_bind, Sem.run_pure, Result.andThen_ok, h2, if_false, ByteArray.mk_append_mk]
    all_goals first
      | (dsimp only at h; simp at h; done)
      | (simp only [Option.some.injEq] at h; subst h; exact ⟨_, by simp only [binOp, Op.stringOp, Sem.run_bind, Sem.run_pure, Result.andThen_ok, ByteArray.toList_mk], VR.bool _⟩)
  · simp at h

theorem aun_ok {op : UnOp} {a r : AV} {u : Value} (h : aun op a = some r) (ha : VR φ a u) : ∃ r', (Op.unary op u).run P w = .ok r' w ∧ VR φ r r' := by
  unfold aun at h
  split at h
  · rename_i k n
    obtain rfl := ha.int_inv
    cases op <;> simp only [Option.some.injEq, reduceCtorEq] at h <;> subst h
    · exact ⟨_, by simp only [Op.unary, Op.intArith, Sem.run_pure], VR.int _ _⟩
    · exact ⟨_, by simp only [Op.unary, Op.intBits, Sem.run_pure], VR.int _ _⟩
  · rename_i b
    obtain rfl := ha.bool_inv
    cases op <;> simp at h; subst h
    exact ⟨_, by simp only [Op.unary, Sem.run_pure], VR.bool _⟩
  · simp at h

end

theorem cells_list {φ : Emb} {w : World} {p q : Nat} : ∀ (cs : List AV), (∀ (j : Nat) (v : AV), cs[j]? = some v → ∃ v', w.cell? ⟨p, q + j, none⟩ = some v' ∧ VR φ v v') →
    ∃ ds : List Value, VRs φ cs ds ∧ ∀ (j : Nat) (v : Value), ds[j]? = some v → w.cell? ⟨p, q + j, none⟩ = some v := by
  intro cs
  induction cs generalizing q with
  | nil => intro _; exact ⟨[], .nil, fun j v h => by simp at h⟩
  | cons a cs ih =>
    intro h
    obtain ⟨v, hv, hr⟩ := h 0 a (by simp)
    obtain ⟨ds, h1, h2⟩ := ih (q := q + 1) (fun j u hj => by
      have := h (j + 1) u (by simpa using hj)
      rwa [show q + (j + 1) = q + 1 + j by omega] at this)
    refine ⟨v :: ds, .cons hr h1, fun j u hj => ?_⟩
    cases j with
    | zero => simp at hj; subst hj; exact hv
    | succ j => rw [show q + (j + 1) = q + 1 + j by omega]; exact h2 j u (by simpa using hj)

theorem cellsAt_ok {B φ H w} (h : Rel B φ H w) {i o n cs p s m} (hc : H.cellsAt i o n = some cs) (e : φ i = some (p, s, m)) :
    cs.length = n ∧ ∃ ds : List Value, VRs φ cs ds ∧ ∀ (j : Nat) (v : Value), ds[j]? = some v → w.cell? ⟨p, s + o + j, none⟩ = some v := by
  unfold AH.cellsAt at hc
  split at hc
  · rename_i b hb
    split at hc <;> simp at hc
    rename_i hl
    subst hc
    obtain ⟨p', s', m', e', br⟩ := h.blk i b hb
    rw [e] at e'; simp at e'; obtain ⟨rfl, rfl, rfl⟩ := e'
    refine ⟨by simp; omega, cells_list _ fun j v hj => ?_⟩
    have hjn : j < n := by
      rcases Nat.lt_or_ge j n with h' | h'
      · exact h'
      · rw [List.getElem?_take_eq_none h'] at hj; simp at hj
    rw [List.getElem?_take_of_lt hjn, List.getElem?_drop] at hj
    obtain ⟨v', e', hv⟩ := br.cell _ v hj
    exact ⟨v', by rw [show s + o + j = s + (o + j) by omega]; exact e', hv⟩
  · simp at hc

theorem load_list {P : Program} {w : World} {p q : Nat} (ds : List Value) (h : ∀ (j : Nat) (v : Value), ds[j]? = some v → w.cell? ⟨p, q + j, none⟩ = some v) :
    (loadCells ⟨p, q, none⟩ ds.length).run P w = .ok ds.toArray w :=
  run_loadCells_list (P := P) w ⟨p, q, none⟩ ds (fun j v hj => by rw [add_eq]; exact h j v hj)

theorem load_none {P : Program} {w : World} (a : Addr) : (loadCells a 0).run P w = .ok #[] w := by
  simpa using run_loadCells_list (P := P) w a [] (by simp)

theorem run_sizeOf' {P : Program} {t n} (h : szOf P t = some n) (w : World) : (sizeOf t).run P w = .ok n w := by
  unfold szOf at h
  cases hi : P.info? t with
  | none => simp [hi] at h
  | some i => simp [hi] at h; subst h; simp [sizeOf, typeInfo, hi]

theorem run_isAgg' {P : Program} {t b} (h : aggT P t = some b) (w : World) : (isAgg t).run P w = .ok b w := by
  unfold aggT at h
  cases hd : P.underlying t with
  | none => simp [hd] at h
  | some d => cases d <;> simp [hd] at h <;> subst h <;> simp [isAgg, run_underlying hd]

theorem partN_none {P : Program} {t} (h : partN P t = some none) : aggT P t = some false := by
  unfold partN at h
  cases ha : aggT P t with
  | none => simp [ha] at h
  | some b => cases b <;> simp [ha] at h; rfl

theorem partN_some {P : Program} {t n} (h : partN P t = some (some n)) : aggT P t = some true ∧ szOf P t = some n := by
  unfold partN at h
  cases ha : aggT P t with
  | none => simp [ha] at h
  | some b => cases b <;> simp [ha] at h; exact ⟨rfl, h⟩

theorem run_loadVar1 {P : Program} {t} (h : partN P t = some none) {w : World} {a : Addr} {v} (hc : w.cell? a = some v) : (loadVar t a).run P w = .ok v w := by
  simp [loadVar, run_isAgg' (partN_none h), hc]

theorem run_loadVarn {P : Program} {t} {w : World} {p q : Nat} (ds : List Value) (h : partN P t = some (some ds.length)) (hc : ∀ (j : Nat) (v : Value), ds[j]? = some v → w.cell? ⟨p, q + j, none⟩ = some v) :
    (loadVar t ⟨p, q, none⟩).run P w = .ok (.agg ds.toArray) w := by
  obtain ⟨h1, h2⟩ := partN_some h
  simp [loadVar, run_isAgg' h1, run_sizeOf' h2, load_list ds hc]

theorem ofBytes_ok {φ : Emb} (s : List UInt8) : VRs φ (ofBytes s) (s.map fun b => .int .u8 b.toNat) := by
  induction s with
  | nil => exact .nil
  | cons b s ih => exact .int _ _ ih

theorem toBytes_ok {φ : Emb} : ∀ {cs : List AV} {s ds}, toBytes cs = some s → VRs φ cs ds → s.length = cs.length ∧ ∀ (j : Nat) (v : Value), ds[j]? = some v → ∃ b : UInt8, s[j]? = some b ∧ v = .int .u8 b.toNat
  | [], s, ds, h, hv => by simp [toBytes] at h; subst h; cases hv; simp
  | a :: cs, s, ds, h, hv => by
    cases a with
    | int k n =>
      cases k <;> simp [toBytes] at h
      obtain ⟨hr, s', h1, rfl⟩ := h
      obtain ⟨v, vs, rfl, h2, h3⟩ := hv.cons_inv
      obtain rfl := h2.int_inv
      obtain ⟨h4, h5⟩ := toBytes_ok h1 h3
      refine ⟨by simp [h4], fun j u hj => ?_⟩
      cases j with
      | zero =>
        simp at hj; subst hj
        refine ⟨_, by simp; rfl, ?_⟩
        have : n.toNat < 256 := by omega
        simp [UInt8.toNat_ofNat', Nat.mod_eq_of_lt this]
        omega
      | succ j => simpa using h5 j u (by simpa using hj)
    | _ => simp [toBytes] at h

theorem bytes_first {P : Program} {w : World} (s : List UInt8) (k : Nat) :
    (Builtin.firstCells 1 k (.string ⟨s.toArray⟩)).run P w = .ok ((s.take k).map fun b => (.int .u8 b.toNat : Value)).toArray w := by
  have h : ((⟨s.toArray⟩ : ByteArray).extract 0 k).data = (s.take k).toArray := by
    apply Array.ext'
    rw [ByteArray.data_extract]
    simp
  simp [Builtin.firstCells, h]

/-- What 'append' and 'copy' take over. -/
theorem takeFrom_ok {B φ H w} {P : Program} (h : Rel B φ H w) {z a cs v n} (ht : takeFrom H z a = some cs) (hl : lenOf a = some n) (hv : VR φ a v) :
    cs.length = n * z ∧ (Builtin.lenOf v).run P w = .ok n w ∧ ∃ ds : List Value, VRs φ cs ds ∧ (Builtin.firstCells z n v).run P w = .ok ds.toArray w ∧
      ∀ k, k ≤ n → (Builtin.firstCells z k v).run P w = .ok (ds.take (k * z)).toArray w := by
  cases a with
  | nils =>
    simp [takeFrom] at ht; subst ht; simp [lenOf] at hl; subst hl
    obtain rfl := hv.nils_inv
    refine ⟨by simp, by simp [Builtin.lenOf], [], .nil, by simp [Builtin.firstCells], fun k hk => by simp [Builtin.firstCells]⟩
  | esl =>
    simp [takeFrom] at ht; subst ht; simp [lenOf] at hl; subst hl
    obtain ⟨a, c, rfl⟩ := hv.esl_inv
    refine ⟨by simp, by simp [Builtin.lenOf], [], .nil, by simp [Builtin.firstCells, load_none], fun k hk => ?_⟩
    obtain rfl : k = 0 := by omega
    simp [Builtin.firstCells, load_none]
  | sl i o z' n' c =>
    simp only [takeFrom] at ht
    split at ht
    · rename_i hz; subst hz
      simp [lenOf] at hl; subst hl
      rcases hv.sl_inv with ⟨p, s, m, cc, e, h1, h2, h3, rfl⟩ | ⟨rfl, h1, a, rfl⟩
      · obtain ⟨hlen, ds, h4, h5⟩ := cellsAt_ok h ht e
        have hdl := h4.length
        refine ⟨hlen, by simp [Builtin.lenOf], ds, h4, ?_, fun k hk => ?_⟩
        · have := load_list (P := P) ds h5
          rw [← hdl, hlen] at this
          simp [Builtin.firstCells, this]
        · have hkz : k * z' ≤ n' * z' := Nat.mul_le_mul_right _ hk
          have := load_list (P := P) (ds.take (k * z')) (fun j v hj => h5 j v (by
            rw [List.getElem?_take] at hj; split at hj <;> simp_all))
          rw [List.length_take, Nat.min_eq_left (by omega)] at this
          simp [Builtin.firstCells, this]
      · have hc : cs = [] := by
          unfold AH.cellsAt at ht
          split at ht
          · split at ht <;> simp at ht; first | exact ht.symm | exact ht
          · simp at ht
        subst hc
        refine ⟨by simp, by simp [Builtin.lenOf], [], .nil, by simp [Builtin.firstCells, load_none], fun k hk => ?_⟩
        obtain rfl : k = 0 := by omega
        simp [Builtin.firstCells, load_none]
    · simp at ht
  | str s =>
    simp only [takeFrom] at ht
    split at ht <;> simp at ht
    rename_i hz; subst hz; subst ht
    simp [lenOf] at hl; subst hl
    obtain rfl := hv.str_inv
    refine ⟨by simp [ofBytes], by simp [Builtin.lenOf, ByteArray.size], _, ofBytes_ok s, ?_, fun k hk => ?_⟩
    · have := bytes_first (P := P) (w := w) s s.length
      rw [List.take_length] at this
      exact this
    · rw [Nat.mul_one, ← List.map_take]; exact bytes_first s k
  | _ => simp [takeFrom] at ht

end Go.Am

/- The same of comparisons by '==' and '!=', of values that are built, of slice expressions and indexes. Conditions: those that each theorem names. -/
namespace Go.Am
open Go.RowKit

section
variable {P : Program} {φ : Emb} {w : World}

theorem aeq_ok {t : TypeId} {d : ETy} {lit : Bool} {a b : AV} {r : Bool} {u v : Value} (ht : ety1 P t = some d) (h : aeq d lit a b = some r) (ha : VR φ a u) (hb : VR φ b v) (n : Nat) :
    (Op.equalIn (n + 1) t u v).run P w = .ok r w := by
  unfold ety1 at ht
  unfold aeq at h
  split at h <;> first | (simp at h; done) | skip
  · rename_i k a k' b
    obtain rfl := ha.int_inv
    obtain rfl := hb.int_inv
    split at h <;> simp at h
    rename_i hk; subst hk; subst h
    cases hu : P.underlying t with
    | none => simp [hu] at ht
    | some d => cases d <;> simp [hu] at ht <;> first | exact run_equalIn_int w n t k _ a b hu | (split at ht <;> simp at ht)
  · obtain rfl := ha.bool_inv
    obtain rfl := hb.bool_inv
    simp at h; subst h
    cases hu : P.underlying t with
    | none => simp [hu] at ht
    | some d => cases d <;> simp [hu] at ht <;> first | exact run_equalIn_bool w n t _ _ hu | (split at ht <;> simp at ht)
  · obtain rfl := ha.str_inv
    obtain rfl := hb.str_inv
    simp at h; subst h
    cases hu : P.underlying t with
    | none => simp [hu] at ht
    | some d => cases d <;> simp [hu] at ht <;> first | (rw [run_equalIn_string w n t _ _ hu, ByteArray.toList_mk, ByteArray.toList_mk]) | (split at ht <;> simp at ht)
  all_goals
    cases hu : P.underlying t with
    | none => simp [hu] at ht
    | some d => ?_
    cases d <;> simp [hu] at ht
  all_goals try (split at ht <;> simp at ht; done)
  all_goals try (simp at h; subst h)
  case h_4.some.pointer e => obtain rfl := ha.nilp_inv; obtain rfl := hb.nilp_inv; simp [Op.equalIn, run_underlying hu]
  case h_6.some.pointer e => obtain rfl := ha.nilp_inv; obtain ⟨_, _, _, _, rfl⟩ := hb.ptr_inv; simp [Op.equalIn, run_underlying hu]
  case h_7.some.pointer e => obtain rfl := hb.nilp_inv; obtain ⟨_, _, _, _, rfl⟩ := ha.ptr_inv; simp [Op.equalIn, run_underlying hu]
  case h_5.some.pointer e =>
    split at ht
    · rename_i k hsz
      split at h <;> simp at h
      rename_i hij; subst hij; subst h
      obtain ⟨p, s, m, e1, rfl⟩ := ha.ptr_inv
      obtain ⟨p', s', m', e2, rfl⟩ := hb.ptr_inv
      rw [e1] at e2; simp at e2; obtain ⟨rfl, rfl, rfl⟩ := e2
      simp [Op.equalIn, run_underlying hu, run_sizeOf' hsz, sameAddr]
      rw [Bool.eq_iff_iff]; simp
    · simp at ht
  case h_8.some.interface e => obtain rfl := ha.nili_inv; obtain rfl := hb.nili_inv; simp at h; simp [Op.equalIn, run_underlying hu, h.2]
  case h_9.some.interface e => obtain rfl := ha.nili_inv; obtain ⟨_, _, rfl⟩ := hb.iface_inv; simp [Op.equalIn, run_underlying hu]
  case h_10.some.interface e => obtain rfl := hb.nili_inv; obtain ⟨_, _, rfl⟩ := ha.iface_inv; simp [Op.equalIn, run_underlying hu]
  case h_11.some.slice e => obtain rfl := ha.nils_inv; obtain rfl := hb.nils_inv; simp [Op.equalIn, run_underlying hu]
  case h_12.some.slice e => obtain rfl := ha.nils_inv; rcases hb.sl_inv with ⟨_, _, _, _, _, _, _, _, rfl⟩ | ⟨_, _, _, rfl⟩ <;> simp [Op.equalIn, run_underlying hu]
  case h_13.some.slice e => obtain rfl := ha.nils_inv; obtain ⟨_, _, rfl⟩ := hb.esl_inv; simp [Op.equalIn, run_underlying hu]
  case h_14.some.slice e => obtain rfl := hb.nils_inv; rcases ha.sl_inv with ⟨_, _, _, _, _, _, _, _, rfl⟩ | ⟨_, _, _, rfl⟩ <;> simp [Op.equalIn, run_underlying hu]
  case h_15.some.slice e => obtain rfl := hb.nils_inv; obtain ⟨_, _, rfl⟩ := ha.esl_inv; simp [Op.equalIn, run_underlying hu]
  case h_16.some.func e => obtain rfl := ha.nilf_inv; obtain rfl := hb.nilf_inv; simp [Op.equalIn, run_underlying hu]
  case h_17.some.func e => obtain rfl := ha.nilf_inv; obtain ⟨_, _, rfl⟩ := hb.func_inv; simp [Op.equalIn, run_underlying hu]
  case h_18.some.func e => obtain rfl := hb.nilf_inv; obtain ⟨_, _, rfl⟩ := ha.func_inv; simp [Op.equalIn, run_underlying hu]

end
end Go.Am

/- The same of structs' comparison, of values that are built, of slice expressions and indexes. Conditions: those that each theorem names. -/
namespace Go.Am
open Go.RowKit

section
variable {P : Program} {φ : Emb} {w : World}

theorem part1_ok {t : TypeId} (h : aggT P t = some false) {xs : Array Value} {o : Nat} {v : Value} (hv : xs[o]? = some v) : (part t xs o).run P w = .ok v w := by
  simp [part, run_isAgg' h, hv]

theorem partn_ok {t : TypeId} {n : Nat} (h : aggT P t = some true) (hn : szOf P t = some n) (xs : Array Value) (o : Nat) : (part t xs o).run P w = .ok (.agg (xs.extract o (o + n))) w := by
  simp [part, run_isAgg' h, run_sizeOf' hn]

theorem VRs.extract {cs : List AV} {ds : Array Value} (h : VRs φ cs ds.toList) (o n : Nat) : VRs φ ((cs.drop o).take n) (ds.extract o (o + n)).toList := by
  have : (ds.extract o (o + n)).toList = (ds.toList.drop o).take n := by
    rw [Array.toList_extract, List.extract_eq_take_drop]
    congr 1
    omega
  rw [this]
  exact (h.drop o).take n

/-- A part of a struct or an array. -/
theorem fldOf_ok {t : TypeId} {n : Option Nat} (hn : partN P t = some n) {cs : List AV} {ds : Array Value} (h : VRs φ cs ds.toList) {o : Nat} {a : AV} (ha : fldOf cs o n = some a) :
    ∃ v, (part t ds o).run P w = .ok v w ∧ VR φ a v := by
  cases n with
  | none =>
    simp only [fldOf] at ha
    obtain ⟨v, hv, hr⟩ := h.get ha
    exact ⟨v, part1_ok (partN_none hn) (by simpa using hv), hr⟩
  | some n =>
    simp only [fldOf, Option.some.injEq] at ha
    subst ha
    obtain ⟨h1, h2⟩ := partN_some hn
    exact ⟨_, partn_ok h1 h2 ds o, VR.agg (h.extract o n)⟩

theorem aeqs_append {cs ds : List AV} : ∀ {l m : List (Nat × Option Nat × ETy)} {r : Bool}, aeqs (l ++ m) cs ds = some r → ∃ q, aeqs l cs ds = some q ∧ (q = false → r = false) ∧ (q = true → aeqs m cs ds = some r)
  | [], m, r, h => ⟨true, rfl, fun e => (by cases e), fun _ => h⟩
  | (o, n, d) :: l, m, r, h => by
    simp only [List.cons_append, aeqs] at h ⊢
    cases hx : cs[o]? with
    | none => simp [hx] at h
    | some x =>
      cases hy : ds[o]? with
      | none => simp [hx, hy] at h
      | some y =>
        simp only [hx, hy] at h ⊢
        cases he : aeq d false x y with
        | none => simp [he] at h
        | some q =>
          cases q with
          | true => simp only [he] at h ⊢; exact aeqs_append h
          | false => simp only [he, Option.some.injEq] at h ⊢; exact ⟨false, rfl, fun _ => h.symm, fun e => by cases e⟩

section
variable {cs ds : List AV} {xs ys : Array Value} (hx : VRs φ cs xs.toList) (hy : VRs φ ds ys.toList)
include hx hy

/-- What the cells of a type's value that lies at off say. -/
def FlatOk (P : Program) (φ : Emb) (w : World) (cs ds : List AV) (xs ys : Array Value) (d : Nat) : Prop := ∀ (k : Nat) (t : TypeId) (off : Nat) (l : List (Nat × Option Nat × ETy)), flatTy P d t off = some l →
  ∀ (X Y : Array Value) (n : Nat), szOf P t = some n → aggT P t = some true → (∀ j, j < n → X[j]? = xs[off + j]?) → (∀ j, j < n → Y[j]? = ys[off + j]?) → ∀ r, aeqs l cs ds = some r → (Op.equalIn (k + d) t (.agg X) (.agg Y)).run P w = .ok r w

/-- A part of such a value. -/
theorem flat_part {d : Nat} (ih : FlatOk P φ w cs ds xs ys d) {k : Nat} {t : TypeId} {off o m n : Nat} {l : List (Nat × Option Nat × ETy)} (hl : flatTy P d t (off + o) = some l) (hm : szOf P t = some (m + 1)) (hn : o + (m + 1) ≤ n) {X Y : Array Value}
    (hX : ∀ j, j < n → X[j]? = xs[off + j]?) (hY : ∀ j, j < n → Y[j]? = ys[off + j]?) {r : Bool} (hr : aeqs l cs ds = some r) : ∃ u v, (part t X o).run P w = .ok u w ∧ (part t Y o).run P w = .ok v w ∧ (Op.equalIn (k + d) t u v).run P w = .ok r w := by
  cases hg : aggT P t with
  | none =>
    exfalso
    unfold aggT at hg
    cases d with
    | zero => simp [flatTy] at hl
    | succ d =>
      unfold flatTy at hl
      cases hu : P.underlying t with
      | none => simp [hu] at hl
      | some u => cases u <;> simp [hu] at hg
  | some b =>
    cases b with
    | true =>
      refine ⟨_, _, partn_ok hg hm X o, partn_ok hg hm Y o, ih k t (off + o) l hl _ _ (m + 1) hm hg (fun j hj => ?_) (fun j hj => ?_) r hr⟩
      · rw [Array.getElem?_extract, Nat.add_assoc, ← hX (o + j) (by omega)]
        by_cases hs : j < min (o + (m + 1)) X.size - o
        · rw [if_pos hs]
        · rw [if_neg hs, Array.getElem?_eq_none (by omega)]
      · rw [Array.getElem?_extract, Nat.add_assoc, ← hY (o + j) (by omega)]
        by_cases hs : j < min (o + (m + 1)) Y.size - o
        · rw [if_pos hs]
        · rw [if_neg hs, Array.getElem?_eq_none (by omega)]
    | false =>
      cases d with
      | zero => simp [flatTy] at hl
      | succ d =>
        obtain ⟨e, h1, h2⟩ : ∃ e, l = [(off + o, none, e)] ∧ ety1 P t = some e := by
          unfold flatTy at hl
          unfold aggT at hg
          cases hu : P.underlying t with
          | none => simp [hu] at hl
          | some u => cases u <;> simp [hu] at hl hg <;> exact ⟨_, hl.symm, by simp [ety1, hu]⟩
        subst h1
        simp only [aeqs] at hr
        split at hr
        · rename_i a b ha hb
          obtain ⟨u, hu, hru⟩ := hx.get ha
          obtain ⟨v, hv, hrv⟩ := hy.get hb
          have hXo : X[o]? = some u := by rw [hX o (by omega)]; simpa using hu
          have hYo : Y[o]? = some v := by rw [hY o (by omega)]; simpa using hv
          refine ⟨u, v, part1_ok hg hXo, part1_ok hg hYo, ?_⟩
          have : aeq e false a b = some r := by
            split at hr
            · rename_i he; rw [he]; exact hr
            · rename_i he; rw [he]; exact hr
            · cases hr
          exact aeq_ok h2 this hru hrv (k + d)
        · cases hr

theorem flat_fields {d : Nat} (ih : FlatOk P φ w cs ds xs ys d) {k off n : Nat} {X Y : Array Value} (hX : ∀ j, j < n → X[j]? = xs[off + j]?) (hY : ∀ j, j < n → Y[j]? = ys[off + j]?) :
    ∀ {fs : List Field} {l : List (Nat × Option Nat × ETy)} {r}, flatFs P n (flatTy P d) off fs = some l → aeqs l cs ds = some r → (Op.eqFields (k + d) X Y fs).run P w = .ok r w
  | [], l, r, h, hr => by simp [flatFs] at h; subst h; simp [aeqs] at hr; subst hr; simp [Op.eqFields]
  | f :: fs, l, r, h, hr => by
    simp only [flatFs] at h
    split at h
    · cases h
    rename_i hn
    split at h
    · rename_i m hm
      split at h
      · rename_i hle
        split at h
        · rename_i a b ha hb
          simp only [Option.some.injEq] at h
          subst h
          obtain ⟨q, h1, h2, h3⟩ := aeqs_append hr
          obtain ⟨u, v, p1, p2, p3⟩ := flat_part (k := k) hx hy ih ha hm hle hX hY h1
          cases q with
          | false => obtain rfl := h2 rfl; simp [Op.eqFields, hn, p1, p2, p3]
          | true => simp [Op.eqFields, hn, p1, p2, p3, flat_fields ih hX hY hb (h3 rfl)]
        · cases h
      · cases h
    · cases h

theorem flat_items {d : Nat} (ih : FlatOk P φ w cs ds xs ys d) {e : TypeId} {z k off n : Nat} (hz : szOf P e = some (z + 1)) (hcz : P.cellsOf e = z + 1) {X Y : Array Value} (hX : ∀ j, j < n → X[j]? = xs[off + j]?) (hY : ∀ j, j < n → Y[j]? = ys[off + j]?) :
    ∀ (c i : Nat) {l : List (Nat × Option Nat × ETy)} {r}, (i + c) * (z + 1) ≤ n → flatEs (flatTy P d e) (z + 1) off c i = some l → aeqs l cs ds = some r → (Op.eqItems (k + d) e (P.cellsOf e) X Y (List.range' i c)).run P w = .ok r w
  | 0, i, l, r, _, h, hr => by simp [flatEs] at h; subst h; simp [aeqs] at hr; subst hr; simp [Op.eqItems]
  | c + 1, i, l, r, hn, h, hr => by
    simp only [flatEs] at h
    split at h
    · rename_i a b ha hb
      simp only [Option.some.injEq] at h
      subst h
      obtain ⟨q, h1, h2, h3⟩ := aeqs_append hr
      have hle : i * (z + 1) + (z + 1) ≤ n := by
        have := Nat.mul_le_mul_right (z + 1) (show i + 1 ≤ i + (c + 1) by omega)
        rw [Nat.add_mul, Nat.one_mul] at this
        omega
      obtain ⟨u, v, p1, p2, p3⟩ := flat_part (k := k) hx hy ih ha hz hle hX hY h1
      rw [← hcz] at p1 p2
      rw [List.range'_succ]
      cases q with
      | false => obtain rfl := h2 rfl; simp [Op.eqItems, p1, p2, p3]
      | true =>
        have h4 := flat_items (k := k) ih hz hcz hX hY c (i + 1) (by rw [show i + 1 + c = i + (c + 1) by omega]; exact hn) hb (h3 rfl)
        simp [Op.eqItems, p1, p2, p3, h4]
    · cases h

theorem flat_ok : ∀ d, FlatOk P φ w cs ds xs ys d
  | 0 => fun k t off l h => by simp [flatTy] at h
  | d + 1 => fun k t off l h X Y n hn hg hX hY r hr => by
    have ih := flat_ok d
    unfold flatTy at h
    unfold aggT at hg
    cases hu : P.underlying t with
    | none => simp [hu] at h
    | some u =>
      cases u <;> simp only [hu] at h hg <;> first | (cases hg; done) | (simp at hg; done) | skip
      case struct fs =>
        split at h
        · cases h
        rename_i hs
        simp only [hn] at h
        have hf : P.fieldsOf t = fs := by simp [Program.fieldsOf, hu]
        have := run_equalIn_struct (P := P) w (k + d) t X Y (by rw [hf]; exact hu) (by simpa using hs)
        rw [hf] at this
        rw [← Nat.add_assoc, this]
        exact flat_fields hx hy ih hX hY h hr
      case array len e =>
        simp only [hn] at h
        split at h
        · rename_i m z hm hz
          simp only [Option.some.injEq] at hm
          subst hm
          split at h
          · rename_i hle
            obtain ⟨i, hi, hiz⟩ : ∃ i, P.info? e = some i ∧ i.size = z + 1 := by
              unfold szOf at hz
              cases hh : P.info? e with
              | none => simp [hh] at hz
              | some i => exact ⟨i, rfl, by simpa [hh] using hz⟩
            have hcz : P.cellsOf e = z + 1 := by simp [Program.cellsOf, hi, hiz]
            rw [← Nat.add_assoc, run_equalIn_array w (k + d) X Y hu hi, List.range_eq_range']
            exact flat_items hx hy ih hz hcz hX hY len 0 (by rw [Nat.zero_add]; exact hle) h hr
          · cases h
        · cases h
end

theorem aggT_ety1 {t : TypeId} {d : ETy} (h : ety P t = some d) (hg : aggT P t ≠ some true) : ety1 P t = some d := by
  unfold ety at h
  split at h
  · rename_i hh; exact absurd hh hg
  · exact h

theorem ety1_st {t : TypeId} {l} : ety1 P t ≠ some (.st l) := by
  unfold ety1
  split <;> first | (simp; done) | (intro h; split at h <;> simp at h)

theorem equal_ok {t : TypeId} {d : ETy} {lit : Bool} {a b r : AV} {neg : Bool} {u v : Value} (ht : ety P t = some d) (h : aeqv neg lit d a b = some r) (ha : VR φ a u) (hb : VR φ b v) :
    ∃ q : Bool, r = .bool (q != neg) ∧ (Op.equal t u v).run P w = .ok q w := by
  unfold aeqv at h
  split at h
  · rename_i fs xs ys
    simp only [Option.map_eq_some_iff] at h
    obtain ⟨q, hq, rfl⟩ := h
    obtain ⟨xs', hx, rfl⟩ := ha.agg_inv
    obtain ⟨ys', hy, rfl⟩ := hb.agg_inv
    refine ⟨q, rfl, ?_⟩
    by_cases hg : aggT P t = some true
    · unfold ety at ht
      simp only [hg] at ht
      split at ht
      · cases ht
      simp only [Option.map_eq_some_iff, ETy.st.injEq] at ht
      obtain ⟨l, hl, rfl⟩ := ht
      obtain ⟨n, hn⟩ : ∃ n, szOf P t = some n := by
        unfold flatTy at hl
        unfold aggT at hg
        cases hu : P.underlying t with
        | none => simp [hu] at hg
        | some u =>
          cases hz : szOf P t with
          | some n => exact ⟨n, rfl⟩
          | none => cases u <;> simp [hu, hz] at hl hg
      exact flat_ok hx hy 6 9994 t 0 l hl xs' ys' n hn hg (fun j _ => by rw [Nat.zero_add]) (fun j _ => by rw [Nat.zero_add]) q hq
    · exact absurd (aggT_ety1 ht hg) ety1_st
  · rename_i d' x' y' hne
    simp only [Option.map_eq_some_iff] at h
    obtain ⟨q, hq, rfl⟩ := h
    refine ⟨q, rfl, ?_⟩
    have ht1 : ety1 P t = some d := by
      by_cases hg : aggT P t = some true
      · unfold ety at ht
        simp only [hg] at ht
        split at ht
        · cases ht
        simp only [Option.map_eq_some_iff] at ht
        obtain ⟨l, _, rfl⟩ := ht
        simp [aeq] at hq
      · exact aggT_ety1 ht hg
    exact aeq_ok ht1 hq ha hb 9999

theorem guard_nil {op : BinOp} {t : TypeId} {x y : Operand} (hop : op = .eql ∨ op = .neq) (hc : (isConst x || isConst y) = true) : (eqGuard op t x y .nilIface .nilIface).run P w = .ok () w := by
  cases x <;> cases y <;> simp [isConst] at hc <;> rcases hop with rfl | rfl <;> simp [eqGuard]

/-- '==' and '!=' of values that are no numbers and no strings. -/
theorem aeqv_ok {op : BinOp} {t : TypeId} {x y : Operand} {d : ETy} {a b r : AV} {u v : Value} (hop : op = .eql ∨ op = .neq) (ht : ety P t = some d) (hd : d ≠ .int ∧ d ≠ .str)
    (h : aeqv (op == .neq) (isConst x || isConst y) d a b = some r) (ha : VR φ a u) (hb : VR φ b v) :
    ∃ r', (do eqGuard op t x y u v; binOp op t u v : Sem Value).run P w = .ok r' w ∧ VR φ r r' := by
  obtain ⟨q, rfl, hq⟩ := equal_ok (w := w) ht h ha hb
  refine ⟨_, ?_, VR.bool _⟩
  have hg : (eqGuard op t x y u v).run P w = .ok () w := by
    unfold aeqv at h
    split at h
    · rename_i fs xs ys
      obtain ⟨xs', hx, rfl⟩ := ha.agg_inv
      obtain ⟨ys', hy, rfl⟩ := hb.agg_inv
      by_cases hg : aggT P t = some true
      · unfold ety at ht
        simp only [hg] at ht
        split at ht
        · cases ht
        rename_i hs
        rcases hop with rfl | rfl <;> simp [eqGuard, hs]
      · exact absurd (aggT_ety1 ht hg) ety1_st
    · rename_i hne
      simp only [Option.map_eq_some_iff] at h
      obtain ⟨q', hq', _⟩ := h
      unfold aeq at hq'
      split at hq' <;> first
        | (simp at hq'; done)
        | (obtain rfl := ha.int_inv; rw [eqGuard_at_int]; rfl)
        | (obtain rfl := ha.bool_inv; rw [eqGuard_at_bool]; rfl)
        | (obtain rfl := ha.str_inv; rw [eqGuard_at_string]; rfl)
        | (obtain rfl := ha.nilp_inv; rw [eqGuard_at_pointer]; rfl)
        | (obtain ⟨_, _, _, _, rfl⟩ := ha.ptr_inv; rw [eqGuard_at_pointer]; rfl)
        | (obtain rfl := ha.nils_inv; rcases hop with rfl | rfl <;> simp [eqGuard])
        | (rcases ha.sl_inv with ⟨_, _, _, _, _, _, _, _, rfl⟩ | ⟨_, _, _, rfl⟩ <;> rcases hop with rfl | rfl <;> simp [eqGuard])
        | (obtain ⟨_, _, rfl⟩ := ha.esl_inv; rcases hop with rfl | rfl <;> simp [eqGuard])
        | (obtain rfl := ha.nilf_inv; rcases hop with rfl | rfl <;> simp [eqGuard])
        | (obtain ⟨_, _, rfl⟩ := ha.func_inv; rcases hop with rfl | rfl <;> simp [eqGuard])
        | (obtain ⟨_, _, rfl⟩ := ha.iface_inv; rcases hop with rfl | rfl <;> simp [eqGuard])
        | (obtain rfl := ha.nili_inv; obtain ⟨_, _, rfl⟩ := hb.iface_inv; rcases hop with rfl | rfl <;> simp [eqGuard])
        | skip
      · rename_i hlit
        obtain rfl := ha.nili_inv
        obtain rfl := hb.nili_inv
        have hc : (isConst x || isConst y) = true := by
          cases hcc : (isConst x || isConst y) with
          | true => rfl
          | false => simp [hcc] at hq'
        exact guard_nil hop hc
  have hbin : (binOp op t u v).run P w = .ok (.bool (q != (op == .neq))) w := by
    have key : ∀ u v, (∀ k a, u ≠ .int k a) → (∀ s, u ≠ .string s) → (∀ k a, u ≠ .float k a) → (∀ k a b, u ≠ .complex k a b) → (Op.equal t u v).run P w = .ok q w → (binOp op t u v).run P w = .ok (.bool (q != (op == .neq))) w := by
      intro u v h1 h2 h3 h4 he
      rcases hop with rfl | rfl
      · have e1 : (BinOp.eql == BinOp.neq) = false := rfl
        cases u <;> first | (exact absurd rfl (h1 _ _)) | (exact absurd rfl (h2 _)) | (exact absurd rfl (h3 _ _)) | (exact absurd rfl (h4 _ _ _)) | (simp [binOp, he, e1])
      · have e1 : (BinOp.neq == BinOp.neq) = true := rfl
        cases u <;> first | (exact absurd rfl (h1 _ _)) | (exact absurd rfl (h2 _)) | (exact absurd rfl (h3 _ _)) | (exact absurd rfl (h4 _ _ _)) | (simp [binOp, he, e1])
    refine key u v ?_ ?_ ?_ ?_ hq
    all_goals
      intros
      rintro rfl
      unfold aeqv at h
      split at h
      · cases ha
      · simp only [Option.map_eq_some_iff] at h
        obtain ⟨q', hq', _⟩ := h
        unfold aeq at hq'
        split at hq' <;> first | (simp at hq'; done) | (cases ha; done) | (exact hd.1 rfl) | (exact hd.2 rfl)
  simp [hg, hbin]

end
end Go.Am

/- The same of values that are built, of slice expressions and of indexes. Conditions: those that each theorem names. -/
namespace Go.Am
open Go.RowKit

section
variable {P : Program} {φ : Emb} {w : World} {ρ : Operand → Value} {e : Env}

theorem put_ok (off : Nat) : ∀ {as : List AV} {vs : List Value}, VRs φ as vs → ∀ (k : Nat) {z : List AV} {zs : Array Value}, VRs φ z zs.toList →
    VRs φ (putAt z (off + k) as) ((vs.zipIdx k).foldl (fun cs p => cs.setIfInBounds (off + p.2) p.1) zs).toList
  | [], vs, h, k, z, zs, hz => by cases h; simpa [putAt] using hz
  | a :: as, vs, h, k, z, zs, hz => by
    obtain ⟨v, vs, rfl, h1, h2⟩ := h.cons_inv
    rw [putAt, List.zipIdx_cons, List.foldl_cons]
    have := put_ok off h2 (k + 1) (z := z.set (off + k) a) (zs := zs.setIfInBounds (off + k) v) (by rw [Array.toList_setIfInBounds]; exact hz.set h1 _)
    simpa [Nat.add_assoc] using this

theorem put_size (off : Nat) : ∀ (vs : List Value) (k : Nat) (zs : Array Value), ((vs.zipIdx k).foldl (fun cs p => cs.setIfInBounds (off + p.2) p.1) zs).size = zs.size
  | [], _, _ => rfl
  | v :: vs, k, zs => by rw [List.zipIdx_cons, List.foldl_cons, put_size off vs]; simp

theorem fill_ok {place : Nat → Option (Nat × Nat)} (hρ : ∀ x y, ofOp P x = some y → VR φ (y.val e) (ρ x)) :
    ∀ {ps : List (Nat × Operand)} {l : List (Nat × Nat × Arg)} {z cs : List AV} {zs : Array Value}, partsOf P place ps = some l → afill z (l.map fun (o, n, x) => (o, n, x.val e)) = some cs → VRs φ z zs.toList →
      ∃ ds, Instr.fill place zs (ps.map fun x => (x.1, ρ x.2)) = some ds ∧ VRs φ cs ds.toList ∧ ds.size = zs.size
  | [], l, z, cs, zs, hp, ha, hz => by simp [partsOf] at hp; subst hp; simp [afill] at ha; subst ha; exact ⟨zs, rfl, hz, rfl⟩
  | (i, x) :: ps, l, z, cs, zs, hp, ha, hz => by
    simp only [partsOf] at hp
    split at hp
    · rename_i o n y l' h1 h2 h3
      simp at hp; subst hp
      simp only [List.map_cons, afill] at ha
      split at ha
      · rename_i cs' hc
        split at ha
        · rename_i hl
          have hv := cells_ok (hρ x y h2) hc
          have hlen := hv.length
          have hzl := hz.length
          simp at hlen hzl
          have hput := put_ok o hv 0 hz
          rw [Nat.add_zero] at hput
          obtain ⟨ds, h4, h5, h6⟩ := fill_ok hρ h3 ha hput
          rw [put_size] at h6
          refine ⟨ds, ?_, h5, h6⟩
          simp only [List.map_cons, Instr.fill, h1]
          rw [if_neg (by simp only [ne_eq, Bool.or_eq_true, decide_eq_true_eq, not_or]; omega)]
          rw [← h4]
          congr 1
          rw [← Array.foldl_toList, Array.toList_zipIdx]
        · simp at ha
      · simp at ha
    · simp at hp

theorem bnd_ok {a : AV} {v : Value} {y n : Nat} (h : bnd a y = some n) (hv : VR φ a v) {z : Nat} (hz : y ≤ z) (c : BoundsCode) : (Instr.sliceBound v z c).run P w = .ok n w ∧ n ≤ y := by
  unfold bnd at h
  split at h
  · rename_i k i
    split at h <;> simp at h
    rename_i hi
    obtain rfl := hv.int_inv
    subst h
    refine ⟨?_, by omega⟩
    have : 0 ≤ i ∧ i ≤ (z : Int) := by omega
    simp [Instr.sliceBound, asIntOf, this]
  · simp at h

/-- A bound that may be left out. -/
inductive VO (φ : Emb) : Option AV → Option Value → Prop
  | none : VO φ none none
  | some {a v} : VR φ a v → VO φ (some a) (some v)

theorem bnds_ok {n m l h : Nat} {lo hi : Option AV} {vl vh : Option Value} (hb : bnds n m lo hi = some (l, h)) (h1 : VO φ lo vl) (h2 : VO φ hi vh) (b : Bool) {cap : Nat} (hm : m ≤ cap) :
    (Instr.sliceBounds b n cap vl vh none).run P w = .ok (l, h, cap) w ∧ l ≤ h ∧ (hi = none → h = n) ∧ (hi ≠ none → h ≤ m) := by
  unfold bnds at hb
  cases h2 with
  | none =>
    simp only at hb
    cases h1 with
    | none => simp at hb; obtain ⟨rfl, rfl⟩ := hb; simp [Instr.sliceBounds]
    | some hv =>
      simp only at hb
      split at hb
      · simp at hb
      · rename_i l' hl
        simp at hb; obtain ⟨rfl, rfl⟩ := hb
        obtain ⟨h3, h4⟩ := bnd_ok (P := P) (w := w) hl hv (Nat.le_refl _) .sliceB
        simp [Instr.sliceBounds, h3, h4]
  | some hv2 =>
    simp only at hb
    split at hb
    · simp at hb
    · rename_i h' hh
      obtain ⟨h5, h6⟩ := bnd_ok (P := P) (w := w) hh hv2 hm (if b then .sliceAcap else .sliceAlen)
      cases h1 with
      | none => simp at hb; obtain ⟨rfl, rfl⟩ := hb; simp [Instr.sliceBounds, h5, h6]
      | some hv =>
        simp only at hb
        split at hb
        · simp at hb
        · rename_i l' hl
          simp at hb; obtain ⟨rfl, rfl⟩ := hb
          obtain ⟨h3, h4⟩ := bnd_ok (P := P) (w := w) hl hv (Nat.le_refl _) .sliceB
          simp [Instr.sliceBounds, h5, h3, h4, h6]

theorem bnds3_ok {n m l h : Nat} {lo : Option AV} {hi mv : AV} {vl : Option Value} {vh vm : Value} (hm : bnd mv n = some m) (hb : bnds n m lo (some hi) = some (l, h)) (h1 : VO φ lo vl) (h2 : VR φ hi vh) (h3 : VR φ mv vm) {cap : Nat} (hc : n ≤ cap) :
    (Instr.sliceBounds true n cap vl (some vh) (some vm)).run P w = .ok (l, h, m) w ∧ l ≤ h ∧ h ≤ m ∧ m ≤ n := by
  obtain ⟨h4, h5⟩ := bnd_ok (P := P) (w := w) hm h3 hc .slice3Acap
  unfold bnds at hb
  simp only at hb
  split at hb
  · simp at hb
  · rename_i h' hh
    obtain ⟨h6, h7⟩ := bnd_ok (P := P) (w := w) hh h2 (Nat.le_refl _) .slice3B
    cases h1 with
    | none => simp at hb; obtain ⟨rfl, rfl⟩ := hb; simp [Instr.sliceBounds, h4, h6, h7, h5]
    | some hv =>
      simp only at hb
      split at hb
      · simp at hb
      · rename_i l' hl
        simp at hb; obtain ⟨rfl, rfl⟩ := hb
        obtain ⟨h8, h9⟩ := bnd_ok (P := P) (w := w) hl hv (Nat.le_refl _) .slice3C
        simp [Instr.sliceBounds, h4, h6, h8, h9, h7, h5]

theorem size_str (s : List UInt8) : (⟨s.toArray⟩ : ByteArray).size = s.length := by
  show s.toArray.size = _
  simp

theorem extract_ok (s : List UInt8) (l h : Nat) : (⟨s.toArray⟩ : ByteArray).extract l h = ⟨((s.drop l).take (h - l)).toArray⟩ := by
  have : ((⟨s.toArray⟩ : ByteArray).extract l h).data = ((s.drop l).take (h - l)).toArray := by
    apply Array.ext'
    rw [ByteArray.data_extract]
    simp
  cases hx : (⟨s.toArray⟩ : ByteArray).extract l h
  rw [hx] at this
  simpa using this

theorem sub_ok {t : TypeId} (hu : P.underlying t = some .string) {s : List UInt8} {l h : Nat} {lo hi : Option AV} {vl vh : Option Value} (hb : bnds s.length s.length lo hi = some (l, h)) (h1 : VO φ lo vl) (h2 : VO φ hi vh) :
    (Instr.sliceAt t (.string ⟨s.toArray⟩) vl vh none).run P w = .ok (.string ⟨((s.drop l).take (h - l)).toArray⟩) w := by
  have := (bnds_ok (P := P) (w := w) hb h1 h2 false (cap := s.length) (Nat.le_refl _)).1
  have hsz := size_str s
  simp [Instr.sliceAt, run_underlying hu, Instr.slice, hsz, this, extract_ok]

theorem VR.sl {i o z n p s cc : Nat} {m : Option Nat} {c : Option Nat} (h1 : φ i = some (p, s, m)) (h2 : ∀ r, m = some r → s + o + cc * z ≤ r) (h3 : n ≤ cc) (h4 : ∀ d, c = some d → cc = d) :
    VR φ (.sl i o z n c) (.slice (some ⟨p, s + o, none⟩) n cc) := VRs.sl h1 h2 h3 h4 .nil
theorem VR.slz {i o z : Nat} {c : Option Nat} (a : Addr) (h : ∀ d, c = some d → 0 = d) : VR φ (.sl i o z 0 c) (.slice (some a) 0 0) := VRs.slz a h .nil

/-- A part of a slice. -/
theorem cut_ok {i o z n l h m : Nat} {c : Option Nat} {v : Value} (hv : VR φ (.sl i o z n c) v) (hl : l ≤ h) (hh : h ≤ n) :
    ∃ a cc, v = .slice (some a) n cc ∧ n ≤ cc ∧
      (∀ c', (∀ d, c' = some d → cc - l = d) → VR φ (.sl i (o + l * z) z (h - l) c') (.slice (some (if cc = l then a else a.add (l * z))) (h - l) (cc - l))) ∧
      (h ≤ m → m ≤ n → VR φ (.sl i (o + l * z) z (h - l) (some (m - l))) (.slice (some (if m = l then a else a.add (l * z))) (h - l) (m - l))) := by
  rcases hv.sl_inv with ⟨p, s, r, cc, e, h1, h2, h3, rfl⟩ | ⟨rfl, h1, a, rfl⟩
  · refine ⟨_, cc, rfl, h2, fun c' hc' => ?_, fun hm hmn => ?_⟩
    · by_cases hcl : cc = l
      · rw [if_pos hcl]
        have e1 : h - l = 0 := by omega
        have e2 : cc - l = 0 := by omega
        rw [e1, e2]
        exact VR.slz _ fun d hd => by have := hc' d hd; omega
      · rw [if_neg hcl, add_eq, Nat.add_assoc]
        refine VR.sl e (fun q hq => ?_) (by omega) hc'
        have := h1 q hq
        have e3 : l * z + (cc - l) * z = cc * z := by rw [← Nat.add_mul]; congr 1; omega
        omega
    · by_cases hcl : m = l
      · rw [if_pos hcl]
        have e1 : h - l = 0 := by omega
        have e2 : m - l = 0 := by omega
        rw [e1, e2]
        exact VR.slz _ fun d hd => by simp at hd; exact hd
      · rw [if_neg hcl, add_eq, Nat.add_assoc]
        refine VR.sl e (fun q hq => ?_) (by omega) (fun d hd => by simpa using hd)
        have := h1 q hq
        have e3 : l * z + (m - l) * z = m * z := by rw [← Nat.add_mul]; congr 1; omega
        have e4 : m * z ≤ cc * z := Nat.mul_le_mul_right _ (by omega)
        omega
  · obtain rfl : h = 0 := by omega
    obtain rfl : l = 0 := by omega
    refine ⟨a, 0, rfl, Nat.le_refl _, fun c' hc' => ?_, fun hm hmn => ?_⟩
    · simp
      exact VR.slz _ fun d hd => by have := hc' d hd; omega
    · obtain rfl : m = 0 := by omega
      simp
      exact VR.slz _ fun d hd => by simp at hd; exact hd

theorem index_str (s : List UInt8) (j : Nat) : (⟨s.toArray⟩ : ByteArray)[j]? = s[j]? := by
  by_cases h : j < s.length
  · rw [getElem?_pos (⟨s.toArray⟩ : ByteArray) j (by rw [size_str]; exact h), List.getElem?_eq_getElem h]
    rfl
  · rw [getElem?_neg (⟨s.toArray⟩ : ByteArray) j (by rw [size_str]; exact h), List.getElem?_eq_none (by omega)]

end
end Go.Am

/- Each operation of the model does what the abstract machine's does: loads, stores, new blocks, appends and the rest. Conditions: the heap stands to the world, the temporaries to the values. -/
namespace Go.Am
open Go.RowKit

def GlobR (P : Program) (φ : Emb) : Prop := ∀ g, g < P.globals.size → φ g = some (g, 0, none)
def EnvR (φ : Emb) (e : Env) (t : Array Value) : Prop := ∀ n, VR φ (e.at n) (t.getD n Go.undef)

theorem GlobR.mono {P φ ψ} (h : GlobR P φ) (hl : φ.le ψ) : GlobR P ψ := fun g hg => hl _ _ (h g hg)
theorem EnvR.mono {φ ψ e t} (h : EnvR φ e t) (hl : φ.le ψ) : EnvR ψ e t := fun n => (h n).mono hl

def CallOk (P : Program) (B : Base) (call : Call) : Prop :=
  ∀ (f : FuncId) (args : List AV) (H : AH) (out : Out) (H' : AH) (φ : Emb) (vs : List Value) (w : World), call f args H = some (out, H') → Rel B φ H w → VRs φ args vs → GlobR P φ → Free φ H.next H'.next →
    Does P (Post B φ H w out H') ((callFunc f vs.toArray).run P w)

section
variable {P : Program} {B : Base} {φ : Emb} {H H' : AH} {w : World} {a : Act} {e : Env} {o : Oper} {call : Call} {out : Out}

theorem ofOp_ok (hg : GlobR P φ) (he : EnvR φ e a.tmps) {x : Operand} {y : Arg} (h : ofOp P x = some y) : VR φ (y.val e) (a.eval x) := by
  cases x with
  | tmp t => simp [ofOp] at h; subst h; exact he t
  | const v => simp only [ofOp, Option.map_eq_some_iff] at h; obtain ⟨c, hc, rfl⟩ := h; exact ofV_ok hc
  | global g =>
    simp only [ofOp] at h
    split at h <;> simp at h
    subst h
    rename_i hlt
    have := VR.ptr (φ := φ) (o := 0) (hg g hlt)
    exact this
  | func f => simp [ofOp] at h; subst h; exact VRs.func (ds := #[]) f .nil .nil

theorem ofOps_ok (hg : GlobR P φ) (he : EnvR φ e a.tmps) : ∀ {xs : List Operand} {ys : List Arg}, ofOps P xs = some ys → VRs φ (ys.map (·.val e)) (xs.map a.eval)
  | [], ys, h => by simp [ofOps] at h; subst h; exact .nil
  | x :: xs, ys, h => by
    simp only [ofOps] at h
    split at h
    · rename_i y ys' h1 h2
      simp at h; subst h
      exact .cons (ofOp_ok hg he h1) (ofOps_ok hg he h2)
    · simp at h

theorem optOp_ok (hg : GlobR P φ) (he : EnvR φ e a.tmps) {x : Option Operand} {y : Option Arg} (h : optOp P x = some y) : VO φ (y.map (·.val e)) (x.map a.eval) := by
  cases x with
  | none => simp [optOp] at h; subst h; exact .none
  | some x => simp only [optOp, Option.map_eq_some_iff] at h; obtain ⟨z, hz, rfl⟩ := h; exact .some (ofOp_ok hg he hz)

theorem zOf_ok {t : TypeId} {z : List AV} (h : zOf P t = some z) : ∃ v : Value, (∀ w, (zeroValue t).run P w = .ok v w) ∧ VRs φ z v.cells.toList := by
  unfold zOf at h
  split at h
  · rename_i v hv
    cases hi : P.info? t with
    | none => simp [hi] at hv
    | some i =>
      simp [hi] at hv
      exact ⟨v, fun w => by simp [zeroValue, typeInfo, hi, hv], ofVs_ok h⟩
  · simp at h

/-- A new variable. -/
theorem new_ok (hr : Rel B φ H w) (hf : φ H.next = none) (ty : TypeId) {cs : List AV} {v : Value} (hv : VRs φ cs v.cells.toList) :
    ∃ ψ, (newVar ty v).run P w = .ok ⟨w.heap.size, 0, none⟩ (w.alloc (.cells v.cells ty)) ∧ Step B φ H w ψ (H.push ty true cs) (w.alloc (.cells v.cells ty)) ∧ ψ H.next = some (w.heap.size, 0, some v.cells.size) := by
  have hl := hv.length
  simp at hl
  refine ⟨_, by simp [newVar, newRow], Step.push hr ty true cs v.cells hf (fun j u hj => ?_) (by omega) (fun _ => hl.symm), Emb.upd_same _ _ _⟩
  obtain ⟨v', h1, h2⟩ := hv.get hj
  exact ⟨v', by simpa using h1, h2⟩

theorem op_alloc {t : TypeId} {z : List AV} (ho : o.op = .alloc t) (hz : zOf P t = some z) (hr : Rel B φ H w) (hf : φ H.next = none) :
    Does P (Post B φ H w (.ok (.ptr H.next 0)) (H.push t true z)) ((execOp a.eval o).run P w) := by
  obtain ⟨v, h1, h2⟩ := zOf_ok (φ := φ) hz
  obtain ⟨ψ, h3, h4, h5⟩ := new_ok (P := P) hr hf t h2
  refine does_val (s := Instr.alloc t true (.tuple #[])) (by simp only [execOp, ho]) (v' := .pointer (some ⟨w.heap.size, 0, none⟩)) ?_ h4 ?_
  · simp [Instr.alloc, h1, h3]
  · exact VR.ptr (o := 0) h5

theorem op_box {t : TypeId} {x : Operand} {y : Arg} {cs : List AV} (ho : o.op = .box t x) (hx : VR φ (y.val e) (a.eval x)) (hc : (y.val e).cells? = some cs) (hr : Rel B φ H w) (hf : φ H.next = none) :
    Does P (Post B φ H w (.ok (.ptr H.next 0)) (H.push t true cs)) ((execOp a.eval o).run P w) := by
  obtain ⟨ψ, h3, h4, h5⟩ := new_ok (P := P) hr hf t (cells_ok hx hc)
  refine does_val (s := Instr.box t (a.eval x)) (by simp only [execOp, ho]) (v' := .pointer (some ⟨w.heap.size, 0, none⟩)) ?_ h4 ?_
  · simp [Instr.box, h3]
  · exact VR.ptr (o := 0) h5

theorem op_ld1 {t : TypeId} {x : Operand} {i k : Nat} {b : Blk} {v : AV} (ho : o.op = .load t x) (ht : partN P t = some none) (hx : VR φ (.ptr i k) (a.eval x)) (hb : H.get i = some b) (hv : b.cells[k]? = some v) (hr : Rel B φ H w) :
    Does P (Post B φ H w (.ok v) H) ((execOp a.eval o).run P w) := by
  obtain ⟨p, s, m, e1, e2⟩ := hx.ptr_inv
  obtain ⟨p', s', m', e', br⟩ := hr.blk i b hb
  rw [e1] at e'; simp at e'; obtain ⟨rfl, rfl, rfl⟩ := e'
  obtain ⟨v', h1, h2⟩ := br.cell k v hv
  refine does_same (s := Instr.loadAt t (a.eval x)) hr (by simp only [execOp, ho]) (v' := v') ?_ h2
  rw [e2]
  simp [Instr.loadAt, Instr.sureAddr, run_loadVar1 ht h1]

theorem op_ldn {t : TypeId} {n : Nat} {x : Operand} {i k : Nat} {cs : List AV} (ho : o.op = .load t x) (ht : partN P t = some (some n)) (hx : VR φ (.ptr i k) (a.eval x)) (hc : H.cellsAt i k n = some cs) (hr : Rel B φ H w) :
    Does P (Post B φ H w (.ok (.agg cs)) H) ((execOp a.eval o).run P w) := by
  obtain ⟨p, s, m, e1, e2⟩ := hx.ptr_inv
  obtain ⟨hl, ds, h1, h2⟩ := cellsAt_ok hr hc e1
  have hdl := h1.length
  refine does_same (s := Instr.loadAt t (a.eval x)) hr (by simp only [execOp, ho]) (v' := .agg ds.toArray) ?_ (VR.agg (by simpa using h1))
  rw [e2]
  simp [Instr.loadAt, Instr.sureAddr, run_loadVarn (P := P) (t := t) (w := w) (p := p) (q := s + k) ds (by rw [ht]; simp; omega) h2]

theorem op_st {t : TypeId} {n : Nat} {x y : Operand} {i k : Nat} {u : AV} {cs : List AV} (ho : o.op = .store t x y) (ht : szOf P t = some n) (hx : VR φ (.ptr i k) (a.eval x)) (hy : VR φ u (a.eval y)) (hc : u.cells? = some cs) (hl : cs.length = n)
    (hs : H.store i k cs = some H') (hr : Rel B φ H w) : Does P (Post B φ H w (.ok (.tup [])) H') ((execOp a.eval o).run P w) := by
  obtain ⟨p, s, m, e1, e2⟩ := hx.ptr_inv
  have hv := cells_ok hy hc
  obtain ⟨p', s', m', e', h1, h2⟩ := Step.store hr hs hv
  rw [e1] at e'; simp at e'; obtain ⟨rfl, rfl, rfl⟩ := e'
  have hlen := hv.length
  simp at hlen
  have : (Instr.storeAt t (a.eval x) (a.eval y)).run P w = .ok () (w.setCells p (s + k) (a.eval y).cells.toList) := by
    rw [e2]
    simp [Instr.storeAt, Instr.sureAddr, storeVar, run_sizeOf' ht, h1 P, show (a.eval y).cells.size = n by omega]
  simp only [execOp, ho]
  simp [this, Does]
  exact Post.ok h2 VR.tupn

theorem op_bld_st {t : TypeId} {z cs : List AV} {fs : Array Field} {parts : Array (Nat × Operand)} {l : List (Nat × Nat × Arg)} (ho : o.op = .build t parts) (hz : zOf P t = some z) (hu : P.underlying t = some (.struct fs)) (hsz : fszs P fs.toList = true)
    (hp : partsOf P (fplace P fs) parts.toList = some l) (ha : afill z (l.map fun (o, n, x) => (o, n, x.val e)) = some cs) (hg : GlobR P φ) (he : EnvR φ e a.tmps) (hr : Rel B φ H w) :
    Does P (Post B φ H w (.ok (.agg cs)) H) ((execOp a.eval o).run P w) := by
  obtain ⟨zv, h1, h2⟩ := zOf_ok (φ := φ) hz
  have hmap : ∀ (l : List Field) (w : World), fszs P l = true → (l.mapM (fun f => Prod.mk f.offset <$> sizeOf f.type : Field → Sem (Nat × Nat))).run P w = .ok (l.map fun f => (f.offset, (szOf P f.type).getD 0)) w := by
    intro l
    induction l with
    | nil => intro w _; simp
    | cons f l ih =>
      intro w hl
      simp only [fszs, Bool.and_eq_true] at hl
      obtain ⟨n, hn⟩ := Option.isSome_iff_exists.1 hl.1
      simp only [List.mapM_cons, Sem.run_bind, Sem.run_map, run_sizeOf' hn, Result.andThen_ok, ih w hl.2, Sem.run_pure, List.map_cons, hn, Option.getD_some]
  have hplaces : (fs.mapM (fun f => Prod.mk f.offset <$> sizeOf f.type : Field → Sem (Nat × Nat))).run P w = .ok (fs.map fun f => (f.offset, (szOf P f.type).getD 0)) w := by
    rw [Array.mapM_eq_mapM_toList]
    have := hmap fs.toList w hsz
    simp only [Sem.run_map, this, Result.andThen_ok]
    congr 1
    apply Array.ext'
    simp
  have hplace : ∀ i, fplace P fs i = (fs.map fun f => (f.offset, (szOf P f.type).getD 0))[i]? := by
    intro i
    unfold fplace
    rw [Array.getElem?_map]
    cases hi : fs[i]? with
    | none => simp
    | some f =>
      have : (szOf P f.type).isSome = true := by
        have hm : f ∈ fs.toList := by
          have := Array.mem_of_getElem? hi
          simpa using this
        clear hi hplaces hp
        revert hm hsz
        induction fs.toList with
        | nil => simp
        | cons g l ih =>
          intro h1 h2
          simp only [fszs, Bool.and_eq_true] at h1
          rcases List.mem_cons.1 h2 with rfl | h2
          · exact h1.1
          · exact ih h1.2 h2
      obtain ⟨n, hn⟩ := Option.isSome_iff_exists.1 this
      simp [hn]
  rw [show fplace P fs = fun i => (fs.map fun f => (f.offset, (szOf P f.type).getD 0))[i]? from funext hplace] at hp
  obtain ⟨ds, h3, h4, _⟩ := fill_ok (ρ := a.eval) (fun x y h => ofOp_ok hg he h) hp ha h2
  refine does_same (s := Instr.build t (parts.map fun (i, x) => (i, a.eval x))) hr (by simp only [execOp, ho]) (v' := .agg ds) ?_ (VR.agg h4)
  have hplaces' : (fs.mapM (fun f => do pure (f.offset, ← sizeOf f.type) : Field → Sem (Nat × Nat))).run P w = .ok (fs.map fun f => (f.offset, (szOf P f.type).getD 0)) w := by simpa using hplaces
  have hm : (parts.map fun (i, x) => (i, a.eval x)).toList = parts.toList.map fun x => (x.1, a.eval x.2) := by simp
  simp only [Instr.build, Sem.run_bind, h1, Result.andThen_ok, run_underlying hu, hplaces', hm, h3, Sem.run_pure]

theorem op_bld_arr {t el : TypeId} {n k : Nat} {z cs : List AV} {parts : Array (Nat × Operand)} {l : List (Nat × Nat × Arg)} (ho : o.op = .build t parts) (hz : zOf P t = some z) (hu : P.underlying t = some (.array k el)) (hsz : szOf P el = some n)
    (hp : partsOf P (fun i => some (i * n, n)) parts.toList = some l) (ha : afill z (l.map fun (o, n, x) => (o, n, x.val e)) = some cs) (hg : GlobR P φ) (he : EnvR φ e a.tmps) (hr : Rel B φ H w) :
    Does P (Post B φ H w (.ok (.agg cs)) H) ((execOp a.eval o).run P w) := by
  obtain ⟨zv, h1, h2⟩ := zOf_ok (φ := φ) hz
  obtain ⟨ds, h3, h4, _⟩ := fill_ok (ρ := a.eval) (fun x y h => ofOp_ok hg he h) hp ha h2
  refine does_same (s := Instr.build t (parts.map fun (i, x) => (i, a.eval x))) hr (by simp only [execOp, ho]) (v' := .agg ds) ?_ (VR.agg h4)
  simp [Instr.build, h1, run_underlying hu, run_sizeOf' hsz, h3]

theorem rep_ok {z : List AV} {v : Array Value} (h : VRs φ z v.toList) (k : Nat) : VRs φ (rep k z) ((Array.range (k * v.size)).map (v[· % v.size]!)).toList := by
  have hl := h.length
  simp at hl
  refine VRs.of_get (by simp [rep, hl]) fun i x hi => ?_
  have hlen : i < k * z.length := by
    rcases Nat.lt_or_ge i (k * z.length) with h' | h'
    · exact h'
    · rw [List.getElem?_eq_none (by simp [rep, h'])] at hi; simp at hi
  have hz : 0 < z.length := by
    rcases Nat.eq_zero_or_pos z.length with h' | h'
    · rw [h'] at hlen; omega
    · exact h'
  have hmod : i % z.length < z.length := Nat.mod_lt _ hz
  have hget : (rep k z)[i]? = z[i % z.length]? := by
    clear hi
    unfold rep
    induction k generalizing i with
    | zero => omega
    | succ k ih =>
      rw [List.replicate_succ, List.flatten_cons]
      by_cases hlt : i < z.length
      · rw [List.getElem?_append_left hlt, Nat.mod_eq_of_lt hlt]
      · rw [List.getElem?_append_right (by omega)]
        have h1 : i - z.length < k * z.length := by rw [Nat.succ_mul] at hlen; omega
        have := ih (i - z.length) h1 (Nat.mod_lt _ hz)
        rw [this, ← Nat.mod_eq_sub_mod (by omega)]
  rw [hget] at hi
  obtain ⟨u, h1, h2⟩ := h.get hi
  refine ⟨u, ?_, h2⟩
  have hu : v[i % v.size]? = some u := by rw [← hl]; simpa using h1
  rw [Array.getElem?_toList, Array.getElem?_map, Array.getElem?_range]
  rw [if_pos (by rw [← hl]; exact hlen)]
  simp [getElem!_def, hu]

theorem op_bsl {t el : TypeId} {n len : Nat} {z cs : List AV} {parts : Array (Nat × Operand)} {l : List (Nat × Nat × Arg)} (ho : o.op = .buildSlice t len parts) (hu : P.underlying t = some (.slice el)) (hsz : szOf P el = some n) (hz : zOf P el = some z)
    (hm : len * n ≤ 16777216) (hzl : z.length = n) (hp : partsOf P (fun i => some (i * n, n)) parts.toList = some l) (ha : afill (rep len z) (l.map fun (o, n, x) => (o, n, x.val e)) = some cs) (hg : GlobR P φ) (he : EnvR φ e a.tmps) (hr : Rel B φ H w) (hf : φ H.next = none) :
    Does P (Post B φ H w (.ok (.sl H.next 0 n len (some len))) (H.push el true cs)) ((execOp a.eval o).run P w) := by
  obtain ⟨zv, h1, h2⟩ := zOf_ok (φ := φ) hz
  have hzs : zv.cells.size = n := by have := h2.length; simp at this; omega
  have hrep := rep_ok h2 len
  rw [hzs] at hrep
  obtain ⟨ds, h3, h4, h5⟩ := fill_ok (ρ := a.eval) (fun x y h => ofOp_ok hg he h) hp ha hrep
  have hcl := h4.length
  simp at hcl h5
  have hpush := Step.push hr el true cs ds hf (fun j u hj => by
    obtain ⟨v', q1, q2⟩ := h4.get hj
    exact ⟨v', by simpa using q1, q2⟩) (by omega) (fun _ => hcl.symm)
  refine does_val (s := Instr.buildSlice t len (parts.map fun (i, x) => (i, a.eval x))) (by simp only [execOp, ho]) (v' := .slice (some ⟨w.heap.size, 0, none⟩) len len) ?_ hpush ?_
  · have hm' : ¬ len * n > 2 ^ 24 := by omega
    have hml : (parts.map fun (i, x) => (i, a.eval x)).toList = parts.toList.map fun x => (x.1, a.eval x.2) := by simp
    by_cases h0 : len * n = 0
    · have hr0 : (Array.range (len * n)).map (zv.cells[· % n]!) = #[] := by simp [h0]
      have hr1 : ∀ zz : Array Value, (Array.range (len * n)).map (zz[· % zz.size]!) = #[] := by simp [h0]
      rw [hr0] at h3
      simp only [Instr.buildSlice, Sem.run_bind, run_underlying hu, Result.andThen_ok, run_sizeOf' hsz, hm', if_false, if_pos h0, Sem.run_pure, hr1, hml, h3, newRow]
      rfl
    · simp only [Instr.buildSlice, Sem.run_bind, run_underlying hu, Result.andThen_ok, run_sizeOf' hsz, hm', if_false, if_neg h0, Sem.run_pure, h1, hzs, hml, h3, newRow]
      rfl
  · have := VR.sl (φ := φ.upd H.next (w.heap.size, 0, some ds.size)) (i := H.next) (o := 0) (z := n) (n := len) (cc := len) (c := some len) (Emb.upd_same _ _ _) (fun r hr => by simp at hr; omega) (Nat.le_refl _) (fun d hd => by simpa using hd)
    exact this

end
end Go.Am

/- Each operation of the model does what the abstract machine's does: appends, copies, new slices, conversions between strings and bytes, the Builder's own words. Conditions: the heap stands to the world, the temporaries to the values. -/
namespace Go.Am
open Go.RowKit

section
variable {P : Program} {B : Base} {φ : Emb} {H H' : AH} {w : World} {a : Act} {e : Env} {o : Oper} {call : Call} {out : Out}

theorem byOf_ok {t : TypeId} {n : Nat} (h : byOf P t = some n) : ∃ i, P.info? t = some i ∧ i.bytes = n := by
  unfold byOf at h
  cases hi : P.info? t with
  | none => simp [hi] at h
  | some i => simp [hi] at h; exact ⟨i, rfl, h⟩

theorem zOf_info {t : TypeId} {z : List AV} (h : zOf P t = some z) : ∃ i v, P.info? t = some i ∧ i.zero = some v ∧ VRs φ z v.cells.toList := by
  unfold zOf at h
  split at h
  · rename_i v hv
    cases hi : P.info? t with
    | none => simp [hi] at hv
    | some i => simp [hi] at hv; exact ⟨i, v, rfl, hv, ofVs_ok h⟩
  · simp at h

theorem szOf_info {t : TypeId} {n : Nat} {i} (h : szOf P t = some n) (hi : P.info? t = some i) : i.size = n := by simpa [szOf, hi] using h
theorem byOf_info {t : TypeId} {n : Nat} {i} (h : byOf P t = some n) (hi : P.info? t = some i) : i.bytes = n := by simpa [byOf, hi] using h

/-- What 'append' leaves where it makes a new row. -/
theorem grow_ok {t u ty : TypeId} {z bytes : Nat} {el : TypeId} (hu : P.underlying t = some (.slice el)) {ud : TypeDesc} (hu2 : P.underlying u = some ud) (hud : ud = .string ∨ ∃ e, ud = .slice e) (hsz : szOf P el = some z) (hby : byOf P el = some bytes) {zl : List AV} (hzero : zOf P el = some zl) (hzl : zl.length = z)
    {base : Option Addr} {n cc k : Nat} {x : Value} {ods nds : List Value} (hcc : cc < n + k) (hb : (n + k) * (bytes + 1) ≤ 140737488355328)
    (hlen : (Builtin.lenOf x).run P w = .ok k w) (hold : (Builtin.firstCells z n (.slice base n cc)).run P w.drew = .ok ods.toArray w.drew) (hnew : (Builtin.firstCells z k x).run P w.drew = .ok nds.toArray w.drew) :
    ∃ c rest, n + k ≤ c ∧ rest.length = (c - (n + k)) * z ∧ (Builtin.append_ #[t, u] ty #[.slice base n cc, x]).run P w = .ok (.slice (some ⟨w.heap.size, 0, none⟩) (n + k) c) (w.drew.alloc (.cells (ods ++ nds ++ rest).toArray el)) := by
  obtain ⟨i, zv, hi, hiz, hz2⟩ := zOf_info (φ := fun _ => none) hzero
  have hzs : zv.cells.size = z := by have := hz2.length; simp at this; omega
  have hs := szOf_info hsz hi
  have hib := byOf_info hby hi
  have hb' : (n + k) * bytes + (n + k) ≤ 140737488355328 := by rw [Nat.mul_add, Nat.mul_one] at hb; exact hb
  have hfit := growslice_fits (bytes := bytes) hcc (by omega)
  have hc : n + k ≤ grownCap w (n + k) cc el := by show n + k ≤ n + k + _; omega
  refine ⟨grownCap w (n + k) cc el, (Builtin.zeroCells zv.cells (grownCap w (n + k) cc el - (n + k))).toList, hc, by simp [Builtin.zeroCells, hzs], ?_⟩
  have hn : ¬ (n + k ≤ cc) := by omega
  have h63' : ¬ (9223372036854775807 < ((n : Int) + (k : Int))) := by omega
  have h48' : ¬ (281474976710656 < Builtin.nextslicecap (n + k) cc * bytes) := by omega
  rcases hud with rfl | ⟨e2, rfl⟩
  · simp [Builtin.append_, run_underlying hu, run_underlying hu2, sizeOf, typeInfo, zeroValue, hi, hiz, hs, hib, hlen, hn, h63', h48', Question.forced, hold, hnew, newRow, grownCap]
    congr 2
    apply Array.ext'
    simp [List.append_assoc]
  · simp [Builtin.append_, run_underlying hu, run_underlying hu2, sizeOf, typeInfo, zeroValue, hi, hiz, hs, hib, hlen, hn, h63', h48', Question.forced, hold, hnew, newRow, grownCap]
    congr 2
    apply Array.ext'
    simp [List.append_assoc]

/-- What 'append' leaves where there is room. -/
theorem fit_ok {t u ty : TypeId} {z : Nat} {el : TypeId} (hu : P.underlying t = some (.slice el)) {ud : TypeDesc} (hu2 : P.underlying u = some ud) (hud : ud = .string ∨ ∃ e, ud = .slice e) (hsz : szOf P el = some z)
    {base : Option Addr} {n cc k : Nat} {x : Value} {nds : List Value} (hcc : n + k ≤ cc)
    (hlen : (Builtin.lenOf x).run P w = .ok k w) (hnew : (Builtin.firstCells z k x).run P w = .ok nds.toArray w) {w' : World} (hst : ∀ a, base = some a → (storeCells (a.add (n * z)) nds).run P w = .ok () w') (hno : base = none → w' = w) :
    (Builtin.append_ #[t, u] ty #[.slice base n cc, x]).run P w = .ok (.slice base (n + k) cc) w' := by
  have hs := run_sizeOf' hsz
  rcases hud with rfl | ⟨e2, rfl⟩ <;> cases base with
  | none => simp [Builtin.append_, run_underlying hu, run_underlying hu2, hs, hlen, hcc, hnew, hno]
  | some a => simp [Builtin.append_, run_underlying hu, run_underlying hu2, hs, hlen, hcc, hnew, hst a rfl]

end
end Go.Am

/- Appends, copies, new slices: each does what the abstract machine's does. Conditions: the heap stands to the world, the temporaries to the values. -/
namespace Go.Am
open Go.RowKit

section
variable {P : Program} {B : Base} {φ : Emb} {H H' : AH} {w : World} {a : Act} {e : Env} {o : Oper} {call : Call} {out : Out}

theorem exec_builtin {ρ : Operand → Value} {c : Go.Call} {b : Builtin} (ho : o.op = .call c) (hc : c.callee = .builtin b) :
    ∃ cs, execOp ρ o = builtin b c.argTypes o.type cs (c.args.map ρ) :=
  ⟨_, by simp [execOp, ho, resolve, hc, invoke]; rfl⟩

theorem takeFrom_len {z : Nat} {a : AV} {cs : List AV} (h : takeFrom H z a = some cs) : ∃ k, lenOf a = some k := by
  cases a <;> simp [takeFrom] at h <;> simp [lenOf]

theorem free_next (hf : Free φ H.next H'.next) (h : H'.next = H.next + 1) : φ H.next = none := hf _ (Nat.le_refl _) (by omega)

/-- The list that an append has made, in memory. -/
theorem appended_ok {as bs : List AV} {xs ys rest : List Value} (h1 : VRs φ as xs) (h2 : VRs φ bs ys) : ∀ (j : Nat) (v : AV), (as ++ bs)[j]? = some v → ∃ v', (xs ++ ys ++ rest).toArray[j]? = some v' ∧ VR φ v v' := by
  intro j v hj
  obtain ⟨v', e1, e2⟩ := (h1.append h2).get hj
  refine ⟨v', ?_, e2⟩
  have hlt : j < (xs ++ ys).length := by
    rcases Nat.lt_or_ge j (xs ++ ys).length with h' | h'
    · exact h'
    · rw [List.getElem?_eq_none h'] at e1; simp at e1
  simp only [List.getElem?_toArray]
  rw [List.getElem?_append_left hlt]
  exact e1

theorem div_len {n z k : Nat} (h : n = k * z) (hz : ¬ z = 0) : n / z = k := by subst h; exact Nat.mul_div_cancel _ (by omega)

theorem op_app {c : Go.Call} {t u el : TypeId} {ud : TypeDesc} {z bytes : Nat} {zl : List AV} {x y : Operand} {s r : AV} {new : List AV} (ho : o.op = .call c) (hc : c.callee = .builtin .append) (hts : c.argTypes = #[t, u]) (hargs : c.args = #[x, y])
    (hu : P.underlying t = some (.slice el)) (hu2 : P.underlying u = some ud) (hud : ud = .string ∨ ∃ e, ud = .slice e) (hsz : szOf P el = some z) (hby : byOf P el = some bytes) (hzero : zOf P el = some zl) (hzl : zl.length = z)
    (hs : VR φ s (a.eval x)) (hr : VR φ r (a.eval y)) (hnew : takeFrom H z r = some new) (hsol : new.all solid = true) (hrel : Rel B φ H w) (hf : Free φ H.next H'.next)
    (hx : aapp H el z bytes s new = some (out, H')) :
    Does P (Post B φ H w out H') ((execOp a.eval o).run P w) := by
  obtain ⟨k, hk⟩ := takeFrom_len hnew
  obtain ⟨hlen, hl, nds, hnv, hfirst, _⟩ := takeFrom_ok (P := P) hrel hnew hk hr
  obtain ⟨_, _, nds2, hnv2, hfirst2, _⟩ := takeFrom_ok (P := P) (hrel.alike (Alike.drew w)) hnew hk hr
  have hnl := hnv.length
  have hnl2 := hnv2.length
  obtain ⟨cs, hex⟩ := exec_builtin (ρ := a.eval) ho hc
  have hex' : execOp a.eval o = (do pure (.value (← Builtin.append_ #[t, u] o.type #[a.eval x, a.eval y]))) := by
    rw [hex, hts, hargs, show (#[x, y] : Array Operand).map a.eval = #[a.eval x, a.eval y] by simp]; rfl
  have hdrew := Step.alike hrel (Alike.drew w)
  unfold aapp at hx
  cases s with
  | nils =>
    simp only at hx
    split at hx
    · rename_i hcond
      obtain ⟨h1, h2, h3⟩ := hcond
      have hkz := div_len hlen h2
      obtain hsv := hs.nils_inv
      split at hx
      · rename_i hnil
        simp [ok1] at hx
        obtain ⟨rfl, rfl⟩ := hx
        subst hnil
        have hk0 : k = 0 := by simp at hkz; exact hkz.symm
        subst hk0
        obtain rfl := hnv.nil_inv
        refine does_same hrel hex' (v' := .slice none 0 0) ?_ (VRs.nils .nil)
        rw [hsv]
        exact fit_ok (base := none) (n := 0) (k := 0) hu hu2 hud hsz (Nat.le_refl _) hl hfirst (fun a h => by cases h) (fun _ => rfl)
      · rename_i hnil
        simp [ok1] at hx
        obtain ⟨rfl, rfl⟩ := hx
        have hkpos : 0 < k := by
          rcases Nat.eq_zero_or_pos k with h | h
          · subst h; simp at hlen; exact absurd hlen hnil
          · exact h
        have hold : (Builtin.firstCells z 0 (.slice none 0 0)).run P w.drew = .ok ([] : List Value).toArray w.drew := by simp [Builtin.firstCells]
        obtain ⟨cap, rest, hc1, hc2, hrun⟩ := grow_ok (ty := o.type) (base := none) (n := 0) (cc := 0) hu hu2 hud hsz hby hzero hzl (by omega) (by rw [Nat.zero_add, ← hkz]; exact h1) hl hold hfirst2
        have hn : φ H.next = none := hf _ (Nat.le_refl _) (by show H.next < H.next + 1; omega)
        have hsz2 : ([] ++ nds2 ++ rest).toArray.size = cap * z := by
          have : k * z ≤ cap * z := Nat.mul_le_mul_right _ (by omega)
          simp only [List.size_toArray, List.length_append, List.length_nil, hc2, Nat.sub_mul, Nat.zero_add]
          omega
        have hpush := Step.push hdrew.rel el false new ([] ++ nds2 ++ rest).toArray hn (by simpa using appended_ok (rest := rest) (as := []) (xs := []) .nil hnv2) (by simp; omega) (fun h => by cases h)
        have hst := hdrew.trans hpush
        refine does_val hex' (v' := .slice (some ⟨w.heap.size, 0, none⟩) (0 + k) cap) ?_ hst ?_
        · rw [hsv]; exact hrun
        · rw [hkz, Nat.zero_add]
          have := VR.sl (φ := φ.upd H.next (w.heap.size, 0, some ([] ++ nds2 ++ rest).toArray.size)) (i := H.next) (o := 0) (z := z) (n := k) (cc := cap) (c := none) (Emb.upd_same _ _ _) (fun r hr => by simp only [Option.some.injEq] at hr; omega) (by omega) (fun d hd => by cases hd)
          exact this
    · simp at hx
  | sl i off z' n cp =>
    simp only at hx
    split at hx
    · rename_i hcond
      obtain ⟨rfl, h2, h1, h3⟩ := hcond
      have hkz := div_len hlen h2
      split at hx
      · rename_i hnil
        simp [ok1] at hx
        obtain ⟨rfl, rfl⟩ := hx
        subst hnil
        have hk0 : k = 0 := by simp at hkz; exact hkz.symm
        subst hk0
        obtain rfl := hnv.nil_inv
        refine does_same hrel hex' (v' := a.eval x) ?_ hs
        rcases hs.sl_inv with ⟨p, s, m, cc, e1, e2, e3, e4, e5⟩ | ⟨rfl, e1, ad, e5⟩
        · rw [e5]
          exact fit_ok (n := n) (k := 0) hu hu2 hud hsz (by omega) hl hfirst (fun a _ => by simp [storeCells]) (fun h => by cases h)
        · rw [e5]
          exact fit_ok (n := 0) (k := 0) hu hu2 hud hsz (Nat.le_refl _) hl hfirst (fun a _ => by simp [storeCells]) (fun h => by cases h)
      · rename_i hnil
        have hkpos : 0 < k := by
          rcases Nat.eq_zero_or_pos k with h | h
          · subst h; simp at hlen; exact absurd hlen hnil
          · exact h
        split at hx
        · rename_i old b hcells hb
          have hn : φ H.next = none := by
            refine hf _ (Nat.le_refl _) ?_
            split at hx
            · simp [ok1] at hx; obtain ⟨rfl, rfl⟩ := hx; show H.next < H.next + 1; omega
            · split at hx
              · simp [ok1] at hx; obtain ⟨rfl, rfl⟩ := hx; show H.next < H.next + 1; omega
              · simp at hx
          -- the growing ways, for both shapes of the old value
          have grows : ∀ (base : Option Addr) (cc : Nat) (ods : List Value), a.eval x = .slice base n cc → VRs φ old ods → cc < n + k → (Builtin.firstCells z' n (.slice base n cc)).run P w.drew = .ok ods.toArray w.drew → old.length = n * z' →
              ∀ (hway : (out, H') = (.ok (.sl H.next 0 z' (n + new.length / z') none), H.push el false (old ++ new)) ∨ (H.floor ≤ i ∧ ∃ s0, (out, H') = (.ok (.sl H.next 0 z' (n + new.length / z') none), H.turn i el s0 (old ++ new)))), Does P (Post B φ H w out H') ((execOp a.eval o).run P w) := by
            intro base cc ods hev hov hlt hof hol hway
            obtain ⟨cap, rest, hc1, hc2, hrun⟩ := grow_ok (ty := o.type) (base := base) (n := n) (cc := cc) hu hu2 hud hsz hby hzero hzl hlt (by rw [← hkz]; exact h1) hl hof hfirst2
            have hovl := hov.length
            have hsz2 : (ods ++ nds2 ++ rest).toArray.size = cap * z' := by
              have : (n + k) * z' ≤ cap * z' := Nat.mul_le_mul_right _ (by omega)
              rw [Nat.add_mul] at this
              simp only [List.size_toArray, List.length_append, hc2, Nat.sub_mul, Nat.add_mul]
              omega
            have hvr : VR (φ.upd H.next (w.heap.size, 0, some (ods ++ nds2 ++ rest).toArray.size)) (.sl H.next 0 z' (n + new.length / z') none) (.slice (some ⟨w.heap.size, 0, none⟩) (n + k) cap) := by
              rw [hkz]
              have := VR.sl (φ := φ.upd H.next (w.heap.size, 0, some (ods ++ nds2 ++ rest).toArray.size)) (i := H.next) (o := 0) (z := z') (n := n + k) (cc := cap) (c := none) (Emb.upd_same _ _ _) (fun r hr => by simp only [Option.some.injEq] at hr; omega) (by omega) (fun d hd => by cases hd)
              exact this
            rcases hway with hway | ⟨hfl, s0, hway⟩
            · simp only [Prod.mk.injEq] at hway
              obtain ⟨rfl, rfl⟩ := hway
              have hpush := Step.push hdrew.rel el false (old ++ new) (ods ++ nds2 ++ rest).toArray hn (appended_ok hov hnv2) (by simp; omega) (fun h => by cases h)
              refine does_val hex' (v' := .slice (some ⟨w.heap.size, 0, none⟩) (n + k) cap) ?_ (hdrew.trans hpush) hvr
              rw [hev]; exact hrun
            · simp only [Prod.mk.injEq] at hway
              obtain ⟨rfl, rfl⟩ := hway
              have hpush := Step.turnNew hdrew.rel hfl el (old ++ new) (ods ++ nds2 ++ rest).toArray s0 hn (appended_ok hov hnv2) (by simp; omega)
              refine does_val hex' (v' := .slice (some ⟨w.heap.size, 0, none⟩) (n + k) cap) ?_ (hdrew.trans hpush) hvr
              rw [hev]; exact hrun
          rcases hs.sl_inv with ⟨p, s, m, cc, e1, e2, e3, e4, e5⟩ | ⟨rfl, e1, ad, e5⟩
          · obtain ⟨hol, ods, hov, hocell⟩ := cellsAt_ok hrel hcells e1
            have hovl := hov.length
            have hof : (Builtin.firstCells z' n (.slice (some ⟨p, s + off, none⟩) n cc)).run P w.drew = .ok ods.toArray w.drew := by
              have := load_list (P := P) (w := w.drew) ods hocell
              rw [← hovl, hol] at this
              simp [Builtin.firstCells, this]
            split at hx
            · rename_i hcn
              simp [ok1] at hx
              have := e4 n hcn
              subst this
              exact grows _ _ _ e5 hov (by omega) hof hol (.inl (by rw [hx.1, hx.2]))
            · split at hx
              · rename_i hown
                obtain ⟨hro, hfl, hty⟩ := hown
                simp [ok1] at hx
                by_cases hroom : n + k ≤ cc
                · obtain ⟨q, s', m', e6, br⟩ := hrel.blk i b hb
                  rw [e1] at e6; simp at e6; obtain ⟨rfl, rfl, rfl⟩ := e6
                  obtain ⟨_, r', hm, _⟩ := br.own hro
                  subst hm
                  have hcells' := hcells
                  unfold AH.cellsAt at hcells'
                  simp only [hb] at hcells'
                  split at hcells' <;> simp at hcells'
                  rename_i hle
                  have hroom2 : s + off + cc * z' ≤ r' := e2 r' rfl
                  have hm2 : (n + k) * z' ≤ cc * z' := Nat.mul_le_mul_right _ hroom
                  rw [Nat.add_mul] at hm2
                  obtain ⟨hst, hstep⟩ := Step.turnIn (o := off) hrel hb hro hfl hn e1 old new nds (by rw [hol]; exact hcells'.symm) (by omega) hnv hsol (by omega)
                  obtain ⟨rfl, rfl⟩ := hx
                  subst hty
                  refine does_val hex' (v' := .slice (some ⟨p, s + off, none⟩) (n + k) cc) ?_ hstep ?_
                  · rw [e5]
                    refine fit_ok (n := n) (k := k) hu hu2 hud hsz hroom hl hfirst (fun ad had => ?_) (fun h => by cases h)
                    simp at had
                    subst had
                    rw [add_eq, ← hol]
                    exact hst P
                  · rw [hkz]
                    have := VR.sl (φ := φ.upd H.next (p, s + off, some r')) (i := H.next) (o := 0) (z := z') (n := n + k) (cc := cc) (c := none) (Emb.upd_same _ _ _) (fun r hr => by simp at hr; omega) hroom (fun d hd => by cases hd)
                    exact this
                · exact grows _ _ _ e5 hov (by omega) hof hol (.inr ⟨hfl, _, by rw [hx.1, hx.2]⟩)
              · simp at hx
          · have hol : old = [] := by
              unfold AH.cellsAt at hcells
              split at hcells
              · split at hcells <;> simp at hcells; first | exact hcells | exact hcells.symm
              · simp at hcells
            subst hol
            have hof : (Builtin.firstCells z' 0 (.slice (some ad) 0 0)).run P w.drew = .ok ([] : List Value).toArray w.drew := by simp [Builtin.firstCells, load_none]
            split at hx
            · simp only [ok1, Option.some.injEq, Prod.mk.injEq] at hx
              exact grows _ _ [] e5 .nil (by omega) hof (by simp) (.inl (by rw [← hx.1, ← hx.2]))
            · split at hx
              · rename_i hown
                simp only [ok1, Option.some.injEq, Prod.mk.injEq] at hx
                exact grows _ _ [] e5 .nil (by omega) hof (by simp) (.inr ⟨hown.2.1, _, by rw [← hx.1, ← hx.2]⟩)
              · simp at hx
        · simp at hx
    · simp at hx
  | _ => simp at hx

end
end Go.Am

/- The rest of the operations: copies, new slices, strings and bytes, interfaces, calls. Conditions: the heap stands to the world, the temporaries to the values. -/
namespace Go.Am
open Go.RowKit

section
variable {P : Program} {B : Base} {φ : Emb} {H H' : AH} {w : World} {a : Act} {e : Env} {o : Oper} {call : Call} {out : Out}

theorem op_cpy {c : Go.Call} {t u el : TypeId} {z : Nat} {x y : Operand} {r : AV} {i off n m : Nat} {cp : Option Nat} {cs : List AV} (ho : o.op = .call c) (hc : c.callee = .builtin .copy) (hts : c.argTypes = #[t, u]) (hargs : c.args = #[x, y])
    (hu : P.underlying t = some (.slice el)) (hsz : szOf P el = some z) (hs : VR φ (.sl i off z n cp) (a.eval x)) (hr : VR φ r (a.eval y)) (hl : lenOf r = some m) (hnew : takeFrom H z r = some cs) (hrel : Rel B φ H w)
    (hst : H.store i off (cs.take (min m n * z)) = some H') : Does P (Post B φ H w (.ok (.int .i64 (min m n : Nat))) H') ((execOp a.eval o).run P w) := by
  obtain ⟨hlen, hlm, nds, hnv, _, hfirst⟩ := takeFrom_ok (P := P) hrel hnew hl hr
  have hf2 := hfirst (min m n) (Nat.min_le_left _ _)
  obtain ⟨p, s, q, e1, h1, h2⟩ := Step.store hrel hst (hnv.take (min m n * z))
  obtain ⟨k, hex⟩ := exec_builtin (ρ := a.eval) ho hc
  have hex' : execOp a.eval o = (do pure (.value (← Builtin.copy_ #[t, u] o.type #[a.eval x, a.eval y]))) := by
    rw [hex, hts, hargs, show (#[x, y] : Array Operand).map a.eval = #[a.eval x, a.eval y] by simp]; rfl
  have hs' := run_sizeOf' hsz
  rcases hs.sl_inv with ⟨p', s', m', cc, e2, _, _, _, e5⟩ | ⟨rfl, _, ad, e5⟩
  · rw [e1] at e2; simp at e2; obtain ⟨rfl, rfl, rfl⟩ := e2
    refine does_val hex' (v' := .int .i64 (min m n : Nat)) ?_ h2 (VR.int _ _)
    rw [e5]
    have hmin : Nat.min m n = min m n := rfl
    simp [Builtin.copy_, run_underlying hu, hlm, hs', hmin, hf2, h1 P, goInt]
  · have hz : nds.take (min m 0 * z) = [] := by simp
    rw [hz] at h2 hf2
    refine does_val hex' (v' := .int .i64 (min m 0 : Nat)) ?_ h2 (VR.int _ _)
    rw [e5]
    have hmin : Nat.min m 0 = 0 := by simp [Nat.min_def]
    have hf3 : (Builtin.firstCells z 0 (a.eval y)).run P w = .ok #[] w := by simpa using hf2
    simp [Builtin.copy_, run_underlying hu, hlm, hs', hmin, hf3, goInt, storeCells, World.setCells]

theorem op_cpy_nil {c : Go.Call} {t u el : TypeId} {z : Nat} {x y : Operand} {r : AV} {m : Nat} {cs : List AV} (ho : o.op = .call c) (hc : c.callee = .builtin .copy) (hts : c.argTypes = #[t, u]) (hargs : c.args = #[x, y])
    (hu : P.underlying t = some (.slice el)) (hsz : szOf P el = some z) (hs : VR φ .nils (a.eval x)) (hr : VR φ r (a.eval y)) (hl : lenOf r = some m) (hnew : takeFrom H z r = some cs) (hrel : Rel B φ H w) :
    Does P (Post B φ H w (.ok (.int .i64 0)) H) ((execOp a.eval o).run P w) := by
  obtain ⟨hlen, hlm, nds, hnv, _, hfirst⟩ := takeFrom_ok (P := P) hrel hnew hl hr
  have hf2 := hfirst 0 (Nat.zero_le _)
  obtain ⟨k, hex⟩ := exec_builtin (ρ := a.eval) ho hc
  have hex' : execOp a.eval o = (do pure (.value (← Builtin.copy_ #[t, u] o.type #[a.eval x, a.eval y]))) := by
    rw [hex, hts, hargs, show (#[x, y] : Array Operand).map a.eval = #[a.eval x, a.eval y] by simp]; rfl
  refine does_same hrel hex' (v' := .int .i64 0) ?_ (VR.int _ _)
  have hmin : Nat.min m 0 = 0 := by simp [Nat.min_def]
  have hf3 : (Builtin.firstCells z 0 (a.eval y)).run P w = .ok #[] w := by simpa using hf2
  rw [hs.nils_inv]
  simp [Builtin.copy_, run_underlying hu, hlm, run_sizeOf' hsz, hmin, hf3, goInt]

theorem rep_prefix {z : List AV} {k m : Nat} (h : k ≤ m) {j : Nat} {v : AV} (hj : (rep k z)[j]? = some v) : (rep m z)[j]? = some v := by
  obtain ⟨d, rfl⟩ : ∃ d, m = k + d := ⟨m - k, by omega⟩
  have : rep (k + d) z = rep k z ++ rep d z := by simp [rep, ← List.replicate_append_replicate]
  rw [this]
  have hlt : j < (rep k z).length := by
    rcases Nat.lt_or_ge j (rep k z).length with h' | h'
    · exact h'
    · rw [List.getElem?_eq_none h'] at hj; simp at hj
  rw [List.getElem?_append_left hlt]
  exact hj

theorem op_mks {t el : TypeId} {z bytes : Nat} {zl : List AV} {x y : Operand} {l c : Int} (ho : o.op = .makeSlice t x y) (hu : P.underlying t = some (.slice el)) (hsz : szOf P el = some z) (hby : byOf P el = some bytes) (hzero : zOf P el = some zl) (hzl : zl.length = z)
    (hx : VR φ (.int .i64 l) (a.eval x)) (hy : VR φ (.int .i64 c) (a.eval y)) (hl0 : 0 ≤ l) (hlc : l ≤ c) (hb : c.toNat * bytes ≤ 140737488351232) (hc : c ≤ 140737488351232) (hrel : Rel B φ H w) (hf : φ H.next = none) :
    Does P (Post B φ H w (.ok (.sl H.next 0 z l.toNat (if l = c then some l.toNat else none))) (H.push el false (rep l.toNat zl))) ((execOp a.eval o).run P w) := by
  obtain ⟨i, zv, hi, hiz, hz2⟩ := zOf_info (φ := φ) hzero
  have hzs : zv.cells.size = z := by have := hz2.length; simp at this; omega
  have hs := szOf_info hsz hi
  have hib := byOf_info hby hi
  obtain ⟨l', rfl⟩ : ∃ k : Nat, l = k := ⟨l.toNat, by omega⟩
  obtain ⟨c', rfl⟩ : ∃ k : Nat, c = k := ⟨c.toNat, by omega⟩
  simp only [Int.toNat_natCast] at hb ⊢
  have hw1 : IntKind.i64.wrap (l' : Int) = l' := by simp [IntKind.wrap, IntKind.bits, IntKind.signed]; omega
  have hw2 : IntKind.i64.wrap (c' : Int) = c' := by simp [IntKind.wrap, IntKind.bits, IntKind.signed]; omega
  have hcb : ¬ ((bytes : Int) * (c' : Int) > 2 ^ 48) := by
    have : (bytes : Int) * (c' : Int) = ((c' * bytes : Nat) : Int) := by push_cast; exact Int.mul_comm _ _
    omega
  have hrep := rep_ok hz2 c'
  rw [hzs] at hrep
  have hcl := hrep.length
  have hpush := Step.push hrel el false (rep l' zl) ((Array.range (c' * z)).map (zv.cells[· % z]!)) hf (fun j v hj => by
    obtain ⟨u, q1, q2⟩ := hrep.get (rep_prefix (show l' ≤ c' by omega) hj)
    exact ⟨u, by rw [← Array.getElem?_toList]; exact q1, q2⟩) (by
      have h1 : (rep l' zl).length = l' * z := by simp [rep, hzl]
      have h2 : l' * z ≤ c' * z := Nat.mul_le_mul_right _ (by omega)
      simp [h1, h2]) (fun h => by cases h)
  refine does_val (s := Instr.makeSlice t (a.eval x) (a.eval y)) (by simp only [execOp, ho]) (v' := .slice (some ⟨w.heap.size, 0, none⟩) l' c') ?_ hpush ?_
  · rw [hx.int_inv, hy.int_inv]
    have e1 : ¬ ((l' : Int) > (c' : Int)) := by omega
    have e2 : ¬ ((c' : Int) < 0) := by omega
    have e3 : ¬ ((l' : Int) < 0) := by omega
    have e5 : (decide ((c' : Int) < 0) || decide ((bytes : Int) * (c' : Int) > 2 ^ 48)) = false := by simp only [e2, hcb, decide_false, Bool.or_self]
    have e6 : ((decide ((c' : Int) < 0) || decide ((bytes : Int) * (c' : Int) > 2 ^ 48)) || decide ((l' : Int) < 0) || decide ((l' : Int) > (c' : Int))) = false := by simp only [e1, e2, e3, hcb, decide_false, Bool.or_self]
    by_cases h0 : c' * z = 0
    · have hr0 : (Array.range (c' * z)).map (zv.cells[· % z]!) = #[] := by simp [h0]
      have hr1 : ∀ zz : Array Value, (Array.range (c' * z)).map (zz[· % zz.size]!) = #[] := by simp [h0]
      rw [hr0]
      simp only [Instr.makeSlice, Sem.run_bind, run_underlying hu, Result.andThen_ok, asInt, asIntOf, typeInfo, hi, Sem.run_pure, run_program, hib, hw1, hw2, e6, Bool.false_eq_true, if_false, run_askRoom, Int.toNat_natCast, sizeOf, hs, if_pos h0, hr1, newRow]
      rfl
    · simp only [Instr.makeSlice, Sem.run_bind, run_underlying hu, Result.andThen_ok, asInt, asIntOf, typeInfo, hi, Sem.run_pure, run_program, hib, hw1, hw2, e6, Bool.false_eq_true, if_false, run_askRoom, Int.toNat_natCast, sizeOf, hs, if_neg h0, zeroValue, hiz, hzs, newRow]
      rfl
  · have := VR.sl (φ := φ.upd H.next (w.heap.size, 0, some ((Array.range (c' * z)).map (zv.cells[· % z]!)).size)) (i := H.next) (o := 0) (z := z) (n := l') (cc := c') (c := if (l' : Int) = c' then some l' else none) (Emb.upd_same _ _ _) (fun r hr => by simp at hr; omega) (by omega) (fun d hd => by split at hd <;> simp at hd; omega)
    exact this

theorem op_s2b {s d el : TypeId} {x : Operand} {l : List UInt8} (ho : o.op = .convert s d x) (hs : P.underlying s = some .string) (hd : P.underlying d = some (.slice el)) (he : P.underlying el = some (.int .u8)) (hx : VR φ (.str l) (a.eval x)) (hrel : Rel B φ H w) (hf : φ H.next = none) :
    Does P (Post B φ H w (.ok (.sl H.next 0 1 l.length none)) (H.push el false (ofBytes l))) ((execOp a.eval o).run P w) := by
  have hxv := hx.str_inv
  have hrun := Lib.run_convert_string_bytes (P := P) w s d el ⟨l.toArray⟩ hs hd he
  have hcap : l.length ≤ grownCap w (⟨l.toArray⟩ : ByteArray).size 0 el := by rw [size_str]; show l.length ≤ l.length + _; omega
  have hsz : (Lib.bytesCells w el ⟨l.toArray⟩).size = grownCap w (⟨l.toArray⟩ : ByteArray).size 0 el := by
    simp [Lib.bytesCells, size_str] at hcap ⊢
    omega
  have hpush := Step.pushW hrel el false (ofBytes l) (Lib.bytesCells w el ⟨l.toArray⟩) ((Lib.bytesCells w el ⟨l.toArray⟩).size, (Lib.bytesCells w el ⟨l.toArray⟩).size + 1) hf (fun j v hj => by
      simp only [ofBytes, List.getElem?_map, Option.map_eq_some_iff] at hj
      obtain ⟨b, hb, rfl⟩ := hj
      refine ⟨_, ?_, VR.int _ _⟩
      have hlt : j < l.length := by
        rcases Nat.lt_or_ge j l.length with h' | h'
        · exact h'
        · rw [List.getElem?_eq_none h'] at hb; simp at hb
      rw [Lib.bytesCells, Array.getElem?_append_left (by simpa using hlt)]
      simp [hb]) (by simp [ofBytes, hsz]; omega) (fun h => by cases h) (fun j h1 h2 => by simp at h2; omega)
      (Lib.bytesWorld_at_new w el ⟨l.toArray⟩) (fun p hp => Lib.bytesWorld_at_old w el _ p hp) (Lib.bytesWorld_size w el _) (by simp [Lib.bytesWorld, World.freeze, World.alloc, World.drew, -World.alloc_eq, -World.drew_eq]) (by simp [Lib.bytesWorld, World.freeze, World.alloc, World.drew, -World.alloc_eq, -World.drew_eq]) (by simp [Lib.bytesWorld, World.freeze, World.alloc, World.drew, -World.alloc_eq, -World.drew_eq])
  refine does_val (s := convert s d (a.eval x)) (by simp only [execOp, ho]) (by rw [hxv]; exact hrun) hpush ?_
  rw [size_str]
  rw [size_str] at hsz
  have := VR.sl (φ := φ.upd H.next (w.heap.size, 0, some (Lib.bytesCells w el ⟨l.toArray⟩).size)) (i := H.next) (o := 0) (z := 1) (n := l.length) (cc := grownCap w l.length 0 el) (c := none) (Emb.upd_same _ _ _) (fun r hr => by simp at hr; omega) (by rw [size_str] at hcap; exact hcap) (fun d hd => by cases hd)
  exact this

theorem op_b2s {s d el : TypeId} {x : Operand} {u : AV} {cs : List AV} {l : List UInt8} (ho : o.op = .convert s d x) (hs : P.underlying s = some (.slice el)) (hd : P.underlying d = some .string) (he : P.underlying el = some (.int .u8)) (hx : VR φ u (a.eval x))
    (hu : ∀ t, u ≠ .str t) (hcs : takeFrom H 1 u = some cs) (hl : toBytes cs = some l) (hrel : Rel B φ H w) : Does P (Post B φ H w (.ok (.str l)) H) ((execOp a.eval o).run P w) := by
  refine does_same (s := convert s d (a.eval x)) hrel (by simp only [execOp, ho]) (v' := .string ⟨l.toArray⟩) ?_ (VR.str l)
  have empty : ∀ (ad : Addr) (cc : Nat), (convert s d (.slice (some ad) 0 cc)).run P w = .ok (.string ⟨([] : List UInt8).toArray⟩) w := fun ad cc =>
    run_convert_bytes_back w s d el ad cc [] hs he hd (fun j hj => by simp at hj)
  cases u with
  | nils =>
    simp [takeFrom] at hcs; subst hcs; simp [toBytes] at hl; subst hl
    rw [hx.nils_inv]
    simp [convert, run_underlying hs, run_underlying hd, run_underlying he, Conv.bytesToString]
    rfl
  | esl =>
    simp [takeFrom] at hcs; subst hcs; simp [toBytes] at hl; subst hl
    obtain ⟨ad, cc, e1⟩ := hx.esl_inv
    rw [e1]
    exact empty ad cc
  | sl i off z n c =>
    simp only [takeFrom] at hcs
    split at hcs
    · rename_i hz; subst hz
      rcases hx.sl_inv with ⟨p, q, m, cc, e1, _, _, _, e5⟩ | ⟨rfl, _, ad, e5⟩
      · obtain ⟨hlen, ds, hv, hcell⟩ := cellsAt_ok hrel hcs e1
        obtain ⟨h1, h2⟩ := toBytes_ok hl hv
        have hvl := hv.length
        have hn : n = l.length := by omega
        rw [e5, hn]
        refine run_convert_bytes_back w s d el _ cc l hs he hd (fun j hj => ?_)
        have hj' : j < ds.length := by omega
        obtain ⟨b, hb, hdv⟩ := h2 j ds[j] (by simp [hj'])
        rw [add_eq, hcell j ds[j] (by simp [hj']), hdv]
        rw [List.getElem?_eq_getElem hj] at hb
        simp at hb
        rw [hb]
      · have : cs = [] := by
          unfold AH.cellsAt at hcs
          split at hcs
          · split at hcs <;> simp at hcs; first | exact hcs | exact hcs.symm
          · simp at hcs
        subst this
        simp [toBytes] at hl; subst hl
        rw [e5]
        exact empty ad 0
    · simp at hcs
  | str t => exact absurd rfl (hu t)
  | _ => simp [takeFrom] at hcs

theorem op_tous {s d t : TypeId} {n : Nat} {x : Operand} {i off : Nat} {b : Blk} (ho : o.op = .convert s d x) (hs : P.underlying s = some (.pointer t)) (hd : P.underlying d = some .unsafePointer) (ht : szOf P t = some (n + 1)) (hx : VR φ (.ptr i off) (a.eval x))
    (hb : H.get i = some b) (hlt : off < b.cells.length) (hro : b.ro = false) (hrel : Rel B φ H w) : Does P (Post B φ H w (.ok (.ptr i off)) H) ((execOp a.eval o).run P w) := by
  obtain ⟨p, q, m, e1, e2⟩ := hx.ptr_inv
  obtain ⟨p', s', m', e', br⟩ := hrel.blk i b hb
  rw [e1] at e'; simp at e'; obtain ⟨rfl, rfl, rfl⟩ := e'
  obtain ⟨_, r, _, hsh, hsr, _⟩ := br.own hro
  cases hi : P.info? t with
  | none => simp [szOf, hi] at ht
  | some j =>
    have hj := szOf_info ht hi
    refine does_same (s := convert s d (a.eval x)) hrel (by simp only [execOp, ho]) (v' := a.eval x) ?_ hx
    rw [e2]
    exact Lib.run_to_unsafe w ⟨p, q + off, none⟩ hs hd hi (by omega) hsh (by show q + off < r; omega)

theorem op_frus {s d t : TypeId} {n : Nat} {x : Operand} {i : Nat} {b : Blk} (ho : o.op = .convert s d x) (hs : P.underlying s = some .unsafePointer) (hd : P.underlying d = some (.pointer t)) (ht : szOf P t = some (n + 1)) (hx : VR φ (.ptr i 0) (a.eval x))
    (hb : H.get i = some b) (hty : b.ty = t) (hlt : n + 1 ≤ b.cells.length) (hwh : b.wh = true) (hro : b.ro = false) (hrel : Rel B φ H w) : Does P (Post B φ H w (.ok (.ptr i 0)) H) ((execOp a.eval o).run P w) := by
  obtain ⟨p, q, m, e1, e2⟩ := hx.ptr_inv
  obtain ⟨p', s', m', e', br⟩ := hrel.blk i b hb
  rw [e1] at e'; simp at e'; obtain ⟨rfl, rfl, rfl⟩ := e'
  obtain ⟨_, r, _, hsh, hsr, hw, _⟩ := br.own hro
  obtain ⟨rfl, rfl⟩ := hw hwh
  cases hi : P.info? t with
  | none => simp [szOf, hi] at ht
  | some j =>
    have hj := szOf_info ht hi
    refine does_same (s := convert s d (a.eval x)) hrel (by simp only [execOp, ho]) (v' := a.eval x) ?_ hx
    rw [e2]
    refine Lib.run_from_unsafe w ⟨p, 0 + 0, none⟩ hs hd hi hsh ?_
    have hdp : P.depth = (2 * (P.types.size + Made.depth) + 1) + 1 := rfl
    have hc : P.cellsOf t = n + 1 := by simp [Program.cellsOf, hi, hj]
    rw [hty, hdp]
    simp only [liesAt, Bool.or_eq_true]
    left
    rw [hdp]
    have h1 : 1 ≤ b.cells.length / (n + 1) := by rw [Nat.le_div_iff_mul_le (by omega)]; omega
    simp [rowAt, hc, sameLayout, h1]

theorem op_usd_nil {c : Go.Call} {x : Operand} (ho : o.op = .call c) (hc : c.callee = .builtin .unsafeSliceData) (hargs : c.args = #[x]) (hs : VR φ .nils (a.eval x)) (hrel : Rel B φ H w) : Does P (Post B φ H w (.ok .nilp) H) ((execOp a.eval o).run P w) := by
  obtain ⟨k, hex⟩ := exec_builtin (ρ := a.eval) ho hc
  have hex' : execOp a.eval o = (do pure (.value (← Builtin.unsafeSliceData_ c.argTypes o.type #[a.eval x]))) := by
    rw [hex, hargs, show (#[x] : Array Operand).map a.eval = #[a.eval x] by simp]; rfl
  refine does_same hrel hex' (v' := .pointer none) ?_ (VRs.nilp .nil)
  rw [hs.nils_inv]; rfl

theorem op_usd {c : Go.Call} {x : Operand} {i off z n : Nat} {cp : Option Nat} (ho : o.op = .call c) (hc : c.callee = .builtin .unsafeSliceData) (hargs : c.args = #[x]) (hs : VR φ (.sl i off z n cp) (a.eval x)) (hn : 0 < n) (hrel : Rel B φ H w) :
    Does P (Post B φ H w (.ok (.ptr i off)) H) ((execOp a.eval o).run P w) := by
  obtain ⟨k, hex⟩ := exec_builtin (ρ := a.eval) ho hc
  have hex' : execOp a.eval o = (do pure (.value (← Builtin.unsafeSliceData_ c.argTypes o.type #[a.eval x]))) := by
    rw [hex, hargs, show (#[x] : Array Operand).map a.eval = #[a.eval x] by simp]; rfl
  rcases hs.sl_inv with ⟨p, q, m, cc, e1, _, h2, _, e5⟩ | ⟨rfl, _⟩
  · refine does_same hrel hex' (v' := .pointer (some ⟨p, q + off, none⟩)) ?_ (VR.ptr e1)
    rw [e5]
    exact Lib.run_unsafeSliceData_row w _ _ _ _ _ (by omega)
  · omega

theorem freeze_heap (w : World) (p off n q : Nat) (h : q ≠ p) : (w.freeze ⟨p, off, none⟩ n).heap[q]? = w.heap[q]? := by
  unfold World.freeze
  split
  · rfl
  · simp only [Array.getElem?_modify]
    rw [if_neg (fun e => h e.symm)]

theorem op_ustr {c : Go.Call} {t it el : TypeId} {x y : Operand} {i : Nat} {b : Blk} {k : IntKind} {m : Int} {cs : List AV} {l : List UInt8} (ho : o.op = .call c) (hc : c.callee = .builtin .unsafeString) (hts : c.argTypes = #[t, it]) (hargs : c.args = #[x, y])
    (hu : P.underlying t = some (.pointer el)) (hsz : szOf P el = some 1) (hs : VR φ (.ptr i 0) (a.eval x)) (hm : VR φ (.int k m) (a.eval y)) (hki : k = .i64) (hb : H.get i = some b) (hty : b.ty = el) (hro : b.ro = false) (hs0 : b.s0 = true) (hfl : H.floor ≤ i) (h0 : 0 < m) (h1 : m ≤ 140737488351232)
    (hcs : H.cellsAt i 0 m.toNat = some cs) (hl : toBytes cs = some l) (hrel : Rel B φ H w) : Does P (Post B φ H w (.ok (.str l)) (H.kill i)) ((execOp a.eval o).run P w) := by
  obtain ⟨p, q, r0, e1, e2⟩ := hs.ptr_inv
  obtain ⟨p', s', m', e', br⟩ := hrel.blk i b hb
  rw [e1] at e'; simp at e'; obtain ⟨rfl, rfl, rfl⟩ := e'
  obtain ⟨_, r, _, hsh, hsr, _, hz, _⟩ := br.own hro
  obtain rfl := hz hs0
  obtain ⟨hlen, ds, hv, hcell⟩ := cellsAt_ok hrel hcs e1
  obtain ⟨h2, h3⟩ := toBytes_ok hl hv
  have hvl := hv.length
  obtain ⟨ck, hex⟩ := exec_builtin (ρ := a.eval) ho hc
  have hex' : execOp a.eval o = (do pure (.value (← Builtin.unsafeString_ #[t, it] o.type #[a.eval x, a.eval y]))) := by
    rw [hex, hts, hargs, show (#[x, y] : Array Operand).map a.eval = #[a.eval x, a.eval y] by simp]; rfl
  have hml : m = l.length := by omega
  have hle : l.length ≤ r := by
    unfold AH.cellsAt at hcs
    simp only [hb] at hcs
    split at hcs <;> simp at hcs
    omega
  cases hi : P.info? el with
  | none => simp [szOf, hi] at hsz
  | some j =>
    have hj := szOf_info hsz hi
    have hc1 : P.cellsOf el = 1 := by simp [Program.cellsOf, hi, hj]
    rw [hty] at hsh
    have hrun := Lib.run_unsafeString_row (P := P) w t it o.type el hu hc1 p r hsh l (by intro h; subst h; simp at hml; omega) hle (by omega) (fun j u hj => by
      have hj' : j < ds.length := by
        rcases Nat.lt_or_ge j l.length with h' | h'
        · omega
        · rw [List.getElem?_eq_none h'] at hj; simp at hj
      obtain ⟨b', hb', hdv⟩ := h3 j ds[j] (by simp [hj'])
      rw [hj] at hb'
      simp at hb'
      rw [add_eq, ← Nat.zero_add (0 + j), Nat.zero_add j]
      have := hcell j ds[j] (by simp [hj'])
      rw [hdv, ← hb'] at this
      simpa using this)
    have hkill := Step.kill hrel hb hro hfl e1 (w' := w.freeze ⟨p, 0, none⟩ l.length) (by unfold World.freeze; split <;> simp) (fun q hq => freeze_heap w p 0 l.length q hq) (by unfold World.freeze; split <;> rfl) (by unfold World.freeze; split <;> rfl) (by unfold World.freeze; split <;> rfl)
    refine does_val hex' ?_ hkill (VR.str l)
    rw [e2, hm.int_inv, hki, hml]
    exact hrun

theorem op_ustr_nil {c : Go.Call} {t it : TypeId} {x y : Operand} {k : IntKind} (ho : o.op = .call c) (hc : c.callee = .builtin .unsafeString) (hts : c.argTypes = #[t, it]) (hargs : c.args = #[x, y])
    (hs : VR φ .nilp (a.eval x)) (hm : VR φ (.int k 0) (a.eval y)) (hki : k = .i64) (hrel : Rel B φ H w) : Does P (Post B φ H w (.ok (.str [])) H) ((execOp a.eval o).run P w) := by
  obtain ⟨ck, hex⟩ := exec_builtin (ρ := a.eval) ho hc
  have hex' : execOp a.eval o = (do pure (.value (← Builtin.unsafeString_ #[t, it] o.type #[a.eval x, a.eval y]))) := by
    rw [hex, hts, hargs, show (#[x, y] : Array Operand).map a.eval = #[a.eval x, a.eval y] by simp]; rfl
  refine does_same hrel hex' (v' := .string .empty) ?_ (VR.str [])
  rw [hs.nilp_inv, hm.int_inv, hki]
  exact Lib.run_unsafeString_none w t it o.type none

end
end Go.Am

/- Every operation of the model that the compiler takes does what the abstract machine's does. Conditions: the heap stands to the world, the temporaries to the values, and calls do what the machine's calls do. -/
namespace Go.Am
open Go.RowKit

section
variable {P : Program} {B : Base} {φ : Emb} {H H' : AH} {w : World} {a : Act} {e : Env} {o : Oper} {call : Call} {out : Out}

theorem okM_inv {v : Option AV} (h : okM H v = some (out, H')) : ∃ u, v = some u ∧ out = .ok u ∧ H' = H := by
  cases v with
  | none => simp [okM] at h
  | some u => simp [okM] at h; exact ⟨u, rfl, h.1.symm, h.2.symm⟩

theorem ok1_inv {v : AV} (h : ok1 H v = some (out, H')) : out = .ok v ∧ H' = H := by
  simp [ok1] at h; exact ⟨h.1.symm, h.2.symm⟩

theorem exe_call (hcall : CallOk P B call) (hr : Rel B φ H w) (hg : GlobR P φ) (he : EnvR φ e a.tmps) (hf : Free φ H.next H'.next) {c : Go.Call} {op : AOp} (ho : o.op = .call c) (hop : ccall P c = some op) (hx : exe call e op H = some (out, H')) :
    Does P (Post B φ H w out H') ((execOp a.eval o).run P w) := by
  unfold ccall at hop
  split at hop
  · rename_i f hcal
    split at hop <;> simp at hop
    subst hop
    rename_i fn as hfn has
    have hargs := ofOps_ok hg he has
    simp only [exe] at hx
    have := hcall f _ H out H' φ _ w hx hr hargs hg hf
    have hex : execOp a.eval o = callFunc f (c.args.toList.map a.eval).toArray := by
      have h1 : (c.args.toList.map a.eval).toArray = c.args.map a.eval := by apply Array.ext'; simp
      rw [h1]
      simp [execOp, ho, resolve, hcal, Act.eval, Deferred.ofValue, invoke]
    rw [hex]; exact this
  · rename_i t hcal
    simp only [Option.map_eq_some_iff] at hop
    obtain ⟨as, has, rfl⟩ := hop
    have hargs := ofOps_ok hg he has
    simp only [exe, Arg.val] at hx
    have ht := he t
    split at hx
    · rename_i f cs hft
      rw [hft] at ht
      obtain ⟨ds, hds, hv⟩ := ht.func_inv
      have := hcall f _ H out H' φ _ w hx hr (hargs.append hds) hg hf
      have hex : execOp a.eval o = callFunc f (c.args.toList.map a.eval ++ ds.toList).toArray := by
        have h1 : (c.args.toList.map a.eval ++ ds.toList).toArray = c.args.map a.eval ++ ds := by apply Array.ext'; simp
        rw [h1]
        have h2 : a.eval (.tmp t) = .func (.func f) #[] ds := hv
        simp [execOp, ho, resolve, hcal, h2, Deferred.ofValue, invoke]
      rw [hex]; exact this
    · simp at hx
  · rename_i b hcal
    obtain ⟨ck, hex⟩ := exec_builtin (ρ := a.eval) ho hcal
    have two : ∀ {t u : TypeId} {x y : Operand} {f : Array TypeId → TypeId → Array Value → Sem Value}, c.argTypes.toList = [t, u] → c.args.toList = [x, y] → (∀ ts ty cs args, builtin b ts ty cs args = (do pure (.value (← f ts ty args)))) →
        c.argTypes = #[t, u] ∧ c.args = #[x, y] ∧ execOp a.eval o = (do pure (.value (← f #[t, u] o.type #[a.eval x, a.eval y]))) := by
      intro t u x y f h1 h2 h3
      have hts' : c.argTypes = #[t, u] := by apply Array.ext'; simpa using h1
      have hxs' : c.args = #[x, y] := by apply Array.ext'; simpa using h2
      exact ⟨hts', hxs', by rw [hex, h3, hts', hxs', show (#[x, y] : Array Operand).map a.eval = #[a.eval x, a.eval y] by simp]⟩
    have one : ∀ {x : Operand} {f : Array TypeId → TypeId → Array Value → Sem Value}, c.args.toList = [x] → (∀ ts ty cs args, builtin b ts ty cs args = (do pure (.value (← f ts ty args)))) →
        c.args = #[x] ∧ execOp a.eval o = (do pure (.value (← f c.argTypes o.type #[a.eval x]))) := by
      intro x f h2 h3
      have hxs' : c.args = #[x] := by apply Array.ext'; simpa using h2
      exact ⟨hxs', by rw [hex, h3, hxs', show (#[x] : Array Operand).map a.eval = #[a.eval x] by simp]⟩
    unfold cbi at hop
    split at hop
    · -- len
      rename_i t x hts hxs
      obtain ⟨_, hex'⟩ := one (f := Builtin.len_) hxs (fun _ _ _ _ => rfl)
      have hts' : c.argTypes = #[t] := by apply Array.ext'; simpa using hts
      rw [hts'] at hex'
      split at hop
      · rename_i y hu hy
        simp at hop; subst hop
        have hv := ofOp_ok hg he hy
        simp only [exe] at hx
        split at hx
        · rename_i s hl
          obtain ⟨rfl, rfl⟩ := ok1_inv hx
          rw [hl] at hv
          refine does_same hr hex' (v' := .int .i64 s.length) ?_ (VR.int _ _)
          have := size_str s
          rw [hv.str_inv]; simp [Builtin.len_, run_underlying hu, goInt, this]
        · simp at hx
      · rename_i el y hu hy
        simp at hop; subst hop
        have hv := ofOp_ok hg he hy
        simp only [exe] at hx
        split at hx
        · rename_i hl
          obtain ⟨rfl, rfl⟩ := ok1_inv hx
          rw [hl] at hv
          refine does_same hr hex' (v' := .int .i64 0) ?_ (VR.int _ _)
          rw [hv.nils_inv]; simp [Builtin.len_, run_underlying hu, goInt]
        · rename_i hl
          obtain ⟨rfl, rfl⟩ := ok1_inv hx
          rw [hl] at hv
          refine does_same hr hex' (v' := .int .i64 0) ?_ (VR.int _ _)
          obtain ⟨ad, cc, e1⟩ := hv.esl_inv
          rw [e1]; simp [Builtin.len_, run_underlying hu, goInt]
        · rename_i i off z n cp hl
          obtain ⟨rfl, rfl⟩ := ok1_inv hx
          rw [hl] at hv
          refine does_same hr hex' (v' := .int .i64 n) ?_ (VR.int _ _)
          rcases hv.sl_inv with ⟨_, _, _, _, _, _, _, _, e5⟩ | ⟨rfl, _, _, e5⟩ <;> rw [e5] <;> simp [Builtin.len_, run_underlying hu, goInt]
        · simp at hx
      · rename_i n el y hu hy
        simp at hop; subst hop
        obtain ⟨rfl, rfl⟩ := ok1_inv hx
        refine does_same hr hex' (v' := .int .i64 n) ?_ (VR.int _ _)
        simp only [Builtin.len_]
        simp [run_underlying hu, goInt]
      · rename_i arr y hu hy
        split at hop <;> simp at hop
        rename_i n el hu2
        subst hop
        obtain ⟨rfl, rfl⟩ := ok1_inv hx
        refine does_same hr hex' (v' := .int .i64 n) ?_ (VR.int _ _)
        simp only [Builtin.len_]
        simp [run_underlying hu, run_underlying hu2, goInt]
      · simp at hop
    · -- append
      rename_i t u x y hts hxs
      obtain ⟨hts', hxs', _⟩ := two (f := Builtin.append_) hts hxs (fun _ _ _ _ => rfl)
      split at hop
      · rename_i el x' y' hu hx' hy'
        have fin : ∀ {ud z by_ zl}, P.underlying u = some ud → (ud = .string ∨ ∃ e, ud = .slice e) → szOf P el = some z → byOf P el = some by_ → zOf P el = some zl → zl.length = z → op = .app el z by_ x' y' → Does P (Post B φ H w out H') ((execOp a.eval o).run P w) := by
          intro ud z by_ zl h1 h2 h3 h4 h5 h6 h7
          subst h7
          simp only [exe] at hx
          split at hx
          · simp at hx
          · rename_i new hnew
            split at hx
            · simp at hx
            · rename_i hsol
              exact op_app ho hcal hts' hxs' hu h1 h2 h3 h4 h5 h6 (ofOp_ok hg he hx') (ofOp_ok hg he hy') hnew (by simpa using hsol) hr hf hx
        split at hop
        · rename_i z by_ zl h1 h2 h3 h4
          split at hop <;> simp at hop
          rename_i h6
          exact fin h1 (.inr ⟨_, rfl⟩) h2 h3 h4 h6 hop.symm
        · rename_i z by_ zl h1 h2 h3 h4
          split at hop <;> simp at hop
          rename_i h6
          exact fin h1 (.inl rfl) h2 h3 h4 h6 hop.symm
        · simp at hop
      · simp at hop
    · -- copy
      rename_i t u x y hts hxs
      obtain ⟨hts', hxs', _⟩ := two (f := Builtin.copy_) hts hxs (fun _ _ _ _ => rfl)
      split at hop
      · rename_i el x' y' hu hx' hy'
        simp only [Option.map_eq_some_iff] at hop
        obtain ⟨z, hsz, rfl⟩ := hop
        simp only [exe] at hx
        split at hx
        · rename_i i off z' n cp m cs h1 h2 h3
          split at hx
          · rename_i hc
            obtain ⟨rfl, hlen⟩ := hc
            simp only [Option.map_eq_some_iff] at hx
            obtain ⟨H2, hst, hx⟩ := hx
            simp only [Prod.mk.injEq] at hx
            obtain ⟨rfl, rfl⟩ := hx
            have hvx := ofOp_ok hg he hx'
            rw [h1] at hvx
            exact op_cpy ho hcal hts' hxs' hu hsz hvx (ofOp_ok hg he hy') h2 h3 hr hst
          · simp at hx
        · rename_i m cs h1 h2 h3
          obtain ⟨rfl, rfl⟩ := ok1_inv hx
          have hvx := ofOp_ok hg he hx'
          rw [h1] at hvx
          exact op_cpy_nil ho hcal hts' hxs' hu hsz hvx (ofOp_ok hg he hy') h2 h3 hr
        · simp at hx
      · simp at hop
    · -- min
      rename_i t u x y hts hxs
      obtain ⟨hts', hxs', hex'⟩ := two (f := Builtin.min_) hts hxs (fun _ _ _ _ => rfl)
      split at hop <;> simp at hop
      subst hop
      rename_i x' y' hx' hy'
      simp only [exe] at hx
      split at hx
      · rename_i k p k' q h1 h2
        split at hx
        · rename_i hk
          subst hk
          obtain ⟨rfl, rfl⟩ := ok1_inv hx
          have hvx := ofOp_ok hg he hx'
          have hvy := ofOp_ok hg he hy'
          rw [h1] at hvx
          rw [h2] at hvy
          refine does_same hr hex' ?_ (VR.int _ _)
          rw [hvx.int_inv, hvy.int_inv]
          simp [Builtin.min_, Builtin.min2]
        · simp at hx
      · simp at hx
    · -- max
      rename_i t u x y hts hxs
      obtain ⟨hts', hxs', hex'⟩ := two (f := Builtin.max_) hts hxs (fun _ _ _ _ => rfl)
      split at hop <;> simp at hop
      subst hop
      rename_i x' y' hx' hy'
      simp only [exe] at hx
      split at hx
      · rename_i k p k' q h1 h2
        split at hx
        · rename_i hk
          subst hk
          obtain ⟨rfl, rfl⟩ := ok1_inv hx
          have hvx := ofOp_ok hg he hx'
          have hvy := ofOp_ok hg he hy'
          rw [h1] at hvx
          rw [h2] at hvy
          refine does_same hr hex' ?_ (VR.int _ _)
          rw [hvx.int_inv, hvy.int_inv]
          simp [Builtin.max_, Builtin.max2]
        · simp at hx
      · simp at hx
    · -- panic
      rename_i x hxs
      have hxs' : c.args = #[x] := by apply Array.ext'; simpa using hxs
      simp only [Option.map_eq_some_iff] at hop
      obtain ⟨x', hx', rfl⟩ := hop
      simp only [exe] at hx
      split at hx
      · rename_i t u h1
        simp at hx
        obtain ⟨rfl, rfl⟩ := hx
        have hvx := ofOp_ok hg he hx'
        rw [h1] at hvx
        obtain ⟨v', hv', e1⟩ := hvx.iface_inv
        have hex' : execOp a.eval o = (do pure (.value (← Instr.panic (a.eval x)))) := by
          rw [hex, hxs', show (#[x] : Array Operand).map a.eval = #[a.eval x] by simp]; rfl
        rw [hex', e1]
        simp [Instr.panic, Does]
        exact ⟨φ, Step.refl hr, _, rfl, by rw [← e1]; exact hvx⟩
      · simp at hx
    · -- cap
      rename_i t x hts hxs
      obtain ⟨_, hex'⟩ := one (f := Builtin.cap_) hxs (fun _ _ _ _ => rfl)
      have hts' : c.argTypes = #[t] := by apply Array.ext'; simpa using hts
      rw [hts'] at hex'
      split at hop
      · rename_i el hu
        simp only [Option.map_eq_some_iff] at hop
        obtain ⟨x', hx', rfl⟩ := hop
        have hv := ofOp_ok hg he hx'
        simp only [exe] at hx
        split at hx
        · rename_i hl
          obtain ⟨rfl, rfl⟩ := ok1_inv hx
          rw [hl] at hv
          refine does_same hr hex' (v' := .int .i64 0) ?_ (VR.int _ _)
          rw [hv.nils_inv]; simp [Builtin.cap_, run_underlying hu, goInt]
        · rename_i i off z n cp hl
          obtain ⟨rfl, rfl⟩ := ok1_inv hx
          rw [hl] at hv
          refine does_same hr hex' (v' := .int .i64 cp) ?_ (VR.int _ _)
          rcases hv.sl_inv with ⟨_, _, _, cc, _, _, _, e4, e5⟩ | ⟨rfl, e4, _, e5⟩
          · rw [e5, e4 cp rfl]; simp [Builtin.cap_, run_underlying hu, goInt]
          · rw [e5, ← e4 cp rfl]; simp [Builtin.cap_, run_underlying hu, goInt]
        · simp at hx
      · simp at hop
    · -- unsafeSliceData
      rename_i x hxs
      have hxs' : c.args = #[x] := by apply Array.ext'; simpa using hxs
      simp only [Option.map_eq_some_iff] at hop
      obtain ⟨x', hx', rfl⟩ := hop
      have hv := ofOp_ok hg he hx'
      simp only [exe] at hx
      split at hx
      · rename_i hl
        obtain ⟨rfl, rfl⟩ := ok1_inv hx
        rw [hl] at hv
        exact op_usd_nil ho hcal hxs' hv hr
      · rename_i i off z n cp hl
        split at hx
        · rename_i hn
          obtain ⟨rfl, rfl⟩ := ok1_inv hx
          rw [hl] at hv
          exact op_usd ho hcal hxs' hv hn hr
        · simp at hx
      · simp at hx
    · -- unsafeString
      rename_i t u x y hts hxs
      obtain ⟨hts', hxs', _⟩ := two (f := Builtin.unsafeString_) hts hxs (fun _ _ _ _ => rfl)
      split at hop
      · rename_i el x' y' hu hx' hy'
        split at hop <;> simp at hop
        rename_i hsz
        subst hop
        have hvx := ofOp_ok hg he hx'
        have hvy := ofOp_ok hg he hy'
        simp only [exe] at hx
        split at hx
        · rename_i m h1 h2
          split at hx
          · rename_i hm
            subst hm
            obtain ⟨rfl, rfl⟩ := ok1_inv hx
            rw [h1] at hvx
            rw [h2] at hvy
            exact op_ustr_nil ho hcal hts' hxs' hvx hvy rfl hr
          · simp at hx
        · rename_i i off m h1 h2
          split at hx
          · rename_i b hb
            split at hx
            · rename_i hcond
              obtain ⟨g1, g2, g3, rfl, g4, g5, g6⟩ := hcond
              split at hx
              · rename_i cs hcs
                rw [h1] at hvx
                rw [h2] at hvy
                cases hl : toBytes cs with
                | none => simp [hl, okM] at hx
                | some l =>
                  simp [hl, okM] at hx
                  obtain ⟨rfl, rfl⟩ := hx
                  exact op_ustr ho hcal hts' hxs' hu hsz hvx hvy rfl hb g1 g2 g3 g4 g5 g6 hcs hl hr
              · simp at hx
            · simp at hx
          · simp at hx
        · simp at hx
      · simp at hop
    · simp at hop
  · simp at hop

end
end Go.Am
