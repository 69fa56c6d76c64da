/-
An abstract machine for the translated code: values whose addresses are names of blocks, a heap of named blocks, and the evaluation of compiled code over them. Its conditions: none, these are definitions.
-/
import GoSem.Dispatch
import GoSem.Machine.Frame
set_option linter.unusedSimpArgs false
set_option linter.unusedVariables false
namespace Go.Am

/-- Values. A block is told by a name (a number); 'sl i o z n c': n elements of z cells each from cell o of block i on, capacity c where it is known. -/
inductive AV where
  | undef
  | bool (b : Bool)
  | int (k : IntKind) (n : Int)
  | str (s : List UInt8)
  | nilp
  | ptr (i o : Nat)
  | nils
  | sl (i o z n : Nat) (c : Option Nat)
  | esl
  | func (f : FuncId) (cs : List AV)
  | nilf
  | iface (t : TypeId) (v : AV)
  | nili
  | agg (cs : List AV)
  | tup (vs : List AV)
  deriving Inhabited

structure Blk where
  cells : List AV
  ro : Bool
  ty : TypeId
  wh : Bool
  s0 : Bool
  deriving Inhabited

def lk {α : Type} : List (Nat × α) → Nat → Option α
  | [], _ => none
  | (j, a) :: l, i => if j = i then some a else lk l i

def rpl {α : Type} : List (Nat × α) → Nat → α → List (Nat × α)
  | [], _, _ => []
  | (j, a) :: l, i, b => if j = i then (j, b) :: l else (j, a) :: rpl l i b

def del {α : Type} : List (Nat × α) → Nat → List (Nat × α)
  | [], _ => []
  | (j, a) :: l, i => if j = i then del l i else (j, a) :: del l i

/-- The heap: live blocks, newest first; the next name; blocks with names below 'floor' may not be written. -/
structure AH where
  blks : List (Nat × Blk)
  next : Nat
  floor : Nat
  deriving Inhabited

def AH.get (H : AH) (i : Nat) : Option Blk := lk H.blks i
def AH.push (H : AH) (ty : TypeId) (wh : Bool) (cs : List AV) : AH := { H with blks := (H.next, ⟨cs, false, ty, wh, true⟩) :: H.blks, next := H.next + 1 }
def AH.put (H : AH) (i : Nat) (b : Blk) : AH := { H with blks := rpl H.blks i b }
/-- Block i goes; a new one holds cs. -/
def AH.turn (H : AH) (i : Nat) (ty : TypeId) (s0 : Bool) (cs : List AV) : AH := { H with blks := (H.next, ⟨cs, false, ty, false, s0⟩) :: del H.blks i, next := H.next + 1 }
/-- Block i goes. -/
def AH.kill (H : AH) (i : Nat) : AH := { H with blks := del H.blks i }

inductive Out where
  | ok (v : AV)
  | pan (v : AV)
  deriving Inhabited

inductive Arg where
  | t (n : Nat)
  | c (v : AV)
  deriving Inhabited

/-- How a type's values are compared. -/
inductive ETy where
  | int
  | bool
  | str
  | ptr
  | iface
  | slice
  | func
  | st (fs : List (Nat × Option Nat × ETy))
  deriving Inhabited

inductive AOp where
  | mov (x : Arg)
  | pick (c a b : Arg)
  | box (ty : TypeId) (x : Arg)
  | alloc (ty : TypeId) (z : List AV)
  | ld1 (a : Arg)
  | ldn (n : Nat) (a : Arg)
  | st (n : Nat) (a x : Arg)
  | bin (op : BinOp) (x y : Arg)
  | eqv (neg lit : Bool) (d : ETy) (x y : Arg)
  | un (op : UnOp) (x : Arg)
  | conv (k : IntKind) (x : Arg)
  | s2b (ty : TypeId) (x : Arg)
  | b2s (x : Arg)
  | fld (off : Nat) (n : Option Nat) (x : Arg)
  | fa (off : Nat) (x : Arg)
  | ia (z : Nat) (x i : Arg)
  | iaa (len z : Nat) (x i : Arg)
  | ids (x i : Arg)
  | ida (len z : Nat) (n : Option Nat) (x i : Arg)
  | bld (zero : List AV) (parts : List (Nat × Nat × Arg))
  | bsl (ty : TypeId) (z len : Nat) (zero : List AV) (parts : List (Nat × Nat × Arg))
  | sub (x : Arg) (lo hi : Option Arg)
  | sls (z : Nat) (x : Arg) (lo hi mx : Option Arg)
  | sla (n z : Nat) (x : Arg) (lo hi mx : Option Arg)
  | lens (x : Arg)
  | lenl (x : Arg)
  | cvs (x : Arg)
  | app (ty : TypeId) (z bytes : Nat) (x y : Arg)
  | cpy (z : Nat) (x y : Arg)
  | mn (x y : Arg)
  | mx (x y : Arg)
  | mks (ty : TypeId) (z bytes : Nat) (zero : List AV) (l c : Arg)
  | ext (i : Nat) (x : Arg)
  | call (f : FuncId) (args : List Arg)
  | callv (f : Arg) (args : List Arg)
  | mkf (f : FuncId) (cs : List Arg)
  | mki (t : TypeId) (x : Arg)
  | ta (t : TypeId) (zero : AV) (ok : Bool) (x : Arg)
  | nlc (x : Arg)
  | pan (x : Arg)
  | tous (x : Arg)
  | frus (ty : TypeId) (n : Nat) (x : Arg)
  | usd (x : Arg)
  | ustr (ty : TypeId) (x n : Arg)
  | cap (x : Arg)
  deriving Inhabited

structure AIns where
  dst : Option Nat
  op : AOp
  guard : Option (Nat × Bool)
  deriving Inhabited

/-- An operation of a region that draws its order: 'deps': all that come before it in every order; 'late': all that come behind it in every order; 'kind': 0 pure, 1 it reads memory or makes blocks alone, 2 it may write, and is ordered with every operation of kinds 1 and 2. -/
structure DIns where
  ins : AIns
  deps : List Nat
  late : List Nat
  kind : Nat
  deriving Inhabited

inductive ACode where
  | skip
  | reg (is : List AIns)
  | regd (is : List DIns)
  | seq (a b : ACode)
  | cond (c : Arg) (a b : ACode)
  | block (id : Nat) (b : ACode)
  | loop (live : Option (List Nat)) (b : ACode)
  | exit (id : Nat)
  | ret
  | trim (l : List Nat)
  deriving Inhabited

inductive ARes where
  | tmp (t : Nat)
  | cell1 (a : Nat)
  | celln (a n : Nat)
  deriving Inhabited

/-- 'view': it is called by value: it sees the cells of its slices, in a heap of its own, and leaves the caller's heap. -/
structure AFun where
  nt : Nat
  res : List ARes
  code : ACode
  view : Bool := false
  deriving Inhabited

abbrev Env := List (Nat × AV)
def Env.at (e : Env) (t : Nat) : AV := (lk e t).getD .undef
def Arg.val (e : Env) : Arg → AV
  | .t n => e.at n
  | .c v => v

abbrev Call := FuncId → List AV → AH → Option (Out × AH)

/-- The cells that a value takes in memory. -/
def AV.cells? : AV → Option (List AV)
  | .undef => none
  | .agg cs => some cs
  | .tup _ => none
  | v => some [v]

def aeq : ETy → Bool → AV → AV → Option Bool
  | .int, _, .int k a, .int k' b => if k = k' then some (a == b) else none
  | .bool, _, .bool a, .bool b => some (a == b)
  | .str, _, .str a, .str b => some (a == b)
  | .ptr, _, .nilp, .nilp => some true
  | .ptr, _, .ptr i o, .ptr j p => if i = j then some (o == p) else none
  | .ptr, _, .nilp, .ptr _ _ => some false
  | .ptr, _, .ptr _ _, .nilp => some false
  | .iface, lit, .nili, .nili => if lit then some true else none
  | .iface, _, .nili, .iface _ _ => some false
  | .iface, _, .iface _ _, .nili => some false
  | .slice, _, .nils, .nils => some true
  | .slice, _, .nils, .sl .. => some false
  | .slice, _, .nils, .esl => some false
  | .slice, _, .sl .., .nils => some false
  | .slice, _, .esl, .nils => some false
  | .func, _, .nilf, .nilf => some true
  | .func, _, .nilf, .func _ _ => some false
  | .func, _, .func _ _, .nilf => some false
  | _, _, _, _ => none

def fldOf (cs : List AV) (off : Nat) : Option Nat → Option AV
  | none => cs[off]?
  | some n => some (.agg ((cs.drop off).take n))

/-- Structs' fields one by one; a struct within is laid flat by the compiler. -/
def aeqs : List (Nat × Option Nat × ETy) → List AV → List AV → Option Bool
  | [], _, _ => some true
  | (o, _, d) :: fs, xs, ys =>
    match xs[o]?, ys[o]? with
    | some x, some y =>
      match aeq d false x y with
      | some true => aeqs fs xs ys
      | some false => some false
      | none => none
    | _, _ => none

def aeqv (neg lit : Bool) (d : ETy) (x y : AV) : Option AV :=
  match d, x, y with
  | .st fs, .agg xs, .agg ys => (aeqs fs xs ys).map fun b => .bool (b != neg)
  | d, x, y => (aeq d lit x y).map fun b => .bool (b != neg)

def abin (op : BinOp) : AV → AV → Option AV
  | .int k a, .int k' b =>
    match op with
    | .shl => if b < 0 then none else some (.int k (k.wrap (a * 2 ^ (min b.toNat k.bits))))
    | .shr => if b < 0 then none else some (.int k (a.fdiv (2 ^ (min b.toNat k.bits))))
    | .add => if k = k' then some (.int k (k.wrap (a + b))) else none
    | .sub => if k = k' then some (.int k (k.wrap (a - b))) else none
    | .mul => if k = k' then some (.int k (k.wrap (a * b))) else none
    | .quo => if k = k' then (if b = 0 then none else some (.int k (k.wrap (a.tdiv b)))) else none
    | .rem => if k = k' then (if b = 0 then none else some (.int k (a.tmod b))) else none
    | .and => if k = k' then some (.int k (k.wrap (BitVec.ofInt k.bits a &&& BitVec.ofInt k.bits b).toNat)) else none
    | .or => if k = k' then some (.int k (k.wrap (BitVec.ofInt k.bits a ||| BitVec.ofInt k.bits b).toNat)) else none
    | .xor => if k = k' then some (.int k (k.wrap (BitVec.ofInt k.bits a ^^^ BitVec.ofInt k.bits b).toNat)) else none
    | .andNot => if k = k' then some (.int k (k.wrap (BitVec.ofInt k.bits a &&& ~~~ BitVec.ofInt k.bits b).toNat)) else none
    | .eql => if k = k' then some (.bool (a == b)) else none
    | .neq => if k = k' then some (.bool (a != b)) else none
    | .lss => if k = k' then some (.bool (a < b)) else none
    | .leq => if k = k' then some (.bool (a ≤ b)) else none
    | .gtr => if k = k' then some (.bool (a > b)) else none
    | .geq => if k = k' then some (.bool (a ≥ b)) else none
  | .str a, .str b =>
    match op with
    | .add => if a.length + b.length ≤ 281474976710656 then some (.str (a ++ b)) else none
    | .eql => some (.bool (a == b))
    | .neq => some (.bool (!(a == b)))
    | .lss => some (.bool (Op.bytesLess a b))
    | .leq => some (.bool (Op.bytesLess a b || a == b))
    | .gtr => some (.bool (!(Op.bytesLess a b || a == b)))
    | .geq => some (.bool (!(Op.bytesLess a b)))
    | _ => none
  | _, _ => none

def aun (op : UnOp) : AV → Option AV
  | .int k n =>
    match op with
    | .neg => some (.int k (k.wrap (0 - n)))
    | .xor => some (.int k (k.wrap (BitVec.ofInt k.bits (if k.signed then -1 else k.max) ^^^ BitVec.ofInt k.bits n).toNat))
    | _ => none
  | .bool b => match op with | .not => some (.bool (!b)) | _ => none
  | _ => none

/-- cs with vs from o on. -/
def putAt (cs : List AV) (o : Nat) : List AV → List AV
  | [] => cs
  | v :: vs => putAt (cs.set o v) (o + 1) vs

def afill (z : List AV) : List (Nat × Nat × AV) → Option (List AV)
  | [] => some z
  | (off, n, v) :: rest =>
    match v.cells? with
    | some cs => if cs.length = n ∧ off + n ≤ z.length then afill (putAt z off cs) rest else none
    | none => none

def rep (n : Nat) (z : List AV) : List AV := (List.replicate n z).flatten

def toBytes : List AV → Option (List UInt8)
  | [] => some []
  | .int .u8 n :: l => if 0 ≤ n ∧ n < 256 then (toBytes l).map fun s => UInt8.ofNat n.toNat :: s else none
  | _ => none

def ofBytes (s : List UInt8) : List AV := s.map fun b => .int .u8 b.toNat

def AH.cellsAt (H : AH) (i o n : Nat) : Option (List AV) :=
  match H.get i with
  | some b => if o + n ≤ b.cells.length then some ((b.cells.drop o).take n) else none
  | none => none

/-- What may be stored in a cell. -/
def solid : AV → Bool
  | .undef | .agg _ | .tup _ => false
  | _ => true

/-- What 'append' and 'copy' take over from their last argument. -/
def takeFrom (H : AH) (z : Nat) : AV → Option (List AV)
  | .nils => some []
  | .esl => some []
  | .sl i o z' n _ => if z' = z then H.cellsAt i o (n * z) else none
  | .str s => if z = 1 then some (ofBytes s) else none
  | _ => none

def lenOf : AV → Option Nat
  | .nils => some 0
  | .esl => some 0
  | .sl _ _ _ n _ => some n
  | .str s => some s.length
  | _ => none

/-- A bound of a slice expression. -/
def bnd (x : AV) (y : Nat) : Option Nat :=
  match x with
  | .int _ i => if 0 ≤ i ∧ i ≤ y then some i.toNat else none
  | _ => none

/-- low and high of a slice expression whose greatest high is m. -/
def bnds (n m : Nat) (lo hi : Option AV) : Option (Nat × Nat) :=
  match (match hi with | some v => bnd v m | none => some n) with
  | none => none
  | some h => match (match lo with | some v => bnd v h | none => some 0) with
    | none => none
    | some l => some (l, h)

def AH.store (H : AH) (i o : Nat) (vs : List AV) : Option AH :=
  if i < H.floor then none else
  match H.get i with
  | some b => if b.ro then none else if o + vs.length ≤ b.cells.length ∧ vs.all solid = true then some (H.put i { b with cells := putAt b.cells o vs }) else none
  | none => none

def ok1 (H : AH) (v : AV) : Option (Out × AH) := some (.ok v, H)
def okM (H : AH) : Option AV → Option (Out × AH)
  | some v => some (.ok v, H)
  | none => none

/-- 'append' of these cells. -/
def aapp (H : AH) (ty : TypeId) (z bytes : Nat) (s : AV) (new : List AV) : Option (Out × AH) :=
  match s with
  | .nils => if (new.length / z) * (bytes + 1) ≤ 140737488355328 ∧ ¬ z = 0 ∧ new.length % z = 0 then
      (if new = [] then ok1 H .nils else ok1 (H.push ty false new) (.sl H.next 0 z (new.length / z) none)) else none
  | .sl i o z' n c =>
    if z' = z ∧ ¬ z = 0 ∧ (n + new.length / z) * (bytes + 1) ≤ 140737488355328 ∧ new.length % z = 0 then
      (if new = [] then ok1 H (.sl i o z n c) else
       match H.cellsAt i o (n * z), H.get i with
       | some old, some b =>
         if c = some n then ok1 (H.push ty false (old ++ new)) (.sl H.next 0 z (n + new.length / z) none)
         else if b.ro = false ∧ H.floor ≤ i ∧ b.ty = ty then ok1 (H.turn i ty (b.s0 && o == 0) (old ++ new)) (.sl H.next 0 z (n + new.length / z) none)
         else none
       | _, _ => none)
    else none
  | _ => none

def exe (call : Call) (e : Env) (op : AOp) (H : AH) : Option (Out × AH) :=
  match op with
  | .mov x => ok1 H (x.val e)
  | .pick c a b => match c.val e with
    | .bool t => ok1 H (if t then a.val e else b.val e)
    | _ => none
  | .box ty x => match (x.val e).cells? with
    | some cs => ok1 (H.push ty true cs) (.ptr H.next 0)
    | none => none
  | .alloc ty z => ok1 (H.push ty true z) (.ptr H.next 0)
  | .ld1 a => match a.val e with
    | .ptr i o => match H.get i with
      | some b => okM H b.cells[o]?
      | none => none
    | _ => none
  | .ldn n a => match a.val e with
    | .ptr i o => okM H ((H.cellsAt i o n).map .agg)
    | _ => none
  | .st n a x => match a.val e, (x.val e).cells? with
    | .ptr i o, some cs => if cs.length = n then (H.store i o cs).map fun H' => (.ok (.tup []), H') else none
    | _, _ => none
  | .bin op x y => okM H (abin op (x.val e) (y.val e))
  | .eqv neg lit d x y => okM H (aeqv neg lit d (x.val e) (y.val e))
  | .un op x => okM H (aun op (x.val e))
  | .conv k x => match x.val e with
    | .int _ n => ok1 H (.int k (k.wrap n))
    | _ => none
  | .s2b ty x => match x.val e with
    | .str s => ok1 (H.push ty false (ofBytes s)) (.sl H.next 0 1 s.length none)
    | _ => none
  | .b2s x => match x.val e with
    | .str _ => none
    | u => match takeFrom H 1 u with
      | some cs => okM H ((toBytes cs).map .str)
      | none => none
  | .fld off n x => match x.val e with
    | .agg cs => okM H (fldOf cs off n)
    | _ => none
  | .fa off x => match x.val e with
    | .ptr i o => ok1 H (.ptr i (o + off))
    | _ => none
  | .ia z x i => match x.val e, i.val e with
    | .sl b o z' n _, .int _ j => if z' = z ∧ 0 ≤ j ∧ j < n then ok1 H (.ptr b (o + j.toNat * z)) else none
    | _, _ => none
  | .iaa len z x i => match x.val e, i.val e with
    | .ptr b o, .int _ j => if 0 ≤ j ∧ j < len then ok1 H (.ptr b (o + j.toNat * z)) else none
    | _, _ => none
  | .ids x i => match x.val e, i.val e with
    | .str s, .int _ j => if 0 ≤ j then okM H (s[j.toNat]?.map fun b => .int .u8 b.toNat) else none
    | _, _ => none
  | .ida len z n x i => match x.val e, i.val e with
    | .agg cs, .int _ j => if 0 ≤ j ∧ j < len then okM H (fldOf cs (j.toNat * z) n) else none
    | _, _ => none
  | .bld zero parts => okM H ((afill zero (parts.map fun (o, n, x) => (o, n, x.val e))).map .agg)
  | .bsl ty z len zero parts => match afill (rep len zero) (parts.map fun (o, n, x) => (o, n, x.val e)) with
    | some cs => ok1 (H.push ty true cs) (.sl H.next 0 z len (some len))
    | none => none
  | .sub x lo hi => match x.val e with
    | .str s => match bnds s.length s.length (lo.map (·.val e)) (hi.map (·.val e)) with
      | some (l, h) => ok1 H (.str ((s.drop l).take (h - l)))
      | none => none
    | _ => none
  | .sls z x lo hi mx => match x.val e with
    | .sl i o z' n c =>
      if z' = z then
        match mx with
        | none => match bnds n n (lo.map (·.val e)) (hi.map (·.val e)) with
          | some (l, h) => ok1 H (.sl i (o + l * z) z (h - l) (c.map (· - l)))
          | none => none
        | some m => match bnd (m.val e) n with
          | none => none
          | some m => match hi with
            | none => none
            | some hv => match bnds n m (lo.map (·.val e)) (some (hv.val e)) with
              | some (l, h) => ok1 H (.sl i (o + l * z) z (h - l) (some (m - l)))
              | none => none
      else none
    | .nils => match mx with
      | none => match bnds 0 0 (lo.map (·.val e)) (hi.map (·.val e)) with
        | some _ => ok1 H .nils
        | none => none
      | some _ => none
    | .esl => match mx with
      | none => match bnds 0 0 (lo.map (·.val e)) (hi.map (·.val e)) with
        | some _ => ok1 H .esl
        | none => none
      | some _ => none
    | _ => none
  | .sla n z x lo hi mx => match x.val e with
    | .ptr i o => match mx, H.get i with
      | none, some b => if o + n * z ≤ b.cells.length then match bnds n n (lo.map (·.val e)) (hi.map (·.val e)) with
        | some (l, h) => ok1 H (.sl i (o + l * z) z (h - l) (some (n - l)))
        | none => none
        else none
      | _, _ => none
    | _ => none
  | .lens x => match x.val e with
    | .str s => ok1 H (.int .i64 s.length)
    | _ => none
  | .lenl x => match x.val e with
    | .nils => ok1 H (.int .i64 0)
    | .esl => ok1 H (.int .i64 0)
    | .sl _ _ _ n _ => ok1 H (.int .i64 n)
    | _ => none
  | .cvs x => match x.val e with
    | .str s => ok1 H (.str s)
    | _ => none
  | .app ty z bytes x y => match takeFrom H z (y.val e) with
    | none => none
    | some new => if new.all solid = false then none else aapp H ty z bytes (x.val e) new
  | .cpy z x y => match x.val e, lenOf (y.val e), takeFrom H z (y.val e) with
    | .sl i o z' n _, some m, some cs =>
      if z' = z ∧ cs.length = m * z then
        (let k := min m n
         (H.store i o (cs.take (k * z))).map fun H' => (.ok (.int .i64 k), H'))
      else none
    | .nils, some _, some _ => ok1 H (.int .i64 0)
    | _, _, _ => none
  | .mn x y => match x.val e, y.val e with
    | .int k a, .int k' b => if k = k' then ok1 H (.int k (if b < a then b else a)) else none
    | _, _ => none
  | .mx x y => match x.val e, y.val e with
    | .int k a, .int k' b => if k = k' then ok1 H (.int k (if b > a then b else a)) else none
    | _, _ => none
  | .mks ty z bytes zero l c => match l.val e, c.val e with
    | .int .i64 a, .int .i64 b =>
      if 0 ≤ a ∧ a ≤ b ∧ b.toNat * bytes ≤ 140737488351232 ∧ b ≤ 140737488351232 ∧ zero.length = z then
        ok1 (H.push ty false (rep a.toNat zero)) (.sl H.next 0 z a.toNat (if a = b then some a.toNat else none))
      else none
    | _, _ => none
  | .ext i x => match x.val e with
    | .tup vs => okM H vs[i]?
    | _ => none
  | .call f args => call f (args.map (·.val e)) H
  | .callv f args => match f.val e with
    | .func f cs => call f (args.map (·.val e) ++ cs) H
    | _ => none
  | .mkf f cs => ok1 H (.func f (cs.map (·.val e)))
  | .mki t x => match x.val e with
    | .undef => none
    | v => ok1 H (.iface t v)
  | .ta t zero ok x => match x.val e with
    | .iface t' v => if t' = t then ok1 H (if ok then .tup [v, .bool true] else v) else if ok then ok1 H (.tup [zero, .bool false]) else none
    | .nili => if ok then ok1 H (.tup [zero, .bool false]) else none
    | _ => none
  | .nlc x => match x.val e with
    | .ptr i o => ok1 H (.ptr i o)
    | _ => none
  | .pan x => match x.val e with
    | .iface t v => some (.pan (.iface t v), H)
    | _ => none
  | .tous x => match x.val e with
    | .ptr i o => match H.get i with
      | some b => if o < b.cells.length ∧ b.ro = false then ok1 H (.ptr i o) else none
      | none => none
    | _ => none
  | .frus ty n x => match x.val e with
    | .ptr i o => match H.get i with
      | some b => if b.ty = ty ∧ o = 0 ∧ n ≤ b.cells.length ∧ b.wh = true ∧ b.ro = false then ok1 H (.ptr i o) else none
      | none => none
    | _ => none
  | .usd x => match x.val e with
    | .nils => ok1 H .nilp
    | .sl i o _ n _ => if 0 < n then ok1 H (.ptr i o) else none
    | _ => none
  | .ustr ty x n => match x.val e, n.val e with
    | .nilp, .int .i64 m => if m = 0 then ok1 H (.str []) else none
    | .ptr i o, .int .i64 m => match H.get i with
      | some b => if b.ty = ty ∧ b.ro = false ∧ b.s0 = true ∧ o = 0 ∧ H.floor ≤ i ∧ 0 < m ∧ m ≤ 140737488351232 then
          match H.cellsAt i o m.toNat with
          | some cs => okM (H.kill i) ((toBytes cs).map .str)
          | none => none
        else none
      | none => none
    | _, _ => none
  | .cap x => match x.val e with
    | .nils => ok1 H (.int .i64 0)
    | .sl _ _ _ _ (some c) => ok1 H (.int .i64 c)
    | _ => none

structure St where
  e : Env
  H : AH
  deriving Inhabited

def putd (e : Env) : Option Nat → AV → Env
  | none, _ => e
  | some d, v => (d, v) :: e

/-- Whether an operation is wanted, where that is known. -/
def want (e : Env) : Option (Nat × Bool) → Option Bool
  | none => some true
  | some (g, b) => match e.at g with
    | .bool b' => some (b' == b)
    | .tup [] => some false
    | _ => none

inductive AX where
  | nrm
  | exit (id : Nat)
  | ret
  | pan (v : AV)
  deriving Inhabited

/-- A guard's value, at hand. -/
def know (e : Env) : Option (Nat × Bool) → Env
  | none => e
  | some (g, _) => (g, e.at g) :: e

def knowA (e : Env) : Arg → Env
  | .t n => (n, e.at n) :: e
  | .c _ => e

def runR (call : Call) : List AIns → St → Option (AX × St)
  | [], s => some (.nrm, s)
  | i :: is, s => match want s.e i.guard with
    | none => none
    | some false => runR call is { s with e := putd (know s.e i.guard) i.dst (.tup []) }
    | some true => match exe call s.e i.op s.H with
      | none => none
      | some (.ok v, H) => runR call is ⟨putd (know s.e i.guard) i.dst v, H⟩
      | some (.pan v, H) => some (.pan v, ⟨s.e, H⟩)

/-- What an operation of a drawing region has left: its number, its temporary, its value, its new blocks. -/
structure DRes where
  j : Nat
  dst : Option Nat
  v : AV
  new : List (Nat × Blk)
  deriving Inhabited

/-- The temporaries as an operation sees them in every order. -/
def dEnv (done : List DRes) (all : List DIns) (deps late : List Nat) (j : Nat) (e : Env) : Env :=
  (done.filter (fun r => deps.contains r.j)).flatMap (fun r => match r.dst with | some d => [(d, r.v)] | none => []) ++
  ((all.zipIdx.filter fun (o, k) => !(deps.contains k) && !(late.contains k) && k != j).flatMap fun (o, _) => match o.ins.dst with | some d => [(d, AV.undef)] | none => []) ++ e

def newBlks (l : List (Nat × Blk)) (n : Nat) : List (Nat × Blk) := l.filter fun p => n ≤ p.1
def oldBlks (l : List (Nat × Blk)) (n : Nat) : List (Nat × Blk) := l.filter fun p => p.1 < n

/-- 'base': the heap behind the last operation of kind 2; 'seg': what was done since. -/
structure DSt where
  done : List DRes
  base : AH
  seg : List DRes
  next : Nat
  deriving Inhabited

def stepD (call : Call) (all : List DIns) (e0 : Env) (o : DIns) (j : Nat) (t : DSt) : Option DSt :=
  let e := dEnv t.done all o.deps o.late j e0
  match want e o.ins.guard with
  | none => none
  | some false => some { t with done := ⟨j, o.ins.dst, .tup [], []⟩ :: t.done }
  | some true =>
    if o.kind = 0 then
      match exe call e o.ins.op { blks := [], next := t.next, floor := t.next } with
      | some (.ok v, H) => if H.next = t.next then some { t with done := ⟨j, o.ins.dst, v, []⟩ :: t.done } else none
      | _ => none
    else if o.kind = 1 then
      match exe call e o.ins.op { blks := (t.seg.filter fun r => o.deps.contains r.j).flatMap (·.new) ++ t.base.blks, next := t.next, floor := t.next } with
      | some (.ok v, H) => some { done := ⟨j, o.ins.dst, v, newBlks H.blks t.next⟩ :: t.done, base := t.base, seg := ⟨j, o.ins.dst, v, newBlks H.blks t.next⟩ :: t.seg, next := H.next }
      | _ => none
    else
      match exe call e o.ins.op { blks := t.seg.flatMap (·.new) ++ t.base.blks, next := t.next, floor := t.base.floor } with
      | some (.ok v, H) => some { done := ⟨j, o.ins.dst, v, []⟩ :: t.done, base := H, seg := [], next := H.next }
      | _ => none

def runD (call : Call) (all : List DIns) (e0 : Env) : List DIns → Nat → DSt → Option DSt
  | [], _, t => some t
  | o :: os, j, t => match stepD call all e0 o j t with
    | some t' => runD call all e0 os (j + 1) t'
    | none => none

def runDr (call : Call) (is : List DIns) (s : St) : Option (AX × St) :=
  match runD call is s.e is 0 ⟨[], s.H, [], s.H.next⟩ with
  | some t => some (.nrm, ⟨t.done.flatMap (fun r => match r.dst with | some d => [(d, r.v)] | none => []) ++ s.e, { t.base with blks := t.seg.flatMap (·.new) ++ t.base.blks, next := t.next }⟩)
  | none => none

def keep (e : Env) : Option (List Nat) → Env
  | none => e
  | some l => l.map fun t => (t, e.at t)

def iter (body : St → Option (AX × St)) (live : Option (List Nat)) : Nat → St → Option (AX × St)
  | 0, _ => none
  | n + 1, s => match body { s with e := keep s.e live } with
    | some (.nrm, s') => iter body live n s'
    | r => r

def run (call : Call) (lf : Nat) : ACode → St → Option (AX × St)
  | .skip, s => some (.nrm, s)
  | .reg is, s => runR call is s
  | .regd is, s => runDr call is s
  | .seq a b, s => match run call lf a s with
    | some (.nrm, s') => run call lf b s'
    | r => r
  | .cond c a b, s => match c.val s.e with
    | .bool t => if t then run call lf a { s with e := knowA s.e c } else run call lf b { s with e := knowA s.e c }
    | _ => none
  | .block id b, s => match run call lf b s with
    | some (.exit id', s') => if id' = id then some (.nrm, s') else some (.exit id', s')
    | r => r
  | .loop live b, s => iter (run call lf b) live lf s
  | .exit id, s => some (.exit id, s)
  | .ret, s => some (.ret, s)
  | .trim l, s => some (.nrm, { s with e := keep s.e (some l) })

def resOf (e : Env) (H : AH) : ARes → Option AV
  | .tmp t => some (e.at t)
  | .cell1 a => match e.at a with
    | .ptr i o => match H.get i with | some b => b.cells[o]? | none => none
    | _ => none
  | .celln a n => match e.at a with
    | .ptr i o => (H.cellsAt i o n).map .agg
    | _ => none

def resAll (e : Env) (H : AH) : List ARes → Option (List AV)
  | [] => some []
  | r :: rs => match resOf e H r, resAll e H rs with
    | some v, some vs => some (v :: vs)
    | _, _ => none

def pack : List AV → AV
  | [v] => v
  | vs => .tup vs

/-- Whether a value bears no address. -/
def flat1 : AV → Bool
  | .bool _ | .int _ _ | .str _ | .nilp | .nils | .nilf | .nili | .esl => true
  | .func _ [] => true
  | _ => false
def flat2 : AV → Bool
  | .agg cs => cs.all flat1
  | v => flat1 v
def flat : AV → Bool
  | .tup vs => vs.all flat2
  | v => flat2 v

def number : List AV → Nat → Env
  | [], _ => []
  | v :: vs, n => (n, v) :: number vs (n + 1)

abbrev Tab := FuncId → Option AFun
abbrev Ext := FuncId → Option (List AV → AH → Option (Out × AH))

/-- Cells handed over by value: slices' cells are laid into blocks of their own, from k on. -/
def viewCs (H : AH) : List AV → Nat → Option (List AV × List (Nat × Blk) × Nat)
  | [], k => some ([], [], k)
  | v :: l, k =>
    if flat1 v then match viewCs H l k with
      | some (as, bs, k') => some (v :: as, bs, k')
      | none => none
    else match v with
      | .sl i o z n c => match H.get i with
        | some b => if o + n * z ≤ b.cells.length ∧ ((b.cells.drop o).take (n * z)).all flat1 = true then match viewCs H l (k + 1) with
            | some (as, bs, k') => some (.sl k 0 z n c :: as, (k, ⟨(b.cells.drop o).take (n * z), b.ro, b.ty, false, false⟩) :: bs, k')
            | none => none
          else none
        | none => none
      | _ => none

/-- Arguments handed over by value. -/
def views (H : AH) : List AV → Nat → Option (List AV × List (Nat × Blk) × Nat)
  | [], k => some ([], [], k)
  | .agg cs :: l, k => match viewCs H cs k with
    | some (cs', bs, k') => match views H l k' with
      | some (as, bs', k'') => some (.agg cs' :: as, bs ++ bs', k'')
      | none => none
    | none => none
  | v :: l, k => match viewCs H [v] k with
    | some ([v'], bs, k') => match views H l k' with
      | some (as, bs', k'') => some (v' :: as, bs ++ bs', k'')
      | none => none
    | _ => none

/-- Results handed back: at most one is a slice, whose block goes over to the caller. -/
def backs (H2 : AH) (kp : Nat) (H : AH) : List AV → Option (List AV × AH)
  | [] => some ([], H)
  | v :: vs =>
    if flat2 v then match backs H2 kp H vs with
      | some (vs', H') => some (v :: vs', H')
      | none => none
    else match v with
      | .sl i o z n c => if kp ≤ i ∧ vs.all flat2 = true then match H2.get i with
          | some b => if b.ro = false ∧ b.cells.all flat1 = true then some (.sl H.next o z n c :: vs, { H with blks := (H.next, b) :: H.blks, next := H.next + 1 }) else none
          | none => none
        else none
      | _ => none

def acall (G : Nat) (T : List (Nat × Blk)) (X : Ext) (M : Tab) : Nat → Call
  | 0, _, _, _ => none
  | n + 1, f, args, H => match X f with
    | some g => g args H
    | none => match M f with
      | none => none
      | some fn =>
        if fn.view then match views H args G with
          | none => none
          | some (as, bs, kp) => match run (acall G T X M n) n fn.code ⟨number as 0, ⟨bs ++ T, kp, kp⟩⟩ with
            | some (.nrm, s) | some (.ret, s) => match resAll s.e s.H fn.res with
              | some vs => match backs s.H kp H vs with
                | some (vs', H') => some (.ok (pack vs'), H')
                | none => none
              | none => none
            | _ => none
        else match run (acall G T X M n) n fn.code ⟨number args 0, H⟩ with
        | some (.nrm, s) | some (.ret, s) => match resAll s.e s.H fn.res with
          | some vs => some (.ok (pack vs), s.H)
          | none => none
        | some (.pan v, s) => some (.pan v, s.H)
        | _ => none

end Go.Am
