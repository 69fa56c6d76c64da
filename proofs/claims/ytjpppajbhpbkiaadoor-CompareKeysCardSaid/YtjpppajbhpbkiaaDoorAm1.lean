/-
The compiler from the translated code to the abstract machine's code. Its conditions: none, these are definitions.
-/
import Derived.Test.YtjpppajbhpbkiaaDoorAm0
set_option linter.unusedSimpArgs false
set_option linter.unusedVariables false
namespace Go.Am

def ofV1 : Value → Option AV
  | .bool b => some (.bool b)
  | .int k n => some (.int k n)
  | .string s => some (.str s.data.toList)
  | .pointer none => some .nilp
  | .slice none 0 0 => some .nils
  | .nilFunc => some .nilf
  | .nilIface => some .nili
  | _ => none

def ofVs : List Value → Option (List AV)
  | [] => some []
  | v :: vs => match ofV1 v, ofVs vs with
    | some a, some as => some (a :: as)
    | _, _ => none

def ofV : Value → Option AV
  | .agg cs => (ofVs cs.toList).map .agg
  | v => ofV1 v

def ofOp (P : Program) : Operand → Option Arg
  | .tmp t => some (.t t)
  | .const v => (ofV v).map .c
  | .global g => if g < P.globals.size then some (.c (.ptr g 0)) else none
  | .func f => some (.c (.func f []))

def ofOps (P : Program) : List Operand → Option (List Arg)
  | [] => some []
  | x :: xs => match ofOp P x, ofOps P xs with
    | some a, some as => some (a :: as)
    | _, _ => none

def szOf (P : Program) (t : TypeId) : Option Nat := (P.info? t).map (·.size)
def byOf (P : Program) (t : TypeId) : Option Nat := (P.info? t).map (·.bytes)
def zOf (P : Program) (t : TypeId) : Option (List AV) :=
  match (P.info? t).bind (·.zero) with
  | some z => ofVs z.cells.toList
  | none => none
def aggT (P : Program) (t : TypeId) : Option Bool :=
  match P.underlying t with
  | some (.struct _) => some true
  | some (.array _ _) => some true
  | some _ => some false
  | none => none

/-- A part of a value: how many cells it has where it is a struct or an array. -/
def partN (P : Program) (t : TypeId) : Option (Option Nat) :=
  match aggT P t with
  | some true => (szOf P t).map some
  | some false => some none
  | none => none

def ety1 (P : Program) (t : TypeId) : Option ETy :=
  match P.underlying t with
  | some (.int _) => some .int
  | some .bool => some .bool
  | some .string => some .str
  | some (.pointer e) => match szOf P e with
    | some (_ + 1) => some .ptr
    | _ => none
  | some (.interface _) => some .iface
  | some (.slice _) => some .slice
  | some (.func _ _ _) => some .func
  | _ => none

def etyFs (P : Program) : List Field → Option (List (Nat × Option Nat × ETy))
  | [] => some []
  | f :: fs => if f.name = "_" then none else
    match P.underlying f.type, etyFs P fs with
    | some (.int _), some l => some ((f.offset, none, .int) :: l)
    | some .bool, some l => some ((f.offset, none, .bool) :: l)
    | some .string, some l => some ((f.offset, none, .str) :: l)
    | _, _ => none

def ety (P : Program) (t : TypeId) : Option ETy :=
  match P.underlying t with
  | some (.struct fs) => if P.stoodInHeld t || P.eqGuardType P.depth t then none else (etyFs P fs.toList).map .st
  | _ => ety1 P t

def isConst : Operand → Bool
  | .const _ => true
  | _ => false

def optOp (P : Program) : Option Operand → Option (Option Arg)
  | none => some none
  | some x => (ofOp P x).map some

def partsOf (P : Program) (place : Nat → Option (Nat × Nat)) : List (Nat × Operand) → Option (List (Nat × Nat × Arg))
  | [] => some []
  | (i, x) :: rest => match place i, ofOp P x, partsOf P place rest with
    | some (o, n), some a, some l => some ((o, n, a) :: l)
    | _, _, _ => none

def fplace (P : Program) (fs : Array Field) (i : Nat) : Option (Nat × Nat) :=
  match fs[i]? with
  | some f => (szOf P f.type).map fun n => (f.offset, n)
  | none => none

def fszs (P : Program) : List Field → Bool
  | [] => true
  | f :: fs => (szOf P f.type).isSome && fszs P fs

/-- A builtin's call. -/
def cbi (P : Program) (b : Builtin) (ats : List TypeId) (args : List Operand) : Option AOp :=
  match b, ats, args with
  | .len, [t], [x] => match P.underlying t, ofOp P x with
    | some .string, some a => some (.lens a)
    | some (.slice _), some a => some (.lenl a)
    | some (.array n _), some _ => some (.mov (.c (.int .i64 n)))
    | some (.pointer arr), some _ => match P.underlying arr with
      | some (.array n _) => some (.mov (.c (.int .i64 n)))
      | _ => none
    | _, _ => none
  | .append, [t, u], [x, y] => match P.underlying t, ofOp P x, ofOp P y with
    | some (.slice e), some a, some b => match P.underlying u, szOf P e, byOf P e, zOf P e with
      | some (.slice _), some z, some by_, some zl => if zl.length = z then some (.app e z by_ a b) else none
      | some .string, some z, some by_, some zl => if zl.length = z then some (.app e z by_ a b) else none
      | _, _, _, _ => none
    | _, _, _ => none
  | .copy, [t, _], [x, y] => match P.underlying t, ofOp P x, ofOp P y with
    | some (.slice e), some a, some b => (szOf P e).map fun z => .cpy z a b
    | _, _, _ => none
  | .min, [_, _], [x, y] => match ofOp P x, ofOp P y with
    | some a, some b => some (.mn a b)
    | _, _ => none
  | .max, [_, _], [x, y] => match ofOp P x, ofOp P y with
    | some a, some b => some (.mx a b)
    | _, _ => none
  | .panic, _, [x] => (ofOp P x).map .pan
  | .cap, [t], [x] => match P.underlying t with
    | some (.slice _) => (ofOp P x).map .cap
    | _ => none
  | .unsafeSliceData, _, [x] => (ofOp P x).map .usd
  | .unsafeString, [t, _], [x, n] => match P.underlying t, ofOp P x, ofOp P n with
    | some (.pointer e), some a, some b => if szOf P e = some 1 then some (.ustr e a b) else none
    | _, _, _ => none
  | _, _, _ => none

def ccall (P : Program) (c : Go.Call) : Option AOp :=
  match c.callee with
  | .value (.func f) => match P.funcs[f]?, ofOps P c.args.toList with
    | some _, some as => some (.call f as)
    | _, _ => none
  | .value (.tmp t) => (ofOps P c.args.toList).map fun as => .callv (.t t) as
  | .builtin b => cbi P b c.argTypes.toList c.args.toList
  | _ => none

def cop (P : Program) (o : Oper) : Option AOp :=
  match o.op with
  | .move x => (ofOp P x).map .mov
  | .assign x => (ofOp P x).map .mov
  | .pick c a b => match ofOp P c, ofOp P a, ofOp P b with
    | some c, some a, some b => some (.pick c a b)
    | _, _, _ => none
  | .alloc t => (zOf P t).map (.alloc t)
  | .box t x => (ofOp P x).map (.box t)
  | .build t parts => match zOf P t, P.underlying t with
    | some z, some (.struct fs) => if fszs P fs.toList then (partsOf P (fplace P fs) parts.toList).map fun l => .bld z l else none
    | some z, some (.array _ e) => match szOf P e with
      | some n => (partsOf P (fun i => some (i * n, n)) parts.toList).map fun l => .bld z l
      | none => none
    | _, _ => none
  | .buildSlice t len parts => match P.underlying t with
    | some (.slice e) => match szOf P e, zOf P e with
      | some n, some z => if len * n ≤ 16777216 ∧ z.length = n then (partsOf P (fun i => some (i * n, n)) parts.toList).map fun l => .bsl e n len z l else none
      | _, _ => none
    | _ => none
  | .load t a => match partN P t, ofOp P a with
    | some none, some x => some (.ld1 x)
    | some (some n), some x => some (.ldn n x)
    | _, _ => none
  | .store t a x => match szOf P t, ofOp P a, ofOp P x with
    | some n, some a, some x => some (.st n a x)
    | _, _, _ => none
  | .nilCheck x => (ofOp P x).map .nlc
  | .binOp op t x y _ => match ofOp P x, ofOp P y with
    | some a, some b =>
      if op = .eql ∨ op = .neq then
        match ety P t with
        | some .int => some (.bin op a b)
        | some .str => some (.bin op a b)
        | some d => some (.eqv (op == .neq) (isConst x || isConst y) d a b)
        | none => none
      else some (.bin op a b)
    | _, _ => none
  | .unOp op _ x => (ofOp P x).map fun a => .un op a
  | .convert s d x => match P.underlying s, P.underlying d, ofOp P x with
    | some (.int _), some (.int k), some a => some (.conv k a)
    | some .string, some .string, some a => some (.cvs a)
    | some .string, some (.slice e), some a => match P.underlying e with
      | some (.int .u8) => some (.s2b e a)
      | _ => none
    | some (.slice e), some .string, some a => match P.underlying e with
      | some (.int .u8) => some (.b2s a)
      | _ => none
    | some (.pointer t), some .unsafePointer, some a => match szOf P t with
      | some (_ + 1) => some (.tous a)
      | _ => none
    | some .unsafePointer, some (.pointer u), some a => match szOf P u with
      | some (n + 1) => some (.frus u (n + 1) a)
      | _ => none
    | _, _, _ => none
  | .makeInterface t x => match P.underlying t, ofOp P x with
    | some (.interface _), _ => none
    | some _, some a => some (.mki t a)
    | _, _ => none
  | .makeFunc (.func f) first cs => if first.size = 0 then (ofOps P cs.toList).map fun as => .mkf f as else none
  | .makeSlice t l c => match P.underlying t, ofOp P l, ofOp P c with
    | some (.slice e), some a, some b => match szOf P e, byOf P e, zOf P e with
      | some n, some by_, some z => if z.length = n then some (.mks e n by_ z a b) else none
      | _, _, _ => none
    | _, _, _ => none
  | .slice t x lo hi mx => match P.underlying t, ofOp P x, optOp P lo, optOp P hi, optOp P mx with
    | some .string, some a, some lo, some hi, some none => some (.sub a lo hi)
    | some (.slice e), some a, some lo, some hi, some mx => (szOf P e).map fun z => .sls z a lo hi mx
    | some (.array n e), some a, some lo, some hi, some mx => (szOf P e).map fun z => .sla n z a lo hi mx
    | _, _, _, _, _ => none
  | .fieldAddr t x f => match P.underlying t, ofOp P x with
    | some (.struct fs), some a => match fs[f]? with
      | some fd => match szOf P fd.type with
        | some (_ + 1) => some (.fa fd.offset a)
        | _ => none
      | none => none
    | _, _ => none
  | .field t x f => match P.underlying t, ofOp P x with
    | some (.struct fs), some a => match fs[f]? with
      | some fd => (partN P fd.type).map fun n => .fld fd.offset n a
      | none => none
    | _, _ => none
  | .indexAddr t x i => match P.underlying t, ofOp P x, ofOp P i with
    | some (.array n e), some a, some b => (szOf P e).map fun z => .iaa n z a b
    | some (.slice e), some a, some b => (szOf P e).map fun z => .ia z a b
    | _, _, _ => none
  | .index t x i => match P.underlying t, ofOp P x, ofOp P i with
    | some .string, some a, some b => some (.ids a b)
    | some (.array n e), some a, some b => match szOf P e, partN P e with
      | some z, some p => some (.ida n z p a b)
      | _, _ => none
    | _, _, _ => none
  | .typeAssert x _ t ok => match P.underlying t, (P.info? t).bind (·.zero), ofOp P x with
    | some (.interface _), _, _ => none
    | some _, some z, some a => (ofV z).map fun z => .ta t z ok a
    | _, _, _ => none
  | .extract x i => (ofOp P x).map fun a => .ext i a
  | .call c => ccall P c
  | .panic x => (ofOp P x).map .pan
  | _ => none

/-- What the machine can't do is 'extract' of no tuple: it is stuck there. -/
def bad : AOp := .ext 0 (.c .nilp)

def cins (P : Program) (nt : Nat) (ops : Array Oper) (o : Oper) : AIns :=
  if o.dst.all (· < nt) then
    match o.guard with
    | none => ⟨o.dst, (cop P o).getD bad, none⟩
    | some (j, b) => match (ops[j]?).bind (·.dst) with
      | some g => ⟨o.dst, (cop P o).getD bad, some (g, b)⟩
      | none => ⟨none, bad, none⟩
  else ⟨none, bad, none⟩

def heapOp : AOp → Bool
  | .mov _ | .pick _ _ _ | .bin _ _ _ | .eqv _ _ _ _ _ | .un _ _ | .conv _ _ | .fld _ _ _ | .fa _ _ | .ia _ _ _ | .iaa _ _ _ _ | .ids _ _ | .ida _ _ _ _ _
  | .bld _ _ | .sub _ _ _ | .sls _ _ _ _ _ | .lens _ | .lenl _ | .cvs _ | .mn _ _ | .mx _ _ | .ext _ _ | .mkf _ _ | .mki _ _ | .ta _ _ _ _ | .nlc _ | .cap _ | .usd _ => false
  | _ => true

/-- All that must precede each operation, by the numbers. -/
def depsAll : List Oper → List (List Nat) → List (List Nat)
  | [], acc => acc
  | o :: os, acc =>
    let ds := (o.after.toList.filter fun e => Region.binds .any e).map (·.on)
    let all := (ds ++ ds.flatMap fun d => acc.getD d []).eraseDups
    depsAll os (acc ++ [all])

def dins (P : Program) (nt : Nat) (ops : Array Oper) : List DIns :=
  let deps := depsAll ops.toList []
  let is := ops.toList.map (cins P nt ops)
  let heap := is.map fun i => heapOp i.op
  is.zipIdx.map fun (i, j) =>
    let dj := deps.getD j []
    let late := (List.range is.length).filter fun k => (deps.getD k []).contains j
    let tot := (List.range is.length).all fun k => k == j || !(heap.getD k true) || dj.contains k || late.contains k
    ⟨i, dj, late, if !(heap.getD j true) then 0 else if tot then 2 else 1⟩

def nodup : List Nat → Bool
  | [] => true
  | x :: xs => !xs.contains x && nodup xs

def comp (P : Program) (nt : Nat) : Code → ACode
  | .skip => .skip
  | .label _ => .skip
  | .region _ ops false => .reg (ops.toList.map (cins P nt ops))
  | .region _ ops true => if nodup (ops.toList.filterMap (·.dst)) && ((dins P nt ops).zipIdx.all fun (o, j) => o.deps.all (· < j)) then .regd (dins P nt ops) else .reg [⟨none, bad, none⟩]
  | .seq a b => .seq (comp P nt a) (comp P nt b)
  | .cond c a b => match ofOp P c with
    | some x => .cond x (comp P nt a) (comp P nt b)
    | none => .reg [⟨none, bad, none⟩]
  | .block id b => .block id (comp P nt b)
  | .loop b => .loop none (comp P nt b)
  | .exit id => .exit id
  | .ret => .ret
  | _ => .reg [⟨none, bad, none⟩]

def cres (P : Program) : ResultVar → Option ARes
  | .tmp t => some (.tmp t)
  | .cell a t => match partN P t with
    | some none => some (.cell1 a)
    | some (some n) => some (.celln a n)
    | none => none

def cress (P : Program) : List ResultVar → Option (List ARes)
  | [] => some []
  | r :: rs => match cres P r, cress P rs with
    | some a, some as => some (a :: as)
    | _, _ => none

def cfun (P : Program) (fn : Func) : Option AFun :=
  match fn.body, cress P fn.results.toList with
  | some c, some rs => if fn.name != "runtime.NumGoroutine" then some ⟨fn.ntmps, rs, comp P fn.ntmps c, false⟩ else none
  | _, _ => none

/-- What the generator tells: nothing; a loop's temporaries; a region's pieces: how many operations, and what is kept behind them. -/
inductive Hint where
  | no
  | keep (l : List Nat)
  | cut (l : List (Nat × List Nat))

def pieces (is : List AIns) : List (Nat × List Nat) → ACode
  | [] => .reg is
  | [(_, t)] => .seq (.reg is) (.trim t)
  | (n, t) :: l => .seq (.seq (.reg (is.take n)) (.trim t)) (pieces (is.drop n) l)

def relive : ACode → List Hint → ACode × List Hint
  | .seq a b, l => ((.seq (relive a l).1 (relive b (relive a l).2).1), (relive b (relive a l).2).2)
  | .cond c a b, l => ((.cond c (relive a l).1 (relive b (relive a l).2).1), (relive b (relive a l).2).2)
  | .block id b, l => (.block id (relive b l).1, (relive b l).2)
  | .loop _ b, .keep x :: l => (.loop (some x) (relive b l).1, (relive b l).2)
  | .loop k b, .no :: l => (.loop k (relive b l).1, (relive b l).2)
  | .reg is, .cut h :: l => (pieces is h, l)
  | .reg is, .no :: l => (.reg is, l)
  | .regd is, .keep x :: l => (.seq (.regd is) (.trim x), l)
  | .regd is, .no :: l => (.regd is, l)
  | c, l => (c, l)

def cfunL (P : Program) (fn : Func) (l : List Hint) (view : Bool) : Option AFun :=
  (cfun P fn).map fun f => { f with code := (relive f.code l).1, view := view }

end Go.Am
