/-
  The abstract machine, part 2: its values, its code, and how a program's code is compiled to it. No conditions.
-/
import Derived.Test.YtgmhcbmkdimoiaaGreatDoorAm1
namespace Go.Am

/-- A value: memory by names of regions, an unknown capacity hidden. -/
inductive AVal where
  | bool (b : Bool)
  | int (k : IntKind) (n : Int)
  | str (s : List Nat)
  | nilp
  | ptr (n off : Nat)
  | nils
  | slc (n off len : Nat) (cap : Option Nat)
  | emp (n : Nat) (none : Bool)
  | nilm
  | map (n : Nat)
  | fn (f : FuncId) (first caps : List AVal)
  | nilf
  | ifc (t : TypeId) (v : AVal)
  | nili
  | agg (cs : List AVal)
  | tup (vs : List AVal)
  | slo (n len : Nat)
  | tok (j : Nat)
  deriving Inhabited

def AVal.cells : AVal → List AVal
  | .agg cs => cs
  | v => [v]

inductive Opd where
  | t (i : Nat)
  | c (v : AVal)
  deriving Inhabited

/-- What a plain cell is. -/
inductive Kd where
  | i (k : IntKind) | b | s
  deriving Inhabited

/-- An operation, its types resolved. -/
inductive AOp where
  | mv (x : Opd)
  | asg (x : Opd)
  | pick (c a b : Opd)
  | box (t : TypeId) (s : Nat) (x : Opd)
  | alloc (t : TypeId) (z : List AVal)
  | bld (z : List AVal) (ps : List (Nat × Nat × Opd))
  | bsl (t : TypeId) (s : Nat) (z : List AVal) (len : Nat) (ps : List (Nat × Opd))
  | ld (n : Option Nat) (x : Opd)
  | st (n : Nat) (a x : Opd)
  | nilc (x : Opd)
  | bin (op : BinOp) (x y : Opd)
  | eqv (neg : Bool) (ks : List Kd) (x y : Opd)
  | eqb (neg : Bool) (x y : Opd)
  | eqn (neg : Bool) (kind : Nat) (x y : Opd)
  | un (op : UnOp) (x : Opd)
  | ci (k : IntKind) (x : Opd)
  | s2b (t : TypeId) (x : Opd)
  | b2s (x : Opd)
  | i2s (x : Opd)
  | ids (x : Opd)
  | cpu (x : Opd)
  | cup (u : TypeId) (s : Nat) (x : Opd)
  | usd (x : Opd)
  | uss (u : TypeId) (p n : Opd)
  | frz (x : Opd)
  | mki (t : TypeId) (x : Opd)
  | mkf (f : FuncId) (first caps : List Opd)
  | mkm
  | mks (t : TypeId) (s bytes : Nat) (z : List AVal) (l c : Opd)
  | slS (x : Opd) (lo hi : Option Opd)
  | slL (s : Nat) (x : Opd) (lo hi mx : Option Opd)
  | slA (n s : Nat) (x : Opd) (lo hi mx : Option Opd)
  | fad (off : Nat) (x : Opd)
  | fld (off : Nat) (n : Option Nat) (x : Opd)
  | iaA (len s : Nat) (x i : Opd)
  | iaS (s : Nat) (x i : Opd)
  | ixA (len s : Nat) (n : Option Nat) (x i : Opd)
  | ixS (x i : Opd)
  | lk (ints : Bool) (z : AVal) (ok : Bool) (x i : Opd)
  | mup (ints : Bool) (m k v : Opd)
  | rng (x : Opd)
  | rngS (x : Opd)
  | nxt (x : Opd)
  | nxtS (x : Opd)
  | ent (x : Opd)
  | s2a (n : Nat) (x : Opd)
  | ta (asserted : TypeId) (z : AVal) (x : Opd)
  | tav (asserted : TypeId) (x : Opd)
  | ext (x : Opd) (i : Nat)
  | callF (f : FuncId) (args : List Opd)
  | callV (x : Opd) (args : List Opd)
  | inv (tab : List (TypeId × FuncId)) (x : Opd) (args : List Opd)
  | lenS (x : Opd)
  | lenL (x : Opd)
  | lenM (x : Opd)
  | cap (x : Opd)
  | app (t : TypeId) (s bytes : Nat) (z : List AVal) (x y : Opd)
  | appz (t : TypeId) (s bytes : Nat) (z : List AVal) (x y : Opd)
  | cpy (s : Nat) (x y : Opd)
  | mn (xs : List Opd)
  | mx (xs : List Opd)
  | del (m k : Opd)
  | clr (m : Opd)
  | bad
  deriving Inhabited

structure AOper where
  dst : Option Nat
  op : AOp
  guard : Option (Nat × Bool)
  deriving Inhabited

/-- Code: 'reg' in the order of the text; 'dreg' in any order that the edges allow: it stands in an order in which all but the writing ones are as late as may be; beside one that makes memory its name among those, beside one that looks how many of the writing ones ahead may also be behind it. -/
inductive ACode where
  | skip
  | reg (ops : List AOper)
  | dreg (nf : Nat) (ops : List (AOper × Nat))
  | seq (a b : ACode)
  | cond (c : Opd) (a b : ACode)
  | block (id : Nat) (b : ACode)
  | loop (b : ACode)
  | exit (id : Nat)
  | scope (b : ACode)
  | ret
  | bad
  deriving Inhabited

inductive ARes where
  | t (i : Nat)
  | cell (a : Nat) (n : Option Nat)

structure AFun where
  ntmps : Nat
  res : List ARes
  body : ACode

section compile
variable (P : Program)

/-- A plain value as an abstract one. -/
def aOf : Nat → Value → Option AVal
  | 0, _ => none
  | _ + 1, .bool b => some (.bool b)
  | _ + 1, .int k n => some (.int k n)
  | _ + 1, .string s => some (.str (s.data.toList.map UInt8.toNat))
  | _ + 1, .pointer none => some .nilp
  | _ + 1, .slice none 0 0 => some .nils
  | _ + 1, .map none => some .nilm
  | _ + 1, .nilFunc => some .nilf
  | _ + 1, .nilIface => some .nili
  | _ + 1, .func (.func f) a b => if a.isEmpty && b.isEmpty then some (.fn f [] []) else none
  | n + 1, .agg cs => (cs.toList.mapM (aOf n)).map .agg
  | n + 1, .tuple cs => (cs.toList.mapM (aOf n)).map .tup
  | _, _ => none

def cOpd : Operand → Option Opd
  | .tmp t => some (.t t)
  | .const v => (aOf 5 v).map .c
  | .func f => some (.c (.fn f [] []))
  | .global _ => none

def cOpds (l : Array Operand) : Option (List Opd) := l.toList.mapM cOpd

def cOpt : Option Operand → Option (Option Opd)
  | none => some none
  | some x => (cOpd x).map some

/-- A type's size, if it is an aggregate. -/
def aggSize (t : TypeId) : Option (Option Nat) :=
  match P.info? t, P.underlying t with
  | some i, some (.struct _) => some (some i.size)
  | some i, some (.array _ _) => some (some i.size)
  | some _, some _ => some none
  | _, _ => none

def sizeOf? (t : TypeId) : Option Nat := (P.info? t).map (·.size)
def bytesOf? (t : TypeId) : Option Nat := (P.info? t).map (·.bytes)

/-- A type's zero, if it is plain and of its size. -/
def zero? (t : TypeId) : Option AVal := ((P.info? t).bind (·.zero)).bind (aOf 5)
def zeroCells? (t : TypeId) : Option (List AVal) :=
  match zero? P t, sizeOf? P t with
  | some z, some s => if z.cells.length = s then some z.cells else none
  | _, _ => none

def repl (n : Nat) (z : List AVal) : List AVal := (List.range n).flatMap fun _ => z

def elemOf? (t : TypeId) : Option TypeId :=
  match P.underlying t with
  | some (.slice e) => some e
  | _ => none

def isInts (t : TypeId) : Bool := (P.underlying t) matches some (.int _)

/-- What a method's name leads to, for plain receivers. -/
def invTab (name : String) : List (TypeId × FuncId) :=
  (List.range P.types.size).filterMap fun t =>
    match P.info? t with
    | none => none
    | some i =>
      match i.methods.find? (·.name == name) with
      | some m => match m.func with
        | some (f, p) =>
          if m.path.isEmpty && (P.underlying t).isSome && ((P.funcs[f]?).any (·.body.isSome)) && (p == ((P.underlying t) matches some (.pointer _))) then some (t, f) else none
        | none => none
      | none => none

/-- The cells of a type that is made of integers, bools and strings alone, one behind the other, without blank fields. -/
def flatT : Nat → TypeId → Option (List Kd)
  | 0, _ => none
  | d + 1, t =>
    match P.underlying t with
    | some (.int k) => if sizeOf? P t == some 1 then some [.i k] else none
    | some .bool => if sizeOf? P t == some 1 then some [.b] else none
    | some .string => if sizeOf? P t == some 1 then some [.s] else none
    | some (.struct fs) => do
      let l ← fs.toList.foldlM (fun (acc : List Kd) f => do
        if f.name == "_" || f.offset != acc.length then none else
        let k ← flatT d f.type
        if sizeOf? P f.type != some k.length then none else pure (acc ++ k)) []
      if sizeOf? P t != some l.length || P.cutTypes.any (·.2 == t) || P.stoodInHeld t then none else pure l
    | some (.array n e) => do
      let k ← flatT d e
      if sizeOf? P e != some k.length || sizeOf? P t != some (n * k.length) then none else pure (List.replicate n k).flatten
    | _ => none

/-- Strings and slices, seen through pointers. -/
def cUns (b : Builtin) (args : List Operand) (ats : List TypeId) : Option AOp :=
  match b with
  | .unsafeSliceData => match args with
    | [x] => (cOpd x).map .usd
    | _ => none
  | .unsafeString => match args, ats with
    | [p, n], [pt, _] => match P.underlying pt with
      | some (.pointer u) => match P.underlying u, sizeOf? P u with
        | some (.int .u8), some 1 => do pure (.uss u (← cOpd p) (← cOpd n))
        | _, _ => none
      | _ => none
    | _, _ => none
  | _ => none

def cOp : Op → Option AOp
  | .move x => (cOpd x).map .mv
  | .assign x => (cOpd x).map .asg
  | .pick c a b => do pure (.pick (← cOpd c) (← cOpd a) (← cOpd b))
  | .alloc e => do pure (.alloc e (← zeroCells? P e))
  | .box e x => do pure (.box e (← sizeOf? P e) (← cOpd x))
  | .build t ps =>
    match P.underlying t with
    | some (.struct fs) => do
      let z ← zeroCells? P t
      let pl ← fs.toList.mapM fun f => (P.info? f.type).map fun i => (f.offset, i.size)
      let ps ← ps.toList.mapM fun p => do
        let q ← pl[p.1]?
        pure (q.1, q.2, ← cOpd p.2)
      pure (.bld z ps)
    | some (.array _ e) => do
      let z ← zeroCells? P t
      let s ← sizeOf? P e
      let ps ← ps.toList.mapM fun p => do pure (p.1 * s, s, ← cOpd p.2)
      pure (.bld z ps)
    | _ => none
  | .buildSlice t len ps => do
    let e ← elemOf? P t
    let s ← sizeOf? P e
    let z ← zeroCells? P e
    if len * s > 2 ^ 24 || s = 0 then none else
    pure (.bsl e s z len (← ps.toList.mapM fun p => do pure (p.1 * s, ← cOpd p.2)))
  | .load t x => do pure (.ld (← aggSize P t) (← cOpd x))
  | .store t a x => do pure (.st (← sizeOf? P t) (← cOpd a) (← cOpd x))
  | .nilCheck x => (cOpd x).map .nilc
  | .binOp op xt x y _ => do
    let a ← cOpd x
    let b ← cOpd y
    match op, ← P.underlying xt with
    | _, .int _ => pure (.bin op a b)
    | .eql, .bool => pure (.eqb false a b)
    | .neq, .bool => pure (.eqb true a b)
    | _, .string => pure (.bin op a b)
    | .eql, .pointer e => match sizeOf? P e with
      | some (_ + 1) => pure (.eqn false 0 a b)
      | _ => none
    | .neq, .pointer e => match sizeOf? P e with
      | some (_ + 1) => pure (.eqn true 0 a b)
      | _ => none
    | .eql, .slice _ => pure (.eqn false 1 a b)
    | .neq, .slice _ => pure (.eqn true 1 a b)
    | .eql, .map _ _ => pure (.eqn false 2 a b)
    | .neq, .map _ _ => pure (.eqn true 2 a b)
    | .eql, .func _ _ _ => pure (.eqn false 3 a b)
    | .neq, .func _ _ _ => pure (.eqn true 3 a b)
    | .eql, .struct _ | .eql, .array _ _ => if P.eqGuardType P.depth xt then none else do pure (.eqv false (← flatT P 6 xt) a b)
    | .neq, .struct _ | .neq, .array _ _ => if P.eqGuardType P.depth xt then none else do pure (.eqv true (← flatT P 6 xt) a b)
    | _, _ => none
  | .unOp op _ x => do pure (.un op (← cOpd x))
  | .convert s d x => do
    let a ← cOpd x
    match ← P.underlying s, ← P.underlying d with
    | .int _, .int k => pure (.ci k a)
    | .string, .string => pure (.ids a)
    | .int _, .string => pure (.i2s a)
    | .string, .slice e => match P.underlying e with
      | some (.int .u8) => pure (.s2b e a)
      | _ => none
    | .slice e, .string => match P.underlying e with
      | some (.int .u8) => pure (.b2s a)
      | _ => none
    | .pointer t, .unsafePointer => match sizeOf? P t with
      | some (_ + 1) => pure (.cpu a)
      | _ => none
    | .unsafePointer, .pointer u => match sizeOf? P u with
      | some (n + 1) => pure (.cup u (n + 1) a)
      | _ => none
    | .slice _, .slice e => match s == d, P.underlying e with
      | true, some (.int .u8) => pure (.frz a)
      | _, _ => none
    | _, _ => none
  | .sliceToArrayPointer arr x => match P.underlying arr with
    | some (.array n _) => do pure (.s2a n (← cOpd x))
    | _ => none
  | .makeInterface xt x => match P.underlying xt with
    | some (.interface _) => none
    | some _ => do pure (.mki xt (← cOpd x))
    | none => none
  | .makeFunc (.func f) a b => do pure (.mkf f (← cOpds a) (← cOpds b))
  | .makeMap _ none => pure .mkm
  | .makeSlice t l c => do
    let e ← elemOf? P t
    let s ← sizeOf? P e
    let b ← bytesOf? P e
    if s = 0 || b = 0 then none else pure (.mks e s b (← zeroCells? P e) (← cOpd l) (← cOpd c))
  | .slice t x l h m => do
    let a ← cOpd x
    let lo ← cOpt l
    let hi ← cOpt h
    let mx ← cOpt m
    if mx.isSome && hi.isNone then none else
    match ← P.underlying t with
    | .string => match mx with
      | none => pure (.slS a lo hi)
      | some _ => none
    | .slice e => do
      let s ← sizeOf? P e
      if s = 0 then none else pure (.slL s a lo hi mx)
    | .array n e => do
      let s ← sizeOf? P e
      if s = 0 then none else pure (.slA n s a lo hi mx)
    | _ => none
  | .fieldAddr s x f => match P.underlying s with
    | some (.struct fs) => match fs[f]? with
      | some fl => match sizeOf? P fl.type with
        | some (_ + 1) => do pure (.fad fl.offset (← cOpd x))
        | _ => none
      | none => none
    | _ => none
  | .field s x f => match P.underlying s with
    | some (.struct fs) => do
      let f ← fs[f]?
      pure (.fld f.offset (← aggSize P f.type) (← cOpd x))
    | _ => none
  | .indexAddr t x i => match P.underlying t with
    | some (.array n e) => do pure (.iaA n (← sizeOf? P e) (← cOpd x) (← cOpd i))
    | some (.slice e) => do pure (.iaS (← sizeOf? P e) (← cOpd x) (← cOpd i))
    | _ => none
  | .index t x i => match P.underlying t with
    | some (.array n e) => do pure (.ixA n (← sizeOf? P e) (← aggSize P e) (← cOpd x) (← cOpd i))
    | some .string => do pure (.ixS (← cOpd x) (← cOpd i))
    | _ => none
  | .lookup t x i ok => match P.underlying t with
    | some (.map k e) => if isInts P k then do pure (.lk true (← zero? P e) ok (← cOpd x) (← cOpd i)) else none
    | _ => none
  | .mapUpdate t m k v | .insert t m k v => match P.underlying t with
    | some (.map kt _) => if isInts P kt then do pure (.mup true (← cOpd m) (← cOpd k) (← cOpd v)) else none
    | _ => none
  | .range t x => match P.underlying t with
    | some (.map _ _) => (cOpd x).map .rng
    | some .string => (cOpd x).map .rngS
    | _ => none
  | .next x false => (cOpd x).map .nxt
  | .next x true => (cOpd x).map .nxtS
  | .entry x => (cOpd x).map .ent
  | .typeAssert x _ a true => match P.underlying a with
    | some (.interface _) => none
    | some _ => do pure (.ta a (← zero? P a) (← cOpd x))
    | none => none
  | .typeAssert x _ a false => match P.underlying a with
    | some (.interface _) => none
    | some _ => do pure (.tav a (← cOpd x))
    | none => none
  | .extract x i => do pure (.ext (← cOpd x) i)
  | .call { callee := .value (.func f), args, .. } => do pure (.callF f (← cOpds args))
  | .call { callee := .value x, args, .. } => do pure (.callV (← cOpd x) (← cOpds args))
  | .call { callee := .invoke r name, args, .. } => do pure (.inv (invTab P name) (← cOpd r) (← cOpds args))
  | .call { callee := .builtin b, args, argTypes } =>
    match b, args.toList, argTypes.toList with
    | .len, [x], [t] => match P.underlying t with
      | some .string => (cOpd x).map .lenS
      | some (.slice _) => (cOpd x).map .lenL
      | some (.map _ _) => (cOpd x).map .lenM
      | some (.array n _) => some (.mv (.c (.int .i64 n)))
      | _ => none
    | .cap, [x], [t] => match P.underlying t with
      | some (.slice _) => (cOpd x).map .cap
      | _ => none
    | .append, [x, y], [t, u] => do
      let e ← elemOf? P t
      let s ← sizeOf? P e
      let b ← bytesOf? P e
      let z ← zeroCells? P e
      if s = 0 || b = 0 then none else
      match ← P.underlying u with
      | .int _ => pure (.appz e s b z (← cOpd x) (← cOpd y))
      | _ => pure (.app e s b z (← cOpd x) (← cOpd y))
    | .copy, [x, y], [t, _] => do
      let e ← elemOf? P t
      pure (.cpy (← sizeOf? P e) (← cOpd x) (← cOpd y))
    | .min, xs, _ => (xs.mapM cOpd).map .mn
    | .max, xs, _ => (xs.mapM cOpd).map .mx
    | .delete, [m, k], [t, _] => match P.underlying t with
      | some (.map kt _) => if isInts P kt then do pure (.del (← cOpd m) (← cOpd k)) else none
      | _ => none
    | .clear, [m], [t] => match P.underlying t with
      | some (.map _ _) => (cOpd m).map .clr
      | _ => none
    | b, xs, ts => cUns P b xs ts
  | _ => none

def cOper (ops : Array Oper) (nt : Nat) (o : Oper) : AOper :=
  { dst := o.dst, guard := o.guard.bind fun (j, b) => ((ops[j]?).bind (·.dst)).map (·, b), op :=
      if (match o.guard with | some (j, _) => ((ops[j]?).bind (·.dst)).isSome | none => true) && (match o.dst with | some d => decide (d < nt) | none => true)
      then (cOp P o.op).getD .bad else .bad }

def Opd.tmps : Opd → List Nat
  | .t i => [i]
  | .c _ => []
def oT : Option Opd → List Nat
  | some x => x.tmps
  | none => []

def AOp.tmps : AOp → List Nat
  | .mv x | .asg x | .cpu x | .cup _ _ x | .usd x | .box _ _ x | .ld _ x | .nilc x | .un _ x | .ci _ x | .s2b _ x | .b2s x | .i2s x | .ids x | .frz x | .mki _ x | .fad _ x | .fld _ _ x
  | .rng x | .rngS x | .nxt x | .nxtS x | .ent x | .s2a _ x | .ta _ _ x | .tav _ x | .ext x _ | .lenS x | .lenL x | .lenM x | .cap x | .clr x => x.tmps
  | .pick c a b => c.tmps ++ a.tmps ++ b.tmps
  | .alloc _ _ | .mkm | .bad => []
  | .bld _ ps => ps.flatMap (·.2.2.tmps)
  | .bsl _ _ _ _ ps => ps.flatMap (·.2.tmps)
  | .st _ a x | .uss _ a x | .bin _ a x | .eqv _ _ a x | .eqb _ a x | .eqn _ _ a x | .mks _ _ _ _ a x | .iaA _ _ a x | .iaS _ a x | .ixA _ _ _ a x | .ixS a x | .lk _ _ _ a x | .app _ _ _ _ a x | .appz _ _ _ _ a x | .cpy _ a x | .del a x => a.tmps ++ x.tmps
  | .mkf _ a b => a.flatMap Opd.tmps ++ b.flatMap Opd.tmps
  | .slS x l h => x.tmps ++ oT l ++ oT h
  | .slL _ x l h m | .slA _ _ x l h m => x.tmps ++ oT l ++ oT h ++ oT m
  | .mup _ m k v => m.tmps ++ k.tmps ++ v.tmps
  | .callF _ l => l.flatMap Opd.tmps
  | .callV x l | .inv _ x l => x.tmps ++ l.flatMap Opd.tmps
  | .mn l | .mx l => l.flatMap Opd.tmps

/-- Operations that hand on what is there already. -/
def AOp.passes : AOp → Bool
  | .mv .. | .ld .. | .fld .. | .ext .. => true
  | _ => false

/-- Operations that only make memory of what they are handed. -/
def AOp.floats : AOp → Bool
  | .box .. | .alloc .. | .bsl .. | .s2b .. | .mkm | .mks .. => true
  | _ => false
/-- Operations that only look into memory. -/
def AOp.looks : AOp → Bool
  | .cpu .. | .cup .. | .ld .. | .b2s .. | .slL .. | .lk .. | .ent .. | .lenM .. => true
  | _ => false
def AOp.writes : AOp → Bool
  | .asg .. | .uss .. | .st .. | .frz .. | .mup .. | .rng .. | .rngS .. | .nxt .. | .nxtS .. | .callF .. | .callV .. | .inv .. | .app .. | .appz .. | .cpy .. | .del .. | .clr .. | .bad => true
  | _ => false

def AOper.names (o : AOper) : List Nat := o.op.tmps ++ (match o.guard with | some (t, _) => [t] | none => [])

/-- Which operations are surely ahead of each. -/
def closure (pre : List (List Nat)) : List (List Nat) :=
  pre.foldl (fun acc l => acc ++ [(l.flatMap fun j => j :: acc.getD j []).eraseDups]) []

/-- A part of an open region without writing operations: what is done in it (its index; beside one that makes memory its index and 2, else 0), and what is looked at once more at its end. -/
abbrev DSeg := List (Nat × Nat) × List Nat

section plan
variable (n : Nat) (pre cl : List (List Nat)) (A : Nat → AOper)

def bef (j i : Nat) : Bool := (cl.getD i []).contains j

def opsOK (lw : Option Nat) : List (Nat × Nat) → List Nat → Option (List Nat)
  | [], pr => some pr
  | (i, c) :: r, pr =>
    if decide (i < n) && !pr.contains i && !(A i).op.writes && lw.all (fun w => bef cl w i) && (pre.getD i []).all (fun m => pr.contains m) && (c == if (A i).op.floats then i + 2 else 0)
    then opsOK lw r (i :: pr) else none

def segOK (lw : Option Nat) (s : DSeg) (pr : List Nat) : Option (List Nat) :=
  match opsOK n pre cl A lw s.1 pr with
  | some pr => if s.2.all (fun j => pr.contains j && (A j).op.looks) && pr.all (fun j => !(A j).op.looks || s.2.contains j || pr.any (fun w => (A w).op.writes && bef cl j w)) then some pr else none
  | none => none

def segsOK (lw : Option Nat) : List (Nat × DSeg) → List Nat → Bool
  | [], pr => (List.range n).all (fun i => pr.contains i)
  | (w, s) :: r, pr =>
    decide (w < n) && !pr.contains w && (A w).op.writes && lw.all (fun v => bef cl v w) && (pre.getD w []).all (fun m => pr.contains m) &&
      match segOK n pre cl A (some w) s (w :: pr) with
      | some pr => segsOK (some w) r pr
      | none => false

def pairsOK : Bool :=
  (List.range n).all fun i => (List.range n).all fun j =>
    (i == j || (match (A i).dst, (A j).dst with | some a, some b => a != b | _, _ => true)) &&
    (match (A j).dst with
      | some d => !(A i).names.contains d || (i != j && (bef cl j i || (bef cl i j && ((A i).op.writes || (A j).op.writes))))
      | none => true)

def edgesOK : Bool :=
  (List.range n).all fun i => (pre.getD i []).all (fun j => decide (j < i)) && (cl.getD i []).all fun j => (pre.getD i []).contains j || (pre.getD i []).any fun m => bef cl j m

def planOK (s0 : DSeg) (l : List (Nat × DSeg)) : Bool :=
  edgesOK n pre cl && pairsOK n cl A && match segOK n pre cl A none s0 [] with
    | some pr => segsOK n pre cl A none l pr
    | none => false

def dents (s : DSeg) : List (AOper × Nat) := s.1.map (fun p => (A p.1, p.2)) ++ s.2.map (fun i => (A i, 1))
def dall (s0 : DSeg) (l : List (Nat × DSeg)) : List (AOper × Nat) := dents A s0 ++ l.flatMap (fun p => (A p.1, 0) :: dents A p.2)
end plan

/-- An open region: every operation that does not write is done as soon as all is there; what looks into memory looks again behind each writing one that may be ahead of it. -/
def cDraw (ops : List AOper) (pre : List (List Nat)) : ACode :=
  let cl := closure pre
  let n := ops.length
  let ix := List.range n
  let A (i : Nat) : AOper := ops.getD i default
  let ws := ix.filter fun i => (A i).op.writes
  let early (i : Nat) : Nat := (ws.filter fun w => bef cl w i).length
  let late (i : Nat) : Nat := (ws.filter fun w => !bef cl i w).length
  let seg (k : Nat) : DSeg := ((ix.filter fun i => !(A i).op.writes && early i == k).map (fun i => (i, if (A i).op.floats then i + 2 else 0)),
    ix.filter fun i => (A i).op.looks && decide (early i ≤ k) && decide (k ≤ late i))
  let s0 := seg 0
  let l := (ws.zipIdx 1).map fun p => (p.1, seg p.2)
  if planOK n pre cl A s0 l then .dreg n (dall A s0 l) else .bad

def cCode (nt : Nat) : Code → ACode
  | .skip => .skip
  | .region _ ops false => .reg (ops.toList.map (cOper P ops nt))
  | .region _ ops true => cDraw (ops.toList.map (cOper P ops nt)) (ops.toList.map fun o => (o.after.toList.filter (Region.binds .any)).map (·.on))
  | .seq a b => .seq (cCode nt a) (cCode nt b)
  | .cond c a b => match cOpd c with
    | some c => .cond c (cCode nt a) (cCode nt b)
    | none => .bad
  | .block id b => .block id (cCode nt b)
  | .loop b => .loop (cCode nt b)
  | .exit id => .exit id
  | .scope b => .scope (cCode nt b)
  | .label _ => .skip
  | .ret => .ret
  | _ => .bad

def cRes : ResultVar → Option ARes
  | .tmp t => some (.t t)
  | .cell a t => do pure (.cell a (← aggSize P t))

def cFun (f : Func) : Option AFun := do
  let b ← f.body
  let rs ← f.results.toList.mapM (cRes P)
  if f.name == "runtime.NumGoroutine" then none else
  pure { ntmps := f.ntmps, res := rs, body := cCode P f.ntmps b }
end compile
end Go.Am
