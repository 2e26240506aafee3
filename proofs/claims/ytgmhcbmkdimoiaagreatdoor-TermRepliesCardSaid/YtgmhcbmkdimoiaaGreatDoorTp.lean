/-
  The states of a terminal of four rows and six columns, as lists of objects. No conditions.
-/
import Derived.Test.YtgmhcbmkdimoiaaGreatDoorAm25
import Derived.Test.YtgmhcbmkdimoiaaGreatDoorTaB
import Derived.KernelRfl
set_option maxRecDepth 1000000
namespace Go.Am
/-- A list of pairs as a map of numbers; elsewhere the identity. -/
noncomputable def sg (l : List (Nat × Nat)) (n : Nat) : Nat := List.rec (motive := fun _ => Nat) n (fun p _ ih => sel (Nat.beq p.1 n) p.2 ih) l
noncomputable def mkk (l : List (Nat × AObj)) (h : Hp) (k : Hp → Prop) : Prop :=
  List.rec (motive := fun _ => Hp → (Hp → Prop) → Prop) (fun h k => k h) (fun p _ ih h k => hset h p.1 p.2 fun h => ih h k) l h k
def Chk (σ : Nat → Nat) (h : Hp) (l : List (Nat × AObj)) : Prop :=
  List.rec (motive := fun _ => Prop) True (fun p _ ih => (hget h (σ p.1) = some p.2) ∧ ih) l
def ChkR (l : List (Nat × AObj)) : Prop :=
  List.rec (motive := fun _ => Prop) True (fun p _ ih => (some p.2 = some p.2) ∧ ih) l
inductive PV where
  | n | a | b
inductive RV where
  | n | o | row (m : Nat) (l : List AVal) | hid (m : Nat) (l : List AVal)
inductive RL where
  | r0 | r1 | r2 | r3
structure D where
  row : AVal
  col : AVal
  wrap : AVal
  char : AVal
  rl : RL
  at_ : Nat
  gone : Nat
  top : Nat
  first : Nat
  u2 : AVal
  u3 : AVal
  L : Nat → List AVal
  pf : AVal
  ps : AVal
  say : AVal
  pv : PV
  fk : Nat → AVal
  rp : RV
def gN (n : Nat) : AVal := .int .i64 (.ofNat n)
def pvv (ν : Nat → Nat) (p : PV) : AVal := match p with | .n => .nils | .a => .slc (ν 30) 0 0 none | .b => .slc (ν 30) 0 1 none
def rvv (ν : Nat → Nat) (p : RV) : AVal := match p with | .n => .nils | .o => .slo (ν 31) 0 | .row m _ => .slc (ν 31) 0 m none | .hid m _ => .slo (ν 31) m
def rvo (ν : Nat → Nat) (p : RV) : AObj := match p with | .n => .hrow [] 5 1 (ν 33) | .o => .hrow [] 5 1 (ν 33) | .row _ l => .row l 5 (.grow 1) | .hid _ l => .hrow l 5 1 (ν 33)
def rlv (ν : Nat → Nat) (p : RL) : AVal := match p with | .r0 => .nils | .r1 => .slc (ν 26) 0 1 none | .r2 => .slc (ν 26) 0 2 none | .r3 => .slc (ν 26) 0 3 none
def rlo (ν : Nat → Nat) (p : RL) : List AVal := match p with | .r0 => [] | .r1 => [.slc (ν 27) 0 6 none] | .r2 => [.slc (ν 27) 0 6 none, .slc (ν 28) 0 6 none] | .r3 => [.slc (ν 27) 0 6 none, .slc (ν 28) 0 6 none, .slc (ν 29) 0 6 none]
def zc : List AVal := [.int .i32 (.ofNat 0), gN 0, gN 0, gN 0, gN 0]
def blank : List AVal := [.int .i32 (.ofNat 0), gN 0, gN 0, gN 0, gN 0, .int .i32 (.ofNat 0), gN 0, gN 0, gN 0, gN 0, .int .i32 (.ofNat 0), gN 0, gN 0, gN 0, gN 0, .int .i32 (.ofNat 0), gN 0, gN 0, gN 0, gN 0, .int .i32 (.ofNat 0), gN 0, gN 0, gN 0, gN 0, .int .i32 (.ofNat 0), gN 0, gN 0, gN 0, gN 0]
def b8 (n : Nat) : AVal := .int .u8 (.ofNat n)
def fB : AVal := .bool false
/-- The objects of a terminal's state, their names by ν. -/
def Ts (ν : Nat → Nat) (d : D) : List (Nat × AObj) :=
  [(0, .row [gN 4, gN 6, gN 2, gN 2, gN 3, gN 2000, .ptr (ν 1) 0, .ptr (ν 2) 0, .ptr (ν 3) 0, .nilp, .nils, fB, rvv ν d.rp, gN d.first, gN 0] 56 .exact),
   (1, .row [.ptr (ν 4) 0, .ptr (ν 5) 0, gN 0, d.row, d.col, d.wrap, gN 0, gN 0, gN 0, fB, b8 66, b8 66, gN 0, gN 0, gN 0, fB, gN 0, gN 0, gN 0, fB, b8 0, b8 0, gN 0, fB, gN 0, gN 0, fB, gN 0, gN 0, gN 0, fB, b8 0, b8 0, gN 0, fB, .map (ν 6), .map (ν 7), gN 0, gN 4, .ptr (ν 8) 0, d.char, .nils] 98 .exact),
   (2, .row [gN 2000, .ptr (ν 9) 0, .ptr (ν 10) 0, .nilp, d.fk 0, d.fk 1, d.fk 2, d.fk 3, d.fk 4, d.fk 5, d.fk 6, d.fk 7, d.fk 8, d.fk 9, d.fk 10, d.fk 11, d.fk 12, d.fk 13, d.fk 14, d.fk 15, d.fk 16, d.fk 17, d.fk 18, d.fk 19, d.fk 20, d.fk 21] 110 .exact),
   (3, .row [gN 0, fB, .ptr (ν 11) 0, b8 0, .nils, fB, d.pf, pvv ν d.pv, d.ps, gN 0, .nils, d.say] 116 .exact),
   (4, .row [.ptr (ν 12) 0, gN 4, gN 6, .slc (ν 13) 0 4 none, gN d.top] 147 .exact),
   (5, .row [.ptr (ν 14) 0, gN 4, gN 6, .slc (ν 15) 0 4 none, gN 0] 147 .exact),
   (6, .map [] 0),
   (7, .map [(gN 7, .bool true, 0), (gN 25, .bool true, 1)] 2),
   (8, .row [gN 6, .map (ν 16)] 229 .exact),
   (9, .row [gN 2000, gN 0, gN 0, gN 0, .map (ν 17)] 168 .exact),
   (10, .row [.nils] 170 .exact),
   (11, .row [.int .i32 (.ofNat 0), gN 0, d.u2, d.u3] 172 .exact),
   (12, .row [gN 3, rlv ν d.rl, gN d.at_, gN d.gone] 226 .exact),
   (13, .row [.slc (ν 18) 0 6 none, .slc (ν 19) 0 6 none, .slc (ν 20) 0 6 none, .slc (ν 21) 0 6 none] 43 (.grow 1)),
   (14, .row [gN 0, .nils, gN 0, gN 0] 226 .exact),
   (15, .row [.slc (ν 22) 0 6 none, .slc (ν 23) 0 6 none, .slc (ν 24) 0 6 none, .slc (ν 25) 0 6 none] 43 (.grow 1)),
   (16, .map [] 0),
   (17, .map [] 0),
   (18, .row (d.L 0) 78 (.grow 5)),
   (19, .row (d.L 1) 78 (.grow 5)),
   (20, .row (d.L 2) 78 (.grow 5)),
   (21, .row (d.L 3) 78 (.grow 5)),
   (22, .row blank 78 (.grow 5)),
   (23, .row blank 78 (.grow 5)),
   (24, .row blank 78 (.grow 5)),
   (25, .row blank 78 (.grow 5)),
   (26, .row (rlo ν d.rl) 43 (.grow 1)),
   (27, .row (d.L 4) 78 (.grow 5)),
   (28, .row (d.L 5) 78 (.grow 5)),
   (29, .row (d.L 6) 78 (.grow 5)),
   (30, .row [gN 5] 3 (.grow 1)),
   (31, rvo ν d.rp)]
def idN (n : Nat) : Nat := n
noncomputable def RunW (F : FuncId → Option FEnt) (cmd : List AVal) (m : Nat) (d : D) (k : HK) : Prop :=
  mkk (Ts idN d) .nil fun h => hset h 32 (.row cmd 5 .exact) fun h => callk true F 100000 7 [.ptr 0 0, .slc 32 0 m (some m)] h 40 k
end Go.Am
namespace Go.Am
def cmdB (c : Nat) : List AVal := match c with
  | 0 => [b8 27, b8 91, b8 53, b8 110]
  | 1 => [b8 27, b8 91, b8 99]
  | 2 => [b8 27, b8 95, b8 71, b8 97, b8 61, b8 113, b8 44, b8 105, b8 61, b8 51, b8 44, b8 115, b8 61, b8 49, b8 44, b8 118, b8 61, b8 49, b8 59, b8 65, b8 65, b8 65, b8 65, b8 65, b8 65, b8 27, b8 92]
  | _ => [b8 120]
def cmdN (c : Nat) : Nat := match c with | 0 => 4 | 1 => 3 | 2 => 27 | _ => 1
/-- What is replied. -/
def repB (c : Nat) : List AVal := match c with
  | 0 => [b8 27, b8 91, b8 48, b8 110]
  | 1 => [b8 27, b8 91, b8 63, b8 54, b8 50, b8 59, b8 52, b8 99]
  | 2 => [b8 27, b8 95, b8 71, b8 105, b8 61, b8 51, b8 59, b8 79, b8 75, b8 27, b8 92]
  | _ => []
def repN (c : Nat) : Nat := match c with | 0 => 4 | 1 => 8 | 2 => 11 | _ => 0
def RV.add (r : RV) (c : Nat) : RV := match r with | .n => .row (repN c) (repB c) | _ => .hid (repN c) (repB c)
def PV.low (p : PV) : PV := match p with | .n => .n | _ => .a
def say39 : AVal := .fn 39 [] []
def fkq (n : Nat) : AVal := match n with | 0 => b8 113 | 1 => b8 100 | 2 => b8 0 | 3 => b8 97 | 4 => gN 0 | 5 => gN 32 | 6 => gN 1 | 7 => gN 1 | 8 => gN 3 | _ => gN 0
def post (c : Nat) (d : D) : D := match c with
  | 0 => { d with u2 := b8 0, u3 := b8 0, pf := fB, ps := .bool true, say := say39, pv := .b, rp := d.rp.add 0 }
  | 1 => { d with u2 := b8 0, u3 := b8 0, pf := fB, ps := fB, say := say39, pv := d.pv.low, rp := d.rp.add 1 }
  | 2 => { d with u2 := b8 0, u3 := b8 0, pf := .bool true, ps := fB, say := say39, pv := d.pv.low, fk := fkq, rp := d.rp.add 2 }
  | _ => d
def sgl (c : Nat) (p : PV) : List (Nat × Nat) := match c with
  | 0 => [(30, 90), (31, 141)]
  | 1 => match p with | .n => [(31, 124)] | _ => [(31, 125)]
  | 2 => [(31, 1191)]
  | _ => []
def cls (q : Nat) : RL × Nat × Nat × Nat × Nat := match q with
  | 0 => (.r0, 0, 0, 0, 0) | 1 => (.r1, 0, 0, 1, 0) | 2 => (.r2, 0, 0, 2, 0) | 3 => (.r3, 0, 0, 3, 0) | 4 => (.r3, 1, 1, 4, 1) | 5 => (.r3, 2, 2, 5, 2) | _ => (.r3, 0, 3, 6, 3)
def mkD (q : Nat) (pv : PV) (rp : RV) (row col wrap char u2 u3 pf ps say : AVal) (L : Nat → List AVal) (fk : Nat → AVal) : D :=
  ⟨row, col, wrap, char, (cls q).1, (cls q).2.1, (cls q).2.2.1, (cls q).2.2.2.1, (cls q).2.2.2.2, u2, u3, L, pf, ps, say, pv, fk, rp⟩
noncomputable def Run3 (F : FuncId → Option FEnt) (c : Nat) (d d' : D) (σ : Nat → Nat) : Prop :=
  RunW F (cmdB c) (cmdN c) d (fun v h _ => (v = AVal.tup []) ∧ Chk σ h (Ts σ d'))
end Go.Am
namespace Go.Am
def xc : List AVal := [.int .i32 (.ofNat 120), gN 0, gN 0, gN 0, gN 0]
/-- A line of so many signs. -/
def xs (n : Nat) : List AVal := match n with
  | 0 => blank
  | 1 => [.int .i32 (.ofNat 120), gN 0, gN 0, gN 0, gN 0, .int .i32 (.ofNat 0), gN 0, gN 0, gN 0, gN 0, .int .i32 (.ofNat 0), gN 0, gN 0, gN 0, gN 0, .int .i32 (.ofNat 0), gN 0, gN 0, gN 0, gN 0, .int .i32 (.ofNat 0), gN 0, gN 0, gN 0, gN 0, .int .i32 (.ofNat 0), gN 0, gN 0, gN 0, gN 0]
  | 2 => [.int .i32 (.ofNat 120), gN 0, gN 0, gN 0, gN 0, .int .i32 (.ofNat 120), gN 0, gN 0, gN 0, gN 0, .int .i32 (.ofNat 0), gN 0, gN 0, gN 0, gN 0, .int .i32 (.ofNat 0), gN 0, gN 0, gN 0, gN 0, .int .i32 (.ofNat 0), gN 0, gN 0, gN 0, gN 0, .int .i32 (.ofNat 0), gN 0, gN 0, gN 0, gN 0]
  | 3 => [.int .i32 (.ofNat 120), gN 0, gN 0, gN 0, gN 0, .int .i32 (.ofNat 120), gN 0, gN 0, gN 0, gN 0, .int .i32 (.ofNat 120), gN 0, gN 0, gN 0, gN 0, .int .i32 (.ofNat 0), gN 0, gN 0, gN 0, gN 0, .int .i32 (.ofNat 0), gN 0, gN 0, gN 0, gN 0, .int .i32 (.ofNat 0), gN 0, gN 0, gN 0, gN 0]
  | 4 => [.int .i32 (.ofNat 120), gN 0, gN 0, gN 0, gN 0, .int .i32 (.ofNat 120), gN 0, gN 0, gN 0, gN 0, .int .i32 (.ofNat 120), gN 0, gN 0, gN 0, gN 0, .int .i32 (.ofNat 120), gN 0, gN 0, gN 0, gN 0, .int .i32 (.ofNat 0), gN 0, gN 0, gN 0, gN 0, .int .i32 (.ofNat 0), gN 0, gN 0, gN 0, gN 0]
  | 5 => [.int .i32 (.ofNat 120), gN 0, gN 0, gN 0, gN 0, .int .i32 (.ofNat 120), gN 0, gN 0, gN 0, gN 0, .int .i32 (.ofNat 120), gN 0, gN 0, gN 0, gN 0, .int .i32 (.ofNat 120), gN 0, gN 0, gN 0, gN 0, .int .i32 (.ofNat 120), gN 0, gN 0, gN 0, gN 0, .int .i32 (.ofNat 0), gN 0, gN 0, gN 0, gN 0]
  | 6 => [.int .i32 (.ofNat 120), gN 0, gN 0, gN 0, gN 0, .int .i32 (.ofNat 120), gN 0, gN 0, gN 0, gN 0, .int .i32 (.ofNat 120), gN 0, gN 0, gN 0, gN 0, .int .i32 (.ofNat 120), gN 0, gN 0, gN 0, gN 0, .int .i32 (.ofNat 120), gN 0, gN 0, gN 0, gN 0, .int .i32 (.ofNat 120), gN 0, gN 0, gN 0, gN 0]
  | _ => []
end Go.Am
namespace Go.Am
structure XR where
  row : Nat
  col : Nat
  wrap : Bool
  char : Int
  q : Nat
  a : Nat
  b : Nat
  c : Nat
  d : Nat
def xl (r : XR) (i : Nat) : List AVal := match i with
  | 0 => xs r.a | 1 => xs r.b | 2 => xs r.c | 3 => xs r.d
  | 4 => match r.q with | 0 => [] | _ => xs 6
  | 5 => match r.q with | 0 => [] | 1 => [] | _ => xs 6
  | _ => match r.q with | 0 => [] | 1 => [] | 2 => [] | _ => xs 6
def xd (r : XR) (pv : PV) (rp : RV) (u2 u3 pf ps say : AVal) (fk : Nat → AVal) : D :=
  mkD r.q pv rp (gN r.row) (gN r.col) (.bool r.wrap) (.int .i32 r.char) u2 u3 pf ps say (xl r) fk
end Go.Am
