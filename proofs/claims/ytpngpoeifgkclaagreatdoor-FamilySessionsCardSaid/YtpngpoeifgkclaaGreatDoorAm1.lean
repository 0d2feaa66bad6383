/- A machine that the kernel runs, and the proof that what it answers is what the model of Go answers (part 1 of 3). No condition. -/
import Derived.Calls
import Derived.Laws.Sem
import Derived.Laws.World
import Derived.Laws.Cells
import Derived.Laws.Entries
import Derived.Laws.StructEq
import Derived.Laws.Strings2
import Derived.Lib.Bytealg
import Derived.Laws.Externs
/- The abstract machine: its data, its memory. Nothing here speaks of a program. -/
namespace Go.Proofs.YtpngpoeifgkclaaGreatDoor.Am

/-! ### Digits -/

inductive Dg where
  | x0
  | x1
  | x2
  | x3
  | x4
  | x5
  | x6
  | x7
  | x8
  | x9
  | xa
  | xb
  | xc
  | xd
  | xe
  | xf
  deriving DecidableEq

inductive D4 where
  | q0
  | q1
  | q2
  | q3
  deriving DecidableEq

def Dg.val : Dg → Nat
  | .x0 => 0
  | .x1 => 1
  | .x2 => 2
  | .x3 => 3
  | .x4 => 4
  | .x5 => 5
  | .x6 => 6
  | .x7 => 7
  | .x8 => 8
  | .x9 => 9
  | .xa => 10
  | .xb => 11
  | .xc => 12
  | .xd => 13
  | .xe => 14
  | .xf => 15

def D4.val : D4 → Nat
  | .q0 => 0
  | .q1 => 1
  | .q2 => 2
  | .q3 => 3

/-- The number of a block, or of a function: three digits, the highest first. -/
inductive Hi where
  | mk (a b c : Dg)
  deriving DecidableEq
def Hi.val : Hi → Nat
  | .mk a b c => a.val * 256 + b.val * 16 + c.val

/-! ### Values -/

inductive AFn where
  | func (f : Hi)
  | yield (b : Hi)

inductive AV where
  | no
  | bool (b : Bool)
  | int (k : Nat) (n : Int)
  | str (n v : Nat)
  | nilp
  | ptr (b : Hi) (o : Nat)
  | nils
  | slice (b : Hi) (o len : Nat) (cap : Option Nat)
  | nilm
  | map (b : Hi)
  | nilf
  | func (f : AFn) (fi ca : List AV)
  | nili
  | iface (t : Nat) (v : AV)
  | agg (l : List AV)
  | tup (l : List AV)
  | sym (k : Nat)

/-- What a frame keeps: 64 temporaries. -/
structure V16 where
  c0 : AV
  c1 : AV
  c2 : AV
  c3 : AV
  c4 : AV
  c5 : AV
  c6 : AV
  c7 : AV
  c8 : AV
  c9 : AV
  c10 : AV
  c11 : AV
  c12 : AV
  c13 : AV
  c14 : AV
  c15 : AV

def V16.fill (v : AV) : V16 := ⟨v, v, v, v, v, v, v, v, v, v, v, v, v, v, v, v⟩

def V16.get (t : V16) : Dg → AV
  | .x0 => t.c0
  | .x1 => t.c1
  | .x2 => t.c2
  | .x3 => t.c3
  | .x4 => t.c4
  | .x5 => t.c5
  | .x6 => t.c6
  | .x7 => t.c7
  | .x8 => t.c8
  | .x9 => t.c9
  | .xa => t.c10
  | .xb => t.c11
  | .xc => t.c12
  | .xd => t.c13
  | .xe => t.c14
  | .xf => t.c15

def V16.set (t : V16) (v : AV) : Dg → V16
  | .x0 => { t with c0 := v }
  | .x1 => { t with c1 := v }
  | .x2 => { t with c2 := v }
  | .x3 => { t with c3 := v }
  | .x4 => { t with c4 := v }
  | .x5 => { t with c5 := v }
  | .x6 => { t with c6 := v }
  | .x7 => { t with c7 := v }
  | .x8 => { t with c8 := v }
  | .x9 => { t with c9 := v }
  | .xa => { t with c10 := v }
  | .xb => { t with c11 := v }
  | .xc => { t with c12 := v }
  | .xd => { t with c13 := v }
  | .xe => { t with c14 := v }
  | .xf => { t with c15 := v }
structure VT where
  s0 : V16
  s1 : V16
  s2 : V16
  s3 : V16

def VT.fill (v : V16) : VT := ⟨v, v, v, v⟩

def VT.get (t : VT) : D4 → V16
  | .q0 => t.s0
  | .q1 => t.s1
  | .q2 => t.s2
  | .q3 => t.s3

def VT.set (t : VT) (v : V16) : D4 → VT
  | .q0 => { t with s0 := v }
  | .q1 => { t with s1 := v }
  | .q2 => { t with s2 := v }
  | .q3 => { t with s3 := v }

/-- A kept temporary's place. -/
inductive Kp where
  | mk (a : D4) (d : Dg)
  deriving DecidableEq
def Kp.val : Kp → Nat
  | .mk a d => a.val * 16 + d.val
def VT.at (T : VT) : Kp → AV
  | .mk a d => (T.get a).get d
def VT.put (T : VT) (v : AV) : Kp → VT
  | .mk a d => T.set ((T.get a).set v d) a
def VT.none : VT := VT.fill (V16.fill .no)

/-! ### Code -/

inductive Opd where
  | loc (j : Nat)
  | kep (p : Kp)
  | con (v : AV)

inductive IBin where
  | add | sub | mul | quo | rem | and | or | xor | andNot | shl | shr
inductive ICmp where
  | eq | ne | lt | le | gt | ge
inductive SBin where
  | eq | ne | cat
/-- What two values of a type without an order are held against each other by. -/
inductive EqKind where
  | bool | ptr | slice | map | func | iface

inductive VO where
  | mv (x : Opd)
  | pick (c a b : Opd)
  | build (z : List AV) (ps : List (Nat × Nat × Opd))
  | ld1 (x : Opd)
  | ldn (x : Opd) (n : Nat)
  | nck (x : Opd)
  | bin (o : IBin) (k hi lo : Nat) (x y : Opd)
  | cmp (o : ICmp) (x y : Opd)
  | sbin (o : SBin) (x y : Opd)
  | eqk (e : EqKind) (neg : Bool) (x y : Opd)
  | eqa (qs : List Nat) (neg : Bool) (x y : Opd)
  | not (x : Opd)
  | neg (k hi lo : Nat) (x : Opd)
  | cvi (k hi lo : Nat) (x : Opd)
  | cbs (x : Opd)
  | mif (t : Nat) (x : Opd)
  | mfn (f : Hi) (fi ca : List Opd)
  | slS (x : Opd) (lo hi : Option Opd)
  | slL (x : Opd) (lo hi mx : Option Opd) (sz : Nat)
  | slA (x : Opd) (lo hi mx : Option Opd) (len sz : Nat)
  | fad (x : Opd) (off : Nat)
  | fld (x : Opd) (off n : Nat) (agg : Bool)
  | ixL (x i : Opd) (sz : Nat)
  | ixA (x i : Opd) (len sz : Nat)
  | ixS (x i : Opd)
  | ixG (x i : Opd) (len n : Nat) (agg : Bool)
  | lup (q : Nat) (m k : Opd) (z : AV) (ok : Bool)
  | tas (x : Opd) (t : Nat) (z : AV)
  | ext (x : Opd) (i : Nat)
  | lnS (x : Opd)
  | lnL (x : Opd)
  | lnM (x : Opd)
  | mn (x y : Opd)
  | mx (x y : Opd)
  | ibs (x c : Opd)
  | cts (x c : Opd)
  | ent (x : Opd)
  | str (x : Opd)

inductive NO where
  | alloc (z : List AV)
  | box (x : Opd)
  | bsl (z : List AV) (n sz : Nat) (ps : List (Nat × Nat × Opd))
  | mkm
  | mks (z : List AV) (sz : Nat) (len cap : Opd)
  | csb (x : Opd)
  | rgS (x : Opd)

inductive SO where
  | st1 (a v : Opd)
  | stn (a v : Opd) (n : Nat)
  | mup (q : Nat) (m k v : Opd)
  | est (m s v : Opd)

inductive XO where
  | app (x y : Opd) (sz bytes : Nat) (z : List AV)
  | apps (x y : Opd)
  | cpy (x y : Opd) (sz : Nat)
  | nxS (x : Opd)
  | men (q : Nat) (m k : Opd) (z : AV)
  | rgM (x : Opd)

inductive Dst where
  | no
  | lo
  | ke (p : Kp)

inductive AOp where
  | v (d : Dst) (o : VO)
  | n (d : Dst) (o : NO)
  | s (o : SO)
  | x (d : Dst) (o : XO)
  | call (d : Dst) (f : Opd) (args : List Opd)
  | callf (d : Dst) (f : Hi) (args : List Opd)
  | dfr (f : Opd) (args : List Opd)
  | pnc (x : Opd)
  | rcv (d : Dst)
  | grd (g : Opd) (want : Bool) (d : Dst) (o : AOp)

/-- A step of a region that draws its order: an operation without an effect on what was there, asked with the new blocks that it waits for; or one with an effect, behind the new blocks that it waits for, and ahead of the reads that are asked again. -/
inductive DStep where
  | q (mats : List Nat) (o : AOp)
  | e (mats : List Nat) (o : AOp) (again : List Nat)

/-- The text of a function. -/
inductive ACode where
  | skip
  | reg (ops : List AOp)
  | dreg (ops : List DStep)
  | seq (a b : ACode)
  | cond (c : Opd) (a b : ACode)
  | block (id : Nat) (b : ACode)
  | loop (b : ACode)
  | rangeFunc (f : Opd) (i : Nat)
  | exit (id : Nat)
  | label (l : Nat)
  | scope (b : ACode)
  | ret
  | no
  | mloop (it : Opd) (id : Nat) (fg : List Kp) (b : ACode)

inductive ARes where
  | tmp (p : Kp)
  | cell1 (p : Kp)
  | celln (p : Kp) (n : Nat)

/-! ### Memory -/

structure APan where
  v : AV
  done : Bool

inductive AD where
  | fn (f : AFn) (ca args : List AV)
  | coll (b : Hi)

inductive AJ where
  | ret
  | exit (id : Nat)

structure AEnt where
  key : AV
  val : AV
  born : Nat

/-- What is known of a function whose frame runs. -/
structure FI where
  f : Hi
  res : List ARes
  dfr : Bool
  round : Option Hi

inductive AObj where
  | no
  | cells (grow : Bool) (sz fz : Nat) (c : List AV)
  | map (es : List AEnt) (clock : Nat)
  | siter (n v pos : Nat)
  | miter (m : Option Hi) (cur : Option Nat) (stepped : Nat)
  | loop (st : Nat) (pending : Option AJ) (f : Hi) (T : VT) (i : Nat) (d : Hi)
  | defd (calls : Option (List AD))

structure A0 where
  c0 : AObj
  c1 : AObj
  c2 : AObj
  c3 : AObj
  c4 : AObj
  c5 : AObj
  c6 : AObj
  c7 : AObj
  c8 : AObj
  c9 : AObj
  c10 : AObj
  c11 : AObj
  c12 : AObj
  c13 : AObj
  c14 : AObj
  c15 : AObj

def A0.fill (v : AObj) : A0 := ⟨v, v, v, v, v, v, v, v, v, v, v, v, v, v, v, v⟩

def A0.get (t : A0) : Dg → AObj
  | .x0 => t.c0
  | .x1 => t.c1
  | .x2 => t.c2
  | .x3 => t.c3
  | .x4 => t.c4
  | .x5 => t.c5
  | .x6 => t.c6
  | .x7 => t.c7
  | .x8 => t.c8
  | .x9 => t.c9
  | .xa => t.c10
  | .xb => t.c11
  | .xc => t.c12
  | .xd => t.c13
  | .xe => t.c14
  | .xf => t.c15

def A0.set (t : A0) (v : AObj) : Dg → A0
  | .x0 => { t with c0 := v }
  | .x1 => { t with c1 := v }
  | .x2 => { t with c2 := v }
  | .x3 => { t with c3 := v }
  | .x4 => { t with c4 := v }
  | .x5 => { t with c5 := v }
  | .x6 => { t with c6 := v }
  | .x7 => { t with c7 := v }
  | .x8 => { t with c8 := v }
  | .x9 => { t with c9 := v }
  | .xa => { t with c10 := v }
  | .xb => { t with c11 := v }
  | .xc => { t with c12 := v }
  | .xd => { t with c13 := v }
  | .xe => { t with c14 := v }
  | .xf => { t with c15 := v }
structure A1 where
  c0 : A0
  c1 : A0
  c2 : A0
  c3 : A0
  c4 : A0
  c5 : A0
  c6 : A0
  c7 : A0
  c8 : A0
  c9 : A0
  c10 : A0
  c11 : A0
  c12 : A0
  c13 : A0
  c14 : A0
  c15 : A0

def A1.fill (v : A0) : A1 := ⟨v, v, v, v, v, v, v, v, v, v, v, v, v, v, v, v⟩

def A1.get (t : A1) : Dg → A0
  | .x0 => t.c0
  | .x1 => t.c1
  | .x2 => t.c2
  | .x3 => t.c3
  | .x4 => t.c4
  | .x5 => t.c5
  | .x6 => t.c6
  | .x7 => t.c7
  | .x8 => t.c8
  | .x9 => t.c9
  | .xa => t.c10
  | .xb => t.c11
  | .xc => t.c12
  | .xd => t.c13
  | .xe => t.c14
  | .xf => t.c15

def A1.set (t : A1) (v : A0) : Dg → A1
  | .x0 => { t with c0 := v }
  | .x1 => { t with c1 := v }
  | .x2 => { t with c2 := v }
  | .x3 => { t with c3 := v }
  | .x4 => { t with c4 := v }
  | .x5 => { t with c5 := v }
  | .x6 => { t with c6 := v }
  | .x7 => { t with c7 := v }
  | .x8 => { t with c8 := v }
  | .x9 => { t with c9 := v }
  | .xa => { t with c10 := v }
  | .xb => { t with c11 := v }
  | .xc => { t with c12 := v }
  | .xd => { t with c13 := v }
  | .xe => { t with c14 := v }
  | .xf => { t with c15 := v }
structure A2 where
  c0 : A1
  c1 : A1
  c2 : A1
  c3 : A1
  c4 : A1
  c5 : A1
  c6 : A1
  c7 : A1
  c8 : A1
  c9 : A1
  c10 : A1
  c11 : A1
  c12 : A1
  c13 : A1
  c14 : A1
  c15 : A1

def A2.fill (v : A1) : A2 := ⟨v, v, v, v, v, v, v, v, v, v, v, v, v, v, v, v⟩

def A2.get (t : A2) : Dg → A1
  | .x0 => t.c0
  | .x1 => t.c1
  | .x2 => t.c2
  | .x3 => t.c3
  | .x4 => t.c4
  | .x5 => t.c5
  | .x6 => t.c6
  | .x7 => t.c7
  | .x8 => t.c8
  | .x9 => t.c9
  | .xa => t.c10
  | .xb => t.c11
  | .xc => t.c12
  | .xd => t.c13
  | .xe => t.c14
  | .xf => t.c15

def A2.set (t : A2) (v : A1) : Dg → A2
  | .x0 => { t with c0 := v }
  | .x1 => { t with c1 := v }
  | .x2 => { t with c2 := v }
  | .x3 => { t with c3 := v }
  | .x4 => { t with c4 := v }
  | .x5 => { t with c5 := v }
  | .x6 => { t with c6 := v }
  | .x7 => { t with c7 := v }
  | .x8 => { t with c8 := v }
  | .x9 => { t with c9 := v }
  | .xa => { t with c10 := v }
  | .xb => { t with c11 := v }
  | .xc => { t with c12 := v }
  | .xd => { t with c13 := v }
  | .xe => { t with c14 := v }
  | .xf => { t with c15 := v }

def A2.at (t : A2) : Hi → AObj
  | .mk a b c => ((t.get a).get b).get c
def A2.put (t : A2) (o : AObj) : Hi → A2
  | .mk a b c => t.set ((t.get a).set (((t.get a).get b).set o c) b) a
def A2.none : A2 := A2.fill (A1.fill (A0.fill .no))

structure Hp where
  tr : A2
  fz : List A2
  nx : Hi

def atList (p : Hi) : List A2 → AObj
  | [] => .no
  | t :: r => match t.at p with
    | .no => atList p r
    | o => o

def Hp.at (h : Hp) (p : Hi) : AObj :=
  match h.tr.at p with
  | .no => atList p h.fz
  | o => o

inductive AOut where
  | ret (v : AV)
  | pan (c : List APan)
  | stop (T : VT) (D : List AD)

inductive Res where
  | bad
  | ok (o : AOut) (h : Hp)

inductive Par where
  | none
  | ret
  | pan (c : List APan)

abbrev Fk := AOut → Par → Hp → Res
abbrev Kn := Par → List AV → VT → List AD → Hp → Res

/-- What an operation may ask of the machine that runs it: to call a function by its number, or by its value; to leave by a panic. -/
structure Cb where
  call : Hi → List AV → Hp → Fk → Res
  app : AFn → List AV → List AV → Hp → Fk → Res
  pan : Par → List APan → List AV → VT → List AD → Hp → Res
  fi : FI

/-- A region's operations, ready to run. -/
abbrev OpF := Cb → Par → List AV → VT → List AD → Hp → Kn → Res

/-- Where the ways out of a text lead. -/
structure Ctl where
  cb : Cb
  ret : Kn
  exit : Nat → Kn

/-- The text of a function, ready to run: told where its ways out lead, and what comes behind it. -/
abbrev CodeF := Ctl → Kn → Kn

/-- A loop over a function: where its variables are kept, and what a round does. -/
structure Rf where
  params : List Kp
  assign : CodeF
  body : CodeF

inductive FD where
  | no
  | mk (code : CodeF) (params : List (Option Kp)) (res : List ARes) (loops : List Rf)
  | val (g : Hp → List AV → Option AV)

structure F0 where
  c0 : FD
  c1 : FD
  c2 : FD
  c3 : FD
  c4 : FD
  c5 : FD
  c6 : FD
  c7 : FD
  c8 : FD
  c9 : FD
  c10 : FD
  c11 : FD
  c12 : FD
  c13 : FD
  c14 : FD
  c15 : FD

def F0.fill (v : FD) : F0 := ⟨v, v, v, v, v, v, v, v, v, v, v, v, v, v, v, v⟩

def F0.get (t : F0) : Dg → FD
  | .x0 => t.c0
  | .x1 => t.c1
  | .x2 => t.c2
  | .x3 => t.c3
  | .x4 => t.c4
  | .x5 => t.c5
  | .x6 => t.c6
  | .x7 => t.c7
  | .x8 => t.c8
  | .x9 => t.c9
  | .xa => t.c10
  | .xb => t.c11
  | .xc => t.c12
  | .xd => t.c13
  | .xe => t.c14
  | .xf => t.c15

def F0.set (t : F0) (v : FD) : Dg → F0
  | .x0 => { t with c0 := v }
  | .x1 => { t with c1 := v }
  | .x2 => { t with c2 := v }
  | .x3 => { t with c3 := v }
  | .x4 => { t with c4 := v }
  | .x5 => { t with c5 := v }
  | .x6 => { t with c6 := v }
  | .x7 => { t with c7 := v }
  | .x8 => { t with c8 := v }
  | .x9 => { t with c9 := v }
  | .xa => { t with c10 := v }
  | .xb => { t with c11 := v }
  | .xc => { t with c12 := v }
  | .xd => { t with c13 := v }
  | .xe => { t with c14 := v }
  | .xf => { t with c15 := v }
structure F1 where
  c0 : F0
  c1 : F0
  c2 : F0
  c3 : F0
  c4 : F0
  c5 : F0
  c6 : F0
  c7 : F0
  c8 : F0
  c9 : F0
  c10 : F0
  c11 : F0
  c12 : F0
  c13 : F0
  c14 : F0
  c15 : F0

def F1.fill (v : F0) : F1 := ⟨v, v, v, v, v, v, v, v, v, v, v, v, v, v, v, v⟩

def F1.get (t : F1) : Dg → F0
  | .x0 => t.c0
  | .x1 => t.c1
  | .x2 => t.c2
  | .x3 => t.c3
  | .x4 => t.c4
  | .x5 => t.c5
  | .x6 => t.c6
  | .x7 => t.c7
  | .x8 => t.c8
  | .x9 => t.c9
  | .xa => t.c10
  | .xb => t.c11
  | .xc => t.c12
  | .xd => t.c13
  | .xe => t.c14
  | .xf => t.c15

def F1.set (t : F1) (v : F0) : Dg → F1
  | .x0 => { t with c0 := v }
  | .x1 => { t with c1 := v }
  | .x2 => { t with c2 := v }
  | .x3 => { t with c3 := v }
  | .x4 => { t with c4 := v }
  | .x5 => { t with c5 := v }
  | .x6 => { t with c6 := v }
  | .x7 => { t with c7 := v }
  | .x8 => { t with c8 := v }
  | .x9 => { t with c9 := v }
  | .xa => { t with c10 := v }
  | .xb => { t with c11 := v }
  | .xc => { t with c12 := v }
  | .xd => { t with c13 := v }
  | .xe => { t with c14 := v }
  | .xf => { t with c15 := v }
structure F2 where
  c0 : F1
  c1 : F1
  c2 : F1
  c3 : F1
  c4 : F1
  c5 : F1
  c6 : F1
  c7 : F1
  c8 : F1
  c9 : F1
  c10 : F1
  c11 : F1
  c12 : F1
  c13 : F1
  c14 : F1
  c15 : F1

def F2.fill (v : F1) : F2 := ⟨v, v, v, v, v, v, v, v, v, v, v, v, v, v, v, v⟩

def F2.get (t : F2) : Dg → F1
  | .x0 => t.c0
  | .x1 => t.c1
  | .x2 => t.c2
  | .x3 => t.c3
  | .x4 => t.c4
  | .x5 => t.c5
  | .x6 => t.c6
  | .x7 => t.c7
  | .x8 => t.c8
  | .x9 => t.c9
  | .xa => t.c10
  | .xb => t.c11
  | .xc => t.c12
  | .xd => t.c13
  | .xe => t.c14
  | .xf => t.c15

def F2.set (t : F2) (v : F1) : Dg → F2
  | .x0 => { t with c0 := v }
  | .x1 => { t with c1 := v }
  | .x2 => { t with c2 := v }
  | .x3 => { t with c3 := v }
  | .x4 => { t with c4 := v }
  | .x5 => { t with c5 := v }
  | .x6 => { t with c6 := v }
  | .x7 => { t with c7 := v }
  | .x8 => { t with c8 := v }
  | .x9 => { t with c9 := v }
  | .xa => { t with c10 := v }
  | .xb => { t with c11 := v }
  | .xc => { t with c12 := v }
  | .xd => { t with c13 := v }
  | .xe => { t with c14 := v }
  | .xf => { t with c15 := v }

def F2.at (t : F2) : Hi → FD
  | .mk a b c => ((t.get a).get b).get c

/-! ### Running: the tables -/

noncomputable def V16.getK (d : Dg) : V16 → (AV → Res) → Res :=
  Dg.rec (motive := fun _ => V16 → (AV → Res) → Res) (fun t k => k t.c0) (fun t k => k t.c1) (fun t k => k t.c2) (fun t k => k t.c3) (fun t k => k t.c4) (fun t k => k t.c5) (fun t k => k t.c6) (fun t k => k t.c7) (fun t k => k t.c8) (fun t k => k t.c9) (fun t k => k t.c10) (fun t k => k t.c11) (fun t k => k t.c12) (fun t k => k t.c13) (fun t k => k t.c14) (fun t k => k t.c15) d

noncomputable def V16.setK (d : Dg) : V16 → AV → (V16 → Res) → Res :=
  Dg.rec (motive := fun _ => V16 → AV → (V16 → Res) → Res)
    (fun t v k => V16.rec (motive := fun _ => Res) (fun _ y1 y2 y3 y4 y5 y6 y7 y8 y9 y10 y11 y12 y13 y14 y15 => k ⟨v, y1, y2, y3, y4, y5, y6, y7, y8, y9, y10, y11, y12, y13, y14, y15⟩) t)
    (fun t v k => V16.rec (motive := fun _ => Res) (fun y0 _ y2 y3 y4 y5 y6 y7 y8 y9 y10 y11 y12 y13 y14 y15 => k ⟨y0, v, y2, y3, y4, y5, y6, y7, y8, y9, y10, y11, y12, y13, y14, y15⟩) t)
    (fun t v k => V16.rec (motive := fun _ => Res) (fun y0 y1 _ y3 y4 y5 y6 y7 y8 y9 y10 y11 y12 y13 y14 y15 => k ⟨y0, y1, v, y3, y4, y5, y6, y7, y8, y9, y10, y11, y12, y13, y14, y15⟩) t)
    (fun t v k => V16.rec (motive := fun _ => Res) (fun y0 y1 y2 _ y4 y5 y6 y7 y8 y9 y10 y11 y12 y13 y14 y15 => k ⟨y0, y1, y2, v, y4, y5, y6, y7, y8, y9, y10, y11, y12, y13, y14, y15⟩) t)
    (fun t v k => V16.rec (motive := fun _ => Res) (fun y0 y1 y2 y3 _ y5 y6 y7 y8 y9 y10 y11 y12 y13 y14 y15 => k ⟨y0, y1, y2, y3, v, y5, y6, y7, y8, y9, y10, y11, y12, y13, y14, y15⟩) t)
    (fun t v k => V16.rec (motive := fun _ => Res) (fun y0 y1 y2 y3 y4 _ y6 y7 y8 y9 y10 y11 y12 y13 y14 y15 => k ⟨y0, y1, y2, y3, y4, v, y6, y7, y8, y9, y10, y11, y12, y13, y14, y15⟩) t)
    (fun t v k => V16.rec (motive := fun _ => Res) (fun y0 y1 y2 y3 y4 y5 _ y7 y8 y9 y10 y11 y12 y13 y14 y15 => k ⟨y0, y1, y2, y3, y4, y5, v, y7, y8, y9, y10, y11, y12, y13, y14, y15⟩) t)
    (fun t v k => V16.rec (motive := fun _ => Res) (fun y0 y1 y2 y3 y4 y5 y6 _ y8 y9 y10 y11 y12 y13 y14 y15 => k ⟨y0, y1, y2, y3, y4, y5, y6, v, y8, y9, y10, y11, y12, y13, y14, y15⟩) t)
    (fun t v k => V16.rec (motive := fun _ => Res) (fun y0 y1 y2 y3 y4 y5 y6 y7 _ y9 y10 y11 y12 y13 y14 y15 => k ⟨y0, y1, y2, y3, y4, y5, y6, y7, v, y9, y10, y11, y12, y13, y14, y15⟩) t)
    (fun t v k => V16.rec (motive := fun _ => Res) (fun y0 y1 y2 y3 y4 y5 y6 y7 y8 _ y10 y11 y12 y13 y14 y15 => k ⟨y0, y1, y2, y3, y4, y5, y6, y7, y8, v, y10, y11, y12, y13, y14, y15⟩) t)
    (fun t v k => V16.rec (motive := fun _ => Res) (fun y0 y1 y2 y3 y4 y5 y6 y7 y8 y9 _ y11 y12 y13 y14 y15 => k ⟨y0, y1, y2, y3, y4, y5, y6, y7, y8, y9, v, y11, y12, y13, y14, y15⟩) t)
    (fun t v k => V16.rec (motive := fun _ => Res) (fun y0 y1 y2 y3 y4 y5 y6 y7 y8 y9 y10 _ y12 y13 y14 y15 => k ⟨y0, y1, y2, y3, y4, y5, y6, y7, y8, y9, y10, v, y12, y13, y14, y15⟩) t)
    (fun t v k => V16.rec (motive := fun _ => Res) (fun y0 y1 y2 y3 y4 y5 y6 y7 y8 y9 y10 y11 _ y13 y14 y15 => k ⟨y0, y1, y2, y3, y4, y5, y6, y7, y8, y9, y10, y11, v, y13, y14, y15⟩) t)
    (fun t v k => V16.rec (motive := fun _ => Res) (fun y0 y1 y2 y3 y4 y5 y6 y7 y8 y9 y10 y11 y12 _ y14 y15 => k ⟨y0, y1, y2, y3, y4, y5, y6, y7, y8, y9, y10, y11, y12, v, y14, y15⟩) t)
    (fun t v k => V16.rec (motive := fun _ => Res) (fun y0 y1 y2 y3 y4 y5 y6 y7 y8 y9 y10 y11 y12 y13 _ y15 => k ⟨y0, y1, y2, y3, y4, y5, y6, y7, y8, y9, y10, y11, y12, y13, v, y15⟩) t)
    (fun t v k => V16.rec (motive := fun _ => Res) (fun y0 y1 y2 y3 y4 y5 y6 y7 y8 y9 y10 y11 y12 y13 y14 _ => k ⟨y0, y1, y2, y3, y4, y5, y6, y7, y8, y9, y10, y11, y12, y13, y14, v⟩) t) d

noncomputable def VT.getK (d : D4) : VT → (V16 → Res) → Res :=
  D4.rec (motive := fun _ => VT → (V16 → Res) → Res) (fun t k => k t.s0) (fun t k => k t.s1) (fun t k => k t.s2) (fun t k => k t.s3) d

noncomputable def VT.setK (d : D4) : VT → V16 → (VT → Res) → Res :=
  D4.rec (motive := fun _ => VT → V16 → (VT → Res) → Res)
    (fun t v k => VT.rec (motive := fun _ => Res) (fun _ y1 y2 y3 => k ⟨v, y1, y2, y3⟩) t)
    (fun t v k => VT.rec (motive := fun _ => Res) (fun y0 _ y2 y3 => k ⟨y0, v, y2, y3⟩) t)
    (fun t v k => VT.rec (motive := fun _ => Res) (fun y0 y1 _ y3 => k ⟨y0, y1, v, y3⟩) t)
    (fun t v k => VT.rec (motive := fun _ => Res) (fun y0 y1 y2 _ => k ⟨y0, y1, y2, v⟩) t) d

noncomputable def A0.getK (d : Dg) : A0 → (AObj → Res) → Res :=
  Dg.rec (motive := fun _ => A0 → (AObj → Res) → Res) (fun t k => k t.c0) (fun t k => k t.c1) (fun t k => k t.c2) (fun t k => k t.c3) (fun t k => k t.c4) (fun t k => k t.c5) (fun t k => k t.c6) (fun t k => k t.c7) (fun t k => k t.c8) (fun t k => k t.c9) (fun t k => k t.c10) (fun t k => k t.c11) (fun t k => k t.c12) (fun t k => k t.c13) (fun t k => k t.c14) (fun t k => k t.c15) d

noncomputable def A0.setK (d : Dg) : A0 → AObj → (A0 → Res) → Res :=
  Dg.rec (motive := fun _ => A0 → AObj → (A0 → Res) → Res)
    (fun t v k => A0.rec (motive := fun _ => Res) (fun _ y1 y2 y3 y4 y5 y6 y7 y8 y9 y10 y11 y12 y13 y14 y15 => k ⟨v, y1, y2, y3, y4, y5, y6, y7, y8, y9, y10, y11, y12, y13, y14, y15⟩) t)
    (fun t v k => A0.rec (motive := fun _ => Res) (fun y0 _ y2 y3 y4 y5 y6 y7 y8 y9 y10 y11 y12 y13 y14 y15 => k ⟨y0, v, y2, y3, y4, y5, y6, y7, y8, y9, y10, y11, y12, y13, y14, y15⟩) t)
    (fun t v k => A0.rec (motive := fun _ => Res) (fun y0 y1 _ y3 y4 y5 y6 y7 y8 y9 y10 y11 y12 y13 y14 y15 => k ⟨y0, y1, v, y3, y4, y5, y6, y7, y8, y9, y10, y11, y12, y13, y14, y15⟩) t)
    (fun t v k => A0.rec (motive := fun _ => Res) (fun y0 y1 y2 _ y4 y5 y6 y7 y8 y9 y10 y11 y12 y13 y14 y15 => k ⟨y0, y1, y2, v, y4, y5, y6, y7, y8, y9, y10, y11, y12, y13, y14, y15⟩) t)
    (fun t v k => A0.rec (motive := fun _ => Res) (fun y0 y1 y2 y3 _ y5 y6 y7 y8 y9 y10 y11 y12 y13 y14 y15 => k ⟨y0, y1, y2, y3, v, y5, y6, y7, y8, y9, y10, y11, y12, y13, y14, y15⟩) t)
    (fun t v k => A0.rec (motive := fun _ => Res) (fun y0 y1 y2 y3 y4 _ y6 y7 y8 y9 y10 y11 y12 y13 y14 y15 => k ⟨y0, y1, y2, y3, y4, v, y6, y7, y8, y9, y10, y11, y12, y13, y14, y15⟩) t)
    (fun t v k => A0.rec (motive := fun _ => Res) (fun y0 y1 y2 y3 y4 y5 _ y7 y8 y9 y10 y11 y12 y13 y14 y15 => k ⟨y0, y1, y2, y3, y4, y5, v, y7, y8, y9, y10, y11, y12, y13, y14, y15⟩) t)
    (fun t v k => A0.rec (motive := fun _ => Res) (fun y0 y1 y2 y3 y4 y5 y6 _ y8 y9 y10 y11 y12 y13 y14 y15 => k ⟨y0, y1, y2, y3, y4, y5, y6, v, y8, y9, y10, y11, y12, y13, y14, y15⟩) t)
    (fun t v k => A0.rec (motive := fun _ => Res) (fun y0 y1 y2 y3 y4 y5 y6 y7 _ y9 y10 y11 y12 y13 y14 y15 => k ⟨y0, y1, y2, y3, y4, y5, y6, y7, v, y9, y10, y11, y12, y13, y14, y15⟩) t)
    (fun t v k => A0.rec (motive := fun _ => Res) (fun y0 y1 y2 y3 y4 y5 y6 y7 y8 _ y10 y11 y12 y13 y14 y15 => k ⟨y0, y1, y2, y3, y4, y5, y6, y7, y8, v, y10, y11, y12, y13, y14, y15⟩) t)
    (fun t v k => A0.rec (motive := fun _ => Res) (fun y0 y1 y2 y3 y4 y5 y6 y7 y8 y9 _ y11 y12 y13 y14 y15 => k ⟨y0, y1, y2, y3, y4, y5, y6, y7, y8, y9, v, y11, y12, y13, y14, y15⟩) t)
    (fun t v k => A0.rec (motive := fun _ => Res) (fun y0 y1 y2 y3 y4 y5 y6 y7 y8 y9 y10 _ y12 y13 y14 y15 => k ⟨y0, y1, y2, y3, y4, y5, y6, y7, y8, y9, y10, v, y12, y13, y14, y15⟩) t)
    (fun t v k => A0.rec (motive := fun _ => Res) (fun y0 y1 y2 y3 y4 y5 y6 y7 y8 y9 y10 y11 _ y13 y14 y15 => k ⟨y0, y1, y2, y3, y4, y5, y6, y7, y8, y9, y10, y11, v, y13, y14, y15⟩) t)
    (fun t v k => A0.rec (motive := fun _ => Res) (fun y0 y1 y2 y3 y4 y5 y6 y7 y8 y9 y10 y11 y12 _ y14 y15 => k ⟨y0, y1, y2, y3, y4, y5, y6, y7, y8, y9, y10, y11, y12, v, y14, y15⟩) t)
    (fun t v k => A0.rec (motive := fun _ => Res) (fun y0 y1 y2 y3 y4 y5 y6 y7 y8 y9 y10 y11 y12 y13 _ y15 => k ⟨y0, y1, y2, y3, y4, y5, y6, y7, y8, y9, y10, y11, y12, y13, v, y15⟩) t)
    (fun t v k => A0.rec (motive := fun _ => Res) (fun y0 y1 y2 y3 y4 y5 y6 y7 y8 y9 y10 y11 y12 y13 y14 _ => k ⟨y0, y1, y2, y3, y4, y5, y6, y7, y8, y9, y10, y11, y12, y13, y14, v⟩) t) d

noncomputable def A1.getK (d : Dg) : A1 → (A0 → Res) → Res :=
  Dg.rec (motive := fun _ => A1 → (A0 → Res) → Res) (fun t k => k t.c0) (fun t k => k t.c1) (fun t k => k t.c2) (fun t k => k t.c3) (fun t k => k t.c4) (fun t k => k t.c5) (fun t k => k t.c6) (fun t k => k t.c7) (fun t k => k t.c8) (fun t k => k t.c9) (fun t k => k t.c10) (fun t k => k t.c11) (fun t k => k t.c12) (fun t k => k t.c13) (fun t k => k t.c14) (fun t k => k t.c15) d

noncomputable def A1.setK (d : Dg) : A1 → A0 → (A1 → Res) → Res :=
  Dg.rec (motive := fun _ => A1 → A0 → (A1 → Res) → Res)
    (fun t v k => A1.rec (motive := fun _ => Res) (fun _ y1 y2 y3 y4 y5 y6 y7 y8 y9 y10 y11 y12 y13 y14 y15 => k ⟨v, y1, y2, y3, y4, y5, y6, y7, y8, y9, y10, y11, y12, y13, y14, y15⟩) t)
    (fun t v k => A1.rec (motive := fun _ => Res) (fun y0 _ y2 y3 y4 y5 y6 y7 y8 y9 y10 y11 y12 y13 y14 y15 => k ⟨y0, v, y2, y3, y4, y5, y6, y7, y8, y9, y10, y11, y12, y13, y14, y15⟩) t)
    (fun t v k => A1.rec (motive := fun _ => Res) (fun y0 y1 _ y3 y4 y5 y6 y7 y8 y9 y10 y11 y12 y13 y14 y15 => k ⟨y0, y1, v, y3, y4, y5, y6, y7, y8, y9, y10, y11, y12, y13, y14, y15⟩) t)
    (fun t v k => A1.rec (motive := fun _ => Res) (fun y0 y1 y2 _ y4 y5 y6 y7 y8 y9 y10 y11 y12 y13 y14 y15 => k ⟨y0, y1, y2, v, y4, y5, y6, y7, y8, y9, y10, y11, y12, y13, y14, y15⟩) t)
    (fun t v k => A1.rec (motive := fun _ => Res) (fun y0 y1 y2 y3 _ y5 y6 y7 y8 y9 y10 y11 y12 y13 y14 y15 => k ⟨y0, y1, y2, y3, v, y5, y6, y7, y8, y9, y10, y11, y12, y13, y14, y15⟩) t)
    (fun t v k => A1.rec (motive := fun _ => Res) (fun y0 y1 y2 y3 y4 _ y6 y7 y8 y9 y10 y11 y12 y13 y14 y15 => k ⟨y0, y1, y2, y3, y4, v, y6, y7, y8, y9, y10, y11, y12, y13, y14, y15⟩) t)
    (fun t v k => A1.rec (motive := fun _ => Res) (fun y0 y1 y2 y3 y4 y5 _ y7 y8 y9 y10 y11 y12 y13 y14 y15 => k ⟨y0, y1, y2, y3, y4, y5, v, y7, y8, y9, y10, y11, y12, y13, y14, y15⟩) t)
    (fun t v k => A1.rec (motive := fun _ => Res) (fun y0 y1 y2 y3 y4 y5 y6 _ y8 y9 y10 y11 y12 y13 y14 y15 => k ⟨y0, y1, y2, y3, y4, y5, y6, v, y8, y9, y10, y11, y12, y13, y14, y15⟩) t)
    (fun t v k => A1.rec (motive := fun _ => Res) (fun y0 y1 y2 y3 y4 y5 y6 y7 _ y9 y10 y11 y12 y13 y14 y15 => k ⟨y0, y1, y2, y3, y4, y5, y6, y7, v, y9, y10, y11, y12, y13, y14, y15⟩) t)
    (fun t v k => A1.rec (motive := fun _ => Res) (fun y0 y1 y2 y3 y4 y5 y6 y7 y8 _ y10 y11 y12 y13 y14 y15 => k ⟨y0, y1, y2, y3, y4, y5, y6, y7, y8, v, y10, y11, y12, y13, y14, y15⟩) t)
    (fun t v k => A1.rec (motive := fun _ => Res) (fun y0 y1 y2 y3 y4 y5 y6 y7 y8 y9 _ y11 y12 y13 y14 y15 => k ⟨y0, y1, y2, y3, y4, y5, y6, y7, y8, y9, v, y11, y12, y13, y14, y15⟩) t)
    (fun t v k => A1.rec (motive := fun _ => Res) (fun y0 y1 y2 y3 y4 y5 y6 y7 y8 y9 y10 _ y12 y13 y14 y15 => k ⟨y0, y1, y2, y3, y4, y5, y6, y7, y8, y9, y10, v, y12, y13, y14, y15⟩) t)
    (fun t v k => A1.rec (motive := fun _ => Res) (fun y0 y1 y2 y3 y4 y5 y6 y7 y8 y9 y10 y11 _ y13 y14 y15 => k ⟨y0, y1, y2, y3, y4, y5, y6, y7, y8, y9, y10, y11, v, y13, y14, y15⟩) t)
    (fun t v k => A1.rec (motive := fun _ => Res) (fun y0 y1 y2 y3 y4 y5 y6 y7 y8 y9 y10 y11 y12 _ y14 y15 => k ⟨y0, y1, y2, y3, y4, y5, y6, y7, y8, y9, y10, y11, y12, v, y14, y15⟩) t)
    (fun t v k => A1.rec (motive := fun _ => Res) (fun y0 y1 y2 y3 y4 y5 y6 y7 y8 y9 y10 y11 y12 y13 _ y15 => k ⟨y0, y1, y2, y3, y4, y5, y6, y7, y8, y9, y10, y11, y12, y13, v, y15⟩) t)
    (fun t v k => A1.rec (motive := fun _ => Res) (fun y0 y1 y2 y3 y4 y5 y6 y7 y8 y9 y10 y11 y12 y13 y14 _ => k ⟨y0, y1, y2, y3, y4, y5, y6, y7, y8, y9, y10, y11, y12, y13, y14, v⟩) t) d

noncomputable def A2.getK (d : Dg) : A2 → (A1 → Res) → Res :=
  Dg.rec (motive := fun _ => A2 → (A1 → Res) → Res) (fun t k => k t.c0) (fun t k => k t.c1) (fun t k => k t.c2) (fun t k => k t.c3) (fun t k => k t.c4) (fun t k => k t.c5) (fun t k => k t.c6) (fun t k => k t.c7) (fun t k => k t.c8) (fun t k => k t.c9) (fun t k => k t.c10) (fun t k => k t.c11) (fun t k => k t.c12) (fun t k => k t.c13) (fun t k => k t.c14) (fun t k => k t.c15) d

noncomputable def A2.setK (d : Dg) : A2 → A1 → (A2 → Res) → Res :=
  Dg.rec (motive := fun _ => A2 → A1 → (A2 → Res) → Res)
    (fun t v k => A2.rec (motive := fun _ => Res) (fun _ y1 y2 y3 y4 y5 y6 y7 y8 y9 y10 y11 y12 y13 y14 y15 => k ⟨v, y1, y2, y3, y4, y5, y6, y7, y8, y9, y10, y11, y12, y13, y14, y15⟩) t)
    (fun t v k => A2.rec (motive := fun _ => Res) (fun y0 _ y2 y3 y4 y5 y6 y7 y8 y9 y10 y11 y12 y13 y14 y15 => k ⟨y0, v, y2, y3, y4, y5, y6, y7, y8, y9, y10, y11, y12, y13, y14, y15⟩) t)
    (fun t v k => A2.rec (motive := fun _ => Res) (fun y0 y1 _ y3 y4 y5 y6 y7 y8 y9 y10 y11 y12 y13 y14 y15 => k ⟨y0, y1, v, y3, y4, y5, y6, y7, y8, y9, y10, y11, y12, y13, y14, y15⟩) t)
    (fun t v k => A2.rec (motive := fun _ => Res) (fun y0 y1 y2 _ y4 y5 y6 y7 y8 y9 y10 y11 y12 y13 y14 y15 => k ⟨y0, y1, y2, v, y4, y5, y6, y7, y8, y9, y10, y11, y12, y13, y14, y15⟩) t)
    (fun t v k => A2.rec (motive := fun _ => Res) (fun y0 y1 y2 y3 _ y5 y6 y7 y8 y9 y10 y11 y12 y13 y14 y15 => k ⟨y0, y1, y2, y3, v, y5, y6, y7, y8, y9, y10, y11, y12, y13, y14, y15⟩) t)
    (fun t v k => A2.rec (motive := fun _ => Res) (fun y0 y1 y2 y3 y4 _ y6 y7 y8 y9 y10 y11 y12 y13 y14 y15 => k ⟨y0, y1, y2, y3, y4, v, y6, y7, y8, y9, y10, y11, y12, y13, y14, y15⟩) t)
    (fun t v k => A2.rec (motive := fun _ => Res) (fun y0 y1 y2 y3 y4 y5 _ y7 y8 y9 y10 y11 y12 y13 y14 y15 => k ⟨y0, y1, y2, y3, y4, y5, v, y7, y8, y9, y10, y11, y12, y13, y14, y15⟩) t)
    (fun t v k => A2.rec (motive := fun _ => Res) (fun y0 y1 y2 y3 y4 y5 y6 _ y8 y9 y10 y11 y12 y13 y14 y15 => k ⟨y0, y1, y2, y3, y4, y5, y6, v, y8, y9, y10, y11, y12, y13, y14, y15⟩) t)
    (fun t v k => A2.rec (motive := fun _ => Res) (fun y0 y1 y2 y3 y4 y5 y6 y7 _ y9 y10 y11 y12 y13 y14 y15 => k ⟨y0, y1, y2, y3, y4, y5, y6, y7, v, y9, y10, y11, y12, y13, y14, y15⟩) t)
    (fun t v k => A2.rec (motive := fun _ => Res) (fun y0 y1 y2 y3 y4 y5 y6 y7 y8 _ y10 y11 y12 y13 y14 y15 => k ⟨y0, y1, y2, y3, y4, y5, y6, y7, y8, v, y10, y11, y12, y13, y14, y15⟩) t)
    (fun t v k => A2.rec (motive := fun _ => Res) (fun y0 y1 y2 y3 y4 y5 y6 y7 y8 y9 _ y11 y12 y13 y14 y15 => k ⟨y0, y1, y2, y3, y4, y5, y6, y7, y8, y9, v, y11, y12, y13, y14, y15⟩) t)
    (fun t v k => A2.rec (motive := fun _ => Res) (fun y0 y1 y2 y3 y4 y5 y6 y7 y8 y9 y10 _ y12 y13 y14 y15 => k ⟨y0, y1, y2, y3, y4, y5, y6, y7, y8, y9, y10, v, y12, y13, y14, y15⟩) t)
    (fun t v k => A2.rec (motive := fun _ => Res) (fun y0 y1 y2 y3 y4 y5 y6 y7 y8 y9 y10 y11 _ y13 y14 y15 => k ⟨y0, y1, y2, y3, y4, y5, y6, y7, y8, y9, y10, y11, v, y13, y14, y15⟩) t)
    (fun t v k => A2.rec (motive := fun _ => Res) (fun y0 y1 y2 y3 y4 y5 y6 y7 y8 y9 y10 y11 y12 _ y14 y15 => k ⟨y0, y1, y2, y3, y4, y5, y6, y7, y8, y9, y10, y11, y12, v, y14, y15⟩) t)
    (fun t v k => A2.rec (motive := fun _ => Res) (fun y0 y1 y2 y3 y4 y5 y6 y7 y8 y9 y10 y11 y12 y13 _ y15 => k ⟨y0, y1, y2, y3, y4, y5, y6, y7, y8, y9, y10, y11, y12, y13, v, y15⟩) t)
    (fun t v k => A2.rec (motive := fun _ => Res) (fun y0 y1 y2 y3 y4 y5 y6 y7 y8 y9 y10 y11 y12 y13 y14 _ => k ⟨y0, y1, y2, y3, y4, y5, y6, y7, y8, y9, y10, y11, y12, y13, y14, v⟩) t) d

noncomputable def F0.getK (d : Dg) : F0 → (FD → Res) → Res :=
  Dg.rec (motive := fun _ => F0 → (FD → Res) → Res) (fun t k => k t.c0) (fun t k => k t.c1) (fun t k => k t.c2) (fun t k => k t.c3) (fun t k => k t.c4) (fun t k => k t.c5) (fun t k => k t.c6) (fun t k => k t.c7) (fun t k => k t.c8) (fun t k => k t.c9) (fun t k => k t.c10) (fun t k => k t.c11) (fun t k => k t.c12) (fun t k => k t.c13) (fun t k => k t.c14) (fun t k => k t.c15) d

noncomputable def F0.setK (d : Dg) : F0 → FD → (F0 → Res) → Res :=
  Dg.rec (motive := fun _ => F0 → FD → (F0 → Res) → Res)
    (fun t v k => F0.rec (motive := fun _ => Res) (fun _ y1 y2 y3 y4 y5 y6 y7 y8 y9 y10 y11 y12 y13 y14 y15 => k ⟨v, y1, y2, y3, y4, y5, y6, y7, y8, y9, y10, y11, y12, y13, y14, y15⟩) t)
    (fun t v k => F0.rec (motive := fun _ => Res) (fun y0 _ y2 y3 y4 y5 y6 y7 y8 y9 y10 y11 y12 y13 y14 y15 => k ⟨y0, v, y2, y3, y4, y5, y6, y7, y8, y9, y10, y11, y12, y13, y14, y15⟩) t)
    (fun t v k => F0.rec (motive := fun _ => Res) (fun y0 y1 _ y3 y4 y5 y6 y7 y8 y9 y10 y11 y12 y13 y14 y15 => k ⟨y0, y1, v, y3, y4, y5, y6, y7, y8, y9, y10, y11, y12, y13, y14, y15⟩) t)
    (fun t v k => F0.rec (motive := fun _ => Res) (fun y0 y1 y2 _ y4 y5 y6 y7 y8 y9 y10 y11 y12 y13 y14 y15 => k ⟨y0, y1, y2, v, y4, y5, y6, y7, y8, y9, y10, y11, y12, y13, y14, y15⟩) t)
    (fun t v k => F0.rec (motive := fun _ => Res) (fun y0 y1 y2 y3 _ y5 y6 y7 y8 y9 y10 y11 y12 y13 y14 y15 => k ⟨y0, y1, y2, y3, v, y5, y6, y7, y8, y9, y10, y11, y12, y13, y14, y15⟩) t)
    (fun t v k => F0.rec (motive := fun _ => Res) (fun y0 y1 y2 y3 y4 _ y6 y7 y8 y9 y10 y11 y12 y13 y14 y15 => k ⟨y0, y1, y2, y3, y4, v, y6, y7, y8, y9, y10, y11, y12, y13, y14, y15⟩) t)
    (fun t v k => F0.rec (motive := fun _ => Res) (fun y0 y1 y2 y3 y4 y5 _ y7 y8 y9 y10 y11 y12 y13 y14 y15 => k ⟨y0, y1, y2, y3, y4, y5, v, y7, y8, y9, y10, y11, y12, y13, y14, y15⟩) t)
    (fun t v k => F0.rec (motive := fun _ => Res) (fun y0 y1 y2 y3 y4 y5 y6 _ y8 y9 y10 y11 y12 y13 y14 y15 => k ⟨y0, y1, y2, y3, y4, y5, y6, v, y8, y9, y10, y11, y12, y13, y14, y15⟩) t)
    (fun t v k => F0.rec (motive := fun _ => Res) (fun y0 y1 y2 y3 y4 y5 y6 y7 _ y9 y10 y11 y12 y13 y14 y15 => k ⟨y0, y1, y2, y3, y4, y5, y6, y7, v, y9, y10, y11, y12, y13, y14, y15⟩) t)
    (fun t v k => F0.rec (motive := fun _ => Res) (fun y0 y1 y2 y3 y4 y5 y6 y7 y8 _ y10 y11 y12 y13 y14 y15 => k ⟨y0, y1, y2, y3, y4, y5, y6, y7, y8, v, y10, y11, y12, y13, y14, y15⟩) t)
    (fun t v k => F0.rec (motive := fun _ => Res) (fun y0 y1 y2 y3 y4 y5 y6 y7 y8 y9 _ y11 y12 y13 y14 y15 => k ⟨y0, y1, y2, y3, y4, y5, y6, y7, y8, y9, v, y11, y12, y13, y14, y15⟩) t)
    (fun t v k => F0.rec (motive := fun _ => Res) (fun y0 y1 y2 y3 y4 y5 y6 y7 y8 y9 y10 _ y12 y13 y14 y15 => k ⟨y0, y1, y2, y3, y4, y5, y6, y7, y8, y9, y10, v, y12, y13, y14, y15⟩) t)
    (fun t v k => F0.rec (motive := fun _ => Res) (fun y0 y1 y2 y3 y4 y5 y6 y7 y8 y9 y10 y11 _ y13 y14 y15 => k ⟨y0, y1, y2, y3, y4, y5, y6, y7, y8, y9, y10, y11, v, y13, y14, y15⟩) t)
    (fun t v k => F0.rec (motive := fun _ => Res) (fun y0 y1 y2 y3 y4 y5 y6 y7 y8 y9 y10 y11 y12 _ y14 y15 => k ⟨y0, y1, y2, y3, y4, y5, y6, y7, y8, y9, y10, y11, y12, v, y14, y15⟩) t)
    (fun t v k => F0.rec (motive := fun _ => Res) (fun y0 y1 y2 y3 y4 y5 y6 y7 y8 y9 y10 y11 y12 y13 _ y15 => k ⟨y0, y1, y2, y3, y4, y5, y6, y7, y8, y9, y10, y11, y12, y13, v, y15⟩) t)
    (fun t v k => F0.rec (motive := fun _ => Res) (fun y0 y1 y2 y3 y4 y5 y6 y7 y8 y9 y10 y11 y12 y13 y14 _ => k ⟨y0, y1, y2, y3, y4, y5, y6, y7, y8, y9, y10, y11, y12, y13, y14, v⟩) t) d

noncomputable def F1.getK (d : Dg) : F1 → (F0 → Res) → Res :=
  Dg.rec (motive := fun _ => F1 → (F0 → Res) → Res) (fun t k => k t.c0) (fun t k => k t.c1) (fun t k => k t.c2) (fun t k => k t.c3) (fun t k => k t.c4) (fun t k => k t.c5) (fun t k => k t.c6) (fun t k => k t.c7) (fun t k => k t.c8) (fun t k => k t.c9) (fun t k => k t.c10) (fun t k => k t.c11) (fun t k => k t.c12) (fun t k => k t.c13) (fun t k => k t.c14) (fun t k => k t.c15) d

noncomputable def F1.setK (d : Dg) : F1 → F0 → (F1 → Res) → Res :=
  Dg.rec (motive := fun _ => F1 → F0 → (F1 → Res) → Res)
    (fun t v k => F1.rec (motive := fun _ => Res) (fun _ y1 y2 y3 y4 y5 y6 y7 y8 y9 y10 y11 y12 y13 y14 y15 => k ⟨v, y1, y2, y3, y4, y5, y6, y7, y8, y9, y10, y11, y12, y13, y14, y15⟩) t)
    (fun t v k => F1.rec (motive := fun _ => Res) (fun y0 _ y2 y3 y4 y5 y6 y7 y8 y9 y10 y11 y12 y13 y14 y15 => k ⟨y0, v, y2, y3, y4, y5, y6, y7, y8, y9, y10, y11, y12, y13, y14, y15⟩) t)
    (fun t v k => F1.rec (motive := fun _ => Res) (fun y0 y1 _ y3 y4 y5 y6 y7 y8 y9 y10 y11 y12 y13 y14 y15 => k ⟨y0, y1, v, y3, y4, y5, y6, y7, y8, y9, y10, y11, y12, y13, y14, y15⟩) t)
    (fun t v k => F1.rec (motive := fun _ => Res) (fun y0 y1 y2 _ y4 y5 y6 y7 y8 y9 y10 y11 y12 y13 y14 y15 => k ⟨y0, y1, y2, v, y4, y5, y6, y7, y8, y9, y10, y11, y12, y13, y14, y15⟩) t)
    (fun t v k => F1.rec (motive := fun _ => Res) (fun y0 y1 y2 y3 _ y5 y6 y7 y8 y9 y10 y11 y12 y13 y14 y15 => k ⟨y0, y1, y2, y3, v, y5, y6, y7, y8, y9, y10, y11, y12, y13, y14, y15⟩) t)
    (fun t v k => F1.rec (motive := fun _ => Res) (fun y0 y1 y2 y3 y4 _ y6 y7 y8 y9 y10 y11 y12 y13 y14 y15 => k ⟨y0, y1, y2, y3, y4, v, y6, y7, y8, y9, y10, y11, y12, y13, y14, y15⟩) t)
    (fun t v k => F1.rec (motive := fun _ => Res) (fun y0 y1 y2 y3 y4 y5 _ y7 y8 y9 y10 y11 y12 y13 y14 y15 => k ⟨y0, y1, y2, y3, y4, y5, v, y7, y8, y9, y10, y11, y12, y13, y14, y15⟩) t)
    (fun t v k => F1.rec (motive := fun _ => Res) (fun y0 y1 y2 y3 y4 y5 y6 _ y8 y9 y10 y11 y12 y13 y14 y15 => k ⟨y0, y1, y2, y3, y4, y5, y6, v, y8, y9, y10, y11, y12, y13, y14, y15⟩) t)
    (fun t v k => F1.rec (motive := fun _ => Res) (fun y0 y1 y2 y3 y4 y5 y6 y7 _ y9 y10 y11 y12 y13 y14 y15 => k ⟨y0, y1, y2, y3, y4, y5, y6, y7, v, y9, y10, y11, y12, y13, y14, y15⟩) t)
    (fun t v k => F1.rec (motive := fun _ => Res) (fun y0 y1 y2 y3 y4 y5 y6 y7 y8 _ y10 y11 y12 y13 y14 y15 => k ⟨y0, y1, y2, y3, y4, y5, y6, y7, y8, v, y10, y11, y12, y13, y14, y15⟩) t)
    (fun t v k => F1.rec (motive := fun _ => Res) (fun y0 y1 y2 y3 y4 y5 y6 y7 y8 y9 _ y11 y12 y13 y14 y15 => k ⟨y0, y1, y2, y3, y4, y5, y6, y7, y8, y9, v, y11, y12, y13, y14, y15⟩) t)
    (fun t v k => F1.rec (motive := fun _ => Res) (fun y0 y1 y2 y3 y4 y5 y6 y7 y8 y9 y10 _ y12 y13 y14 y15 => k ⟨y0, y1, y2, y3, y4, y5, y6, y7, y8, y9, y10, v, y12, y13, y14, y15⟩) t)
    (fun t v k => F1.rec (motive := fun _ => Res) (fun y0 y1 y2 y3 y4 y5 y6 y7 y8 y9 y10 y11 _ y13 y14 y15 => k ⟨y0, y1, y2, y3, y4, y5, y6, y7, y8, y9, y10, y11, v, y13, y14, y15⟩) t)
    (fun t v k => F1.rec (motive := fun _ => Res) (fun y0 y1 y2 y3 y4 y5 y6 y7 y8 y9 y10 y11 y12 _ y14 y15 => k ⟨y0, y1, y2, y3, y4, y5, y6, y7, y8, y9, y10, y11, y12, v, y14, y15⟩) t)
    (fun t v k => F1.rec (motive := fun _ => Res) (fun y0 y1 y2 y3 y4 y5 y6 y7 y8 y9 y10 y11 y12 y13 _ y15 => k ⟨y0, y1, y2, y3, y4, y5, y6, y7, y8, y9, y10, y11, y12, y13, v, y15⟩) t)
    (fun t v k => F1.rec (motive := fun _ => Res) (fun y0 y1 y2 y3 y4 y5 y6 y7 y8 y9 y10 y11 y12 y13 y14 _ => k ⟨y0, y1, y2, y3, y4, y5, y6, y7, y8, y9, y10, y11, y12, y13, y14, v⟩) t) d

noncomputable def F2.getK (d : Dg) : F2 → (F1 → Res) → Res :=
  Dg.rec (motive := fun _ => F2 → (F1 → Res) → Res) (fun t k => k t.c0) (fun t k => k t.c1) (fun t k => k t.c2) (fun t k => k t.c3) (fun t k => k t.c4) (fun t k => k t.c5) (fun t k => k t.c6) (fun t k => k t.c7) (fun t k => k t.c8) (fun t k => k t.c9) (fun t k => k t.c10) (fun t k => k t.c11) (fun t k => k t.c12) (fun t k => k t.c13) (fun t k => k t.c14) (fun t k => k t.c15) d

noncomputable def F2.setK (d : Dg) : F2 → F1 → (F2 → Res) → Res :=
  Dg.rec (motive := fun _ => F2 → F1 → (F2 → Res) → Res)
    (fun t v k => F2.rec (motive := fun _ => Res) (fun _ y1 y2 y3 y4 y5 y6 y7 y8 y9 y10 y11 y12 y13 y14 y15 => k ⟨v, y1, y2, y3, y4, y5, y6, y7, y8, y9, y10, y11, y12, y13, y14, y15⟩) t)
    (fun t v k => F2.rec (motive := fun _ => Res) (fun y0 _ y2 y3 y4 y5 y6 y7 y8 y9 y10 y11 y12 y13 y14 y15 => k ⟨y0, v, y2, y3, y4, y5, y6, y7, y8, y9, y10, y11, y12, y13, y14, y15⟩) t)
    (fun t v k => F2.rec (motive := fun _ => Res) (fun y0 y1 _ y3 y4 y5 y6 y7 y8 y9 y10 y11 y12 y13 y14 y15 => k ⟨y0, y1, v, y3, y4, y5, y6, y7, y8, y9, y10, y11, y12, y13, y14, y15⟩) t)
    (fun t v k => F2.rec (motive := fun _ => Res) (fun y0 y1 y2 _ y4 y5 y6 y7 y8 y9 y10 y11 y12 y13 y14 y15 => k ⟨y0, y1, y2, v, y4, y5, y6, y7, y8, y9, y10, y11, y12, y13, y14, y15⟩) t)
    (fun t v k => F2.rec (motive := fun _ => Res) (fun y0 y1 y2 y3 _ y5 y6 y7 y8 y9 y10 y11 y12 y13 y14 y15 => k ⟨y0, y1, y2, y3, v, y5, y6, y7, y8, y9, y10, y11, y12, y13, y14, y15⟩) t)
    (fun t v k => F2.rec (motive := fun _ => Res) (fun y0 y1 y2 y3 y4 _ y6 y7 y8 y9 y10 y11 y12 y13 y14 y15 => k ⟨y0, y1, y2, y3, y4, v, y6, y7, y8, y9, y10, y11, y12, y13, y14, y15⟩) t)
    (fun t v k => F2.rec (motive := fun _ => Res) (fun y0 y1 y2 y3 y4 y5 _ y7 y8 y9 y10 y11 y12 y13 y14 y15 => k ⟨y0, y1, y2, y3, y4, y5, v, y7, y8, y9, y10, y11, y12, y13, y14, y15⟩) t)
    (fun t v k => F2.rec (motive := fun _ => Res) (fun y0 y1 y2 y3 y4 y5 y6 _ y8 y9 y10 y11 y12 y13 y14 y15 => k ⟨y0, y1, y2, y3, y4, y5, y6, v, y8, y9, y10, y11, y12, y13, y14, y15⟩) t)
    (fun t v k => F2.rec (motive := fun _ => Res) (fun y0 y1 y2 y3 y4 y5 y6 y7 _ y9 y10 y11 y12 y13 y14 y15 => k ⟨y0, y1, y2, y3, y4, y5, y6, y7, v, y9, y10, y11, y12, y13, y14, y15⟩) t)
    (fun t v k => F2.rec (motive := fun _ => Res) (fun y0 y1 y2 y3 y4 y5 y6 y7 y8 _ y10 y11 y12 y13 y14 y15 => k ⟨y0, y1, y2, y3, y4, y5, y6, y7, y8, v, y10, y11, y12, y13, y14, y15⟩) t)
    (fun t v k => F2.rec (motive := fun _ => Res) (fun y0 y1 y2 y3 y4 y5 y6 y7 y8 y9 _ y11 y12 y13 y14 y15 => k ⟨y0, y1, y2, y3, y4, y5, y6, y7, y8, y9, v, y11, y12, y13, y14, y15⟩) t)
    (fun t v k => F2.rec (motive := fun _ => Res) (fun y0 y1 y2 y3 y4 y5 y6 y7 y8 y9 y10 _ y12 y13 y14 y15 => k ⟨y0, y1, y2, y3, y4, y5, y6, y7, y8, y9, y10, v, y12, y13, y14, y15⟩) t)
    (fun t v k => F2.rec (motive := fun _ => Res) (fun y0 y1 y2 y3 y4 y5 y6 y7 y8 y9 y10 y11 _ y13 y14 y15 => k ⟨y0, y1, y2, y3, y4, y5, y6, y7, y8, y9, y10, y11, v, y13, y14, y15⟩) t)
    (fun t v k => F2.rec (motive := fun _ => Res) (fun y0 y1 y2 y3 y4 y5 y6 y7 y8 y9 y10 y11 y12 _ y14 y15 => k ⟨y0, y1, y2, y3, y4, y5, y6, y7, y8, y9, y10, y11, y12, v, y14, y15⟩) t)
    (fun t v k => F2.rec (motive := fun _ => Res) (fun y0 y1 y2 y3 y4 y5 y6 y7 y8 y9 y10 y11 y12 y13 _ y15 => k ⟨y0, y1, y2, y3, y4, y5, y6, y7, y8, y9, y10, y11, y12, y13, v, y15⟩) t)
    (fun t v k => F2.rec (motive := fun _ => Res) (fun y0 y1 y2 y3 y4 y5 y6 y7 y8 y9 y10 y11 y12 y13 y14 _ => k ⟨y0, y1, y2, y3, y4, y5, y6, y7, y8, y9, y10, y11, y12, y13, y14, v⟩) t) d


noncomputable def getV (p : Kp) : VT → (AV → Res) → Res :=
  Kp.rec (motive := fun _ => VT → (AV → Res) → Res) (fun a d T k => VT.getK a T fun t => V16.getK d t k) p
noncomputable def setV (p : Kp) : VT → AV → (VT → Res) → Res :=
  Kp.rec (motive := fun _ => VT → AV → (VT → Res) → Res) (fun a d T v k => VT.getK a T fun t => V16.setK d t v fun t => VT.setK a T t k) p
noncomputable def getO (p : Hi) : A2 → (AObj → Res) → Res :=
  Hi.rec (motive := fun _ => A2 → (AObj → Res) → Res) (fun a b c t k => A2.getK a t fun t => A1.getK b t fun t => A0.getK c t k) p
noncomputable def setO (p : Hi) : A2 → AObj → (A2 → Res) → Res :=
  Hi.rec (motive := fun _ => A2 → AObj → (A2 → Res) → Res) (fun a b c t o k => A2.getK a t fun t1 => A1.getK b t1 fun t0 => A0.setK c t0 o fun t0 => A1.setK b t1 t0 fun t1 => A2.setK a t t1 k) p
noncomputable def getF (p : Hi) : F2 → (FD → Res) → Res :=
  Hi.rec (motive := fun _ => F2 → (FD → Res) → Res) (fun a b c t k => F2.getK a t fun t => F1.getK b t fun t => F0.getK c t k) p

/-- The next digit, or the first one, and so on a place higher. -/
noncomputable def succD (d : Dg) : (Dg → Res) → Res → Res :=
  Dg.rec (motive := fun _ => (Dg → Res) → Res → Res) (fun k _ => k .x1) (fun k _ => k .x2) (fun k _ => k .x3) (fun k _ => k .x4) (fun k _ => k .x5) (fun k _ => k .x6) (fun k _ => k .x7) (fun k _ => k .x8) (fun k _ => k .x9) (fun k _ => k .xa) (fun k _ => k .xb) (fun k _ => k .xc) (fun k _ => k .xd) (fun k _ => k .xe) (fun k _ => k .xf) (fun _ c => c) d
noncomputable def succK (p : Hi) (k : Hi → Res) : Res :=
  Hi.rec (motive := fun _ => Res) (fun a b c => succD c (fun c => k (.mk a b c)) (succD b (fun b => k (.mk a b .x0)) (succD a (fun a => k (.mk a .x0 .x0)) .bad))) p

/-- A number, as a numeral. -/
noncomputable def natK (n : Nat) (k : Nat → Res) : Res := Nat.rec (motive := fun _ => Res) .bad (fun m _ => k m) (Nat.succ n)
noncomputable def intK (n : Int) (k : Int → Res) : Res := Int.rec (motive := fun _ => Res) (fun m => natK m fun m => k (.ofNat m)) (fun m => natK m fun m => k (.negSucc m)) n
noncomputable def boolK (b : Bool) (k : Bool → Res) : Res := Bool.rec (motive := fun _ => Res) (k false) (k true) b
noncomputable def ifK (b : Bool) (x y : Res) : Res := Bool.rec (motive := fun _ => Res) y x b

noncomputable def nthK (j : Nat) : List AV → (AV → Res) → Res :=
  Nat.rec (motive := fun _ => List AV → (AV → Res) → Res)
    (fun l k => List.rec (motive := fun _ => Res) .bad (fun v _ _ => k v) l)
    (fun _ ih l k => List.rec (motive := fun _ => Res) .bad (fun _ r _ => ih r k) l) j

/-- The list behind its first j elements. -/
noncomputable def dropK (j : Nat) : List AV → (List AV → Res) → Res :=
  Nat.rec (motive := fun _ => List AV → (List AV → Res) → Res)
    (fun l k => k l)
    (fun _ ih l k => List.rec (motive := fun _ => Res) .bad (fun _ r _ => ih r k) l) j

/-- The first j elements, ahead of 'r'. -/
noncomputable def takeK (j : Nat) : List AV → List AV → (List AV → Res) → Res :=
  Nat.rec (motive := fun _ => List AV → List AV → (List AV → Res) → Res)
    (fun _ r k => k r)
    (fun _ ih l r k => List.rec (motive := fun _ => Res) .bad (fun v t _ => ih t r fun u => k (v :: u)) l) j

/-- 'vs' laid over the list from its place j on. -/
noncomputable def overK (vs : List AV) : List AV → (List AV → Res) → Res :=
  List.rec (motive := fun _ => List AV → (List AV → Res) → Res)
    (fun l k => k l)
    (fun v _ ih l k => List.rec (motive := fun _ => Res) .bad (fun _ t _ => ih t fun u => k (v :: u)) l) vs
noncomputable def putK (j : Nat) : List AV → List AV → (List AV → Res) → Res :=
  Nat.rec (motive := fun _ => List AV → List AV → (List AV → Res) → Res)
    (fun vs l k => overK vs l k)
    (fun _ ih vs l k => List.rec (motive := fun _ => Res) .bad (fun v t _ => ih vs t fun u => k (v :: u)) l) j

noncomputable def lenK (l : List AV) : (Nat → Res) → Res :=
  List.rec (motive := fun _ => (Nat → Res) → Res) (fun k => k 0) (fun _ _ ih k => ih fun n => natK (Nat.succ n) k) l

noncomputable def appK (l : List AV) : List AV → (List AV → Res) → Res :=
  List.rec (motive := fun _ => List AV → (List AV → Res) → Res) (fun r k => k r) (fun v _ ih r k => ih r fun u => k (v :: u)) l

/-! ### A value, taken apart -/

noncomputable def AV.onBool : AV → (Bool → Res) → Res :=
  @AV.rec (fun _ => (Bool → Res) → Res) (fun _ => PUnit)
    (fun _ => .bad)
    (fun b k => k b)
    (fun _ _ _ => .bad)
    (fun _ _ _ => .bad)
    (fun _ => .bad)
    (fun _ _ _ => .bad)
    (fun _ => .bad)
    (fun _ _ _ _ _ => .bad)
    (fun _ => .bad)
    (fun _ _ => .bad)
    (fun _ => .bad)
    (fun _ _ _ _ _ _ => .bad)
    (fun _ => .bad)
    (fun _ _ _ _ => .bad)
    (fun _ _ _ => .bad)
    (fun _ _ _ => .bad)
    (fun _ _ => .bad)
    PUnit.unit (fun _ _ _ _ => PUnit.unit)

noncomputable def AV.onInt : AV → (Nat → Int → Res) → Res :=
  @AV.rec (fun _ => (Nat → Int → Res) → Res) (fun _ => PUnit)
    (fun _ => .bad)
    (fun _ _ => .bad)
    (fun κ n k => k κ n)
    (fun _ _ _ => .bad)
    (fun _ => .bad)
    (fun _ _ _ => .bad)
    (fun _ => .bad)
    (fun _ _ _ _ _ => .bad)
    (fun _ => .bad)
    (fun _ _ => .bad)
    (fun _ => .bad)
    (fun _ _ _ _ _ _ => .bad)
    (fun _ => .bad)
    (fun _ _ _ _ => .bad)
    (fun _ _ _ => .bad)
    (fun _ _ _ => .bad)
    (fun _ _ => .bad)
    PUnit.unit (fun _ _ _ _ => PUnit.unit)

noncomputable def AV.onStr : AV → (Nat → Nat → Res) → Res :=
  @AV.rec (fun _ => (Nat → Nat → Res) → Res) (fun _ => PUnit)
    (fun _ => .bad)
    (fun _ _ => .bad)
    (fun _ _ _ => .bad)
    (fun n v k => k n v)
    (fun _ => .bad)
    (fun _ _ _ => .bad)
    (fun _ => .bad)
    (fun _ _ _ _ _ => .bad)
    (fun _ => .bad)
    (fun _ _ => .bad)
    (fun _ => .bad)
    (fun _ _ _ _ _ _ => .bad)
    (fun _ => .bad)
    (fun _ _ _ _ => .bad)
    (fun _ _ _ => .bad)
    (fun _ _ _ => .bad)
    (fun _ _ => .bad)
    PUnit.unit (fun _ _ _ _ => PUnit.unit)

noncomputable def AV.onPtr : AV → (Hi → Nat → Res) → Res :=
  @AV.rec (fun _ => (Hi → Nat → Res) → Res) (fun _ => PUnit)
    (fun _ => .bad)
    (fun _ _ => .bad)
    (fun _ _ _ => .bad)
    (fun _ _ _ => .bad)
    (fun _ => .bad)
    (fun b o k => k b o)
    (fun _ => .bad)
    (fun _ _ _ _ _ => .bad)
    (fun _ => .bad)
    (fun _ _ => .bad)
    (fun _ => .bad)
    (fun _ _ _ _ _ _ => .bad)
    (fun _ => .bad)
    (fun _ _ _ _ => .bad)
    (fun _ _ _ => .bad)
    (fun _ _ _ => .bad)
    (fun _ _ => .bad)
    PUnit.unit (fun _ _ _ _ => PUnit.unit)

noncomputable def AV.onSlice : AV → (Res) → (Hi → Nat → Nat → Option Nat → Res) → Res :=
  @AV.rec (fun _ => (Res) → (Hi → Nat → Nat → Option Nat → Res) → Res) (fun _ => PUnit)
    (fun _ _ => .bad)
    (fun _ _ _ => .bad)
    (fun _ _ _ _ => .bad)
    (fun _ _ _ _ => .bad)
    (fun _ _ => .bad)
    (fun _ _ _ _ => .bad)
    (fun k _ => k)
    (fun b o n c _ k => k b o n c)
    (fun _ _ => .bad)
    (fun _ _ _ => .bad)
    (fun _ _ => .bad)
    (fun _ _ _ _ _ _ _ => .bad)
    (fun _ _ => .bad)
    (fun _ _ _ _ _ => .bad)
    (fun _ _ _ _ => .bad)
    (fun _ _ _ _ => .bad)
    (fun _ _ _ => .bad)
    PUnit.unit (fun _ _ _ _ => PUnit.unit)

noncomputable def AV.onMap : AV → (Res) → (Hi → Res) → Res :=
  @AV.rec (fun _ => (Res) → (Hi → Res) → Res) (fun _ => PUnit)
    (fun _ _ => .bad)
    (fun _ _ _ => .bad)
    (fun _ _ _ _ => .bad)
    (fun _ _ _ _ => .bad)
    (fun _ _ => .bad)
    (fun _ _ _ _ => .bad)
    (fun _ _ => .bad)
    (fun _ _ _ _ _ _ => .bad)
    (fun k _ => k)
    (fun b _ k => k b)
    (fun _ _ => .bad)
    (fun _ _ _ _ _ _ _ => .bad)
    (fun _ _ => .bad)
    (fun _ _ _ _ _ => .bad)
    (fun _ _ _ _ => .bad)
    (fun _ _ _ _ => .bad)
    (fun _ _ _ => .bad)
    PUnit.unit (fun _ _ _ _ => PUnit.unit)

noncomputable def AV.onFunc : AV → (AFn → List AV → List AV → Res) → Res :=
  @AV.rec (fun _ => (AFn → List AV → List AV → Res) → Res) (fun _ => PUnit)
    (fun _ => .bad)
    (fun _ _ => .bad)
    (fun _ _ _ => .bad)
    (fun _ _ _ => .bad)
    (fun _ => .bad)
    (fun _ _ _ => .bad)
    (fun _ => .bad)
    (fun _ _ _ _ _ => .bad)
    (fun _ => .bad)
    (fun _ _ => .bad)
    (fun _ => .bad)
    (fun f fi ca _ _ k => k f fi ca)
    (fun _ => .bad)
    (fun _ _ _ _ => .bad)
    (fun _ _ _ => .bad)
    (fun _ _ _ => .bad)
    (fun _ _ => .bad)
    PUnit.unit (fun _ _ _ _ => PUnit.unit)

noncomputable def AV.onIface : AV → (Nat → AV → Res) → Res :=
  @AV.rec (fun _ => (Nat → AV → Res) → Res) (fun _ => PUnit)
    (fun _ => .bad)
    (fun _ _ => .bad)
    (fun _ _ _ => .bad)
    (fun _ _ _ => .bad)
    (fun _ => .bad)
    (fun _ _ _ => .bad)
    (fun _ => .bad)
    (fun _ _ _ _ _ => .bad)
    (fun _ => .bad)
    (fun _ _ => .bad)
    (fun _ => .bad)
    (fun _ _ _ _ _ _ => .bad)
    (fun _ => .bad)
    (fun t v _ k => k t v)
    (fun _ _ _ => .bad)
    (fun _ _ _ => .bad)
    (fun _ _ => .bad)
    PUnit.unit (fun _ _ _ _ => PUnit.unit)

noncomputable def AV.onIfc : AV → (Res) → (Nat → AV → Res) → Res :=
  @AV.rec (fun _ => (Res) → (Nat → AV → Res) → Res) (fun _ => PUnit)
    (fun _ _ => .bad)
    (fun _ _ _ => .bad)
    (fun _ _ _ _ => .bad)
    (fun _ _ _ _ => .bad)
    (fun _ _ => .bad)
    (fun _ _ _ _ => .bad)
    (fun _ _ => .bad)
    (fun _ _ _ _ _ _ => .bad)
    (fun _ _ => .bad)
    (fun _ _ _ => .bad)
    (fun _ _ => .bad)
    (fun _ _ _ _ _ _ _ => .bad)
    (fun k _ => k)
    (fun t v _ _ k => k t v)
    (fun _ _ _ _ => .bad)
    (fun _ _ _ _ => .bad)
    (fun _ _ _ => .bad)
    PUnit.unit (fun _ _ _ _ => PUnit.unit)

noncomputable def AV.onAgg : AV → (List AV → Res) → Res :=
  @AV.rec (fun _ => (List AV → Res) → Res) (fun _ => PUnit)
    (fun _ => .bad)
    (fun _ _ => .bad)
    (fun _ _ _ => .bad)
    (fun _ _ _ => .bad)
    (fun _ => .bad)
    (fun _ _ _ => .bad)
    (fun _ => .bad)
    (fun _ _ _ _ _ => .bad)
    (fun _ => .bad)
    (fun _ _ => .bad)
    (fun _ => .bad)
    (fun _ _ _ _ _ _ => .bad)
    (fun _ => .bad)
    (fun _ _ _ _ => .bad)
    (fun l _ k => k l)
    (fun _ _ _ => .bad)
    (fun _ _ => .bad)
    PUnit.unit (fun _ _ _ _ => PUnit.unit)

noncomputable def AV.onTup : AV → (List AV → Res) → Res :=
  @AV.rec (fun _ => (List AV → Res) → Res) (fun _ => PUnit)
    (fun _ => .bad)
    (fun _ _ => .bad)
    (fun _ _ _ => .bad)
    (fun _ _ _ => .bad)
    (fun _ => .bad)
    (fun _ _ _ => .bad)
    (fun _ => .bad)
    (fun _ _ _ _ _ => .bad)
    (fun _ => .bad)
    (fun _ _ => .bad)
    (fun _ => .bad)
    (fun _ _ _ _ _ _ => .bad)
    (fun _ => .bad)
    (fun _ _ _ _ => .bad)
    (fun _ _ _ => .bad)
    (fun l _ k => k l)
    (fun _ _ => .bad)
    PUnit.unit (fun _ _ _ _ => PUnit.unit)

noncomputable def AV.onNP : AV → (Res) → (Hi → Nat → Res) → Res :=
  @AV.rec (fun _ => (Res) → (Hi → Nat → Res) → Res) (fun _ => PUnit)
    (fun _ _ => .bad)
    (fun _ _ _ => .bad)
    (fun _ _ _ _ => .bad)
    (fun _ _ _ _ => .bad)
    (fun k _ => k)
    (fun b o _ k => k b o)
    (fun _ _ => .bad)
    (fun _ _ _ _ _ _ => .bad)
    (fun _ _ => .bad)
    (fun _ _ _ => .bad)
    (fun _ _ => .bad)
    (fun _ _ _ _ _ _ _ => .bad)
    (fun _ _ => .bad)
    (fun _ _ _ _ _ => .bad)
    (fun _ _ _ _ => .bad)
    (fun _ _ _ _ => .bad)
    (fun _ _ _ => .bad)
    PUnit.unit (fun _ _ _ _ => PUnit.unit)

noncomputable def AV.onNF : AV → (Res) → (AFn → List AV → List AV → Res) → Res :=
  @AV.rec (fun _ => (Res) → (AFn → List AV → List AV → Res) → Res) (fun _ => PUnit)
    (fun _ _ => .bad)
    (fun _ _ _ => .bad)
    (fun _ _ _ _ => .bad)
    (fun _ _ _ _ => .bad)
    (fun _ _ => .bad)
    (fun _ _ _ _ => .bad)
    (fun _ _ => .bad)
    (fun _ _ _ _ _ _ => .bad)
    (fun _ _ => .bad)
    (fun _ _ _ => .bad)
    (fun k _ => k)
    (fun f fi ca _ _ _ k => k f fi ca)
    (fun _ _ => .bad)
    (fun _ _ _ _ _ => .bad)
    (fun _ _ _ _ => .bad)
    (fun _ _ _ _ => .bad)
    (fun _ _ _ => .bad)
    PUnit.unit (fun _ _ _ _ => PUnit.unit)

/-- Goes on at a key of a plain kind. -/
noncomputable def AV.onKey : AV → Res → Res :=
  @AV.rec (fun _ => Res → Res) (fun _ => PUnit)
    (fun _ => .bad)
    (fun _ k => k)
    (fun _ _ k => k)
    (fun _ _ k => k)
    (fun _ => .bad)
    (fun _ _ _ => .bad)
    (fun _ => .bad)
    (fun _ _ _ _ _ => .bad)
    (fun _ => .bad)
    (fun _ _ => .bad)
    (fun _ => .bad)
    (fun _ _ _ _ _ _ => .bad)
    (fun _ => .bad)
    (fun _ _ _ _ => .bad)
    (fun _ _ _ => .bad)
    (fun _ _ _ => .bad)
    (fun _ _ => .bad)
    PUnit.unit (fun _ _ _ _ => PUnit.unit)

/-- Goes on at a value of one cell alone. -/
noncomputable def AV.onOne : AV → Res → Res :=
  @AV.rec (fun _ => Res → Res) (fun _ => PUnit)
    (fun _ => .bad)
    (fun _ k => k)
    (fun _ _ k => k)
    (fun _ _ k => k)
    (fun k => k)
    (fun _ _ k => k)
    (fun k => k)
    (fun _ _ _ _ k => k)
    (fun k => k)
    (fun _ k => k)
    (fun k => k)
    (fun _ _ _ _ _ k => k)
    (fun k => k)
    (fun _ _ _ k => k)
    (fun _ _ _ => .bad)
    (fun _ _ _ => .bad)
    (fun _ k => k)
    PUnit.unit (fun _ _ _ _ => PUnit.unit)

/-- Goes on at a pointer or a function that is not nil. -/
noncomputable def AV.onPF : AV → Res → Res :=
  @AV.rec (fun _ => Res → Res) (fun _ => PUnit)
    (fun _ => .bad)
    (fun _ _ => .bad)
    (fun _ _ _ => .bad)
    (fun _ _ _ => .bad)
    (fun _ => .bad)
    (fun _ _ k => k)
    (fun _ => .bad)
    (fun _ _ _ _ _ => .bad)
    (fun _ => .bad)
    (fun _ _ => .bad)
    (fun _ => .bad)
    (fun _ _ _ _ _ k => k)
    (fun _ => .bad)
    (fun _ _ _ _ => .bad)
    (fun _ _ _ => .bad)
    (fun _ _ _ => .bad)
    (fun _ _ => .bad)
    PUnit.unit (fun _ _ _ _ => PUnit.unit)

/-- The cells of a value: of an aggregate the list, else the value. -/
noncomputable def cellsK (v : AV) (k : List AV → Res) : Res :=
  @AV.rec (fun _ => AV → (List AV → Res) → Res) (fun _ => PUnit)
    (fun _ _ => .bad)
    (fun _ v k => k [v])
    (fun _ _ v k => k [v])
    (fun _ _ v k => k [v])
    (fun v k => k [v])
    (fun _ _ v k => k [v])
    (fun v k => k [v])
    (fun _ _ _ _ v k => k [v])
    (fun v k => k [v])
    (fun _ v k => k [v])
    (fun v k => k [v])
    (fun _ _ _ _ _ v k => k [v])
    (fun v k => k [v])
    (fun _ _ _ v k => k [v])
    (fun l _ _ k => k l)
    (fun _ _ _ _ => .bad)
    (fun _ v k => k [v])
    PUnit.unit (fun _ _ _ _ => PUnit.unit) v v k

noncomputable def AV.onGrd : AV → (Bool → Res) → Res → Res :=
  @AV.rec (fun _ => (Bool → Res) → Res → Res) (fun _ => PUnit)
    (fun _ _ => .bad)
    (fun b k _ => k b)
    (fun _ _ _ _ => .bad)
    (fun _ _ _ _ => .bad)
    (fun _ _ => .bad)
    (fun _ _ _ _ => .bad)
    (fun _ _ => .bad)
    (fun _ _ _ _ _ _ => .bad)
    (fun _ _ => .bad)
    (fun _ _ _ => .bad)
    (fun _ _ => .bad)
    (fun _ _ _ _ _ _ _ => .bad)
    (fun _ _ => .bad)
    (fun _ _ _ _ _ => .bad)
    (fun _ _ _ _ => .bad)
    (fun l _ _ d => List.rec (motive := fun _ => Res) d (fun _ _ _ => .bad) l)
    (fun _ _ _ => .bad)
    PUnit.unit (fun _ _ _ _ => PUnit.unit)

noncomputable def AObj.onCells : AObj → (Bool → Nat → Nat → List AV → Res) → Res :=
  @AObj.rec (fun _ => (Bool → Nat → Nat → List AV → Res) → Res) (fun _ => .bad) (fun g sz fz c k => k g sz fz c) (fun _ _ _ => .bad) (fun _ _ _ _ => .bad) (fun _ _ _ _ => .bad) (fun _ _ _ _ _ _ _ => .bad) (fun _ _ => .bad) 
noncomputable def AObj.onMap : AObj → (List AEnt → Nat → Res) → Res :=
  @AObj.rec (fun _ => (List AEnt → Nat → Res) → Res) (fun _ => .bad) (fun _ _ _ _ _ => .bad) (fun es c k => k es c) (fun _ _ _ _ => .bad) (fun _ _ _ _ => .bad) (fun _ _ _ _ _ _ _ => .bad) (fun _ _ => .bad) 
noncomputable def AObj.onLoop : AObj → (Nat → Option AJ → Hi → VT → Nat → Hi → Res) → Res :=
  @AObj.rec (fun _ => (Nat → Option AJ → Hi → VT → Nat → Hi → Res) → Res) (fun _ => .bad) (fun _ _ _ _ _ => .bad) (fun _ _ _ => .bad) (fun _ _ _ _ => .bad) (fun _ _ _ _ => .bad) (fun st pe f T i d k => k st pe f T i d) (fun _ _ => .bad) 
noncomputable def AObj.onDefd : AObj → (Option (List AD) → Res) → Res :=
  @AObj.rec (fun _ => (Option (List AD) → Res) → Res) (fun _ => .bad) (fun _ _ _ _ _ => .bad) (fun _ _ _ => .bad) (fun _ _ _ _ => .bad) (fun _ _ _ _ => .bad) (fun _ _ _ _ _ _ _ => .bad) (fun c k => k c) 
/-- The object, unless there is none: then the other. -/
noncomputable def AObj.orK (o : AObj) (d k : Res) : Res :=
  @AObj.rec (fun _ => Res → Res → Res) (fun d _ => d) (fun _ _ _ _ _ k => k) (fun _ _ _ k => k) (fun _ _ _ _ k => k) (fun _ _ _ _ k => k) (fun _ _ _ _ _ _ _ k => k) (fun _ _ k => k) o d k

/-- Goes on at a symbol, and otherwise elsewhere. -/
noncomputable def AV.onSymOr : AV → (Nat → Res) → Res → Res :=
  @AV.rec (fun _ => (Nat → Res) → Res → Res) (fun _ => PUnit)
    (fun _ d => d)
    (fun _ _ d => d)
    (fun _ _ _ d => d)
    (fun _ _ _ d => d)
    (fun _ d => d)
    (fun _ _ _ d => d)
    (fun _ d => d)
    (fun _ _ _ _ _ d => d)
    (fun _ d => d)
    (fun _ _ d => d)
    (fun _ d => d)
    (fun _ _ _ _ _ _ d => d)
    (fun _ d => d)
    (fun _ _ _ _ d => d)
    (fun _ _ _ d => d)
    (fun _ _ _ d => d)
    (fun k f _ => f k)
    PUnit.unit (fun _ _ _ _ => PUnit.unit)

/-! ### Symbols -/

/-- The strings that no symbol is. -/
def symNames : List (Nat × Nat) := [(5, 495622906222), (5, 435727459692), (5, 495622842726), (6, 126870807932788), (7, 32480064979559794), (7, 32495402123093352), (7, 32497592573780591), (9, 2129618691208608441714)]
/-- A symbol that is a string: the symbol of its length. -/
def symStr (k : Nat) : Option Nat := cond (Nat.beq k 0) (some 2) (cond (Nat.beq k 1) (some 3) none)
/-- A symbol that is a number: its kind, the least and the greatest that it is. -/
def symInt (k : Nat) : Option (Nat × Int × Int) := cond (Nat.beq k 2) (some (3, .ofNat 0, .ofNat 100)) (cond (Nat.beq k 3) (some (3, .ofNat 101, .ofNat 140737488355328)) (cond (Nat.beq k 5) (some (3, .ofNat 8, .ofNat 255)) none))
/-- A symbol that is a number, as one of another kind. -/
def symConv (k κ : Nat) : Option Nat := cond (Nat.beq k 4) (cond (Nat.beq κ 3) (some 5) none) none

end Go.Proofs.YtpngpoeifgkclaaGreatDoor.Am

/- The abstract machine: what each operation does. -/
namespace Go.Proofs.YtpngpoeifgkclaaGreatDoor.Am

/-! ### Operands -/

noncomputable def evO (x : Opd) : List AV → VT → (AV → Res) → Res :=
  Opd.rec (motive := fun _ => List AV → VT → (AV → Res) → Res) (fun j L _ k => nthK j L k) (fun p _ T k => getV p T k) (fun v _ _ k => k v) x

noncomputable def evOs (xs : List Opd) : List AV → VT → (List AV → Res) → Res :=
  List.rec (motive := fun _ => List AV → VT → (List AV → Res) → Res) (fun _ _ k => k [])
    (fun x _ ih L T k => evO x L T fun v => ih L T fun vs => k (v :: vs)) xs

noncomputable def putD (d : Dst) : AV → List AV → VT → (List AV → VT → Res) → Res :=
  Dst.rec (motive := fun _ => AV → List AV → VT → (List AV → VT → Res) → Res)
    (fun _ L T k => k L T) (fun v L T k => k (v :: L) T) (fun p v L T k => setV p T v fun T => k (v :: L) T) d

noncomputable def buildK (ps : List (Nat × Nat × Opd)) : List AV → VT → List AV → (List AV → Res) → Res :=
  List.rec (motive := fun _ => List AV → VT → List AV → (List AV → Res) → Res) (fun _ _ z k => k z)
    (fun q _ ih L T z k => evO q.2.2 L T fun v => cellsK v fun cs => lenK cs fun n => ifK (Nat.beq n q.2.1) (putK q.1 cs z fun z => ih L T z k) .bad) ps

/-! ### Memory -/

noncomputable def atFz (b : Hi) (fz : List A2) : (AObj → Res) → Res :=
  List.rec (motive := fun _ => (AObj → Res) → Res) (fun _ => .bad) (fun t _ ih k => getO b t fun o => o.orK (ih k) (k o)) fz

noncomputable def atK (b : Hi) (h : Hp) (k : AObj → Res) : Res :=
  Hp.rec (motive := fun _ => Res) (fun tr fz _ => getO b tr fun o => o.orK (atFz b fz k) (k o)) h

/-- An object that may be written. -/
noncomputable def ownK (b : Hi) (h : Hp) (k : AObj → Res) : Res :=
  Hp.rec (motive := fun _ => Res) (fun tr _ _ => getO b tr fun o => o.orK .bad (k o)) h

noncomputable def setK (b : Hi) (ob : AObj) (h : Hp) (k : Hp → Res) : Res :=
  Hp.rec (motive := fun _ => Res) (fun tr fz nx => setO b tr ob fun tr => k ⟨tr, fz, nx⟩) h

noncomputable def delK (b : Hi) (h : Hp) (k : Hp → Res) : Res := setK b .no h k

noncomputable def newK (ob : AObj) (h : Hp) (k : Hi → Hp → Res) : Res :=
  Hp.rec (motive := fun _ => Res) (fun tr fz nx => setO nx tr ob fun tr => succK nx fun nx' => k nx ⟨tr, fz, nx'⟩) h

/-! ### Numbers -/

noncomputable def kOf (k : Nat) : IntKind := Nat.rec .i8 (fun k _ => Nat.rec .i16 (fun k _ => Nat.rec .i32 (fun k _ => Nat.rec .i64 (fun k _ => Nat.rec .u8 (fun k _ => Nat.rec .u16 (fun k _ => Nat.rec .u32 (fun _ _ => .u64) k) k) k) k) k) k) k

/-- Two's complement: 'hi' numbers from 0 on are as they are, 'lo' from -1 down. -/
noncomputable def wrapK (k hi lo : Nat) (r : Int) (c : Int → Res) : Res :=
  Int.rec (motive := fun _ => Res)
    (fun m => natK m fun m => ifK (Nat.blt m hi) (c (.ofNat m)) (intK ((kOf k).wrap (.ofNat m)) c))
    (fun m => natK m fun m => ifK (Nat.blt m lo) (c (.negSucc m)) (intK ((kOf k).wrap (.negSucc m)) c)) r

noncomputable def ltI (m n : Int) : Bool :=
  Int.rec (motive := fun _ => Bool) (fun a => Int.rec (motive := fun _ => Bool) (fun b => Nat.blt a b) (fun _ => false) n)
    (fun a => Int.rec (motive := fun _ => Bool) (fun _ => true) (fun b => Nat.blt b a) n) m

noncomputable def eqI (m n : Int) : Bool :=
  Int.rec (motive := fun _ => Bool) (fun a => Int.rec (motive := fun _ => Bool) (fun b => Nat.beq a b) (fun _ => false) n)
    (fun a => Int.rec (motive := fun _ => Bool) (fun _ => false) (fun b => Nat.beq a b) n) m

noncomputable def addI (m n : Int) : Int :=
  Int.rec (motive := fun _ => Int) (fun a => Int.rec (motive := fun _ => Int) (fun b => .ofNat (Nat.add a b)) (fun b => Int.subNatNat a (Nat.succ b)) n)
    (fun a => Int.rec (motive := fun _ => Int) (fun b => Int.subNatNat b (Nat.succ a)) (fun b => .negSucc (Nat.succ (Nat.add a b))) n) m

noncomputable def subI (m n : Int) : Int :=
  Int.rec (motive := fun _ => Int) (fun a => Int.rec (motive := fun _ => Int) (fun b => Int.subNatNat a b) (fun b => .ofNat (Nat.add a (Nat.succ b))) n)
    (fun a => Int.rec (motive := fun _ => Int) (fun b => .negSucc (Nat.add a b)) (fun b => Int.subNatNat (Nat.succ b) (Nat.succ a)) n) m

/-- What the model's own reckoning gives, where it neither looks at memory nor panics. -/
noncomputable def pureInt (s : Sem Value) (k : Int → Res) : Res :=
  match s with
  | .pure (.int _ r) => intK r k
  | _ => .bad

noncomputable def IBin.op (o : IBin) : BinOp := IBin.rec .add .sub .mul .quo .rem .and .or .xor .andNot .shl .shr o

noncomputable def binSlow (o : IBin) (k : Nat) (m n : Int) (c : Int → Res) : Res := pureInt (binOp o.op 0 (.int (kOf k) m) (.int (kOf k) n)) c
noncomputable def shSlow (o : IBin) (k k2 : Nat) (m n : Int) (c : Int → Res) : Res := pureInt (binOp o.op 0 (.int (kOf k) m) (.int (kOf k2) n)) c

noncomputable def binI (o : IBin) : Nat → Nat → Nat → Nat → Int → Int → (Int → Res) → Res :=
  IBin.rec (motive := fun _ => Nat → Nat → Nat → Nat → Int → Int → (Int → Res) → Res)
    (fun k hi lo k2 m n c => ifK (Nat.beq k2 k) (wrapK k hi lo (addI m n) c) .bad)
    (fun k hi lo k2 m n c => ifK (Nat.beq k2 k) (wrapK k hi lo (subI m n) c) .bad)
    (fun k hi lo k2 m n c => ifK (Nat.beq k2 k) (wrapK k hi lo (Int.mul m n) c) .bad)
    (fun k _ _ k2 m n c => ifK (Nat.beq k2 k) (binSlow .quo k m n c) .bad)
    (fun k _ _ k2 m n c => ifK (Nat.beq k2 k) (binSlow .rem k m n c) .bad)
    (fun k _ _ k2 m n c => ifK (Nat.beq k2 k) (binSlow .and k m n c) .bad)
    (fun k _ _ k2 m n c => ifK (Nat.beq k2 k) (binSlow .or k m n c) .bad)
    (fun k _ _ k2 m n c => ifK (Nat.beq k2 k) (binSlow .xor k m n c) .bad)
    (fun k _ _ k2 m n c => ifK (Nat.beq k2 k) (binSlow .andNot k m n c) .bad)
    (fun k _ _ k2 m n c => shSlow .shl k k2 m n c)
    (fun k _ _ k2 m n c => shSlow .shr k k2 m n c) o

noncomputable def cmpI (o : ICmp) : Int → Int → Bool :=
  ICmp.rec (motive := fun _ => Int → Int → Bool) eqI (fun m n => Bool.not (eqI m n)) ltI (fun m n => Bool.not (ltI n m)) (fun m n => ltI n m) (fun m n => Bool.not (ltI m n)) o

/-! ### Strings: the length, and the bytes as a number, the first one least -/

noncomputable def byteAt (v i : Nat) : Nat := Nat.mod (Nat.div v (Nat.pow 256 i)) 256
noncomputable def cutS (v lo n : Nat) : Nat := Nat.mod (Nat.div v (Nat.pow 256 lo)) (Nat.pow 256 n)

noncomputable def eqS (n v m w : Nat) : Bool := Bool.rec (motive := fun _ => Bool) false (Nat.beq v w) (Nat.beq n m)

/-- The first place from i on, of n, with byte c. -/
noncomputable def idxB (c : Nat) (n : Nat) : Nat → Nat → (Int → Res) → Res :=
  Nat.rec (motive := fun _ => Nat → Nat → (Int → Res) → Res) (fun _ _ k => k (.negSucc 0))
    (fun _ ih v i k => ifK (Nat.beq (Nat.mod v 256) c) (k (.ofNat i)) (natK (Nat.div v 256) fun v => natK (Nat.succ i) fun i => ih v i k)) n

noncomputable def cntB (c : Nat) (n : Nat) : Nat → Nat → (Nat → Res) → Res :=
  Nat.rec (motive := fun _ => Nat → Nat → (Nat → Res) → Res) (fun _ a k => k a)
    (fun _ ih v a k => natK (Nat.div v 256) fun w => ifK (Nat.beq (Nat.mod v 256) c) (natK (Nat.succ a) fun a => ih w a k) (ih w a k)) n

/-- The bytes as cells. -/
noncomputable def bytesK (n : Nat) : Nat → (List AV → Res) → Res :=
  Nat.rec (motive := fun _ => Nat → (List AV → Res) → Res) (fun _ k => k [])
    (fun _ ih v k => natK (Nat.mod v 256) fun b => natK (Nat.div v 256) fun w => ih w fun l => k (.int 4 (.ofNat b) :: l)) n

/-- Cells of bytes as a number. -/
noncomputable def codeK (l : List AV) : (Nat → Res) → Res :=
  List.rec (motive := fun _ => (Nat → Res) → Res) (fun k => k 0)
    (fun x _ ih k => x.onInt fun κ b => ifK (Nat.beq κ 4) (Int.rec (motive := fun _ => Res) (fun b => ifK (Nat.blt b 256) (ih fun r => natK (Nat.add b (Nat.mul 256 r)) k) .bad) (fun _ => .bad) b) .bad) l

/-! ### The bounds of a slice expression -/

/-- A bound of at most 'top'. -/
noncomputable def bndK (v : AV) (top : Nat) (k : Nat → Res) : Res :=
  v.onInt fun _ i => Int.rec (motive := fun _ => Res) (fun i => ifK (Nat.ble i top) (k i) .bad) (fun _ => .bad) i

noncomputable def optK (x : Option Opd) (d : Nat) (L : List AV) (T : VT) (top : Nat) (k : Nat → Res) : Res :=
  Option.rec (motive := fun _ => Res) (k d) (fun x => evO x L T fun v => bndK v top k) x

/-! ### Equality -/

noncomputable def dgN (d : Dg) : Nat := Dg.rec 0 1 2 3 4 5 6 7 8 9 10 11 12 13 14 15 d
noncomputable def eqD (a b : Dg) : Bool := Nat.beq (dgN a) (dgN b)
noncomputable def eqP (p q : Hi) : Bool :=
  Hi.rec (motive := fun _ => Bool) (fun a b c => Hi.rec (motive := fun _ => Bool) (fun d e f => and (eqD c f) (and (eqD b e) (eqD a d))) q) p

noncomputable def eqK (e : EqKind) : AV → AV → (Bool → Res) → Res :=
  EqKind.rec (motive := fun _ => AV → AV → (Bool → Res) → Res)
    (fun x y k => x.onBool fun a => y.onBool fun b => boolK (a == b) k)
    (fun x y k => x.onNP (y.onNP (k true) (fun _ _ => k false)) (fun p i => y.onNP (k false) (fun q j => ifK (eqP p q) (boolK (Nat.beq i j) k) .bad)))
    (fun x y k => x.onSlice (y.onSlice (k true) (fun _ _ _ _ => k false)) (fun _ _ _ _ => y.onSlice (k false) (fun _ _ _ _ => .bad)))
    (fun x y k => x.onMap (y.onMap (k true) (fun _ => k false)) (fun _ => y.onMap (k false) (fun _ => .bad)))
    (fun x y k => x.onNF (y.onNF (k true) (fun _ _ _ => k false)) (fun _ _ _ => y.onNF (k false) (fun _ _ _ => .bad)))
    (fun x y k => x.onIfc (y.onIfc (k true) (fun _ _ => k false)) (fun _ _ => y.onIfc (k false) (fun _ _ => .bad))) e

/-! ### Maps -/

noncomputable def keyEq : AV → AV → (Bool → Res) → Res :=
  @AV.rec (fun _ => AV → (Bool → Res) → Res) (fun _ => PUnit)
    (fun _ _ => .bad) (fun a y k => y.onBool fun b => boolK (a == b) k) (fun i a y k => y.onInt fun j b => ifK (Nat.beq i j) (boolK (eqI a b) k) .bad)
    (fun n v y k => y.onStr fun m w => boolK (eqS n v m w) k) (fun _ _ => .bad) (fun _ _ _ _ => .bad) (fun _ _ => .bad) (fun _ _ _ _ _ _ => .bad) (fun _ _ => .bad) (fun _ _ _ => .bad)
    (fun _ _ => .bad) (fun _ _ _ _ _ _ _ => .bad) (fun _ _ => .bad) (fun _ _ _ _ _ => .bad) (fun _ _ _ _ => .bad) (fun _ _ _ _ => .bad) (fun _ _ _ => .bad)
    PUnit.unit (fun _ _ _ _ => PUnit.unit)

/-- A key of the kind that the map's keys are of: a number, a string, a bool. -/
noncomputable def keyIs (q : Nat) (x : AV) (k : Res) : Res :=
  Nat.rec (motive := fun _ => Res) (x.onInt fun _ _ => k) (fun q _ => Nat.rec (motive := fun _ => Res) (x.onStr fun _ _ => k) (fun _ _ => x.onBool fun _ => k) q) q

/-- Two rows of plain cells, of these kinds. -/
noncomputable def eqA (qs : List Nat) : List AV → List AV → (Bool → Res) → Res :=
  List.rec (motive := fun _ => List AV → List AV → (Bool → Res) → Res) (fun _ _ k => k true)
    (fun q _ ih l m k => List.rec (motive := fun _ => Res) .bad (fun x l _ => List.rec (motive := fun _ => Res) .bad (fun y m _ => keyIs q x (keyEq x y fun b => ifK b (ih l m k) (k false))) m) l) qs

/-- The entry with a key: its place and its value. -/
noncomputable def findK (x : AV) (es : List AEnt) : Nat → (Option (Nat × AEnt) → Res) → Res :=
  List.rec (motive := fun _ => Nat → (Option (Nat × AEnt) → Res) → Res) (fun _ k => k none)
    (fun e _ ih i k => keyEq x e.key fun b => ifK b (k (some (i, e))) (natK (Nat.succ i) fun i => ih i k)) es

noncomputable def setEnt (es : List AEnt) (i : Nat) (e : AEnt) : List AEnt := es.set i e

/-! ### Operations that give a value and leave memory alone -/

abbrev EK := List AV → VT → Hp → (AV → Res) → Res

noncomputable def vMv (x : Opd) : EK := fun L T _ k => evO x L T k
noncomputable def vPick (c a b : Opd) : EK := fun L T _ k => evO c L T fun c => c.onBool fun c => ifK c (evO a L T k) (evO b L T k)
noncomputable def vBuild (z : List AV) (ps : List (Nat × Nat × Opd)) : EK := fun L T _ k => buildK ps L T z fun l => k (.agg l)
noncomputable def vLd1 (x : Opd) : EK := fun L T h k => evO x L T fun a => a.onPtr fun b o => atK b h fun ob => ob.onCells fun _ _ _ c => nthK o c k
noncomputable def vLdn (x : Opd) (n : Nat) : EK := fun L T h k => evO x L T fun a => a.onPtr fun b o => atK b h fun ob => ob.onCells fun _ _ _ c => dropK o c fun d => takeK n d [] fun l => k (.agg l)
noncomputable def vNck (x : Opd) : EK := fun L T _ k => evO x L T fun v => v.onPF (k v)
noncomputable def vBin (o : IBin) (κ hi lo : Nat) (x y : Opd) : EK := fun L T _ k => evO x L T fun a => evO y L T fun b => a.onInt fun k1 m => b.onInt fun k2 n =>
  ifK (Nat.beq k1 κ) (binI o κ hi lo k2 m n fun r => k (.int κ r)) .bad
noncomputable def ICmp.mono (o : ICmp) : Bool := ICmp.rec false false true true true true o
noncomputable def symCmpK (o : ICmp) (j k2 : Nat) (n : Int) (k : AV → Res) : Res :=
  match symInt j with
  | some (κ, lo, hi) => ifK (Nat.beq κ k2) (ifK o.mono (boolK (cmpI o lo n) fun r => boolK (cmpI o hi n) fun r2 => ifK (r == r2) (k (.bool r)) .bad) .bad) .bad
  | none => .bad
noncomputable def symEqK (o : SBin) (j n v : Nat) (k : AV → Res) : Res :=
  match symStr j with
  | some _ => ifK (symNames.any fun q => Nat.beq q.1 n && Nat.beq q.2 v) (SBin.rec (motive := fun _ => Res) (k (.bool false)) (k (.bool true)) .bad o) .bad
  | none => .bad
noncomputable def symLenK (j : Nat) (k : AV → Res) : Res :=
  match symStr j with
  | some l => k (.sym l)
  | none => .bad
noncomputable def symConvK (j κ : Nat) (k : AV → Res) : Res :=
  match symConv j κ with
  | some l => k (.sym l)
  | none => .bad
noncomputable def vCmp (o : ICmp) (x y : Opd) : EK := fun L T _ k => evO x L T fun a => evO y L T fun b => a.onSymOr (fun j => b.onInt fun k2 n => symCmpK o j k2 n k) (a.onInt fun k1 m => b.onInt fun k2 n =>
  ifK (Nat.beq k1 k2) (boolK (cmpI o m n) fun r => k (.bool r)) .bad)
noncomputable def vSbin (o : SBin) (x y : Opd) : EK := fun L T _ k => evO x L T fun a => evO y L T fun b => a.onSymOr (fun j => b.onStr fun m w => symEqK o j m w k) (b.onSymOr (fun j => a.onStr fun n v => symEqK o j n v k) (a.onStr fun n v => b.onStr fun m w =>
  SBin.rec (motive := fun _ => Res) (boolK (eqS n v m w) fun r => k (.bool r)) (boolK (Bool.not (eqS n v m w)) fun r => k (.bool r))
    (ifK (Nat.blt (Nat.add n m) 4611686018427387904) (natK (Nat.add n m) fun s => natK (Nat.add v (Nat.mul (Nat.pow 256 n) w)) fun u => k (.str s u)) .bad) o))
noncomputable def vEqk (e : EqKind) (neg : Bool) (x y : Opd) : EK := fun L T _ k => evO x L T fun a => evO y L T fun b => eqK e a b fun r => boolK (xor neg r) fun r => k (.bool r)
noncomputable def vEqa (qs : List Nat) (neg : Bool) (x y : Opd) : EK := fun L T _ k => evO x L T fun a => evO y L T fun b => a.onAgg fun l => b.onAgg fun m =>
  eqA qs l m fun r => boolK (xor neg r) fun r => k (.bool r)
noncomputable def vNot (x : Opd) : EK := fun L T _ k => evO x L T fun a => a.onBool fun b => boolK (Bool.not b) fun b => k (.bool b)
noncomputable def vNeg (κ hi lo : Nat) (x : Opd) : EK := fun L T _ k => evO x L T fun a => a.onInt fun k1 m => ifK (Nat.beq k1 κ) (wrapK κ hi lo (subI 0 m) fun r => k (.int κ r)) .bad
noncomputable def vCvi (κ hi lo : Nat) (x : Opd) : EK := fun L T _ k => evO x L T fun a => a.onSymOr (fun j => symConvK j κ k) (a.onInt fun _ m => wrapK κ hi lo m fun r => k (.int κ r))
noncomputable def vCbs (x : Opd) : EK := fun L T h k => evO x L T fun a => a.onSlice (k (.str 0 0)) fun b o n _ =>
  atK b h fun ob => ob.onCells fun _ _ _ c => dropK o c fun d => takeK n d [] fun l => codeK l fun v => k (.str n v)
noncomputable def vMif (t : Nat) (x : Opd) : EK := fun L T _ k => evO x L T fun a => k (.iface t a)
noncomputable def vMfn (f : Hi) (fi ca : List Opd) : EK := fun L T _ k => evOs fi L T fun fi => evOs ca L T fun ca => k (.func (.func f) fi ca)
noncomputable def vSlS (x : Opd) (lo hi : Option Opd) : EK := fun L T _ k => evO x L T fun a => a.onStr fun n v =>
  optK hi n L T n fun h => optK lo 0 L T h fun l => natK (Nat.sub h l) fun m => natK (cutS v l m) fun u => k (.str m u)
noncomputable def vSlL (x : Opd) (lo hi mx : Option Opd) (sz : Nat) : EK := fun L T hp k => evO x L T fun a => a.onSlice
  (optK mx 0 L T 0 fun m => optK hi 0 L T m fun h => optK lo 0 L T h fun _ => k .nils)
  fun b o n c => Option.rec (motive := fun _ => Res)
    (Option.rec (motive := fun _ => Res)
      (atK b hp fun ob => ob.onCells fun g osz _ _ => ifK g (ifK (Nat.beq osz sz) (optK hi n L T n fun h => optK lo 0 L T h fun l => natK (Nat.sub h l) fun len => natK (Nat.add o (Nat.mul l sz)) fun o => k (.slice b o len none)) .bad) .bad)
      (fun _ => optK mx 0 L T n fun m => optK hi n L T m fun h => optK lo 0 L T h fun l => natK (Nat.sub h l) fun len => natK (Nat.add o (Nat.mul l sz)) fun o => natK (Nat.sub m l) fun c => k (.slice b o len (some c))) mx)
    (fun c => optK mx c L T c fun m => optK hi n L T m fun h => optK lo 0 L T h fun l => natK (Nat.sub h l) fun len => natK (Nat.add o (Nat.mul l sz)) fun o => natK (Nat.sub m l) fun c => k (.slice b o len (some c))) c
noncomputable def vSlA (x : Opd) (lo hi mx : Option Opd) (n sz : Nat) : EK := fun L T _ k => evO x L T fun a => a.onPtr fun b o =>
  optK mx n L T n fun m => optK hi n L T m fun h => optK lo 0 L T h fun l => natK (Nat.sub h l) fun len => natK (Nat.add o (Nat.mul l sz)) fun o => natK (Nat.sub m l) fun c => k (.slice b o len (some c))
noncomputable def vFad (x : Opd) (off : Nat) : EK := fun L T _ k => evO x L T fun a => a.onPtr fun b o => natK (Nat.add o off) fun o => k (.ptr b o)
noncomputable def partK (l : List AV) (off n : Nat) (agg : Bool) (k : AV → Res) : Res :=
  ifK agg (dropK off l fun d => takeK n d [] fun l => k (.agg l)) (nthK off l k)
noncomputable def vFld (x : Opd) (off n : Nat) (agg : Bool) : EK := fun L T _ k => evO x L T fun a => a.onAgg fun l => partK l off n agg k
/-- An index below 'n'. -/
noncomputable def idxK (v : AV) (n : Nat) (k : Nat → Res) : Res :=
  v.onInt fun _ i => Int.rec (motive := fun _ => Res) (fun i => ifK (Nat.blt i n) (k i) .bad) (fun _ => .bad) i
noncomputable def vIxL (x i : Opd) (sz : Nat) : EK := fun L T _ k => evO x L T fun a => evO i L T fun i => a.onSlice .bad fun b o n _ =>
  idxK i n fun i => natK (Nat.add o (Nat.mul i sz)) fun o => k (.ptr b o)
noncomputable def vIxA (x i : Opd) (n sz : Nat) : EK := fun L T _ k => evO x L T fun a => evO i L T fun i => a.onPtr fun b o =>
  idxK i n fun i => natK (Nat.add o (Nat.mul i sz)) fun o => k (.ptr b o)
noncomputable def vIxS (x i : Opd) : EK := fun L T _ k => evO x L T fun a => evO i L T fun i => a.onStr fun n v => idxK i n fun i => natK (byteAt v i) fun b => k (.int 4 (.ofNat b))
noncomputable def vIxG (x i : Opd) (len n : Nat) (agg : Bool) : EK := fun L T _ k => evO x L T fun a => evO i L T fun i => a.onAgg fun l => idxK i len fun i => natK (Nat.mul i n) fun off => partK l off n agg k
noncomputable def okd (ok : Bool) (v : AV) (b : Bool) (k : AV → Res) : Res := ifK ok (k (.tup [v, .bool b])) (k v)
noncomputable def vLup (q : Nat) (m x : Opd) (z : AV) (ok : Bool) : EK := fun L T h k => evO m L T fun m => evO x L T fun x => keyIs q x (m.onMap (okd ok z false k) fun b =>
  atK b h fun ob => ob.onMap fun es _ => findK x es 0 fun r => Option.rec (motive := fun _ => Res) (okd ok z false k) (fun q => okd ok q.2.val true k) r)
noncomputable def vTas (x : Opd) (t : Nat) (z : AV) : EK := fun L T _ k => evO x L T fun a => a.onIfc (k (.tup [z, .bool false])) fun u v => ifK (Nat.beq u t) (k (.tup [v, .bool true])) (k (.tup [z, .bool false]))
noncomputable def vExt (x : Opd) (i : Nat) : EK := fun L T _ k => evO x L T fun a => a.onTup fun l => nthK i l k
noncomputable def vLnS (x : Opd) : EK := fun L T _ k => evO x L T fun a => a.onSymOr (fun j => symLenK j k) (a.onStr fun n _ => k (.int 3 (.ofNat n)))
noncomputable def vLnL (x : Opd) : EK := fun L T _ k => evO x L T fun a => a.onSlice (k (.int 3 0)) fun _ _ n _ => k (.int 3 (.ofNat n))
noncomputable def lenE (es : List AEnt) : (Nat → Res) → Res :=
  List.rec (motive := fun _ => (Nat → Res) → Res) (fun k => k 0) (fun _ _ ih k => ih fun n => natK (Nat.succ n) k) es
noncomputable def vLnM (x : Opd) : EK := fun L T h k => evO x L T fun a => a.onMap (k (.int 3 0)) fun b => atK b h fun ob => ob.onMap fun es _ => lenE es fun n => k (.int 3 (.ofNat n))
noncomputable def vMn (x y : Opd) : EK := fun L T _ k => evO x L T fun a => evO y L T fun b => a.onInt fun k1 m => b.onInt fun _ n => ifK (ltI n m) (k (.int k1 n)) (k (.int k1 m))
noncomputable def vMx (x y : Opd) : EK := fun L T _ k => evO x L T fun a => evO y L T fun b => a.onInt fun k1 m => b.onInt fun _ n => ifK (ltI m n) (k (.int k1 n)) (k (.int k1 m))
noncomputable def byteK (v : AV) (k : Nat → Res) : Res := v.onInt fun κ c => ifK (Nat.beq κ 4) (Int.rec (motive := fun _ => Res) (fun c => ifK (Nat.blt c 256) (k c) .bad) (fun _ => .bad) c) .bad
noncomputable def vIbs (x c : Opd) : EK := fun L T _ k => evO x L T fun a => evO c L T fun c => a.onStr fun n v => byteK c fun c => idxB c n v 0 fun r => k (.int 3 r)
noncomputable def vCts (x c : Opd) : EK := fun L T _ k => evO x L T fun a => evO c L T fun c => a.onStr fun n v => byteK c fun c => cntB c n v 0 fun r => k (.int 3 (.ofNat r))
noncomputable def entOf (es : List AEnt) (born : Nat) : Option AEnt := es.find? (fun e => Nat.beq e.born born)
noncomputable def vEnt (x : Opd) : EK := fun L T h k => evO x L T fun a => a.onPtr fun b o => ifK (Nat.beq o 0) (atK b h fun ob =>
  match ob with
  | .miter (some m) (some cur) stepped => atK m h fun ob => ob.onMap fun es clock => ifK (Nat.beq clock stepped)
    (match entOf es cur with
    | some e => k (.tup [e.key, e.val])
    | none => .bad) .bad
  | _ => .bad) .bad

noncomputable def vStr (x : Opd) : EK := fun L T _ k => evO x L T fun a => a.onStr fun n v => k (.str n v)

noncomputable def VO.ev : VO → EK
  | .mv x => vMv x
  | .pick c a b => vPick c a b
  | .build z ps => vBuild z ps
  | .ld1 x => vLd1 x
  | .ldn x n => vLdn x n
  | .nck x => vNck x
  | .bin o k hi lo x y => vBin o k hi lo x y
  | .cmp o x y => vCmp o x y
  | .sbin o x y => vSbin o x y
  | .eqk e n x y => vEqk e n x y
  | .eqa j n x y => vEqa j n x y
  | .not x => vNot x
  | .neg k hi lo x => vNeg k hi lo x
  | .cvi k hi lo x => vCvi k hi lo x
  | .cbs x => vCbs x
  | .mif t x => vMif t x
  | .mfn f a b => vMfn f a b
  | .slS x lo hi => vSlS x lo hi
  | .slL x lo hi top s => vSlL x lo hi top s
  | .slA x lo hi top n s => vSlA x lo hi top n s
  | .fad x o => vFad x o
  | .fld x o n a => vFld x o n a
  | .ixL x i s => vIxL x i s
  | .ixA x i n s => vIxA x i n s
  | .ixS x i => vIxS x i
  | .ixG x i l n a => vIxG x i l n a
  | .lup q m k z ok => vLup q m k z ok
  | .tas x t z => vTas x t z
  | .ext x i => vExt x i
  | .lnS x => vLnS x
  | .lnL x => vLnL x
  | .lnM x => vLnM x
  | .mn x y => vMn x y
  | .mx x y => vMx x y
  | .ibs x c => vIbs x c
  | .cts x c => vCts x c
  | .ent x => vEnt x
  | .str x => vStr x

/-- It does not look at memory. -/
def VO.pure : VO → Bool
  | .ld1 _ | .ldn _ _ | .cbs _ | .lup _ _ _ _ _ | .lnM _ | .ent _ | .slL _ _ _ _ _ => false
  | _ => true

/-! ### New blocks: what lies in it, and the value that leads to it -/

abbrev NK := List AV → VT → (AObj → (Hi → AV) → Res) → Res

noncomputable def repK (z : List AV) (n : Nat) : (List AV → Res) → Res :=
  Nat.rec (motive := fun _ => (List AV → Res) → Res) (fun k => k []) (fun _ ih k => ih fun l => appK z l k) n

noncomputable def nAlloc (z : List AV) : NK := fun _ _ k => k (.cells false 0 0 z) fun b => .ptr b 0
noncomputable def nBox (x : Opd) : NK := fun L T k => evO x L T fun v => cellsK v fun cs => k (.cells false 0 0 cs) fun b => .ptr b 0
noncomputable def nBsl (z : List AV) (n sz : Nat) (ps : List (Nat × Nat × Opd)) : NK := fun L T k => buildK ps L T z fun l => k (.cells false sz 0 l) fun b => .slice b 0 n (some n)
noncomputable def nMkm : NK := fun _ _ k => k (.map [] 0) fun b => .map b
noncomputable def nMks (z : List AV) (sz : Nat) (len cap : Opd) : NK := fun L T k => evO len L T fun l => evO cap L T fun c => bndK c 1048576 fun c => bndK l c fun l =>
  repK z c fun cs => k (.cells false sz 0 cs) fun b => .slice b 0 l (some c)
noncomputable def nCsb (x : Opd) : NK := fun L T k => evO x L T fun a => a.onStr fun n v => ifK (Nat.blt n 1048576) (bytesK n v fun cs => k (.cells true 1 0 cs) fun b => .slice b 0 n none) .bad
noncomputable def nRgS (x : Opd) : NK := fun L T k => evO x L T fun a => a.onStr fun n v => k (.siter n v 0) fun b => .ptr b 0
noncomputable def NO.ev : NO → NK
  | .alloc z => nAlloc z
  | .box x => nBox x
  | .bsl z n sz ps => nBsl z n sz ps
  | .mkm => nMkm
  | .mks z sz l c => nMks z sz l c
  | .csb x => nCsb x
  | .rgS x => nRgS x

/-! ### Stores -/

abbrev SK := List AV → VT → Hp → (Hp → Res) → Res

noncomputable def sSt1 (a v : Opd) : SK := fun L T h k => evO a L T fun a => evO v L T fun v => v.onOne (a.onPtr fun b o => ownK b h fun ob => ob.onCells fun g sz fz c =>
  ifK (Nat.ble fz o) (putK o [v] c fun c => setK b (.cells g sz fz c) h k) .bad)
noncomputable def sStn (a v : Opd) (n : Nat) : SK := fun L T h k => evO a L T fun a => evO v L T fun v => v.onAgg fun vs => lenK vs fun m => ifK (Nat.beq m n)
  (a.onPtr fun b o => ownK b h fun ob => ob.onCells fun g sz fz c => ifK (Nat.ble fz o) (putK o vs c fun c => setK b (.cells g sz fz c) h k) .bad) .bad
noncomputable def sMup (q : Nat) (m x v : Opd) : SK := fun L T h k => evO m L T fun m => evO x L T fun x => evO v L T fun v => keyIs q x (m.onMap .bad fun b =>
  ownK b h fun ob => ob.onMap fun es c => findK x es 0 fun r => Option.rec (motive := fun _ => Res)
    (natK (Nat.succ c) fun c' => setK b (.map (es ++ [⟨x, v, c⟩]) c') h k) (fun q => setK b (.map (setEnt es q.1 ⟨x, v, q.2.born⟩) c) h k) r)
noncomputable def placeOf (es : List AEnt) (born : Nat) : Option (Nat × AEnt) :=
  match es.findIdx? (fun e => Nat.beq e.born born) with
  | some i => (es[i]?).map fun e => (i, e)
  | none => none
noncomputable def sEst (m s v : Opd) : SK := fun L T h k => evO m L T fun m => evO s L T fun s => evO v L T fun v => m.onMap .bad fun b =>
  ownK b h fun ob => ob.onMap fun es c => s.onInt fun _ s => Int.rec (motive := fun _ => Res) (fun s =>
    match placeOf es s with
    | some (i, e) => setK b (.map (setEnt es i ⟨e.key, v, e.born⟩) c) h k
    | none => .bad) (fun _ => .bad) s
noncomputable def SO.ev : SO → SK
  | .st1 a v => sSt1 a v
  | .stn a v n => sStn a v n
  | .mup q m k v => sMup q m k v
  | .est m s v => sEst m s v

/-! ### Effects that give a value -/

abbrev XK := List AV → VT → Hp → (AV → Hp → Res) → Res

/-- n elements of 'new' cells behind the slice: in place as far as cells are known; else a block of its own, and the old one is forgotten if its end is not known. -/
noncomputable def growK (b : Hi) (o n : Nat) (cap : Option Nat) (m : Nat) (new : List AV) (sz : Nat) (h : Hp) (k : AV → Hp → Res) : Res :=
  atK b h fun ob => ob.onCells fun g osz fz c => lenK c fun L => natK (Nat.add n m) fun s => natK (Nat.add o (Nat.mul n sz)) fun e =>
    Option.rec (motive := fun _ => Res)
      (ifK g (ifK (Nat.beq osz sz) (ifK (Nat.ble (Nat.add e (Nat.mul m sz)) L)
        (ownK b h fun _ => ifK (Nat.ble fz e) (putK e new c fun c => setK b (.cells g osz fz c) h fun h => k (.slice b o s none) h) .bad)
        (ownK b h fun _ => ifK (Nat.ble fz o) (dropK o c fun d => takeK (Nat.mul n sz) d new fun c' => delK b h fun h => newK (.cells true sz 0 c') h fun b h => k (.slice b 0 s none) h) .bad)) .bad) .bad)
      (fun cap => ifK (Nat.ble s cap)
        (ownK b h fun _ => ifK (Nat.ble fz e) (putK e new c fun c => setK b (.cells g osz fz c) h fun h => k (.slice b o s (some cap)) h) .bad)
        (dropK o c fun d => takeK (Nat.mul n sz) d new fun c' => newK (.cells true sz 0 c') h fun b h => k (.slice b 0 s none) h)) cap

/-- Goes on at a slice. -/
noncomputable def sliceK (x : AV) (k : Res) : Res := x.onSlice k fun _ _ _ _ => k

/-- 'append': 'm' elements of 'new' cells. -/
noncomputable def appendK (x : AV) (m : Nat) (new : List AV) (sz bytes : Nat) (h : Hp) (k : AV → Hp → Res) : Res :=
  ifK (Nat.beq m 0) (sliceK x (k x h)) (ifK (Nat.ble (Nat.mul m bytes) 1099511627776)
    (x.onSlice (newK (.cells true sz 0 new) h fun b h => k (.slice b 0 m none) h)
      fun b o n c => ifK (Nat.ble (Nat.mul (Nat.add n m) bytes) 1099511627776) (growK b o n c m new sz h k) .bad) .bad)

noncomputable def xApp (x y : Opd) (sz bytes : Nat) (_z : List AV) : XK := fun L T h k => evO x L T fun x => evO y L T fun y => y.onSlice (sliceK x (k x h)) fun b o m _ =>
  ifK (Nat.beq m 0) (sliceK x (k x h)) (atK b h fun ob => ob.onCells fun _ _ _ c => dropK o c fun d => takeK (Nat.mul m sz) d [] fun new => appendK x m new sz bytes h k)
noncomputable def xApps (x y : Opd) : XK := fun L T h k => evO x L T fun x => evO y L T fun y => y.onStr fun m v => bytesK m v fun new => appendK x m new 1 1 h k
noncomputable def xNxS (x : Opd) : XK := fun L T h k => evO x L T fun a => a.onPtr fun b o => ifK (Nat.beq o 0) (ownK b h fun ob =>
  match ob with
  | .siter n v p => ifK (Nat.blt p n) (natK (byteAt v p) fun c => ifK (Nat.blt c 128) (natK (Nat.succ p) fun q => setK b (.siter n v q) h fun h =>
      k (.tup [.bool true, .int 3 (.ofNat p), .int 2 (.ofNat c)]) h) .bad) (k (.tup [.bool false]) h)
  | _ => .bad) .bad
noncomputable def xMen (q : Nat) (m x : Opd) (z : AV) : XK := fun L T h k => evO m L T fun m => evO x L T fun x => keyIs q x (m.onMap .bad fun b =>
  ownK b h fun ob => ob.onMap fun es c => findK x es 0 fun r => Option.rec (motive := fun _ => Res)
    (natK (Nat.succ c) fun c' => setK b (.map (es ++ [⟨x, z, c⟩]) c') h fun h => k (.tup [z, .int 3 (.ofNat c)]) h)
    (fun q => k (.tup [q.2.val, .int 3 (.ofNat q.2.born)]) h) r)
noncomputable def xRgM (x : Opd) : XK := fun L T h k => evO x L T fun x => x.onMap .bad fun b => atK b h fun ob => ob.onMap fun _ c => newK (.miter (some b) none c) h fun i h => k (.ptr i 0) h
noncomputable def xCpy : XK := fun _ _ _ _ => .bad
noncomputable def XO.ev : XO → XK
  | .app x y sz bytes z => xApp x y sz bytes z
  | .apps x y => xApps x y
  | .cpy _ _ _ => xCpy
  | .nxS x => xNxS x
  | .men q m k z => xMen q m k z
  | .rgM x => xRgM x

end Go.Proofs.YtpngpoeifgkclaaGreatDoor.Am

/- The abstract machine: how it runs. -/
namespace Go.Proofs.YtpngpoeifgkclaaGreatDoor.Am

/-- How a function is called: as a deferred one, and then for whom; its number; its arguments. -/
abbrev Run := Bool → Par → Hi → List AV → Hp → Fk → Res

/-! ### Calls -/

noncomputable def bindP (ps : List (Option Kp)) : List AV → VT → (VT → Res) → Res :=
  List.rec (motive := fun _ => List AV → VT → (VT → Res) → Res)
    (fun vs T k => List.rec (motive := fun _ => Res) (k T) (fun _ _ _ => .bad) vs)
    (fun p _ ih vs T k => List.rec (motive := fun _ => Res) .bad (fun v r _ => Option.rec (motive := fun _ => Res) (ih r T k) (fun p => setV p T v fun T => ih r T k) p) vs) ps

noncomputable def bindQ (ps : List Kp) : List AV → VT → (VT → Res) → Res :=
  List.rec (motive := fun _ => List AV → VT → (VT → Res) → Res)
    (fun vs T k => List.rec (motive := fun _ => Res) (k T) (fun _ _ _ => .bad) vs)
    (fun p _ ih vs T k => List.rec (motive := fun _ => Res) .bad (fun v r _ => setV p T v fun T => ih r T k) vs) ps

noncomputable def FD.onMk : FD → (CodeF → List (Option Kp) → List ARes → List Rf → Res) → Res :=
  FD.rec (motive := fun _ => (CodeF → List (Option Kp) → List ARes → List Rf → Res) → Res) (fun _ => .bad) (fun c p r l k => k c p r l) (fun _ _ => .bad)
/-- A function whose answer is known, or one that has a text. -/
noncomputable def FD.onRun : FD → ((Hp → List AV → Option AV) → Res) → (CodeF → List (Option Kp) → List ARes → List Rf → Res) → Res :=
  FD.rec (motive := fun _ => ((Hp → List AV → Option AV) → Res) → (CodeF → List (Option Kp) → List ARes → List Rf → Res) → Res) (fun _ _ => .bad) (fun c p r l _ k => k c p r l) (fun v f _ => f v)

noncomputable def nthR (i : Nat) : List Rf → (Rf → Res) → Res :=
  Nat.rec (motive := fun _ => List Rf → (Rf → Res) → Res) (fun l k => List.rec (motive := fun _ => Res) .bad (fun v _ _ => k v) l)
    (fun _ ih l k => List.rec (motive := fun _ => Res) .bad (fun _ r _ => ih r k) l) i

/-- Behind a round: the loop is told how it ended. -/
noncomputable def roundEnd (b : Hi) (k : Fk) (j : Option AJ) : Kn := fun par _ _ _ h =>
  ownK b h fun ob => ob.onLoop fun _ _ f T i d =>
    Option.rec (motive := fun _ => Res) (setK b (.loop 0 none f T i d) h fun h => k (.ret (.bool true)) par h)
      (fun j => setK b (.loop 2 (some j) f T i d) h fun h => k (.ret (.bool false)) par h) j

/-- The round begins: the loop must be ready. -/
noncomputable def roundBegin (b : Hi) (kn : Kn) : Kn := fun par _ T D h =>
  ownK b h fun ob => ob.onLoop fun st pe f T0 i d => ifK (Nat.beq st 0) (setK b (.loop 1 pe f T0 i d) h fun h => kn par [] T D h) .bad

noncomputable def applyK (ft : F2) (rec : Run) (n : Nat) : AFn → List AV → List AV → Hp → Fk → Res :=
  Nat.rec (motive := fun _ => AFn → List AV → List AV → Hp → Fk → Res) (fun _ _ _ _ _ => .bad)
    (fun _ ih f args ca h k => AFn.rec (motive := fun _ => Res) (fun p => appK args ca fun args => rec false .none p args h k)
      (fun b => atK b h fun ob => ob.onLoop fun _ _ f T i _ => getF f ft fun fd => fd.onMk fun _ _ _ ls => nthR i ls fun r => Rf.rec (motive := fun _ => Res) (fun ps a bo => bindQ ps args T fun T =>
        (fun c : Ctl => a c (roundBegin b (bo c (roundEnd b k none))) .none [] T [] h)
          ⟨⟨rec false .none, ih, fun par c _ _ D h => List.rec (motive := fun _ => Res) (k (.pan c) par h) (fun _ _ _ => .bad) D, ⟨f, [], false, some b⟩⟩,
            roundEnd b k (some .ret), fun id => roundEnd b k (some (.exit id))⟩) r) f) n

/-! ### Operations, ready to run -/

/-- Is the guard as it is wanted? -/
noncomputable def wantK (g : Bool) (want : Bool) (y n : Res) : Res := Bool.rec (motive := fun _ => Res) (ifK want n y) (ifK want y n) g

noncomputable def sEnd : OpF := fun _ par L T D h kn => kn par L T D h
noncomputable def sVn (e : EK) (r : OpF) : OpF := fun cb par L T D h kn => e L T h fun _ => r cb par L T D h kn
noncomputable def sVl (e : EK) (r : OpF) : OpF := fun cb par L T D h kn => e L T h fun v => r cb par (v :: L) T D h kn
noncomputable def sVk (p : Kp) (e : EK) (r : OpF) : OpF := fun cb par L T D h kn => e L T h fun v => setV p T v fun T => r cb par (v :: L) T D h kn
noncomputable def sN (d : Dst) (e : NK) (r : OpF) : OpF := fun cb par L T D h kn => e L T fun ob mk => newK ob h fun b h => putD d (mk b) L T fun L T => r cb par L T D h kn
noncomputable def sS (e : SK) (r : OpF) : OpF := fun cb par L T D h kn => e L T h fun h => r cb par L T D h kn
noncomputable def sX (d : Dst) (e : XK) (r : OpF) : OpF := fun cb par L T D h kn => e L T h fun v h => putD d v L T fun L T => r cb par L T D h kn
/-- Behind a call. -/
noncomputable def backK (d : Dst) (r : OpF) (cb : Cb) (par : Par) (L : List AV) (T : VT) (D : List AD) (kn : Kn) : Fk := fun out _ h =>
  AOut.rec (motive := fun _ => Res) (fun v => putD d v L T fun L T => r cb par L T D h kn) (fun c => cb.pan par c L T D h) (fun _ _ => .bad) out
noncomputable def sCall (d : Dst) (f : Opd) (args : List Opd) (r : OpF) : OpF := fun cb par L T D h kn =>
  evO f L T fun f => evOs args L T fun as => f.onFunc fun f fs ca => appK fs as fun as => cb.app f as ca h (backK d r cb par L T D kn)
noncomputable def sCallf (d : Dst) (p : Hi) (args : List Opd) (r : OpF) : OpF := fun cb par L T D h kn =>
  evOs args L T fun as => cb.call p as h (backK d r cb par L T D kn)
noncomputable def sDfr (f : Opd) (args : List Opd) (r : OpF) : OpF := fun cb par L T D h kn =>
  Option.rec (motive := fun _ => Res) (evO f L T fun f => evOs args L T fun as => f.onFunc fun f fs ca => appK fs as fun as => r cb par L T (.fn f ca as :: D) h kn) (fun _ => .bad) cb.fi.round
noncomputable def sPnc (x : Opd) (_ : OpF) : OpF := fun cb par L T D h _ =>
  evO x L T fun v => v.onIface fun _ _ => cb.pan par [⟨v, false⟩] L T D h
noncomputable def rcvK (par : Par) (k : Par → AV → Res) : Res :=
  match par with
  | .pan (⟨v, false⟩ :: older) => k (.pan (⟨v, true⟩ :: older)) v
  | p => k p .nili
noncomputable def sRcv (d : Dst) (r : OpF) : OpF := fun cb par L T D h kn =>
  Option.rec (motive := fun _ => Res) (ifK cb.fi.dfr (rcvK par fun par v => putD d v L T fun L T => r cb par L T D h kn) (putD d .nili L T fun L T => r cb par L T D h kn)) (fun _ => .bad) cb.fi.round
noncomputable def sGrd (g : Opd) (want : Bool) (d : Dst) (o : OpF → OpF) (r : OpF) : OpF := fun cb par L T D h kn =>
  evO g L T fun v => v.onGrd (fun b => wantK b want (o r cb par L T D h kn) (putD d (.tup []) L T fun L T => r cb par L T D h kn)) (putD d (.tup []) L T fun L T => r cb par L T D h kn)

noncomputable def AOp.sh : AOp → OpF → OpF
  | .v .no o => sVn o.ev
  | .v .lo o => sVl o.ev
  | .v (.ke p) o => sVk p o.ev
  | .n d o => sN d o.ev
  | .s o => sS o.ev
  | .x d o => sX d o.ev
  | .call d f args => sCall d f args
  | .callf d p args => sCallf d p args
  | .dfr f args => sDfr f args
  | .pnc e => sPnc e
  | .rcv d => sRcv d
  | .grd g want d o => sGrd g want d o.sh

noncomputable def opsF : List AOp → OpF
  | [] => sEnd
  | o :: r => o.sh (opsF r)

/-! ### Regions that draw their order -/

mutual
noncomputable def beqV : AV → AV → Bool
  | .bool a, .bool b => a == b
  | .int j a, .int k b => Nat.beq j k && eqI a b
  | .str n v, .str m w => eqS n v m w
  | .nilp, .nilp | .nils, .nils | .nilm, .nilm | .nilf, .nilf | .nili, .nili => true
  | .ptr p i, .ptr q j => eqP p q && Nat.beq i j
  | .slice p i n c, .slice q j m d => eqP p q && Nat.beq i j && Nat.beq n m && (match c, d with | none, none => true | some c, some d => Nat.beq c d | _, _ => false)
  | .map p, .map q => eqP p q
  | .func (.func p) a b, .func (.func q) c d => eqP p q && beqL a c && beqL b d
  | .iface t v, .iface u w => Nat.beq t u && beqV v w
  | .agg l, .agg m => beqL l m
  | .tup l, .tup m => beqL l m
  | .sym j, .sym k => Nat.beq j k
  | _, _ => false
noncomputable def beqL : List AV → List AV → Bool
  | [], [] => true
  | a :: l, b :: m => beqV a b && beqL l m
  | _, _ => false
end

/-- What was asked: its value, and how it is asked anew. -/
structure Snap where
  v : AV
  mats : List Nat
  ask : Hp → (AV → Res) → Res

structure Pend where
  b : Hi
  ob : AObj

noncomputable def resK (h : Hp) (k : Hi → Hp → Res) : Res :=
  Hp.rec (motive := fun _ => Res) (fun tr fz nx => succK nx fun nx' => k nx ⟨tr, fz, nx'⟩) h

/-- The operations of a region that draws its order. S: what was asked, last one first; P: the new blocks that lie in memory not yet, by the place of their operation. -/
abbrev DF := Cb → Par → List AV → VT → List AD → Hp → List Snap → List (Nat × Pend) → Kn → Res

def AOp.dst : AOp → Dst
  | .v d _ | .n d _ | .x d _ | .call d _ _ | .callf d _ _ | .rcv d | .grd _ _ d _ => d
  | .s _ | .dfr _ _ | .pnc _ => .no

noncomputable def nthS (j : Nat) : List Snap → (Snap → Res) → Res :=
  Nat.rec (motive := fun _ => List Snap → (Snap → Res) → Res) (fun l k => List.rec (motive := fun _ => Res) .bad (fun v _ _ => k v) l)
    (fun _ ih l k => List.rec (motive := fun _ => Res) .bad (fun _ r _ => ih r k) l) j
/-- New blocks laid into memory. -/
noncomputable def matK (ps : List (Nat × Pend)) : Hp → (Hp → Res) → Res :=
  List.rec (motive := fun _ => Hp → (Hp → Res) → Res) (fun h k => k h) (fun p _ ih h k => setK p.2.b p.2.ob h fun h => ih h k) ps
/-- Those of the new blocks that an operation waits for. -/
noncomputable def pickP (mats : List Nat) (P : List (Nat × Pend)) : List (Nat × Pend) := List.rec (motive := fun _ => List (Nat × Pend)) [] (fun _ _ _ => P.filter fun p => mats.contains p.1) mats
noncomputable def againK (js : List Nat) (P : List (Nat × Pend)) : List Snap → Hp → Res → Res :=
  List.rec (motive := fun _ => List Snap → Hp → Res → Res) (fun _ _ k => k)
    (fun j _ ih S h k => nthS j S fun s => matK (pickP s.mats P) h fun hq => s.ask hq fun v => ifK (beqV v s.v) (ih S h k) .bad) js

/-- An operation that looks and makes nothing: how it is asked. -/
abbrev AK := List AV → VT → Hp → (AV → Res) → Res
noncomputable def askG (g : Opd) (want : Bool) (o : AK) : AK := fun L T h k => evO g L T fun v => v.onGrd (fun b => wantK b want (o L T h k) (k (.tup []))) (k (.tup []))
noncomputable def dEnd : DF := fun _ par L T D h _ P kn => matK P h fun h => kn par L T D h
noncomputable def dQ (d : Dst) (mats : List Nat) (o : AK) (r : DF) : DF := fun cb par L T D h S P kn => matK (pickP mats P) h fun hq => o L T hq fun v => putD d v L T fun L' T' => r cb par L' T' D h (⟨v, mats, o L T⟩ :: S) P kn
noncomputable def dN (d : Dst) (e : NK) (r : DF) : DF := fun cb par L T D h S P kn => e L T fun ob mk => resK h fun b h => putD d (mk b) L T fun L' T' =>
  r cb par L' T' D h (⟨mk b, [], fun _ _ => .bad⟩ :: S) ((S.length, ⟨b, ob⟩) :: P) kn
/-- A guarded one that makes a block. -/
noncomputable def dG (g : Opd) (want : Bool) (d : Dst) (o : DF → DF) (r : DF) : DF := fun cb par L T D h S P kn =>
  evO g L T fun v => v.onGrd (fun b => wantK b want (o r cb par L T D h S P kn) (putD d (.tup []) L T fun L' T' => r cb par L' T' D h (⟨.tup [], [], fun _ _ => .bad⟩ :: S) P kn))
    (putD d (.tup []) L T fun L' T' => r cb par L' T' D h (⟨.tup [], [], fun _ _ => .bad⟩ :: S) P kn)
noncomputable def dE (mats : List Nat) (o : OpF → OpF) (again : List Nat) (r : DF) : DF := fun cb par L T D h S P kn =>
  matK (P.filter fun p => mats.contains p.1) h fun h => o (fun cb par L T D h kn => againK again (P.filter fun p => !mats.contains p.1) S h (r cb par L T D h S (P.filter fun p => !mats.contains p.1) kn)) cb par L T D h kn

noncomputable def AOp.ask : AOp → AK
  | .v _ o => o.ev
  | .grd g want _ o => askG g want o.ask
  | _ => fun _ _ _ _ => .bad
noncomputable def AOp.shN : AOp → DF → DF
  | .n d e => dN d e.ev
  | .grd g want d o => dG g want d o.shN
  | _ => fun _ _ _ _ _ _ _ _ _ _ => .bad
def AOp.news : AOp → Bool
  | .n _ _ => true
  | .grd _ _ _ o => o.news
  | _ => false

noncomputable def DStep.sh : DStep → DF → DF
  | .q mats o => if o.news then o.shN else dQ o.dst mats o.ask
  | .e mats o again => dE mats o.sh again
noncomputable def dF : List DStep → DF
  | [] => dEnd
  | s :: r => s.sh (dF r)

/-! ### Leaving, and the ways through the text -/

noncomputable def resultK (r : ARes) (T : VT) (h : Hp) (k : AV → Res) : Res :=
  ARes.rec (motive := fun _ => Res) (fun p => getV p T k)
    (fun p => getV p T fun a => a.onPtr fun b o => atK b h fun ob => ob.onCells fun _ _ _ c => nthK o c k)
    (fun p n => getV p T fun a => a.onPtr fun b o => atK b h fun ob => ob.onCells fun _ _ _ c => dropK o c fun d => takeK n d [] fun l => k (.agg l)) r

noncomputable def resultsK (rs : List ARes) : VT → Hp → (List AV → Res) → Res :=
  List.rec (motive := fun _ => VT → Hp → (List AV → Res) → Res) (fun _ _ k => k [])
    (fun r _ ih T h k => resultK r T h fun v => ih T h fun vs => k (v :: vs)) rs

noncomputable def oneOr (vs : List AV) (k : AV → Res) : Res :=
  List.rec (motive := fun _ => Res) (k (.tup [])) (fun v r _ => List.rec (motive := fun _ => Res) (k v) (fun w s _ => k (.tup (v :: w :: s))) r) vs

def settle : Par → Par
  | .pan (⟨_, true⟩ :: _) => .ret
  | m => m
def raised : Par → List APan → Par
  | .pan old, c => .pan (c ++ old)
  | _, c => .pan c

noncomputable def unwNil : Run → List ARes → Fk → Par → Par → VT → Hp → Res := fun _ res k m par T h =>
  Par.rec (motive := fun _ => Res) .bad (resultsK res T h fun vs => oneOr vs fun v => k (.ret v) par h) (fun c => k (.pan c) par h) m
noncomputable def unwCons (d : AD) (ih : Run → List ARes → Fk → Par → Par → VT → Hp → Res) : Run → List ARes → Fk → Par → Par → VT → Hp → Res := fun rec res k m par T h =>
  AD.rec (motive := fun _ => Res)
    (fun f ca args => AFn.rec (motive := fun _ => Res) (fun p => appK args ca fun args => rec true m p args h fun out m' h =>
        AOut.rec (motive := fun _ => Res) (fun _ => ih rec res k (settle m') par T h) (fun c => ih rec res k (raised m' c) par T h) (fun _ _ => .bad) out) (fun _ => .bad) f)
    (fun b => ownK b h fun ob => ob.onDefd fun c => Option.rec (motive := fun _ => Res) .bad (fun c => List.rec (motive := fun _ => Res) (setK b (.defd none) h fun h => ih rec res k m par T h) (fun _ _ _ => .bad) c) c) d
/-- The deferred calls, then the end: 'm' is how the frame leaves. -/
noncomputable def unwK (rec : Run) (res : List ARes) (k : Fk) (m : Par) : Kn := fun par _ T D h =>
  List.rec (motive := fun _ => Run → List ARes → Fk → Par → Par → VT → Hp → Res) unwNil (fun d _ ih => unwCons d ih) D rec res k m par T h

noncomputable def frameC (ft : F2) (rec : Run) (fi : FI) (k : Fk) : Ctl :=
  ⟨⟨rec false .none, applyK ft rec 100, fun par c L T D h => unwK rec fi.res k (.pan c) par L T D h, fi⟩, unwK rec fi.res k .ret, fun _ _ _ _ _ _ => .bad⟩

noncomputable def runK (ft : F2) (n : Nat) : Run :=
  Nat.rec (motive := fun _ => Run) (fun _ _ _ _ _ _ => .bad) (fun _ ih dfr par p args h k =>
    getF p ft fun fd => fd.onRun (fun g => ifK dfr .bad (Option.rec (motive := fun _ => Res) .bad (fun v => k (.ret v) par h) (g h args))) fun code ps res _ => bindP ps args VT.none fun T => code (frameC ft ih ⟨p, res, dfr, none⟩ k) (unwK ih res k .ret) par [] T [] h) n

/-! ### The ways through the text -/

noncomputable def cSkip : CodeF := fun _ kn => kn
noncomputable def cReg (f : OpF) : CodeF := fun c kn par L T D h => f c.cb par L T D h kn
/-- No panic leaves a region that draws its order. -/
noncomputable def noPan (cb : Cb) : Cb := ⟨cb.call, cb.app, fun _ _ _ _ _ _ => .bad, cb.fi⟩
noncomputable def cDreg (f : DF) : CodeF := fun c kn par L T D h => f (noPan c.cb) par L T D h [] [] kn
noncomputable def cSeq (a b : CodeF) : CodeF := fun c kn => a c (b c kn)
noncomputable def cCond (x : Opd) (a b : CodeF) : CodeF := fun c kn par L T D h => evO x L T fun v => v.onBool fun v => ifK v (a c kn par L T D h) (b c kn par L T D h)
/-- What was known of the temporaries by their order is forgotten. -/
noncomputable def fresh (kn : Kn) : Kn := fun par _ T D h => kn par [] T D h
noncomputable def cBlock (id : Nat) (b : CodeF) : CodeF := fun c kn => b ⟨c.cb, c.ret, fun i => Bool.rec (motive := fun _ => Kn) (c.exit i) (fresh kn) (Nat.beq i id)⟩ (fresh kn)
noncomputable def loopN (n : Nat) (b : CodeF) (c : Ctl) : Kn :=
  Nat.rec (motive := fun _ => Kn) (fun _ _ _ _ _ => .bad) (fun _ ih par _ T D h => b c ih par [] T D h) n
noncomputable def cLoop (b : CodeF) : CodeF := fun c _ => loopN 1000000 b c
noncomputable def cExit (id : Nat) : CodeF := fun c _ => c.exit id
noncomputable def cRet : CodeF := fun c _ => c.ret
noncomputable def cNo : CodeF := fun _ _ _ _ _ _ _ => .bad

/-- Behind the loop: where a round's way out leads. -/
noncomputable def endRF (b : Hi) (c : Ctl) (kn : Kn) : Kn := fun par L T D h =>
  ownK b h fun ob => ob.onLoop fun st pe f T0 i d => ifK (Nat.beq st 1) .bad (setK b (.loop 3 pe f T0 i d) h fun h =>
    Option.rec (motive := fun _ => Res) (kn par L T D h) (fun j => AJ.rec (motive := fun _ => Res) (c.ret par L T D h) (fun id => c.exit id par L T D h) j) pe)
/-- The loop is laid; its rounds are run by the function that it ranges over. -/
noncomputable def rfK (f : Opd) (i : Nat) (c : Ctl) (kn : Kn) (par : Par) (L : List AV) (T : VT) (D : List AD) (d : Hi) (h : Hp) : Res :=
  newK (.loop 0 none c.cb.fi.f T i d) h fun l h => evO f L T fun f => f.onFunc fun f fs ca => appK fs [.func (.yield l) [] []] fun as => c.cb.app f as ca h fun out _ h =>
    AOut.rec (motive := fun _ => Res) (fun _ => endRF l c kn par [] T D h) (fun p => c.cb.pan par p [] T D h) (fun _ _ => .bad) out
noncomputable def cRange (f : Opd) (i : Nat) : CodeF := fun c kn par L T D h =>
  Option.rec (motive := fun _ => Res)
    (newK (.defd (some [])) h fun d h => rfK f i c kn par L T (.coll d :: D) d h)
    (fun b => atK b h fun ob => ob.onLoop fun _ _ _ _ _ d => rfK f i c kn par L T D d h) c.cb.fi.round

/-! ### A loop over a map: at most one entry's round writes -/

noncomputable def delsK (ps : List Kp) : VT → (VT → Res) → Res :=
  List.rec (motive := fun _ => VT → (VT → Res) → Res) (fun T k => k T) (fun p _ ih T k => setV p T .no fun T => ih T k) ps

/-- What is known here is known there. -/
noncomputable def subV (v w : AV) : Bool := match v with | .no => true | v => beqV v w
noncomputable def subW (s t : V16) : Bool :=
  subV s.c0 t.c0 && subV s.c1 t.c1 && subV s.c2 t.c2 && subV s.c3 t.c3 && subV s.c4 t.c4 && subV s.c5 t.c5 && subV s.c6 t.c6 && subV s.c7 t.c7 &&
  subV s.c8 t.c8 && subV s.c9 t.c9 && subV s.c10 t.c10 && subV s.c11 t.c11 && subV s.c12 t.c12 && subV s.c13 t.c13 && subV s.c14 t.c14 && subV s.c15 t.c15
noncomputable def subT (s t : VT) : Bool := subW s.s0 t.s0 && subW s.s1 t.s1 && subW s.s2 t.s2 && subW s.s3 t.s3

noncomputable def onStop (r : Res) (d : Res) (k : VT → Hp → Res) : Res :=
  Res.rec (motive := fun _ => Res) d (fun o h => AOut.rec (motive := fun _ => Res) (fun _ => d) (fun _ => d) (fun T D => List.rec (motive := fun _ => Res) (k T h) (fun _ _ _ => d) D) o) r

noncomputable def finK : Fk := fun out _ h => .ok out h

/-- A round stands by itself: every other way out is refused. -/
noncomputable def roundC (c : Ctl) : Ctl := ⟨⟨c.cb.call, c.cb.app, fun _ _ _ _ _ _ => .bad, c.cb.fi⟩, fun _ _ _ _ _ => .bad, fun _ _ _ _ _ _ => .bad⟩
noncomputable def stopK : Kn := fun _ _ T D h => .ok (.stop T D) h

/-- A round from here, all that there is frozen. -/
noncomputable def quietRound (c : Ctl) (body : CodeF) (b m : Hi) (st : Nat) (e : AEnt) (T : VT) (h : Hp) : Res :=
  Hp.rec (motive := fun _ => Res) (fun tr fz nx => setO b tr (.miter (some m) (some e.born) st) fun tr => body (roundC c) stopK .none [] T [] ⟨A2.none, tr :: fz, nx⟩) h
/-- A round from here, the iterator frozen. -/
noncomputable def actRound (c : Ctl) (body : CodeF) (b m : Hi) (st : Nat) (e : AEnt) (T : VT) (h : Hp) : Res :=
  Hp.rec (motive := fun _ => Res) (fun tr fz nx => setO b A2.none (.miter (some m) (some e.born) st) fun itr => body (roundC c) stopK .none [] T [] ⟨tr, itr :: fz, nx⟩) h

noncomputable def quietAll (c : Ctl) (body : CodeF) (b m : Hi) (st : Nat) (T : VT) (h : Hp) (k : Res) : List AEnt → Res :=
  List.rec (motive := fun _ => Res) k (fun e _ ih => onStop (quietRound c body b m st e T h) .bad fun T' _ => ifK (subT T T') ih .bad)

noncomputable def findAct (c : Ctl) (body : CodeF) (b m : Hi) (st : Nat) (T : VT) (h : Hp) (es : List AEnt) : Option AEnt → (Option AEnt → Res) → Res :=
  List.rec (motive := fun _ => Option AEnt → (Option AEnt → Res) → Res) (fun a k => k a)
    (fun e _ ih a k => onStop (quietRound c body b m st e T h) (Option.rec (motive := fun _ => Res) (ih (some e) k) (fun _ => .bad) a)
      fun T' _ => ifK (subT T T') (ih a k) (Option.rec (motive := fun _ => Res) (ih (some e) k) (fun _ => .bad) a)) es

noncomputable def beqE : List AEnt → List AEnt → Bool
  | [], [] => true
  | a :: l, b :: m => beqV a.key b.key && beqV a.val b.val && Nat.beq a.born b.born && beqE l m
  | _, _ => false

noncomputable def bornOk (c : Nat) : List AEnt → List Nat → Bool
  | [], _ => true
  | e :: r, seen => Nat.blt e.born c && !seen.contains e.born && bornOk c r (e.born :: seen)

/-- The memory behind a round, the frozen iterator gone. -/
noncomputable def popK (h : Hp) (h1 : Hp) (k : Hp → Res) : Res := Hp.rec (motive := fun _ => Res) (fun _ fz _ => Hp.rec (motive := fun _ => Res) (fun tr _ nx => k ⟨tr, fz, nx⟩) h1) h

noncomputable def cMloop (it : Opd) (id : Nat) (fg : List Kp) (body : CodeF) : CodeF := fun c _ par _ T D h =>
  match par, D, c.cb.fi.dfr with
  | .none, [], false => delsK fg T fun T => evO it [] T fun a => a.onPtr fun b o => ifK (Nat.beq o 0) (ownK b h fun ob =>
    match ob with
    | .miter (some m) none st => delK b h fun h => atK m h fun ob => ob.onMap fun es cl => ifK (Nat.beq cl st && bornOk cl es [])
      (findAct c body b m st T h es none fun a =>
        match a with
        | none => c.exit id .none [] T [] h
        | some e => onStop (actRound c body b m st e T h) .bad fun T h1 => popK h h1 fun h =>
          delsK fg T fun T => evO it [] T fun a => a.onPtr fun b2 o2 => ifK (eqP b2 b && Nat.beq o2 0)
            (atK m h fun ob => ob.onMap fun es' cl' => ifK (Nat.beq cl' cl && beqE es es')
              (quietAll c body b m st T h (c.exit id .none [] T [] h) (es.filter fun e' => !Nat.beq e'.born e.born)) .bad) .bad) .bad
    | _ => .bad) .bad
  | _, _, _ => .bad

end Go.Proofs.YtpngpoeifgkclaaGreatDoor.Am

/- From the model's code to the abstract machine's: what is held against a program's text. -/
namespace Go.Proofs.YtpngpoeifgkclaaGreatDoor.Am

def dg : Nat → Dg
  | 0 => .x0
  | 1 => .x1
  | 2 => .x2
  | 3 => .x3
  | 4 => .x4
  | 5 => .x5
  | 6 => .x6
  | 7 => .x7
  | 8 => .x8
  | 9 => .x9
  | 10 => .xa
  | 11 => .xb
  | 12 => .xc
  | 13 => .xd
  | 14 => .xe
  | _ => .xf
def d4 : Nat → D4
  | 0 => .q0
  | 1 => .q1
  | 2 => .q2
  | _ => .q3
def hi (n : Nat) : Hi := .mk (dg (n / 256)) (dg (n / 16 % 16)) (dg (n % 16))
def kp (n : Nat) : Kp := .mk (d4 (n / 16)) (dg (n % 16))

def kNo : IntKind → Nat
  | .i8 => 0 | .i16 => 1 | .i32 => 2 | .i64 => 3 | .u8 => 4 | .u16 => 5 | .u32 => 6 | .u64 => 7
def hiOf : IntKind → Nat
  | .i8 => 2 ^ 7 | .i16 => 2 ^ 15 | .i32 => 2 ^ 31 | .i64 => 2 ^ 63 | .u8 => 2 ^ 8 | .u16 => 2 ^ 16 | .u32 => 2 ^ 32 | .u64 => 2 ^ 64
def loOf : IntKind → Nat
  | .i8 => 2 ^ 7 | .i16 => 2 ^ 15 | .i32 => 2 ^ 31 | .i64 => 2 ^ 63 | _ => 0

def codeOf (l : List UInt8) : Nat := l.foldr (fun b a => b.toNat + 256 * a) 0

/-- A value of one cell that names no memory. -/
def absV1 : Value → Option AV
  | .bool b => some (.bool b)
  | .int k n => some (.int (kNo k) n)
  | .string s => some (.str s.data.toList.length (codeOf s.data.toList))
  | .pointer none => some .nilp
  | .slice none 0 0 => some .nils
  | .map none => some .nilm
  | .nilFunc => some .nilf
  | .nilIface => some .nili
  | _ => none
def absL : List Value → Option (List AV)
  | [] => some []
  | v :: r => match absV1 v, absL r with
    | some a, some l => some (a :: l)
    | _, _ => none
def absV (v : Value) : Option AV :=
  match v with
  | .agg cs => (absL cs.toList).map .agg
  | v => absV1 v

structure Cx where
  P : Program
  rn : List Nat
  nt : Nat

def idxOf (t : Nat) : List Nat → Nat → Option Nat
  | [], _ => none
  | u :: r, j => if Nat.beq u t then some j else idxOf t r (j + 1)

/-- The path at which a temporary is kept. -/
def Cx.keep (c : Cx) (t : Nat) : Option Kp :=
  match idxOf t c.rn 0 with
  | some n => if Nat.blt n 64 then some (kp n) else none
  | none => none

def Cx.opd (c : Cx) (ds : List Nat) : Operand → Option Opd
  | .tmp t => match idxOf t ds 0 with
    | some j => some (.loc j)
    | none => (c.keep t).map .kep
  | .const v => (absV v).map .con
  | .global g => if Nat.blt g c.P.globals.size then some (.con (.ptr (hi g) 0)) else none
  | .func f => if Nat.blt f 4096 then some (.con (.func (.func (hi f)) [] [])) else none

def Cx.opds (c : Cx) (ds : List Nat) : List Operand → Option (List Opd)
  | [] => some []
  | x :: r => match c.opd ds x, c.opds ds r with
    | some a, some l => some (a :: l)
    | _, _ => none

def Cx.optO (c : Cx) (ds : List Nat) : Option Operand → Option (Option Opd)
  | none => some none
  | some x => (c.opd ds x).map some

def Cx.size (c : Cx) (t : TypeId) : Option Nat := (c.P.info? t).map (·.size)
def Cx.zero (c : Cx) (t : TypeId) : Option Value := (c.P.info? t).bind (·.zero)
def Cx.zeroA (c : Cx) (t : TypeId) : Option AV := (c.zero t).bind absV
def Cx.zeroC (c : Cx) (t : TypeId) : Option (List AV) := (c.zero t).bind fun z => absL z.cells.toList
def Cx.isAgg (c : Cx) (t : TypeId) : Option Bool :=
  match c.P.underlying t with
  | some (.struct _) | some (.array _ _) => some true
  | some _ => some false
  | none => none
def Cx.keyNo (c : Cx) (t : TypeId) : Option Nat :=
  match c.P.underlying t with
  | some (.int _) => some 0
  | some .string => some 1
  | some .bool => some 2
  | _ => none
def Cx.flat (c : Cx) : List Field → Nat → Option (List Nat)
  | [], _ => some []
  | f :: r, i => match c.keyNo f.type, c.flat r (i + 1) with
    | some q, some l => if f.name != "_" && Nat.beq f.offset i then some (q :: l) else none
    | _, _ => none

def Cx.dst (c : Cx) (o : Oper) : Option Dst :=
  match o.dst with
  | none => some .no
  | some d => if Nat.blt d c.nt then (match c.keep d with | some p => some (.ke p) | none => some .lo) else none

def Cx.parts (c : Cx) (ds : List Nat) (place : Nat → Option (Nat × Nat)) : List (Nat × Operand) → Option (List (Nat × Nat × Opd))
  | [] => some []
  | (i, x) :: r => match place i, c.opd ds x, c.parts ds place r with
    | some (o, s), some a, some l => some ((o, s, a) :: l)
    | _, _, _ => none

def ibin : BinOp → Option IBin
  | .add => some .add | .sub => some .sub | .mul => some .mul | .quo => some .quo | .rem => some .rem
  | .and => some .and | .or => some .or | .xor => some .xor | .andNot => some .andNot | .shl => some .shl | .shr => some .shr
  | _ => none
def icmp : BinOp → Option ICmp
  | .eql => some .eq | .neq => some .ne | .lss => some .lt | .leq => some .le | .gtr => some .gt | .geq => some .ge
  | _ => none
def eqOp : BinOp → Option Bool
  | .eql => some false | .neq => some true
  | _ => none
def sbinOf : BinOp → Option SBin
  | .eql => some .eq | .neq => some .ne | .add => some .cat
  | _ => none
def isNilConst : Operand → Bool
  | .const .nilIface => true
  | _ => false

def Cx.bin (c : Cx) (op : BinOp) (t : TypeId) (x y : Operand) (a b : Opd) : Option VO :=
  match c.P.underlying t with
  | some (.int k) => match ibin op, icmp op with
    | some o, _ => some (.bin o (kNo k) (hiOf k) (loOf k) a b)
    | _, some o => some (.cmp o a b)
    | _, _ => none
  | some .string => (sbinOf op).map fun o => .sbin o a b
  | some .bool => (eqOp op).map fun n => .eqk .bool n a b
  | some (.pointer e) => match c.size e with
    | some s => if Nat.beq s 0 then none else (eqOp op).map fun n => .eqk .ptr n a b
    | none => none
  | some (.slice _) => (eqOp op).map fun n => .eqk .slice n a b
  | some (.map _ _) => (eqOp op).map fun n => .eqk .map n a b
  | some (.func _ _ _) => (eqOp op).map fun n => .eqk .func n a b
  | some (.interface _) => if isNilConst x || isNilConst y then (eqOp op).map fun n => .eqk .iface n a b else none
  | some (.struct fs) => match c.flat fs.toList 0 with
    | some l => if !c.P.eqGuardType c.P.depth t && !c.P.stoodInHeld t then (eqOp op).map fun n => .eqa l n a b else none
    | none => none
  | _ => none

def Cx.conv (c : Cx) (s d : TypeId) (a : Opd) : Option (VO ⊕ NO) :=
  match c.P.underlying s, c.P.underlying d with
  | some (.int _), some (.int k) => some (.inl (.cvi (kNo k) (hiOf k) (loOf k) a))
  | some .string, some .string => some (.inl (.str a))
  | some .string, some (.slice e) => match c.P.underlying e with
    | some (.int .u8) => some (.inr (.csb a))
    | _ => none
  | some (.slice e), some .string => match c.P.underlying e with
    | some (.int .u8) => some (.inl (.cbs a))
    | _ => none
  | _, _ => none

/-- A function that the model answers itself. -/
def externOf (name : String) (l : List Opd) : Option VO :=
  match l with
  | [x, y] => if name == "internal/bytealg.IndexByteString" then some (.ibs x y) else if name == "internal/bytealg.CountString" then some (.cts x y) else none
  | _ => none

def Cx.builtin (c : Cx) (ds : List Nat) (d : Dst) (b : Builtin) (args : List Operand) (ts : List TypeId) : Option AOp :=
  match b, c.opds ds args, ts with
  | .len, some [x], t :: _ => match c.P.underlying t with
    | some .string => some (.v d (.lnS x))
    | some (.slice _) => some (.v d (.lnL x))
    | some (.map _ _) => some (.v d (.lnM x))
    | _ => none
  | .min, some [x, y], t :: _ => match c.P.underlying t with | some (.int _) => some (.v d (.mn x y)) | _ => none
  | .max, some [x, y], t :: _ => match c.P.underlying t with | some (.int _) => some (.v d (.mx x y)) | _ => none
  | .append, some [x, y], t :: u :: _ => match c.P.underlying t with
    | some (.slice e) => match c.P.info? e, c.P.underlying u with
      | some i, some (.slice _) => match i.zero with
        | some z => if Nat.beq i.size 0 || Nat.beq i.bytes 0 || !Nat.beq z.cells.size i.size then none else some (.x d (.app x y i.size i.bytes []))
        | none => none
      | some i, some .string => match i.zero with
        | some z => if Nat.beq i.size 1 && Nat.beq i.bytes 1 && Nat.beq z.cells.size 1 then some (.x d (.apps x y)) else none
        | none => none
      | _, _ => none
    | _ => none
  | .recover, some [], _ => some (.rcv d)
  | _, _, _ => none

def Cx.call (c : Cx) (ds : List Nat) (d : Dst) (k : Call) : Option AOp :=
  match k.callee with
  | .builtin b => c.builtin ds d b k.args.toList k.argTypes.toList
  | .invoke _ _ => none
  | .value (.func f) => match c.P.funcs[f]?, c.opds ds k.args.toList with
    | some fn, some l => if fn.name == "runtime.NumGoroutine" then none else match fn.body with
      | some _ => if Nat.blt f 4096 then some (.callf d (hi f) l) else none
      | none => if fn.origin == "" then (externOf fn.name l).map fun o => .v d o else none
    | _, _ => none
  | .value x => match c.opd ds x, c.opds ds k.args.toList with
    | some f, some l => some (.call d f l)
    | _, _ => none

def repl (z : List AV) : Nat → List AV
  | 0 => []
  | n + 1 => z ++ repl z n

def Cx.core (c : Cx) (ds : List Nat) (d : Dst) (o : Oper) : Option AOp :=
  match o.op with
  | .move x | .assign x => (c.opd ds x).map fun x => .v d (.mv x)
  | .pick g x y => match c.opd ds g, c.opd ds x, c.opd ds y with
    | some g, some x, some y => some (.v d (.pick g x y))
    | _, _, _ => none
  | .alloc t => (c.zeroC t).map fun z => .n d (.alloc z)
  | .box _ x => (c.opd ds x).map fun x => .n d (.box x)
  | .build t ps => match c.P.underlying t, c.zeroC t with
    | some (.struct fs), some z => if fs.toList.all fun f => (c.size f.type).isSome then (c.parts ds (fun i => match fs[i]? with | some f => (c.size f.type).map fun s => (f.offset, s) | none => none) ps.toList).map fun l => .v d (.build z l) else none
    | some (.array _ e), some z => match c.size e with
      | some s => (c.parts ds (fun i => some (i * s, s)) ps.toList).map fun l => .v d (.build z l)
      | none => none
    | _, _ => none
  | .buildSlice t n ps => match c.P.underlying t with
    | some (.slice e) => match c.size e, c.zeroC e with
      | some s, some z => if Nat.beq z.length s && Nat.ble (n * s) 16777216 then (c.parts ds (fun i => some (i * s, s)) ps.toList).map fun l => .n d (.bsl (repl z n) n s l) else none
      | _, _ => none
    | _ => none
  | .load t a => match c.isAgg t, c.size t, c.opd ds a with
    | some true, some n, some a => some (.v d (.ldn a n))
    | some false, _, some a => some (.v d (.ld1 a))
    | _, _, _ => none
  | .store t a x => match d, c.isAgg t, c.size t, c.opd ds a, c.opd ds x with
    | .no, some true, some n, some a, some x => some (.s (.stn a x n))
    | .no, some false, some n, some a, some x => if Nat.beq n 1 then some (.s (.st1 a x)) else none
    | _, _, _, _, _ => none
  | .nilCheck x => (c.opd ds x).map fun x => .v d (.nck x)
  | .binOp op t x y _ => match c.opd ds x, c.opd ds y with
    | some a, some b => (c.bin op t x y a b).map fun o => .v d o
    | _, _ => none
  | .unOp .not _ x => (c.opd ds x).map fun x => .v d (.not x)
  | .unOp .neg t x => match c.P.underlying t, c.opd ds x with
    | some (.int k), some x => some (.v d (.neg (kNo k) (hiOf k) (loOf k) x))
    | _, _ => none
  | .convert s u x => match c.opd ds x with
    | some a => match c.conv s u a with
      | some (.inl o) => some (.v d o)
      | some (.inr o) => some (.n d o)
      | none => none
    | none => none
  | .makeInterface t x => match c.P.underlying t, c.opd ds x with
    | some (.interface _), _ => none
    | some _, some x => some (.v d (.mif t x))
    | _, _ => none
  | .makeFunc (.func f) fi ca => match c.opds ds fi.toList, c.opds ds ca.toList with
    | some fi, some ca => if Nat.blt f 4096 then some (.v d (.mfn (hi f) fi ca)) else none
    | _, _ => none
  | .makeMap _ none => some (.n d .mkm)
  | .makeSlice t l u => match c.P.underlying t with
    | some (.slice e) => match c.P.info? e, c.zeroC e, c.opd ds l, c.opd ds u with
      | some i, some z, some l, some u => if Nat.beq z.length i.size && Nat.ble i.bytes 1048576 && !Nat.beq i.size 0 then some (.n d (.mks z i.size l u)) else none
      | _, _, _, _ => none
    | _ => none
  | .slice t x lo hi mx => match c.opd ds x, c.optO ds lo, c.optO ds hi, c.optO ds mx with
    | some x, some lo, some hi, some mx => match c.P.underlying t with
      | some .string => match mx with | none => some (.v d (.slS x lo hi)) | some _ => none
      | some (.slice e) => if mx.isSome && hi.isNone then none else (c.size e).map fun s => .v d (.slL x lo hi mx s)
      | some (.array n e) => if mx.isSome && hi.isNone then none else (c.size e).map fun s => .v d (.slA x lo hi mx n s)
      | _ => none
    | _, _, _, _ => none
  | .fieldAddr t x i => match c.P.underlying t, c.opd ds x with
    | some (.struct fs), some x => match fs[i]? with
      | some f => match c.size f.type with
        | some s => if Nat.beq s 0 then none else some (.v d (.fad x f.offset))
        | none => none
      | none => none
    | _, _ => none
  | .field t x i => match c.P.underlying t, c.opd ds x with
    | some (.struct fs), some x => match fs[i]? with
      | some f => match c.size f.type, c.isAgg f.type with
        | some s, some a => some (.v d (.fld x f.offset s a))
        | _, _ => none
      | none => none
    | _, _ => none
  | .indexAddr t x i => match c.opd ds x, c.opd ds i with
    | some x, some i => match c.P.underlying t with
      | some (.slice e) => (c.size e).map fun s => .v d (.ixL x i s)
      | some (.array n e) => (c.size e).map fun s => .v d (.ixA x i n s)
      | _ => none
    | _, _ => none
  | .index t x i => match c.opd ds x, c.opd ds i with
    | some x, some i => match c.P.underlying t with
      | some .string => some (.v d (.ixS x i))
      | some (.array n e) => match c.size e, c.isAgg e with
        | some s, some a => some (.v d (.ixG x i n s a))
        | _, _ => none
      | _ => none
    | _, _ => none
  | .lookup t m k ok => match c.P.underlying t, c.opd ds m, c.opd ds k with
    | some (.map u e), some m, some k => match c.keyNo u, c.zeroA e with | some q, some z => some (.v d (.lup q m k z ok)) | _, _ => none
    | _, _, _ => none
  | .mapUpdate t m k x | .insert t m k x => match d, c.P.underlying t, c.opd ds m, c.opd ds k, c.opd ds x with
    | .no, some (.map u _), some m, some k, some x => (c.keyNo u).map fun q => .s (.mup q m k x)
    | _, _, _, _, _ => none
  | .mapEntry t m k => match c.P.underlying t, c.opd ds m, c.opd ds k with
    | some (.map u e), some m, some k => match c.keyNo u, c.zeroA e with | some q, some z => some (.x d (.men q m k z)) | _, _ => none
    | _, _, _ => none
  | .entryStore _ m s x => match d, c.opd ds m, c.opd ds s, c.opd ds x with
    | .no, some m, some s, some x => some (.s (.est m s x))
    | _, _, _, _ => none
  | .range t x => match c.P.underlying t, c.opd ds x with
    | some .string, some x => some (.n d (.rgS x))
    | some (.map _ _), some x => some (.x d (.rgM x))
    | _, _ => none
  | .next it true => (c.opd ds it).map fun x => .x d (.nxS x)
  | .entry it => (c.opd ds it).map fun x => .v d (.ent x)
  | .typeAssert x _ t true => match c.P.underlying t, c.opd ds x, c.zeroA t with
    | some (.interface _), _, _ => none
    | some _, some x, some z => some (.v d (.tas x t z))
    | _, _, _ => none
  | .extract x i => (c.opd ds x).map fun x => .v d (.ext x i)
  | .call k => c.call ds d k
  | .defer k => match d, k.callee, c.opds ds k.args.toList with
    | .no, .value x, some l => (c.opd ds x).map fun f => .dfr f l
    | _, _, _ => none
  | .panic x => match d with
    | .no => (c.opd ds x).map fun x => .pnc x
    | _ => none
  | _ => none

/-- One operation: with its guard. -/
def Cx.op (c : Cx) (ops : Array Oper) (ds : List Nat) (o : Oper) : Option (AOp × List Nat) :=
  match c.dst o with
  | none => none
  | some d => match c.core ds d o with
    | none => none
    | some a =>
      let ds' := match o.dst with | some t => t :: ds | none => ds
      match o.guard with
      | none => some (a, ds')
      | some (g, want) => match ops[g]? with
        | some og => match og.dst with
          | some t => match c.opd ds (.tmp t) with
            | some x => some (.grd x want d a, ds')
            | none => none
          | none => none
        | none => none

def Cx.ops (c : Cx) (ops : Array Oper) : List Oper → List Nat → Option (List AOp × List Nat)
  | [], ds => some ([], ds)
  | o :: r, ds => match c.op ops ds o with
    | some (a, ds) => match c.ops ops r ds with
      | some (l, ds) => some (a :: l, ds)
      | none => none
    | none => none

def Cx.keeps (c : Cx) : List Nat → Option (List Kp)
  | [] => some []
  | t :: r => match c.keep t, c.keeps r with
    | some p, some l => if Nat.blt t c.nt then some (p :: l) else none
    | _, _ => none

def dstsOf : Code → List Nat
  | .region _ ops _ => ops.toList.filterMap (·.dst)
  | .seq a b => dstsOf a ++ dstsOf b
  | .cond _ a b => dstsOf a ++ dstsOf b
  | .block _ b | .loop b | .scope b => dstsOf b
  | .rangeFunc _ _ a b => dstsOf a ++ dstsOf b
  | _ => []

/-- The head of a loop over a map. -/
def mapHead (b : Code) : Option (Operand × Nat × Code) :=
  match b with
  | .seq (.region _ ops false) (.seq (.cond (.tmp t) .skip (.exit id)) body) =>
    match ops.toList with
    | [⟨some u, .next it false, _, _, _, none⟩, ⟨some t', .extract (.tmp u') 0, _, _, _, none⟩] => if Nat.beq u u' && Nat.beq t t' then some (it, id, body) else none
    | _ => none
  | _ => none

/-- A loop over a function. -/
structure RfA where
  params : List Kp
  assign : ACode
  body : ACode

/-- Regions that draw: given by 'dr'. The loops over functions are numbered from 'n' on. -/
def Cx.comp (c : Cx) (dr : Array Oper → List Nat → Option (List DStep × List Nat)) : Code → List Nat → Nat → Option (ACode × List Nat × List RfA)
  | .skip, ds, _ => some (.skip, ds, [])
  | .region _ ops draw, ds, _ =>
    if draw then match dr ops ds with
      | some (l, ds) => some (.dreg l, ds, [])
      | none => some (.no, [], [])
    else match c.ops ops ops.toList ds with
      | some (l, ds) => some (.reg l, ds, [])
      | none => some (.no, [], [])
  | .seq a b, ds, n => match c.comp dr a ds n with
    | some (a, ds, la) => match c.comp dr b ds (n + la.length) with
      | some (b, ds, lb) => some (.seq a b, ds, la ++ lb)
      | none => none
    | none => none
  | .cond x a b, ds, n => match c.opd ds x, c.comp dr a ds n with
    | some x, some (a, _, la) => match c.comp dr b ds (n + la.length) with
      | some (b, _, lb) => some (.cond x a b, [], la ++ lb)
      | none => none
    | _, _ => some (.no, [], [])
  | .block id b, ds, n => match c.comp dr b ds n with
    | some (b, _, l) => some (.block id b, [], l)
    | none => none
  | .loop b, _, n => match c.comp dr b [] n with
    | some (b', _, l) => match mapHead b with
      | some (it, id, _) => match c.opd [] it, b' with
        | some it, .seq _ (.seq _ b'') => if (dstsOf b).all fun t => Nat.blt t c.nt then some (.mloop it id ((dstsOf b).filterMap c.keep) b'', [], l) else some (.no, [], [])
        | _, _ => some (.no, [], [])
      | none => some (.loop b', [], l)
    | none => none
  | .rangeFunc f ps a b, ds, n => match c.opd ds f, c.keeps ps.toList, c.comp dr a [] (n + 1) with
    | some f, some ps, some (a, _, la) => match c.comp dr b [] (n + 1 + la.length) with
      | some (b, _, lb) => some (.rangeFunc f n, [], ⟨ps, a, b⟩ :: (la ++ lb))
      | none => none
    | _, _, _ => some (.no, [], [])
  | .exit id, _, _ => some (.exit id, [], [])
  | .goto _, _, _ => some (.no, [], [])
  | .label l, _, _ => some (.label l, [], [])
  | .scope b, _, n => match c.comp dr b [] n with
    | some (b, _, l) => some (.scope b, [], l)
    | none => none
  | .ret, _, _ => some (.ret, [], [])
  | .refuse _, _, _ => some (.no, [], [])

/-! ### Regions that draw their order -/

def AOp.quiet : AOp → Bool
  | .v _ _ | .n _ _ => true
  | .grd _ _ _ o => o.quiet
  | _ => false
def AOp.reads : AOp → Bool
  | .v _ o => !o.pure
  | .grd _ _ _ o => o.reads
  | _ => false
/-- An effect that may stand in such a region. -/
def AOp.loud : AOp → Bool
  | .s _ | .x _ _ | .call _ _ _ | .callf _ _ _ => true
  | .grd _ _ _ o => o.loud
  | _ => false

/-- An operation that was asked: its number, whether it reads, whether it makes a new block. -/
structure Asked where
  i : Nat
  reads : Bool
  news : Bool

def againOf (b : Nat) : List Asked → Nat → List Nat
  | [], _ => []
  | s :: r, p => if s.reads && !b.testBit s.i then p :: againOf b r (p + 1) else againOf b r (p + 1)
/-- The new blocks that operation 'i' waits for: by the place of their operation in the order in which they were asked. -/
def matsOf (b : Nat) : List Asked → List Nat → List Nat
  | [], _ => []
  | s :: r, done => if s.news && b.testBit s.i && !done.contains r.length then r.length :: matsOf b r done else matsOf b r done

/-- The new blocks that a reading operation waits for. -/
def qmats (a : AOp) (b : Nat) (S : List Asked) (laid : List Nat) : List Nat := if a.reads && !a.news then matsOf b S laid else []

def optL {α : Type} : Option α → List α
  | some x => [x]
  | none => []
def partL (ps : List (Nat × Nat × Opd)) : List Opd := ps.map fun q => q.2.2
def VO.opds : VO → List Opd
  | .mv x | .ld1 x | .ldn x _ | .nck x | .not x | .neg _ _ _ x | .cvi _ _ _ x | .cbs x | .mif _ x | .fad x _ | .fld x _ _ _ | .tas x _ _ | .ext x _ | .lnS x | .lnL x | .lnM x | .ent x | .str x => [x]
  | .pick c a b => [c, a, b]
  | .build _ ps => partL ps
  | .bin _ _ _ _ x y | .cmp _ x y | .sbin _ x y | .eqk _ _ x y | .eqa _ _ x y | .ixL x y _ | .ixA x y _ _ | .ixS x y | .ixG x y _ _ _ | .lup _ x y _ _ | .mn x y | .mx x y | .ibs x y | .cts x y => [x, y]
  | .mfn _ a b => a ++ b
  | .slS x lo hi => x :: (optL lo ++ optL hi)
  | .slL u lo hi top _ | .slA u lo hi top _ _ => u :: (optL lo ++ (optL hi ++ optL top))
def NO.opds : NO → List Opd
  | .alloc _ | .mkm => []
  | .box x | .csb x | .rgS x => [x]
  | .bsl _ _ _ ps => partL ps
  | .mks _ _ l c => [l, c]
def SO.opds : SO → List Opd
  | .st1 a v | .stn a v _ => [a, v]
  | .mup _ m k v | .est m k v => [m, k, v]
def XO.opds : XO → List Opd
  | .app x y _ _ _ | .apps x y | .cpy x y _ | .men _ x y _ => [x, y]
  | .nxS x | .rgM x => [x]
def AOp.opds : AOp → List Opd
  | .v _ o => o.opds
  | .n _ o => o.opds
  | .s o => o.opds
  | .x _ o => o.opds
  | .call _ f l => f :: l
  | .callf _ _ l => l
  | .dfr f l => f :: l
  | .pnc u => [u]
  | .rcv _ => []
  | .grd g _ _ o => g :: o.opds

def dstAt (ops : Array Oper) (j : Nat) : Option Nat := (ops[j]?).bind (·.dst)
/-- Who in the region writes a temporary. -/
def wr (ops : Array Oper) (t : Nat) : Option Nat := (List.range ops.size).find? fun j => match dstAt ops j with | some u => Nat.beq u t | none => false
/-- A temporary that operation 'i' names is written by itself, ahead of it, or behind it, in every order. -/
def ordered (ops : Array Oper) (bef : Array Nat) (i t : Nat) : Bool :=
  match wr ops t with
  | none => true
  | some w => Nat.beq w i || (bef.getD i 0).testBit w || (bef.getD w 0).testBit i
def Cx.seen (c : Cx) (ops : Array Oper) (bef : Array Nat) (i : Nat) (ds : List Nat) : Opd → Bool
  | .loc j => match ds[j]? with
    | some t => (match idxOf t ds 0 with | some k => Nat.beq k j | none => false) && ordered ops bef i t
    | none => false
  | .kep p => match c.rn[p.val]? with
    | some t => (match c.keep t with | some q => Nat.beq q.val p.val | none => false) && ordered ops bef i t
    | none => false
  | .con _ => true
/-- Operation 'i' may stand here: not yet done; what must be ahead of it is done; the last effect is ahead of it in every order; what it names is ordered. -/
def Cx.fit (c : Cx) (ops : Array Oper) (bef : Array Nat) (i : Nat) (a : AOp) (ds : List Nat) (last : Option Nat) (done : List Nat) : Bool :=
  !done.contains i && (List.range ops.size).all (fun j => !(bef.getD i 0).testBit j || done.contains j) &&
    (match last with | some j => (bef.getD i 0).testBit j | none => true) && a.opds.all (c.seen ops bef i ds)

def Cx.compD (c : Cx) (ops : Array Oper) (bef : Array Nat) : List Nat → List Nat → List Asked → (last : Option Nat) → (laid done : List Nat) → Option (List DStep × List Nat)
  | [], ds, _, _, _, done => if (List.range ops.size).all fun j => done.contains j then some ([], ds) else none
  | i :: r, ds, S, last, laid, done =>
    match ops[i]? with
    | none => none
    | some o => match c.op ops ds o with
      | none => none
      | some (a, ds') =>
        if c.fit ops bef i a ds last done then
          if a.quiet then
            match c.compD ops bef r ds' (⟨i, a.reads, a.news⟩ :: S) last laid (i :: done) with
            | some (l, ds) => some (.q (qmats a (bef.getD i 0) S laid) a :: l, ds)
            | none => none
          else if a.loud then
            match c.compD ops bef r ds' S (some i) (matsOf (bef.getD i 0) S laid ++ laid) (i :: done) with
            | some (l, ds) => some (.e (matsOf (bef.getD i 0) S laid) a (againOf (bef.getD i 0) S 0) :: l, ds)
            | none => none
          else none
        else none

/-- Every temporary is written once, and what an operation waits for stands ahead of it in the text. -/
def plainRegion (ops : Array Oper) : Bool :=
  (List.range ops.size).all fun i =>
    (match dstAt ops i with | some t => (match wr ops t with | some w => Nat.beq w i | none => false) | none => true) &&
    (match ops[i]? with | some o => o.after.toList.all fun e => !Region.binds .any e || Nat.blt e.on i | none => false)

/-- An order in which what is quiet comes first. -/
def ordOf (quiet : Nat → Bool) (bef : Array Nat) (n : Nat) : (fuel : Nat) → List Nat → List Nat
  | 0, _ => []
  | f + 1, done =>
    let ready := (List.range n).filter fun i => !done.contains i && (List.range n).all fun j => !(bef.getD i 0).testBit j || done.contains j
    match ready.find? quiet with
    | some i => i :: ordOf quiet bef n f (i :: done)
    | none => match ready with
      | i :: _ => i :: ordOf quiet bef n f (i :: done)
      | [] => []

def quietOp (ops : Array Oper) (i : Nat) : Bool :=
  match ops[i]? with
  | some o => match o.op with
    | .store _ _ _ | .mapUpdate _ _ _ _ | .insert _ _ _ _ | .mapEntry _ _ _ | .entryStore _ _ _ _ | .next _ _ | .defer _ | .panic _ => false
    | .call { callee := .builtin b, .. } => (match b with | .len | .cap | .min | .max => true | _ => false)
    | .call _ => false
    | _ => true
  | none => false

def Cx.dr (c : Cx) (ops : Array Oper) (ds : List Nat) : Option (List DStep × List Nat) :=
  let bef := Region.before ops
  if plainRegion ops then c.compD ops bef (ordOf (quietOp ops) bef ops.size ops.size []) ds [] none [] [] else none

/-! ### A function -/

def Cx.res (c : Cx) : List ResultVar → Option (List ARes)
  | [] => some []
  | .tmp t :: r => match c.keep t, c.res r with
    | some p, some l => some (.tmp p :: l)
    | _, _ => none
  | .cell t u :: r => match c.keep t, c.isAgg u, c.size u, c.res r with
    | some p, some true, some n, some l => some (.celln p n :: l)
    | some p, some false, _, some l => some (.cell1 p :: l)
    | _, _, _, _ => none

def paramsOf (c : Cx) : (n : Nat) → List (Option Kp)
  | 0 => []
  | n + 1 => paramsOf c n ++ [c.keep n]

structure FDef where
  code : ACode
  params : List (Option Kp)
  res : List ARes
  loops : List RfA

def Cx.fdef (P : Program) (rn : List Nat) (fn : Func) : Option FDef :=
  let c : Cx := ⟨P, rn, fn.ntmps⟩
  match fn.body with
  | none => none
  | some b => match c.comp c.dr b [] 0, c.res fn.results.toList with
    | some (code, _, l), some res => if Nat.ble (fn.params.size + fn.nfree) fn.ntmps && !(fn.name == "runtime.NumGoroutine") then some ⟨code, paramsOf c (fn.params.size + fn.nfree), res, l⟩ else none
    | _, _ => none

/-! ### Ready to run -/

noncomputable def ACode.sh : ACode → CodeF
  | .skip => cSkip
  | .reg ops => cReg (opsF ops)
  | .dreg ops => cDreg (dF ops)
  | .seq a b => cSeq a.sh b.sh
  | .cond c a b => cCond c a.sh b.sh
  | .block id b => cBlock id b.sh
  | .loop b => cLoop b.sh
  | .rangeFunc f i => cRange f i
  | .exit id => cExit id
  | .label _ => cSkip
  | .scope b => b.sh
  | .ret => cRet
  | .no => cNo
  | .mloop it id fg b => cMloop it id fg b.sh

noncomputable def FDef.sh (f : FDef) : FD := .mk f.code.sh f.params f.res (f.loops.map fun r => ⟨r.params, r.assign.sh, r.body.sh⟩)

end Go.Proofs.YtpngpoeifgkclaaGreatDoor.Am

/- The tables of the abstract machine: what is read is what was written. -/
namespace Go.Proofs.YtpngpoeifgkclaaGreatDoor.Am

theorem V16.get_set (t : V16) (v : AV) (d e : Dg) : (t.set v d).get e = if d = e then v else t.get e := by
  cases t; cases d <;> cases e <;> rfl
theorem V16.getK_eq (d : Dg) (t : V16) (k : AV → Res) : V16.getK d t k = k (t.get d) := by cases d <;> rfl
theorem V16.setK_eq (d : Dg) (t : V16) (v : AV) (k : V16 → Res) : V16.setK d t v k = k (t.set v d) := by cases t; cases d <;> rfl
theorem V16.get_fill (v : AV) (d : Dg) : (V16.fill v).get d = v := by cases d <;> rfl
theorem VT.get_set (t : VT) (v : V16) (d e : D4) : (t.set v d).get e = if d = e then v else t.get e := by
  cases t; cases d <;> cases e <;> rfl
theorem VT.getK_eq (d : D4) (t : VT) (k : V16 → Res) : VT.getK d t k = k (t.get d) := by cases d <;> rfl
theorem VT.setK_eq (d : D4) (t : VT) (v : V16) (k : VT → Res) : VT.setK d t v k = k (t.set v d) := by cases t; cases d <;> rfl
theorem VT.get_fill (v : V16) (d : D4) : (VT.fill v).get d = v := by cases d <;> rfl
theorem A0.get_set (t : A0) (v : AObj) (d e : Dg) : (t.set v d).get e = if d = e then v else t.get e := by
  cases t; cases d <;> cases e <;> rfl
theorem A0.getK_eq (d : Dg) (t : A0) (k : AObj → Res) : A0.getK d t k = k (t.get d) := by cases d <;> rfl
theorem A0.setK_eq (d : Dg) (t : A0) (v : AObj) (k : A0 → Res) : A0.setK d t v k = k (t.set v d) := by cases t; cases d <;> rfl
theorem A0.get_fill (v : AObj) (d : Dg) : (A0.fill v).get d = v := by cases d <;> rfl
theorem A1.get_set (t : A1) (v : A0) (d e : Dg) : (t.set v d).get e = if d = e then v else t.get e := by
  cases t; cases d <;> cases e <;> rfl
theorem A1.getK_eq (d : Dg) (t : A1) (k : A0 → Res) : A1.getK d t k = k (t.get d) := by cases d <;> rfl
theorem A1.setK_eq (d : Dg) (t : A1) (v : A0) (k : A1 → Res) : A1.setK d t v k = k (t.set v d) := by cases t; cases d <;> rfl
theorem A1.get_fill (v : A0) (d : Dg) : (A1.fill v).get d = v := by cases d <;> rfl
theorem A2.get_set (t : A2) (v : A1) (d e : Dg) : (t.set v d).get e = if d = e then v else t.get e := by
  cases t; cases d <;> cases e <;> rfl
theorem A2.getK_eq (d : Dg) (t : A2) (k : A1 → Res) : A2.getK d t k = k (t.get d) := by cases d <;> rfl
theorem A2.setK_eq (d : Dg) (t : A2) (v : A1) (k : A2 → Res) : A2.setK d t v k = k (t.set v d) := by cases t; cases d <;> rfl
theorem A2.get_fill (v : A1) (d : Dg) : (A2.fill v).get d = v := by cases d <;> rfl
theorem F0.get_set (t : F0) (v : FD) (d e : Dg) : (t.set v d).get e = if d = e then v else t.get e := by
  cases t; cases d <;> cases e <;> rfl
theorem F0.getK_eq (d : Dg) (t : F0) (k : FD → Res) : F0.getK d t k = k (t.get d) := by cases d <;> rfl
theorem F0.setK_eq (d : Dg) (t : F0) (v : FD) (k : F0 → Res) : F0.setK d t v k = k (t.set v d) := by cases t; cases d <;> rfl
theorem F0.get_fill (v : FD) (d : Dg) : (F0.fill v).get d = v := by cases d <;> rfl
theorem F1.get_set (t : F1) (v : F0) (d e : Dg) : (t.set v d).get e = if d = e then v else t.get e := by
  cases t; cases d <;> cases e <;> rfl
theorem F1.getK_eq (d : Dg) (t : F1) (k : F0 → Res) : F1.getK d t k = k (t.get d) := by cases d <;> rfl
theorem F1.setK_eq (d : Dg) (t : F1) (v : F0) (k : F1 → Res) : F1.setK d t v k = k (t.set v d) := by cases t; cases d <;> rfl
theorem F1.get_fill (v : F0) (d : Dg) : (F1.fill v).get d = v := by cases d <;> rfl
theorem F2.get_set (t : F2) (v : F1) (d e : Dg) : (t.set v d).get e = if d = e then v else t.get e := by
  cases t; cases d <;> cases e <;> rfl
theorem F2.getK_eq (d : Dg) (t : F2) (k : F1 → Res) : F2.getK d t k = k (t.get d) := by cases d <;> rfl
theorem F2.setK_eq (d : Dg) (t : F2) (v : F1) (k : F2 → Res) : F2.setK d t v k = k (t.set v d) := by cases t; cases d <;> rfl
theorem F2.get_fill (v : F1) (d : Dg) : (F2.fill v).get d = v := by cases d <;> rfl

theorem Kp.ext {p q : Kp} (h : p = q) : p = q := h
theorem VT.at_put (T : VT) (v : AV) (p q : Kp) : (T.put v p).at q = if p = q then v else T.at q := by
  cases p with | mk a d => cases q with | mk b e =>
  simp only [VT.put, VT.at, VT.get_set, Kp.mk.injEq]
  by_cases h : a = b
  · subst h; by_cases h2 : d = e <;> simp [V16.get_set, h2]
  · simp [h]
theorem VT.at_none (p : Kp) : VT.none.at p = .no := by
  cases p with | mk a d => simp [VT.none, VT.at, VT.get_fill, V16.get_fill]
theorem getV_eq (p : Kp) (T : VT) (k : AV → Res) : getV p T k = k (T.at p) := by
  cases p with | mk a d => show VT.getK a T _ = _; rw [VT.getK_eq, V16.getK_eq]; rfl
theorem setV_eq (p : Kp) (T : VT) (v : AV) (k : VT → Res) : setV p T v k = k (T.put v p) := by
  cases p with | mk a d => show VT.getK a T _ = _; rw [VT.getK_eq, V16.setK_eq, VT.setK_eq]; rfl

theorem A2.at_put (t : A2) (o : AObj) (p q : Hi) : (t.put o p).at q = if p = q then o else t.at q := by
  cases p with | mk a b c => cases q with | mk d e f =>
  simp only [A2.put, A2.at, A2.get_set, Hi.mk.injEq]
  by_cases h : a = d
  · subst h
    by_cases h2 : b = e
    · subst h2; by_cases h3 : c = f <;> simp [A1.get_set, A0.get_set, h3]
    · simp [A1.get_set, h2]
  · simp [h]
theorem A2.at_none (p : Hi) : A2.none.at p = .no := by
  cases p with | mk a b c => simp [A2.none, A2.at, A2.get_fill, A1.get_fill, A0.get_fill]
theorem getO_eq (p : Hi) (t : A2) (k : AObj → Res) : getO p t k = k (t.at p) := by
  cases p with | mk a b c => show A2.getK a t _ = _; rw [A2.getK_eq, A1.getK_eq, A0.getK_eq]; rfl
theorem setO_eq (p : Hi) (t : A2) (o : AObj) (k : A2 → Res) : setO p t o k = k (t.put o p) := by
  cases p with | mk a b c => show A2.getK a t _ = _; rw [A2.getK_eq, A1.getK_eq, A0.setK_eq, A1.setK_eq, A2.setK_eq]; rfl
theorem getF_eq (p : Hi) (t : F2) (k : FD → Res) : getF p t k = k (t.at p) := by
  cases p with | mk a b c => show F2.getK a t _ = _; rw [F2.getK_eq, F1.getK_eq, F0.getK_eq]; rfl

theorem Dg.val_lt (d : Dg) : d.val < 16 := by cases d <;> decide
theorem Dg.val_inj {a b : Dg} (h : a.val = b.val) : a = b := by cases a <;> cases b <;> first | rfl | (exact absurd h (by decide))
theorem Hi.val_inj {p q : Hi} (h : p.val = q.val) : p = q := by
  cases p with | mk a b c => cases q with | mk d e f =>
  have := Dg.val_lt a; have := Dg.val_lt b; have := Dg.val_lt c; have := Dg.val_lt d; have := Dg.val_lt e; have := Dg.val_lt f
  simp only [Hi.val] at h
  have h1 : a.val = d.val := by omega
  have h2 : b.val = e.val := by omega
  have h3 : c.val = f.val := by omega
  rw [Dg.val_inj h1, Dg.val_inj h2, Dg.val_inj h3]

theorem succD_inv {d : Dg} {k : Dg → Res} {c r : Res} (h : succD d k c = r) : (∃ e, e.val = d.val + 1 ∧ k e = r) ∨ (d.val = 15 ∧ c = r) := by
  cases d
  case xf => exact .inr ⟨rfl, h⟩
  all_goals exact .inl ⟨_, rfl, h⟩
theorem succK_inv {p : Hi} {k : Hi → Res} {o : AOut} {h' : Hp} (h : succK p k = .ok o h') : ∃ q : Hi, q.val = p.val + 1 ∧ k q = .ok o h' := by
  cases p with | mk a b c =>
  have h : succD c (fun c => k (.mk a b c)) (succD b (fun b => k (.mk a b .x0)) (succD a (fun a => k (.mk a .x0 .x0)) .bad)) = .ok o h' := h
  rcases succD_inv h with ⟨e, he, h⟩ | ⟨hc, h⟩
  · exact ⟨_, by simp only [Hi.val]; omega, h⟩
  · rcases succD_inv h with ⟨e, he, h⟩ | ⟨hb, h⟩
    · exact ⟨_, by simp only [Hi.val, show Dg.x0.val = 0 from rfl]; omega, h⟩
    · rcases succD_inv h with ⟨e, he, h⟩ | ⟨ha, h⟩
      · exact ⟨_, by simp only [Hi.val, show Dg.x0.val = 0 from rfl]; omega, h⟩
      · cases h

theorem dg_val {n : Nat} (h : n < 16) : (dg n).val = n := by
  have : ∀ n : Fin 16, (dg n.val).val = n.val := by decide
  exact this ⟨n, h⟩
theorem hi_val {n : Nat} (h : n < 4096) : (hi n).val = n := by
  simp only [hi, Hi.val]
  rw [dg_val (by omega), dg_val (by omega), dg_val (by omega)]
  omega
theorem d4_inj {a b : Nat} (ha : a < 4) (hb : b < 4) (h : d4 a = d4 b) : a = b := by
  match a, ha, b, hb with
  | 0, _, 0, _ | 1, _, 1, _ | 2, _, 2, _ | 3, _, 3, _ => rfl
  | 0, _, 1, _ | 0, _, 2, _ | 0, _, 3, _ | 1, _, 0, _ | 1, _, 2, _ | 1, _, 3, _ | 2, _, 0, _ | 2, _, 1, _ | 2, _, 3, _ | 3, _, 0, _ | 3, _, 1, _ | 3, _, 2, _ => cases h
theorem kp_inj {m n : Nat} (hm : m < 64) (hn : n < 64) (h : kp m = kp n) : m = n := by
  simp only [kp, Kp.mk.injEq] at h
  have h1 := d4_inj (by omega) (by omega) h.1
  have h2 : (dg (m % 16)).val = (dg (n % 16)).val := by rw [h.2]
  rw [dg_val (by omega), dg_val (by omega)] at h2
  omega

/-! ### Values forced, and lists -/

theorem natK_eq (n : Nat) (k : Nat → Res) : natK n k = k n := rfl
theorem intK_eq (n : Int) (k : Int → Res) : intK n k = k n := by cases n <;> rfl
theorem boolK_eq (b : Bool) (k : Bool → Res) : boolK b k = k b := by cases b <;> rfl
theorem ifK_eq (b : Bool) (x y : Res) : ifK b x y = if b then x else y := by cases b <;> rfl
theorem ifK_inv {b : Bool} {x : Res} {o : AOut} {h : Hp} (e : ifK b x .bad = .ok o h) : b = true ∧ x = .ok o h := by
  cases b
  · cases e
  · exact ⟨rfl, e⟩

theorem nthK_inv {j : Nat} {l : List AV} {k : AV → Res} {o : AOut} {h : Hp} (e : nthK j l k = .ok o h) : ∃ v, l[j]? = some v ∧ k v = .ok o h := by
  induction j generalizing l with
  | zero => cases l with
    | nil => cases e
    | cons v r => exact ⟨v, rfl, e⟩
  | succ j ih => cases l with
    | nil => cases e
    | cons v r => exact ih (l := r) e
theorem dropK_inv {j : Nat} {l : List AV} {k : List AV → Res} {o : AOut} {h : Hp} (e : dropK j l k = .ok o h) : j ≤ l.length ∧ k (l.drop j) = .ok o h := by
  induction j generalizing l with
  | zero => exact ⟨Nat.zero_le _, e⟩
  | succ j ih => cases l with
    | nil => cases e
    | cons v r => obtain ⟨h1, h2⟩ := ih (l := r) e; exact ⟨by simp; omega, h2⟩
theorem takeK_inv {j : Nat} {l r : List AV} {k : List AV → Res} {o : AOut} {h : Hp} (e : takeK j l r k = .ok o h) : j ≤ l.length ∧ k (l.take j ++ r) = .ok o h := by
  induction j generalizing l k with
  | zero => exact ⟨Nat.zero_le _, e⟩
  | succ j ih => cases l with
    | nil => cases e
    | cons v t => obtain ⟨h1, h2⟩ := ih (l := t) e; exact ⟨by simp; omega, h2⟩
theorem overK_inv {vs l : List AV} {k : List AV → Res} {o : AOut} {h : Hp} (e : overK vs l k = .ok o h) : vs.length ≤ l.length ∧ k (vs ++ l.drop vs.length) = .ok o h := by
  induction vs generalizing l k with
  | nil => exact ⟨Nat.zero_le _, e⟩
  | cons v vs ih => cases l with
    | nil => cases e
    | cons w t => obtain ⟨h1, h2⟩ := ih (l := t) e; exact ⟨by simp; omega, by simpa using h2⟩
theorem putK_inv {j : Nat} {vs l : List AV} {k : List AV → Res} {o : AOut} {h : Hp} (e : putK j vs l k = .ok o h) :
    j + vs.length ≤ l.length ∧ k (l.take j ++ vs ++ l.drop (j + vs.length)) = .ok o h := by
  induction j generalizing l k with
  | zero => obtain ⟨h1, h2⟩ := overK_inv e; exact ⟨by omega, by simpa using h2⟩
  | succ j ih => cases l with
    | nil => cases e
    | cons w t => obtain ⟨h1, h2⟩ := ih (l := t) e; exact ⟨by simp; omega, by simpa [Nat.add_right_comm] using h2⟩
theorem lenK_eq (l : List AV) (k : Nat → Res) : lenK l k = k l.length := by
  induction l generalizing k with
  | nil => rfl
  | cons v r ih => show lenK r _ = _; rw [ih]; rfl
theorem appK_eq (l r : List AV) (k : List AV → Res) : appK l r k = k (l ++ r) := by
  induction l generalizing k with
  | nil => rfl
  | cons v t ih => show appK t r _ = _; rw [ih]; rfl

end Go.Proofs.YtpngpoeifgkclaaGreatDoor.Am

/- What the abstract machine's values and memory stand for. -/
namespace Go.Proofs.YtpngpoeifgkclaaGreatDoor.Am

/-- Where a block lies: its number, the cell at which it begins, the one at which its room ends, and how many cells an element takes. -/
structure Pl where
  blk : Nat
  base : Nat
  cend : Nat
  sz : Nat

abbrev M := Hi → Option Pl

def M.le (m m' : M) : Prop := ∀ p pl, m p = some pl → m' p = some pl
theorem M.le.refl (m : M) : m.le m := fun _ _ h => h
theorem M.le.trans {a b c : M} (h : a.le b) (k : b.le c) : a.le c := fun p pl e => k p pl (h p pl e)

def SR (n v : Nat) (s : ByteArray) : Prop := s.data.toList.length = n ∧ codeOf s.data.toList = v

def FR (m : M) : AFn → Fn → Prop
  | .func p, f => f = .func p.val
  | .yield b, f => ∃ pl, m b = some pl ∧ f = .yield pl.blk

/-- The room of a slice: known, or up to the block's end. -/
def CapR (pl : Pl) (o c : Nat) : Option Nat → Prop
  | some c' => c = c'
  | none => pl.base + o + c * pl.sz = pl.cend ∧ 0 < pl.sz

/-- What is known of the symbols. -/
structure SymOk (f : Nat → Value) : Prop where
  ints : ∀ k κ lo hi, symInt k = some (κ, lo, hi) → ∃ z, f k = .int (kOf κ) z ∧ lo ≤ z ∧ z ≤ hi
  strs : ∀ k l, symStr k = some l → ∃ s, f k = .string s ∧ (∀ q ∈ symNames, ¬ SR q.1 q.2 s) ∧ f l = goInt s.size
  convs : ∀ k κ l, symConv k κ = some l → ∃ k0 z, f k = .int k0 z ∧ f l = .int (kOf κ) ((kOf κ).wrap z)

structure Rho where
  f : Nat → Value
  ok : SymOk f

section
variable (ρ : Rho)

mutual
def VR (m : M) : AV → Value → Prop
  | .no, _ => True
  | .bool b, v => v = .bool b
  | .int k n, v => v = .int (kOf k) n
  | .str n x, v => ∃ s, v = .string s ∧ SR n x s
  | .nilp, v => v = .pointer none
  | .ptr b o, v => ∃ pl, m b = some pl ∧ v = .pointer (some ⟨pl.blk, pl.base + o, none⟩)
  | .nils, v => v = .slice none 0 0
  | .slice b o len cap, v => ∃ pl a c, m b = some pl ∧ v = .slice (some a) len c ∧ len ≤ c ∧ (0 < c → a = ⟨pl.blk, pl.base + o, none⟩) ∧ CapR pl o c cap
  | .nilm, v => v = .map none
  | .map b, v => ∃ pl, m b = some pl ∧ v = .map (some pl.blk)
  | .nilf, v => v = .nilFunc
  | .func f fi ca, v => ∃ fn a c, v = .func fn a c ∧ FR m f fn ∧ VRL m fi a.toList ∧ VRL m ca c.toList
  | .nili, v => v = .nilIface
  | .iface t x, v => ∃ y, v = .iface t y ∧ VR m x y
  | .agg l, v => ∃ xs, v = .agg xs ∧ VRL m l xs.toList ∧ ∀ x ∈ xs.toList, x.oneCell' = true
  | .tup l, v => ∃ xs, v = .tuple xs ∧ VRL m l xs.toList
  | .sym k, v => v = ρ.f k ∧ v.oneCell' = true
def VRL (m : M) : List AV → List Value → Prop
  | [], vs => vs = []
  | a :: l, vs => ∃ v r, vs = v :: r ∧ VR m a v ∧ VRL m l r
end

mutual
theorem VR.mono {m m' : M} (h : m.le m') : ∀ (a : AV) (v : Value), VR ρ m a v → VR ρ m' a v
  | .no, _, _ => trivial
  | .bool _, _, e => e
  | .int _ _, _, e => e
  | .str _ _, _, e => e
  | .nilp, _, e => e
  | .ptr _ _, _, ⟨pl, e, r⟩ => ⟨pl, h _ _ e, r⟩
  | .nils, _, e => e
  | .slice _ _ _ _, _, ⟨pl, a, c, e, r⟩ => ⟨pl, a, c, h _ _ e, r⟩
  | .nilm, _, e => e
  | .map _, _, ⟨pl, e, r⟩ => ⟨pl, h _ _ e, r⟩
  | .nilf, _, e => e
  | .func (.func _) fi ca, _, ⟨fn, a, c, e, f, r, s⟩ => ⟨fn, a, c, e, f, VRL.mono h fi _ r, VRL.mono h ca _ s⟩
  | .func (.yield _) fi ca, _, ⟨fn, a, c, e, ⟨pl, f, g⟩, r, s⟩ => ⟨fn, a, c, e, ⟨pl, h _ _ f, g⟩, VRL.mono h fi _ r, VRL.mono h ca _ s⟩
  | .nili, _, e => e
  | .iface _ x, _, ⟨y, e, r⟩ => ⟨y, e, VR.mono h x y r⟩
  | .agg l, _, ⟨xs, e, r, s⟩ => ⟨xs, e, VRL.mono h l _ r, s⟩
  | .tup l, _, ⟨xs, e, r⟩ => ⟨xs, e, VRL.mono h l _ r⟩
  | .sym _, _, e => e
theorem VRL.mono {m m' : M} (h : m.le m') : ∀ (l : List AV) (vs : List Value), VRL ρ m l vs → VRL ρ m' l vs
  | [], _, e => e
  | a :: l, _, ⟨v, r, e, f, g⟩ => ⟨v, r, e, VR.mono h a v f, VRL.mono h l r g⟩
end

variable {ρ}

theorem VRL.length {m : M} {l : List AV} {vs : List Value} (h : VRL ρ m l vs) : vs.length = l.length := by
  induction l generalizing vs with
  | nil => simp only [VRL] at h; simp [h]
  | cons a l ih => obtain ⟨v, r, rfl, _, h⟩ := h; simp [ih h]

theorem VRL.get {m : M} {l : List AV} {vs : List Value} (h : VRL ρ m l vs) {i : Nat} {a : AV} (ha : l[i]? = some a) : ∃ v, vs[i]? = some v ∧ VR ρ m a v := by
  induction l generalizing vs i with
  | nil => simp at ha
  | cons b l ih =>
    obtain ⟨v, r, rfl, hv, hr⟩ := h
    cases i with
    | zero => simp at ha; subst ha; exact ⟨v, rfl, hv⟩
    | succ i => exact ih hr (by simpa using ha)

theorem VRL.of_get {m : M} {l : List AV} {vs : List Value} (hl : vs.length = l.length) (h : ∀ (i : Nat) (a : AV) (v : Value), l[i]? = some a → vs[i]? = some v → VR ρ m a v) : VRL ρ m l vs := by
  induction l generalizing vs with
  | nil => simp at hl; subst hl; simp [VRL]
  | cons b l ih =>
    cases vs with
    | nil => simp at hl
    | cons v r => exact ⟨v, r, rfl, h 0 b v rfl rfl, ih (by simpa using hl) fun i a w h1 h2 => h (i + 1) a w (by simpa using h1) (by simpa using h2)⟩

theorem VRL.append {m : M} {l k : List AV} {vs ws : List Value} (h : VRL ρ m l vs) (h2 : VRL ρ m k ws) : VRL ρ m (l ++ k) (vs ++ ws) := by
  induction l generalizing vs with
  | nil => simp only [VRL] at h; subst h; exact h2
  | cons a l ih => obtain ⟨v, r, rfl, hv, hr⟩ := h; exact ⟨v, r ++ ws, rfl, hv, ih hr⟩

theorem VRL.take {m : M} {l : List AV} {vs : List Value} (h : VRL ρ m l vs) (n : Nat) : VRL ρ m (l.take n) (vs.take n) := by
  induction l generalizing vs n with
  | nil => simp only [VRL] at h; subst h; simp [VRL]
  | cons a l ih =>
    obtain ⟨v, r, rfl, hv, hr⟩ := h
    cases n with
    | zero => simp [VRL]
    | succ n => exact ⟨v, r.take n, rfl, hv, ih hr n⟩

theorem VRL.drop {m : M} {l : List AV} {vs : List Value} (h : VRL ρ m l vs) (n : Nat) : VRL ρ m (l.drop n) (vs.drop n) := by
  induction l generalizing vs n with
  | nil => simp only [VRL] at h; subst h; simp [VRL]
  | cons a l ih =>
    obtain ⟨v, r, rfl, hv, hr⟩ := h
    cases n with
    | zero => exact ⟨v, r, rfl, hv, hr⟩
    | succ n => exact ih hr n

/-- A value of one cell. -/
def AV.one : AV → Bool
  | .no | .agg _ | .tup _ => false
  | _ => true

theorem VR.one {m : M} {a : AV} {v : Value} (h : VR ρ m a v) (ho : a.one = true) : v.oneCell' = true := by
  cases a <;> simp only [AV.one, Bool.false_eq_true] at ho <;> simp only [VR] at h
  case sym => exact h.2
  case str => obtain ⟨s, rfl, _⟩ := h; rfl
  case ptr => obtain ⟨pl, _, rfl⟩ := h; rfl
  case slice => obtain ⟨pl, a, c, _, rfl, _⟩ := h; rfl
  case map => obtain ⟨pl, _, rfl⟩ := h; rfl
  case func => obtain ⟨fn, a, c, rfl, _⟩ := h; rfl
  case iface => obtain ⟨y, rfl, _⟩ := h; rfl
  all_goals (subst h; rfl)

end
end Go.Proofs.YtpngpoeifgkclaaGreatDoor.Am

/- What the abstract machine's memory stands for, and how it goes on. -/
namespace Go.Proofs.YtpngpoeifgkclaaGreatDoor.Am

/-- A text, and what it was made into: 'ds' is known of the temporaries by their order ahead of it, and behind it. -/
inductive CodeRel (c : Cx) (ls : List RfA) : Code → ACode → List Nat → List Nat → Prop
  | skip {ds : List Nat} : CodeRel c ls .skip .skip ds ds
  | reg {id : Nat} {ops : Array Oper} {l : List AOp} {ds ds' : List Nat} : c.ops ops ops.toList ds = some (l, ds') → CodeRel c ls (.region id ops false) (.reg l) ds ds'
  | dreg {id : Nat} {ops : Array Oper} {l : List DStep} {ds ds' : List Nat} : c.dr ops ds = some (l, ds') → CodeRel c ls (.region id ops true) (.dreg l) ds ds'
  | seq {a b : Code} {a' b' : ACode} {ds e ds' : List Nat} : CodeRel c ls a a' ds e → CodeRel c ls b b' e ds' → CodeRel c ls (.seq a b) (.seq a' b') ds ds'
  | cond {x : Operand} {x' : Opd} {a b : Code} {a' b' : ACode} {ds e e' : List Nat} : c.opd ds x = some x' → CodeRel c ls a a' ds e → CodeRel c ls b b' ds e' → CodeRel c ls (.cond x a b) (.cond x' a' b') ds []
  | block {id : Nat} {b : Code} {b' : ACode} {ds e : List Nat} : CodeRel c ls b b' ds e → CodeRel c ls (.block id b) (.block id b') ds []
  | loop {b : Code} {b' : ACode} {ds e : List Nat} : CodeRel c ls b b' [] e → CodeRel c ls (.loop b) (.loop b') ds []
  | rf {f : Operand} {f' : Opd} {ps : Array Tmp} {a b : Code} {i : Nat} {r : RfA} {ds e e' : List Nat} : c.opd ds f = some f' → ls[i]? = some r → c.keeps ps.toList = some r.params →
      CodeRel c ls a r.assign [] e → CodeRel c ls b r.body [] e' → CodeRel c ls (.rangeFunc f ps a b) (.rangeFunc f' i) ds []
  | exit {id : Nat} {ds : List Nat} : CodeRel c ls (.exit id) (.exit id) ds []
  | label {l : Nat} {ds : List Nat} : CodeRel c ls (.label l) (.label l) ds []
  | scope {b : Code} {b' : ACode} {ds e : List Nat} : CodeRel c ls b b' [] e → CodeRel c ls (.scope b) (.scope b') ds []
  | ret {ds : List Nat} : CodeRel c ls .ret .ret ds []
  | no {a : Code} {ds : List Nat} : CodeRel c ls a .no ds []
  | mloop {b body : Code} {it : Operand} {it' : Opd} {id : Nat} {fg : List Kp} {body' : ACode} {ds e : List Nat} : mapHead b = some (it, id, body) → c.opd [] it = some it' → fg = (dstsOf b).filterMap c.keep → ((dstsOf b).all fun t => Nat.blt t c.nt) = true →
      CodeRel c ls body body' [] e → CodeRel c ls (.loop b) (.mloop it' id fg body') ds []

/-- The blocks of cells, as a function whose answer is known may read them. -/
def CellsR (ρ : Rho) (m : M) (h : Hp) (w : World) : Prop := ∀ q g sz fz c, h.at q = .cells g sz fz c → ∃ pl C e f, m q = some pl ∧ pl.blk < w.heap.size ∧ w.heap[pl.blk]? = some (.cells C e f) ∧ ∀ (i : Nat) a, c[i]? = some a → ∃ v, C[pl.base + i]? = some v ∧ VR ρ m a v

/-- A program, as the abstract machine has it. A function whose answer is known leaves memory as it is. -/
structure Gp where
  P : Program
  mixed : P.follows .mixedOrders = true
  GW : World → Prop
  gws : ∀ w w', GW w → (∀ b, b < P.globals.size → w'.heap[b]? = w.heap[b]?) → GW w'
  ft : F2
  cx : Nat → Cx
  fd : Nat → Option FDef
  hcx : ∀ f, (cx f).P = P
  hft : ∀ p : Hi, ft.at p = .no ∨
    (∃ g fn, ft.at p = .val g ∧ P.funcs[p.val]? = some fn ∧ (fn.name == "runtime.NumGoroutine") = false ∧ fn.body.isSome = true ∧ ∀ (ρ : Rho) (m : M) (h : Hp) (w : World) (args : List AV) (vs : List Value) (v : AV), GW w → P.globals.size ≤ w.heap.size → CellsR ρ m h w → VRL ρ m args vs → g h args = some v →
      Calls P p.val vs.toArray w fun e w' => (∃ u, e = .returned u ∧ VR ρ m v u) ∧ w'.os = w.os ∧ w'.tape = w.tape ∧ w'.output = w.output ∧ w.heap.size ≤ w'.heap.size ∧ ∀ b, b < w.heap.size → w'.heap[b]? = w.heap[b]?) ∨
    ∃ d fn, ft.at p = d.sh ∧ fd p.val = some d ∧ P.funcs[p.val]? = some fn ∧ (cx p.val).nt = fn.ntmps ∧ Cx.fdef P (cx p.val).rn fn = some d

section
variable (G : Gp) (ρ : Rho)

/-- What a frame keeps of its temporaries. -/
def TR (c : Cx) (m : M) (T : VT) (tmps : Array Value) : Prop := tmps.size = c.nt ∧ ∀ t p, c.keep t = some p → VR ρ m (T.at p) (tmps.getD t undef)

def jumpOf : AJ → Code
  | .ret => .ret
  | .exit id => .exit id

def stOf : Nat → LoopState
  | 0 => .ready
  | 1 => .busy
  | 2 => .done
  | _ => .exhausted

def DefR (m : M) : AD → Deferred → Prop
  | .fn f ca args, d => ∃ fn c, d = ⟨.fn fn c, d.args⟩ ∧ FR m f fn ∧ VRL ρ m ca c.toList ∧ VRL ρ m args d.args.toList
  | .coll b, d => ∃ pl, m b = some pl ∧ d = ⟨.collected pl.blk, #[]⟩
def DefL (m : M) : List AD → List Deferred → Prop
  | [], ds => ds = []
  | a :: l, ds => ∃ d r, ds = d :: r ∧ DefR ρ m a d ∧ DefL m l r

def EntR (m : M) : List AEnt → List MapEntry → Prop
  | [], es => es = []
  | a :: l, es => ∃ e r, es = e :: r ∧ VR ρ m a.key e.key ∧ VR ρ m a.val e.val ∧ a.born = e.born ∧ EntR m l r

/-- Where a loop over a function comes from. -/
def LoopR (f i : Nat) (l : Loop) : Prop :=
  l.fn = f ∧ ∃ d r e e', G.fd f = some d ∧ d.loops[i]? = some r ∧ (G.cx f).keeps l.params.toList = some r.params ∧
    CodeRel (G.cx f) d.loops l.assign r.assign [] e ∧ CodeRel (G.cx f) d.loops l.body r.body [] e'

/-- Cells at which nothing is frozen, from 'fz' on. -/
def FreeR (pl : Pl) (fz : Nat) (C : Array Value) (f : Nat × Nat) : Prop := ∀ i, fz ≤ i → pl.base + i < C.size → (f.1 ≤ pl.base + i && pl.base + i < f.2) = false

def ObjR (m : M) (pl : Pl) (w : World) : AObj → Prop
  | .no => True
  | .cells g sz fz c => ∃ C e f, w.heap[pl.blk]? = some (.cells C e f) ∧ pl.base + c.length ≤ pl.cend ∧ pl.cend ≤ C.size ∧ (g = true → pl.sz = sz) ∧
      (∀ (i : Nat) a, c[i]? = some a → ∃ v, C[pl.base + i]? = some v ∧ VR ρ m a v ∧ v.oneCell' = true) ∧ FreeR pl fz C f
  | .map es cl => ∃ E, w.heap[pl.blk]? = some (.map E cl) ∧ EntR ρ m es E.toList
  | .siter n v p => ∃ s, pl.base = 0 ∧ w.heap[pl.blk]? = some (.stringIter s p) ∧ SR n v s
  | .miter (some b) cur st => ∃ q since seen st', pl.base = 0 ∧ m b = some q ∧ w.heap[pl.blk]? = some (.mapIter (some q.blk) since seen st') ∧
      (match cur with | none => seen = #[] ∧ since = st | some c => seen.back? = some c ∧ st' = st)
  | .miter none _ _ => False
  | .loop st pe f T i d => ∃ l dp, w.heap[pl.blk]? = some (.loop l) ∧ l.state = stOf st ∧ l.pending = pe.map jumpOf ∧ LoopR G f.val i l ∧ TR ρ (G.cx f.val) m T l.tmps ∧ m d = some dp ∧ l.defers = dp.blk
  | .defd none => w.heap[pl.blk]? = some (.deferred none)
  | .defd (some ds) => ∃ D, w.heap[pl.blk]? = some (.deferred (some D)) ∧ DefL ρ m ds D

structure Rel (m : M) (h : Hp) (w : World) : Prop where
  fresh : ∀ p : Hi, h.nx.val ≤ p.val → m p = none
  dom : ∀ p, h.at p ≠ .no → ∃ pl, m p = some pl ∧ pl.blk < w.heap.size ∧ ObjR G ρ m pl w (h.at p)
  sep : ∀ p q pl pl', h.at p ≠ .no → h.at q ≠ .no → m p = some pl → m q = some pl' → pl.blk = pl'.blk → p = q
  disj : ∀ p, h.tr.at p ≠ .no → atList p h.fz = .no
  glob : ∀ g, g < G.P.globals.size → ∃ c s, m (hi g) = some ⟨g, 0, c, s⟩

/-- From one memory to a later one: what was not the machine's to write is as it was. -/
structure Evo (m : M) (h : Hp) (w : World) (m' : M) (h' : Hp) (w' : World) : Prop where
  rel : Rel G ρ m' h' w'
  le : m.le m'
  os : w'.os = w.os
  tape : w'.tape = w.tape
  output : w'.output = w.output
  size : w.heap.size ≤ w'.heap.size
  frame : ∀ b, b < w.heap.size → (∀ p pl, h.tr.at p ≠ .no → m p = some pl → pl.blk ≠ b) → w'.heap[b]? = w.heap[b]?
  own : ∀ p pl, h'.tr.at p ≠ .no → m' p = some pl → (∃ q pl', h.tr.at q ≠ .no ∧ m q = some pl' ∧ pl'.blk = pl.blk) ∨ w.heap.size ≤ pl.blk
  fz : h'.fz = h.fz
  nx : h.nx.val ≤ h'.nx.val
  low : ∀ p : Hi, p.val < h.nx.val → m p = none → m' p = none

variable {G ρ}

theorem Evo.refl {m : M} {h : Hp} {w : World} (r : Rel G ρ m h w) : Evo G ρ m h w m h w :=
  ⟨r, M.le.refl m, rfl, rfl, rfl, Nat.le_refl _, fun _ _ _ => rfl, fun p pl hp hm => .inl ⟨p, pl, hp, hm, rfl⟩, rfl, Nat.le_refl _, fun _ _ e => e⟩

theorem Evo.trans {m m' m'' : M} {h h' h'' : Hp} {w w' w'' : World} (a : Evo G ρ m h w m' h' w') (b : Evo G ρ m' h' w' m'' h'' w'') : Evo G ρ m h w m'' h'' w'' := by
  refine ⟨b.rel, a.le.trans b.le, b.os.trans a.os, b.tape.trans a.tape, b.output.trans a.output, Nat.le_trans a.size b.size, fun k hk hn => ?_, fun p pl hp hm => ?_, b.fz.trans a.fz, Nat.le_trans a.nx b.nx, fun p hp e => b.low p (Nat.lt_of_lt_of_le hp a.nx) (a.low p hp e)⟩
  · rw [b.frame k (Nat.lt_of_lt_of_le hk a.size) fun p pl hp hm e => ?_, a.frame k hk hn]
    rcases a.own p pl hp hm with ⟨q, pl', hq, hmq, e'⟩ | hge
    · exact hn q pl' hq hmq (e'.trans e)
    · omega
  · rcases b.own p pl hp hm with ⟨q, pl', hq, hmq, e⟩ | hge
    · rcases a.own q pl' hq hmq with ⟨q', pl'', hq', hmq', e'⟩ | hge
      · exact .inl ⟨q', pl'', hq', hmq', e'.trans e⟩
      · exact .inr (e ▸ hge)
    · exact .inr (Nat.le_trans a.size hge)

theorem DefL.mono {m m' : M} (h : m.le m') : ∀ (l : List AD) (ds : List Deferred), DefL ρ m l ds → DefL ρ m' l ds
  | [], _, e => e
  | .fn (.func _) _ _ :: l, _, ⟨d, r, e, ⟨fn, c, e1, e2, e3, e4⟩, g⟩ => ⟨d, r, e, ⟨fn, c, e1, e2, VRL.mono ρ h _ _ e3, VRL.mono ρ h _ _ e4⟩, DefL.mono h l r g⟩
  | .fn (.yield _) _ _ :: l, _, ⟨d, r, e, ⟨fn, c, e1, ⟨pl, e2, e5⟩, e3, e4⟩, g⟩ => ⟨d, r, e, ⟨fn, c, e1, ⟨pl, h _ _ e2, e5⟩, VRL.mono ρ h _ _ e3, VRL.mono ρ h _ _ e4⟩, DefL.mono h l r g⟩
  | .coll _ :: l, _, ⟨d, r, e, ⟨pl, e1, e2⟩, g⟩ => ⟨d, r, e, ⟨pl, h _ _ e1, e2⟩, DefL.mono h l r g⟩

theorem EntR.mono {m m' : M} (h : m.le m') : ∀ (l : List AEnt) (es : List MapEntry), EntR ρ m l es → EntR ρ m' l es
  | [], _, e => e
  | _ :: l, _, ⟨e, r, e0, e1, e2, e3, g⟩ => ⟨e, r, e0, VR.mono ρ h _ _ e1, VR.mono ρ h _ _ e2, e3, EntR.mono h l r g⟩

theorem TR.mono {c : Cx} {m m' : M} (h : m.le m') {T : VT} {tmps : Array Value} (t : TR ρ c m T tmps) : TR ρ c m' T tmps :=
  ⟨t.1, fun i p e => VR.mono ρ h _ _ (t.2 i p e)⟩

/-- An object stands for the same while its block, and what it names, stay. -/
theorem ObjR.mono {m m' : M} (h : m.le m') {pl : Pl} {w w' : World} {o : AObj} (hw : w'.heap[pl.blk]? = w.heap[pl.blk]?) (r : ObjR G ρ m pl w o) : ObjR G ρ m' pl w' o := by
  cases o with
  | no => trivial
  | cells g sz fz c =>
    obtain ⟨C, e, f, h1, h2, h3, h4, h5, h6⟩ := r
    exact ⟨C, e, f, hw.trans h1, h2, h3, h4, fun i a ha => let ⟨v, e1, e2, e3⟩ := h5 i a ha; ⟨v, e1, VR.mono ρ h _ _ e2, e3⟩, h6⟩
  | map es cl => obtain ⟨E, h1, h2⟩ := r; exact ⟨E, hw.trans h1, h2.mono h⟩
  | siter n v p => obtain ⟨s, h0, h1, h2⟩ := r; exact ⟨s, h0, hw.trans h1, h2⟩
  | miter b cur st =>
    cases b with
    | none => exact r
    | some b => obtain ⟨q, since, seen, st', h0, h1, h2, h3⟩ := r; exact ⟨q, since, seen, st', h0, h _ _ h1, hw.trans h2, h3⟩
  | loop st pe f T i d => obtain ⟨l, dp, h1, h2, h3, h4, h5, h6, h7⟩ := r; exact ⟨l, dp, hw.trans h1, h2, h3, h4, h5.mono h, h _ _ h6, h7⟩
  | defd c =>
    cases c with
    | none => exact hw.trans r
    | some ds => obtain ⟨D, h1, h2⟩ := r; exact ⟨D, hw.trans h1, h2.mono h⟩

/-! ### What is read -/

theorem orK_inv {ob : AObj} {d k : Res} {o : AOut} {h : Hp} (e : ob.orK d k = .ok o h) : (ob = .no ∧ d = .ok o h) ∨ (ob ≠ .no ∧ k = .ok o h) := by
  cases ob
  case no => exact .inl ⟨rfl, e⟩
  all_goals exact .inr ⟨by simp, e⟩

theorem atList_cons {b : Hi} {t : A2} {r : List A2} (h : t.at b ≠ .no) : atList b (t :: r) = t.at b := by
  unfold atList
  generalize t.at b = x at *
  cases x <;> first | rfl | exact absurd rfl h
theorem Hp.at_tr {b : Hi} {h : Hp} (e : h.tr.at b ≠ .no) : h.at b = h.tr.at b := by
  unfold Hp.at
  generalize h.tr.at b = x at *
  cases x <;> first | rfl | exact absurd rfl e
theorem Hp.at_fz {b : Hi} {h : Hp} (e : h.tr.at b = .no) : h.at b = atList b h.fz := by
  unfold Hp.at
  rw [e]

theorem atFz_inv {b : Hi} {fz : List A2} {k : AObj → Res} {o : AOut} {h : Hp} (e : atFz b fz k = .ok o h) : atList b fz ≠ .no ∧ k (atList b fz) = .ok o h := by
  induction fz with
  | nil => cases e
  | cons t r ih =>
    have e : getO b t (fun o => o.orK (atFz b r k) (k o)) = .ok o h := e
    rw [getO_eq] at e
    rcases orK_inv e with ⟨h1, e⟩ | ⟨h1, e⟩
    · simp only [atList, h1]; exact ih e
    · have : atList b (t :: r) = t.at b := atList_cons h1
      rw [this]; exact ⟨h1, e⟩

theorem atK_inv {b : Hi} {h : Hp} {k : AObj → Res} {o : AOut} {h' : Hp} (e : atK b h k = .ok o h') : h.at b ≠ .no ∧ k (h.at b) = .ok o h' := by
  cases h with | mk tr fz nx =>
  have e : getO b tr (fun o => o.orK (atFz b fz k) (k o)) = .ok o h' := e
  rw [getO_eq] at e
  rcases orK_inv e with ⟨h1, e⟩ | ⟨h1, e⟩
  · simp only [Hp.at, h1]; exact atFz_inv e
  · have : Hp.at ⟨tr, fz, nx⟩ b = tr.at b := Hp.at_tr h1
    rw [this]; exact ⟨h1, e⟩

theorem ownK_inv {b : Hi} {h : Hp} {k : AObj → Res} {o : AOut} {h' : Hp} (e : ownK b h k = .ok o h') : h.tr.at b ≠ .no ∧ h.at b = h.tr.at b ∧ k (h.tr.at b) = .ok o h' := by
  cases h with | mk tr fz nx =>
  have e : getO b tr (fun o => o.orK .bad (k o)) = .ok o h' := e
  rw [getO_eq] at e
  rcases orK_inv e with ⟨h1, e⟩ | ⟨h1, e⟩
  · cases e
  · exact ⟨h1, Hp.at_tr h1, e⟩

end
end Go.Proofs.YtpngpoeifgkclaaGreatDoor.Am

/- The abstract machine's memory, changed in one place. -/
namespace Go.Proofs.YtpngpoeifgkclaaGreatDoor.Am

section
variable {G : Gp} {ρ : Rho}

theorem setK_eq (b : Hi) (ob : AObj) (h : Hp) (k : Hp → Res) : setK b ob h k = k ⟨h.tr.put ob b, h.fz, h.nx⟩ := by
  cases h with | mk tr fz nx => show setO b tr ob _ = _; rw [setO_eq]

theorem newK_inv {ob : AObj} {h : Hp} {k : Hi → Hp → Res} {o : AOut} {h' : Hp} (e : newK ob h k = .ok o h') :
    ∃ nx' : Hi, nx'.val = h.nx.val + 1 ∧ k h.nx ⟨h.tr.put ob h.nx, h.fz, nx'⟩ = .ok o h' := by
  cases h with | mk tr fz nx =>
  have e : setO nx tr ob (fun tr => succK nx fun nx' => k nx ⟨tr, fz, nx'⟩) = .ok o h' := e
  rw [setO_eq] at e
  obtain ⟨q, hq, e⟩ := succK_inv e
  exact ⟨q, hq, e⟩

theorem Hp.at_put_other {h : Hp} {o : AObj} {p q nx : Hi} (hne : p ≠ q) : Hp.at ⟨h.tr.put o p, h.fz, nx⟩ q = h.at q := by
  unfold Hp.at
  simp only [A2.at_put, hne, if_false]
theorem Hp.at_put_same {h : Hp} {o : AObj} {p nx : Hi} (ho : o ≠ .no) : Hp.at ⟨h.tr.put o p, h.fz, nx⟩ p = o := by
  rw [Hp.at_tr] <;> simp [A2.at_put, ho]
theorem Hp.at_put_no {h : Hp} {p nx : Hi} : Hp.at ⟨h.tr.put .no p, h.fz, nx⟩ p = atList p h.fz := by
  rw [Hp.at_fz]; simp [A2.at_put]

/-- Only one block is another. -/
structure Only (w w' : World) (b : Nat) : Prop where
  os : w'.os = w.os
  tape : w'.tape = w.tape
  output : w'.output = w.output
  size : w'.heap.size = w.heap.size
  heap : ∀ k, k ≠ b → w'.heap[k]? = w.heap[k]?

/-- One block is new, the last one. -/
structure Adds (w w' : World) : Prop where
  os : w'.os = w.os
  tape : w'.tape = w.tape
  output : w'.output = w.output
  size : w'.heap.size = w.heap.size + 1
  heap : ∀ k, k < w.heap.size → w'.heap[k]? = w.heap[k]?

/-- Memory is the same. -/
structure Same (w w' : World) : Prop where
  os : w'.os = w.os
  tape : w'.tape = w.tape
  output : w'.output = w.output
  heap : w'.heap = w.heap

theorem Same.refl (w : World) : Same w w := ⟨rfl, rfl, rfl, rfl⟩
theorem Same.drew (w : World) : Same w { w with drawn := w.drawn + 1 } := ⟨rfl, rfl, rfl, rfl⟩

theorem ne_no_of_dom {m : M} {h : Hp} {w : World} (r : Rel G ρ m h w) {p : Hi} (hp : h.at p ≠ .no) : ∃ pl, m p = some pl := let ⟨pl, e, _⟩ := r.dom p hp; ⟨pl, e⟩

theorem at_ne_of_tr {h : Hp} {p : Hi} (e : h.tr.at p ≠ .no) : h.at p ≠ .no := by rw [Hp.at_tr e]; exact e

theorem Evo.same {m : M} {h : Hp} {w w' : World} (r : Rel G ρ m h w) (s : Same w w') : Evo G ρ m h w m h w' := by
  refine ⟨⟨r.fresh, fun p hp => ?_, r.sep, r.disj, r.glob⟩, M.le.refl m, s.os, s.tape, s.output, by rw [s.heap]; exact Nat.le_refl _, fun b _ _ => by rw [s.heap], fun p pl hp hm => .inl ⟨p, pl, hp, hm, rfl⟩, rfl, Nat.le_refl _, fun _ _ e => e⟩
  obtain ⟨pl, h1, h2, h3⟩ := r.dom p hp
  exact ⟨pl, h1, by rw [s.heap]; exact h2, h3.mono (M.le.refl m) (by rw [s.heap])⟩

theorem Evo.set {m : M} {h : Hp} {w w' : World} {b : Hi} {pl : Pl} {o : AObj} (r : Rel G ρ m h w) (hb : h.tr.at b ≠ .no) (hm : m b = some pl) (hw : Only w w' pl.blk) (ho : o ≠ .no)
    (hobj : ObjR G ρ m pl w' o) : Evo G ρ m h w m ⟨h.tr.put o b, h.fz, h.nx⟩ w' := by
  have hbb := at_ne_of_tr hb
  have hat : ∀ p, Hp.at ⟨h.tr.put o b, h.fz, h.nx⟩ p ≠ .no → h.at p ≠ .no := fun p hp => by
    by_cases e : b = p
    · subst e; exact hbb
    · rwa [Hp.at_put_other e] at hp
  refine ⟨⟨r.fresh, fun p hp => ?_, fun p q pl pl' hp hq hmp hmq e => r.sep p q pl pl' (hat p hp) (hat q hq) hmp hmq e, fun p hp => ?_, r.glob⟩, M.le.refl m, hw.os, hw.tape, hw.output, by rw [hw.size]; exact Nat.le_refl _, fun k _ hn => hw.heap k fun e => hn b pl hb hm e.symm, fun p q hp hq => ?_, rfl, Nat.le_refl _, fun _ _ e => e⟩
  · by_cases e : b = p
    · subst e
      obtain ⟨pl', h1, h2, _⟩ := r.dom b hbb
      rw [hm] at h1; cases h1
      exact ⟨pl, hm, by rw [hw.size]; exact h2, by rw [Hp.at_put_same ho]; exact hobj⟩
    · obtain ⟨pl', h1, h2, h3⟩ := r.dom p (hat p hp)
      refine ⟨pl', h1, by rw [hw.size]; exact h2, ?_⟩
      rw [Hp.at_put_other e]
      exact h3.mono (M.le.refl m) (hw.heap _ fun e' => e (r.sep b p pl pl' hbb (hat p hp) hm h1 e'.symm))
  · by_cases e : b = p
    · subst e; exact r.disj b hb
    · simp only [A2.at_put, e, if_false] at hp; exact r.disj p hp
  · by_cases e : b = p
    · subst e; exact .inl ⟨b, q, hb, hq, rfl⟩
    · simp only [A2.at_put, e, if_false] at hp; exact .inl ⟨p, q, hp, hq, rfl⟩

def M.put (m : M) (p : Hi) (pl : Pl) : M := fun q => if p = q then some pl else m q
theorem M.put_same (m : M) (p : Hi) (pl : Pl) : m.put p pl p = some pl := by simp [M.put]
theorem M.put_other {m : M} {p q : Hi} {pl : Pl} (h : p ≠ q) : m.put p pl q = m q := by simp [M.put, h]
theorem M.le_put {m : M} {p : Hi} {pl : Pl} (h : m p = none) : m.le (m.put p pl) := fun q r e => by
  by_cases he : p = q
  · subst he; rw [h] at e; cases e
  · rw [M.put_other he]; exact e

theorem glob_lt {m : M} {h : Hp} {w : World} (r : Rel G ρ m h w) {g : Nat} (hg : g < G.P.globals.size) : hi g ≠ h.nx := fun e => by
  obtain ⟨c, s, e1⟩ := r.glob g hg
  have := r.fresh (hi g) (by rw [e]; exact Nat.le_refl _)
  rw [this] at e1; cases e1

/-- A new name: for a block of its own, or for one that has just been forgotten. -/
theorem Rel.name {m : M} {h : Hp} {w w' : World} {pl : Pl} {o : AObj} {nx' : Hi} (r : Rel G ρ m h w) (hn : nx'.val = h.nx.val + 1)
    (hsz : w.heap.size ≤ w'.heap.size) (hk : ∀ p pl, h.at p ≠ .no → m p = some pl → w'.heap[pl.blk]? = w.heap[pl.blk]?)
    (hfree : ∀ p pl', h.at p ≠ .no → m p = some pl' → pl'.blk ≠ pl.blk) (hpl : pl.blk < w'.heap.size) (ho : o ≠ .no) (hobj : ObjR G ρ (m.put h.nx pl) pl w' o) :
    Rel G ρ (m.put h.nx pl) ⟨h.tr.put o h.nx, h.fz, nx'⟩ w' := by
  have hnone : m h.nx = none := r.fresh _ (Nat.le_refl _)
  have hno : h.at h.nx = .no := Classical.byContradiction fun hc => by
    obtain ⟨pl, e⟩ := ne_no_of_dom r hc
    rw [hnone] at e; cases e
  have htr : h.tr.at h.nx = .no := Classical.byContradiction fun hc => at_ne_of_tr hc hno
  have hle : m.le (m.put h.nx pl) := M.le_put hnone
  have hat : ∀ p, h.nx ≠ p → Hp.at ⟨h.tr.put o h.nx, h.fz, nx'⟩ p = h.at p := fun p e => Hp.at_put_other e
  refine ⟨fun p hp => ?_, fun p hp => ?_, fun p q pa pb hp hq hmp hmq e => ?_, fun p hp => ?_, fun g hg => ?_⟩
  · have hne : h.nx ≠ p := fun e => by rw [← e] at hp; simp only at hp; omega
    rw [M.put_other hne]; exact r.fresh p (by simp only at hp; omega)
  · by_cases e : h.nx = p
    · subst e; exact ⟨pl, M.put_same _ _ _, hpl, by rw [Hp.at_put_same ho]; exact hobj⟩
    · rw [hat p e] at hp
      obtain ⟨pa, h1, h2, h3⟩ := r.dom p hp
      exact ⟨pa, by rw [M.put_other e]; exact h1, Nat.lt_of_lt_of_le h2 hsz, by rw [hat p e]; exact h3.mono hle (hk p pa hp h1)⟩
  · by_cases ep : h.nx = p
    · by_cases eq : h.nx = q
      · exact ep.symm.trans eq
      · exfalso
        subst ep
        rw [M.put_same] at hmp; cases hmp
        rw [M.put_other eq] at hmq
        rw [hat q eq] at hq
        exact hfree q pb hq hmq e.symm
    · by_cases eq : h.nx = q
      · exfalso
        subst eq
        rw [M.put_same] at hmq; cases hmq
        rw [M.put_other ep] at hmp
        rw [hat p ep] at hp
        exact hfree p pa hp hmp e
      · rw [M.put_other ep] at hmp; rw [M.put_other eq] at hmq
        rw [hat p ep] at hp; rw [hat q eq] at hq
        exact r.sep p q pa pb hp hq hmp hmq e
  · by_cases e : h.nx = p
    · subst e
      have : h.at h.nx = atList h.nx h.fz := Hp.at_fz htr
      rw [hno] at this; exact this.symm
    · simp only [A2.at_put, e, if_false] at hp; exact r.disj p hp
  · obtain ⟨c, s, e1⟩ := r.glob g hg
    exact ⟨c, s, by rw [M.put_other (glob_lt r hg).symm]; exact e1⟩

theorem Evo.new {m : M} {h : Hp} {w w' : World} {pl : Pl} {o : AObj} {nx' : Hi} (r : Rel G ρ m h w) (hn : nx'.val = h.nx.val + 1) (hw : Adds w w') (hpl : pl.blk = w.heap.size) (ho : o ≠ .no)
    (hobj : ObjR G ρ (m.put h.nx pl) pl w' o) : Evo G ρ m h w (m.put h.nx pl) ⟨h.tr.put o h.nx, h.fz, nx'⟩ w' := by
  have hnone : m h.nx = none := r.fresh _ (Nat.le_refl _)
  have hlt : ∀ p pl', h.at p ≠ .no → m p = some pl' → pl'.blk < w.heap.size := fun p pl' hp hm => by
    obtain ⟨pa, h1, h2, _⟩ := r.dom p hp
    rw [hm] at h1; cases h1; exact h2
  refine ⟨r.name hn (by rw [hw.size]; omega) (fun p pl' hp hm => hw.heap _ (hlt p pl' hp hm)) (fun p pl' hp hm e => ?_) (by rw [hpl, hw.size]; omega) ho hobj, M.le_put hnone, hw.os, hw.tape, hw.output, by rw [hw.size]; omega, fun k hk _ => hw.heap k hk, fun p q hp hq => ?_, rfl, by simp only; omega, fun p hp e => by
    rw [M.put_other fun h => by rw [← h] at hp; omega]; exact e⟩
  · have := hlt p pl' hp hm; omega
  · by_cases e : h.nx = p
    · subst e; rw [M.put_same] at hq; cases hq; exact .inr (by omega)
    · simp only [A2.at_put, e, if_false] at hp; rw [M.put_other e] at hq; exact .inl ⟨p, q, hp, hq, rfl⟩

/-- An object is forgotten. -/
theorem Evo.del {m : M} {h : Hp} {w : World} {b : Hi} (r : Rel G ρ m h w) (hb : h.tr.at b ≠ .no) : Evo G ρ m h w m ⟨h.tr.put .no b, h.fz, h.nx⟩ w := by
  have hno : Hp.at ⟨h.tr.put .no b, h.fz, h.nx⟩ b = .no := by rw [Hp.at_put_no]; exact r.disj b hb
  have hat : ∀ p, Hp.at ⟨h.tr.put .no b, h.fz, h.nx⟩ p ≠ .no → b ≠ p ∧ h.at p ≠ .no ∧ Hp.at ⟨h.tr.put .no b, h.fz, h.nx⟩ p = h.at p := fun p hp => by
    by_cases e : b = p
    · subst e; exact absurd hno hp
    · rw [Hp.at_put_other e] at hp; exact ⟨e, hp, Hp.at_put_other e⟩
  refine ⟨⟨r.fresh, fun p hp => ?_, fun p q pl pl' hp hq => r.sep p q pl pl' (hat p hp).2.1 (hat q hq).2.1, fun p hp => ?_, r.glob⟩, M.le.refl m, rfl, rfl, rfl, Nat.le_refl _, fun _ _ _ => rfl, fun p q hp hq => ?_, rfl, Nat.le_refl _, fun _ _ e => e⟩
  · obtain ⟨_, h2, h3⟩ := hat p hp; rw [h3]; exact r.dom p h2
  · by_cases e : b = p
    · simp [A2.at_put, e] at hp
    · simp only [A2.at_put, e, if_false] at hp; exact r.disj p hp
  · by_cases e : b = p
    · simp [A2.at_put, e] at hp
    · simp only [A2.at_put, e, if_false] at hp; exact .inl ⟨p, q, hp, hq, rfl⟩

/-- An object goes on under a new name, in the same block. -/
theorem Evo.rename {m : M} {h : Hp} {w w' : World} {b : Hi} {pl pl' : Pl} {o : AObj} {nx' : Hi} (r : Rel G ρ m h w) (hb : h.tr.at b ≠ .no) (hm : m b = some pl) (hn : nx'.val = h.nx.val + 1)
    (hblk : pl'.blk = pl.blk) (hw : Only w w' pl.blk) (ho : o ≠ .no) (hobj : ObjR G ρ (m.put h.nx pl') pl' w' o) :
    Evo G ρ m h w (m.put h.nx pl') ⟨(h.tr.put .no b).put o h.nx, h.fz, nx'⟩ w' := by
  have hnone : m h.nx = none := r.fresh _ (Nat.le_refl _)
  have d := Evo.del r hb
  have hbb := at_ne_of_tr hb
  have hat : ∀ p, Hp.at ⟨h.tr.put .no b, h.fz, h.nx⟩ p ≠ .no → b ≠ p ∧ h.at p ≠ .no := fun p hp => by
    by_cases e : b = p
    · subst e; rw [Hp.at_put_no, r.disj b hb] at hp; exact absurd rfl hp
    · rw [Hp.at_put_other e] at hp; exact ⟨e, hp⟩
  have hlt : pl.blk < w.heap.size := by obtain ⟨pa, h1, h2, _⟩ := r.dom b hbb; rw [hm] at h1; cases h1; exact h2
  have key := d.rel.name (w' := w') (pl := pl') (o := o) (nx' := nx') hn (by rw [hw.size]; exact Nat.le_refl _)
    (fun p q hp hq => hw.heap _ fun e => (hat p hp).1 (r.sep b p pl q hbb (hat p hp).2 hm hq e.symm))
    (fun p q hp hq e => (hat p hp).1 (r.sep b p pl q hbb (hat p hp).2 hm hq (by rw [e, hblk]))) (by rw [hblk, hw.size]; exact hlt) ho hobj
  refine ⟨key, M.le_put hnone, hw.os, hw.tape, hw.output, by rw [hw.size]; exact Nat.le_refl _, fun k _ hk => hw.heap k fun e => hk b pl hb hm e.symm, fun p q hp hq => ?_, rfl, by simp only; omega, fun p hp e => by
    rw [M.put_other fun h => by rw [← h] at hp; omega]; exact e⟩
  by_cases e : h.nx = p
  · subst e; rw [M.put_same] at hq; cases hq; exact .inl ⟨b, pl, hb, hm, hblk.symm⟩
  · simp only [A2.at_put, e, if_false] at hp
    rw [M.put_other e] at hq
    by_cases e2 : b = p
    · simp [e2] at hp
    · simp only [e2, if_false] at hp; exact .inl ⟨p, q, hp, hq, rfl⟩

end
end Go.Proofs.YtpngpoeifgkclaaGreatDoor.Am

/- Operands, and the operations that look at memory alone. -/
namespace Go.Proofs.YtpngpoeifgkclaaGreatDoor.Am

section
variable {G : Gp} {ρ : Rho}

/-- What an operand is, in a frame. -/
def ev (tmps : Array Value) : Operand → Value
  | .tmp t => tmps.getD t undef
  | .const v => v
  | .global g => .pointer (some ⟨g, 0, none⟩)
  | .func f => .func (.func f) #[] #[]

theorem idxOf_inv {t : Nat} : ∀ {ds : List Nat} {i j : Nat}, idxOf t ds i = some j → ∃ n, j = i + n ∧ ds[n]? = some t ∧ ∀ k, k < n → ds[k]? ≠ some t
  | [], _, _, h => by simp [idxOf] at h
  | u :: r, i, j, h => by
    simp only [idxOf] at h
    by_cases e : Nat.beq u t = true
    · simp only [e, if_true, Option.some.injEq] at h
      exact ⟨0, by omega, by simp [Nat.eq_of_beq_eq_true e], fun k hk => by omega⟩
    · simp only [e] at h
      obtain ⟨n, h1, h2, h3⟩ := idxOf_inv (ds := r) (i := i + 1) (by simpa using h)
      refine ⟨n + 1, by omega, by simpa using h2, fun k hk => ?_⟩
      cases k with
      | zero => simp only [List.getElem?_cons_zero, ne_eq, Option.some.injEq]; intro h; subst h; exact e (by simp)
      | succ k => simpa using h3 k (by omega)

/-- What is known of the temporaries by their order. -/
def LR (ρ : Rho) (m : M) (ds : List Nat) (L : List AV) (tmps : Array Value) : Prop :=
  ∀ (j : Nat) (t : Nat), ds[j]? = some t → (∀ k, k < j → ds[k]? ≠ some t) → ∃ a, L[j]? = some a ∧ VR ρ m a (tmps.getD t undef)

theorem LR.nil {m : M} {L : List AV} {tmps : Array Value} : LR ρ m [] L tmps := fun j t h => by simp at h
theorem LR.mono {m m' : M} (h : m.le m') {ds : List Nat} {L : List AV} {tmps : Array Value} (l : LR ρ m ds L tmps) : LR ρ m' ds L tmps :=
  fun j t h1 h2 => let ⟨a, e, r⟩ := l j t h1 h2; ⟨a, e, VR.mono ρ h _ _ r⟩

theorem absV1_sound {m : M} {v : Value} {a : AV} (h : absV1 v = some a) : VR ρ m a v ∧ a.one = true := by
  unfold absV1 at h
  split at h <;> first | cases h | skip
  · exact ⟨rfl, rfl⟩
  · rename_i k n; refine ⟨?_, rfl⟩; cases k <;> rfl
  · rename_i s; exact ⟨⟨s, rfl, rfl, rfl⟩, rfl⟩
  all_goals exact ⟨rfl, rfl⟩

theorem absL_sound {m : M} : ∀ {vs : List Value} {l : List AV}, absL vs = some l → VRL ρ m l vs ∧ ∀ x ∈ vs, x.oneCell' = true
  | [], l, h => by simp [absL] at h; subst h; exact ⟨by simp [VRL], by simp⟩
  | v :: r, l, h => by
    simp only [absL] at h
    split at h
    · rename_i a l' h1 h2
      cases h
      obtain ⟨e1, e2⟩ := absL_sound (m := m) h2
      obtain ⟨e3, e4⟩ := absV1_sound (ρ := ρ) (m := m) h1
      exact ⟨⟨v, r, rfl, e3, e1⟩, fun x hx => by
        rcases List.mem_cons.1 hx with rfl | hx
        · exact e3.one e4
        · exact e2 x hx⟩
    · cases h

theorem absV_sound {m : M} {v : Value} {a : AV} (h : absV v = some a) : VR ρ m a v := by
  unfold absV at h
  split at h
  · rename_i cs
    cases hl : absL cs.toList with
    | none => simp [hl] at h
    | some l =>
      simp only [hl, Option.map_some, Option.some.injEq] at h
      subst h
      obtain ⟨e1, e2⟩ := absL_sound (ρ := ρ) (m := m) hl
      exact ⟨cs, rfl, e1, e2⟩
  · exact (absV1_sound h).1

structure Env (c : Cx) (m : M) (ds : List Nat) (L : List AV) (T : VT) (tmps : Array Value) (G : Gp) (ρ : Rho) : Prop where
  lr : LR ρ m ds L tmps
  tr : TR ρ c m T tmps

theorem Env.mono {c : Cx} {m m' : M} {ds : List Nat} {L : List AV} {T : VT} {tmps : Array Value} (e : Env c m ds L T tmps G ρ) (h : m.le m') : Env c m' ds L T tmps G ρ :=
  ⟨e.lr.mono h, e.tr.mono h⟩

theorem keep_lt {c : Cx} {t : Nat} {p : Kp} (h : c.keep t = some p) : ∃ n, n < 64 ∧ p = kp n ∧ c.rn[n]? = some t := by
  unfold Cx.keep at h
  split at h
  · rename_i n hn
    split at h
    · rename_i hlt
      obtain ⟨k, h1, h2, _⟩ := idxOf_inv hn
      simp only [Nat.zero_add] at h1; subst h1
      exact ⟨n, by simpa [Nat.blt_eq] using hlt, by simpa using h.symm, h2⟩
    · cases h
  · cases h

theorem keep_inj {c : Cx} {t u : Nat} {p : Kp} (h : c.keep t = some p) (h2 : c.keep u = some p) : t = u := by
  obtain ⟨m, hm, rfl, e1⟩ := keep_lt h
  obtain ⟨n, hn, e, e2⟩ := keep_lt h2
  obtain rfl := kp_inj hm hn e
  rw [e1] at e2; simpa using e2

theorem opd_sound {c : Cx} {m : M} {ds : List Nat} {L : List AV} {T : VT} {tmps : Array Value} {h : Hp} {w : World} (hc : c.P = G.P) (r : Rel G ρ m h w) (e : Env c m ds L T tmps G ρ)
    {x : Operand} {x' : Opd} (hx : c.opd ds x = some x') {k : AV → Res} {o : AOut} {h' : Hp} (he : evO x' L T k = .ok o h') :
    ∃ a, VR ρ m a (ev tmps x) ∧ k a = .ok o h' := by
  cases x with
  | tmp t =>
    simp only [Cx.opd] at hx
    cases hi : idxOf t ds 0 with
    | some j =>
      simp only [hi, Option.some.injEq] at hx
      subst hx
      obtain ⟨n, h1, h2, h3⟩ := idxOf_inv hi
      simp only [Nat.zero_add] at h1; subst h1
      obtain ⟨a, ha, hv⟩ := e.lr j t h2 h3
      obtain ⟨b, hb, hk⟩ := nthK_inv (show nthK j L k = .ok o h' from he)
      rw [ha] at hb; cases hb
      exact ⟨a, hv, hk⟩
    | none =>
      simp only [hi] at hx
      cases hk : c.keep t with
      | none => simp [hk] at hx
      | some p =>
        simp only [hk, Option.map_some, Option.some.injEq] at hx
        subst hx
        have he : getV p T k = .ok o h' := he
        rw [getV_eq] at he
        exact ⟨_, e.tr.2 t p hk, he⟩
  | const v =>
    simp only [Cx.opd] at hx
    cases hv : absV v with
    | none => simp [hv] at hx
    | some a =>
      simp only [hv, Option.map_some, Option.some.injEq] at hx
      subst hx
      exact ⟨a, absV_sound hv, he⟩
  | global g =>
    simp only [Cx.opd] at hx
    split at hx <;> cases hx
    rename_i hlt
    obtain ⟨s, t, hm⟩ := r.glob g (by rw [← hc]; simpa [Nat.blt_eq] using hlt)
    exact ⟨.ptr (hi g) 0, ⟨_, hm, rfl⟩, he⟩
  | func f =>
    simp only [Cx.opd] at hx
    split at hx <;> cases hx
    rename_i hf
    refine ⟨.func (.func (hi f)) [] [], ⟨_, #[], #[], rfl, ?_, by simp [VRL], by simp [VRL]⟩, he⟩
    simp only [FR]
    rw [hi_val (by simpa [Nat.blt_eq] using hf)]

end
end Go.Proofs.YtpngpoeifgkclaaGreatDoor.Am

/- Values taken apart, and operations that look at no memory. -/
namespace Go.Proofs.YtpngpoeifgkclaaGreatDoor.Am

section
variable {a : AV} {o : AOut} {h : Hp}
theorem AV.onBool_inv {k : Bool → Res} (e : a.onBool k = .ok o h) : ∃ b, a = .bool b ∧ k b = .ok o h := by cases a <;> first | exact ⟨_, rfl, e⟩ | cases e
theorem AV.onSymOr_inv {f : Nat → Res} {d : Res} (e : a.onSymOr f d = .ok o h) : (∃ j, a = .sym j ∧ f j = .ok o h) ∨ d = .ok o h := by
  cases a <;> first | exact .inr e | exact .inl ⟨_, rfl, e⟩
theorem AV.onInt_inv {k : Nat → Int → Res} (e : a.onInt k = .ok o h) : ∃ κ n, a = .int κ n ∧ k κ n = .ok o h := by cases a <;> first | exact ⟨_, _, rfl, e⟩ | cases e
theorem AV.onStr_inv {k : Nat → Nat → Res} (e : a.onStr k = .ok o h) : ∃ n v, a = .str n v ∧ k n v = .ok o h := by cases a <;> first | exact ⟨_, _, rfl, e⟩ | cases e
theorem AV.onPtr_inv {k : Hi → Nat → Res} (e : a.onPtr k = .ok o h) : ∃ b i, a = .ptr b i ∧ k b i = .ok o h := by cases a <;> first | exact ⟨_, _, rfl, e⟩ | cases e
theorem AV.onFunc_inv {k : AFn → List AV → List AV → Res} (e : a.onFunc k = .ok o h) : ∃ f x y, a = .func f x y ∧ k f x y = .ok o h := by cases a <;> first | exact ⟨_, _, _, rfl, e⟩ | cases e
theorem AV.onIface_inv {k : Nat → AV → Res} (e : a.onIface k = .ok o h) : ∃ t v, a = .iface t v ∧ k t v = .ok o h := by cases a <;> first | exact ⟨_, _, rfl, e⟩ | cases e
theorem AV.onAgg_inv {k : List AV → Res} (e : a.onAgg k = .ok o h) : ∃ l, a = .agg l ∧ k l = .ok o h := by cases a <;> first | exact ⟨_, rfl, e⟩ | cases e
theorem AV.onTup_inv {k : List AV → Res} (e : a.onTup k = .ok o h) : ∃ l, a = .tup l ∧ k l = .ok o h := by cases a <;> first | exact ⟨_, rfl, e⟩ | cases e
theorem AV.onSlice_inv {d : Res} {k : Hi → Nat → Nat → Option Nat → Res} (e : a.onSlice d k = .ok o h) : (a = .nils ∧ d = .ok o h) ∨ ∃ b i n c, a = .slice b i n c ∧ k b i n c = .ok o h := by
  cases a <;> first | exact .inl ⟨rfl, e⟩ | exact .inr ⟨_, _, _, _, rfl, e⟩ | cases e
theorem AV.onMap_inv {d : Res} {k : Hi → Res} (e : a.onMap d k = .ok o h) : (a = .nilm ∧ d = .ok o h) ∨ ∃ b, a = .map b ∧ k b = .ok o h := by
  cases a <;> first | exact .inl ⟨rfl, e⟩ | exact .inr ⟨_, rfl, e⟩ | cases e
theorem AV.onIfc_inv {d : Res} {k : Nat → AV → Res} (e : a.onIfc d k = .ok o h) : (a = .nili ∧ d = .ok o h) ∨ ∃ t v, a = .iface t v ∧ k t v = .ok o h := by
  cases a <;> first | exact .inl ⟨rfl, e⟩ | exact .inr ⟨_, _, rfl, e⟩ | cases e
theorem AV.onNP_inv {d : Res} {k : Hi → Nat → Res} (e : a.onNP d k = .ok o h) : (a = .nilp ∧ d = .ok o h) ∨ ∃ b i, a = .ptr b i ∧ k b i = .ok o h := by
  cases a <;> first | exact .inl ⟨rfl, e⟩ | exact .inr ⟨_, _, rfl, e⟩ | cases e
theorem AV.onNF_inv {d : Res} {k : AFn → List AV → List AV → Res} (e : a.onNF d k = .ok o h) : (a = .nilf ∧ d = .ok o h) ∨ ∃ f x y, a = .func f x y ∧ k f x y = .ok o h := by
  cases a <;> first | exact .inl ⟨rfl, e⟩ | exact .inr ⟨_, _, _, rfl, e⟩ | cases e
theorem AV.onPF_inv {k : Res} (e : a.onPF k = .ok o h) : ((∃ b i, a = .ptr b i) ∨ ∃ f x y, a = .func f x y) ∧ k = .ok o h := by
  cases a <;> first | exact ⟨.inl ⟨_, _, rfl⟩, e⟩ | exact ⟨.inr ⟨_, _, _, rfl⟩, e⟩ | cases e
theorem AV.onOne_inv {k : Res} (e : a.onOne k = .ok o h) : a.one = true ∧ k = .ok o h := by cases a <;> first | exact ⟨rfl, e⟩ | cases e
theorem AV.onKey_inv {k : Res} (e : a.onKey k = .ok o h) : ((∃ κ n, a = .int κ n) ∨ (∃ n v, a = .str n v) ∨ ∃ b, a = .bool b) ∧ k = .ok o h := by
  cases a <;> first | exact ⟨.inl ⟨_, _, rfl⟩, e⟩ | exact ⟨.inr (.inl ⟨_, _, rfl⟩), e⟩ | exact ⟨.inr (.inr ⟨_, rfl⟩), e⟩ | cases e
theorem AV.onGrd_inv {k : Bool → Res} {d : Res} (e : a.onGrd k d = .ok o h) : (∃ b, a = .bool b ∧ k b = .ok o h) ∨ (a = .tup [] ∧ d = .ok o h) := by
  cases a <;> first | exact .inl ⟨_, rfl, e⟩ | skip
  case tup l => cases l with
    | nil => exact .inr ⟨rfl, e⟩
    | cons _ _ => cases e
  all_goals cases e
theorem cellsK_inv {k : List AV → Res} (e : cellsK a k = .ok o h) : (∃ l, a = .agg l ∧ k l = .ok o h) ∨ (a.one = true ∧ k [a] = .ok o h) := by
  cases a <;> first | exact .inl ⟨_, rfl, e⟩ | exact .inr ⟨rfl, e⟩ | cases e
theorem optB_inv {b : Bool} {x y : Res} : (Bool.rec (motive := fun _ => Res) y x b : Res) = if b then x else y := by cases b <;> rfl
end

/-! ### Operations: what is asked of each -/

section
variable {G : Gp} {ρ : Rho}

/-- In this frame and this memory the operation gives what the machine says, and leaves memory alone. -/
def VOk (G : Gp) (ρ : Rho) (m : M) (L : List AV) (T : VT) (tmps : Array Value) (h : Hp) (w : World) (vo : EK) (op : Op) : Prop :=
  ∀ k o h', vo L T h k = .ok o h' → ∃ a v, VR ρ m a v ∧ k a = .ok o h' ∧ ∀ oper : Oper, oper.op = op → (execOp (ev tmps) oper).run G.P w = .ok (.value v) w

variable {c : Cx} {m : M} {ds : List Nat} {L : List AV} {T : VT} {tmps : Array Value} {h : Hp} {w : World} (hc : c.P = G.P) (r : Rel G ρ m h w) (e : Env c m ds L T tmps G ρ)
include hc r e

theorem vMv_ok {x : Operand} {x' : Opd} (hx : c.opd ds x = some x') : VOk G ρ m L T tmps h w (vMv x') (.move x) ∧ VOk G ρ m L T tmps h w (vMv x') (.assign x) := by
  refine ⟨fun k o h' he => ?_, fun k o h' he => ?_⟩ <;>
  · obtain ⟨a, hv, he⟩ := opd_sound hc r e hx he
    exact ⟨a, _, hv, he, fun oper ho => by simp only [execOp, ho, Sem.run_pure]⟩

theorem vPick_ok {g x y : Operand} {g' x' y' : Opd} (hg : c.opd ds g = some g') (hx : c.opd ds x = some x') (hy : c.opd ds y = some y') : VOk G ρ m L T tmps h w (vPick g' x' y') (.pick g x y) := by
  intro k o h' he
  obtain ⟨a, hv, he⟩ := opd_sound hc r e hg he
  obtain ⟨b, rfl, e1⟩ := AV.onBool_inv he
  rw [ifK_eq] at e1
  simp only [VR] at hv
  cases b with
  | true =>
    obtain ⟨a, hv2, e2⟩ := opd_sound hc r e hx e1
    exact ⟨a, _, hv2, e2, fun oper ho => by simp [execOp, ho, hv, asBool]⟩
  | false =>
    obtain ⟨a, hv2, e2⟩ := opd_sound hc r e hy e1
    exact ⟨a, _, hv2, e2, fun oper ho => by simp [execOp, ho, hv, asBool]⟩

theorem vNck_ok {x : Operand} {x' : Opd} (hx : c.opd ds x = some x') : VOk G ρ m L T tmps h w (vNck x') (.nilCheck x) := by
  intro k o h' he
  obtain ⟨a, hv, he⟩ := opd_sound hc r e hx he
  obtain ⟨ha, he⟩ := AV.onPF_inv he
  refine ⟨a, _, hv, he, fun oper ho => ?_⟩
  rcases ha with ⟨b, i, rfl⟩ | ⟨f, fi, ca, rfl⟩
  · obtain ⟨pl, _, hv⟩ := hv
    simp only [execOp, ho, hv]; rfl
  · obtain ⟨fn, x1, x2, hv, hf, _⟩ := hv
    cases f with
    | func p => simp only [FR] at hf; subst hf; simp only [execOp, ho, hv]; rfl
    | yield b => obtain ⟨pl, _, hf⟩ := hf; subst hf; simp only [execOp, ho, hv]; rfl

theorem vNot_ok {t : TypeId} {x : Operand} {x' : Opd} (hx : c.opd ds x = some x') : VOk G ρ m L T tmps h w (vNot x') (.unOp .not t x) := by
  intro k o h' he
  obtain ⟨a, hv, he⟩ := opd_sound hc r e hx he
  obtain ⟨b, rfl, e1⟩ := AV.onBool_inv he
  rw [boolK_eq] at e1
  simp only [VR] at hv
  exact ⟨.bool (!b), .bool (!b), rfl, e1, fun oper ho => by simp [execOp, ho, hv, Op.unary]⟩

theorem vMif_ok {t : TypeId} {x : Operand} {x' : Opd} {d : TypeDesc} (hd : c.P.underlying t = some d) (hni : ∀ ms, d ≠ .interface ms) (hx : c.opd ds x = some x') : VOk G ρ m L T tmps h w (vMif t x') (.makeInterface t x) := by
  intro k o h' he
  obtain ⟨a, hv, he⟩ := opd_sound hc r e hx he
  rw [hc] at hd
  refine ⟨.iface t a, _, ⟨_, rfl, hv⟩, he, fun oper ho => ?_⟩
  simp only [execOp, ho, Instr.makeInterface, Sem.run_bind, run_underlying hd, Result.andThen_ok]
  cases d <;> first | rfl | exact absurd rfl (hni _)

theorem opds_sound {xs : List Operand} : ∀ {xs' : List Opd}, c.opds ds xs = some xs' → ∀ {k : List AV → Res} {o : AOut} {h' : Hp}, evOs xs' L T k = .ok o h' →
    ∃ as, VRL ρ m as (xs.map (ev tmps)) ∧ k as = .ok o h' := by
  induction xs with
  | nil => intro xs' hx k o h' he; simp [Cx.opds] at hx; subst hx; exact ⟨[], by simp [VRL], he⟩
  | cons x xs ih =>
    intro xs' hx k o h' he
    simp only [Cx.opds] at hx
    split at hx
    · rename_i a l h1 h2
      cases hx
      obtain ⟨av, hv, he⟩ := opd_sound hc r e h1 (show evO a L T (fun v => evOs l L T fun vs => k (v :: vs)) = .ok o h' from he)
      obtain ⟨as, hvs, he⟩ := ih h2 he
      exact ⟨av :: as, ⟨_, _, rfl, hv, hvs⟩, he⟩
    · cases hx

theorem vMfn_ok {f : Nat} (hf : f < 4096) {fi ca : Array Operand} {fi' ca' : List Opd} (h1 : c.opds ds fi.toList = some fi') (h2 : c.opds ds ca.toList = some ca') :
    VOk G ρ m L T tmps h w (vMfn (hi f) fi' ca') (.makeFunc (.func f) fi ca) := by
  intro k o h' he
  obtain ⟨as, hv, he⟩ := opds_sound hc r e h1 (show evOs fi' L T (fun fi => evOs ca' L T fun ca => k (.func (.func (hi f)) fi ca)) = .ok o h' from he)
  obtain ⟨bs, hv2, he⟩ := opds_sound hc r e h2 he
  refine ⟨.func (.func (hi f)) as bs, .func (.func f) (fi.map (ev tmps)) (ca.map (ev tmps)), ⟨_, _, _, rfl, by simp only [FR, hi_val hf], by simpa using hv, by simpa using hv2⟩, he, fun oper ho => ?_⟩
  simp only [execOp, ho, Instr.makeFunc, Sem.run_bind, Sem.run_pure, Result.andThen_ok]

theorem vExt_ok {i : Nat} {x : Operand} {x' : Opd} (hx : c.opd ds x = some x') : VOk G ρ m L T tmps h w (vExt x' i) (.extract x i) := by
  intro k o h' he
  obtain ⟨a, hv, he⟩ := opd_sound hc r e hx he
  obtain ⟨l, rfl, e1⟩ := AV.onTup_inv he
  obtain ⟨a, ha, e2⟩ := nthK_inv e1
  obtain ⟨xs, hv, hl⟩ := hv
  obtain ⟨v, hv2, hv3⟩ := hl.get ha
  refine ⟨a, v, hv3, e2, fun oper ho => ?_⟩
  have : xs[i]? = some v := by rw [← Array.getElem?_toList]; exact hv2
  simp only [execOp, ho, hv, Instr.extract, this, Sem.run_bind, Sem.run_pure, Result.andThen_ok]

end
end Go.Proofs.YtpngpoeifgkclaaGreatDoor.Am

/- Numbers. -/
namespace Go.Proofs.YtpngpoeifgkclaaGreatDoor.Am

theorem kOf_kNo (k : IntKind) : kOf (kNo k) = k := by cases k <;> rfl

theorem wrap_hi {κ : IntKind} {m : Nat} (h : m < hiOf κ) : κ.wrap (m : Int) = m := by
  cases κ <;> simp only [hiOf] at h <;> unfold IntKind.wrap IntKind.bits IntKind.signed <;> dsimp only <;>
    split <;> (rename_i hh; simp only [Bool.true_and, Bool.false_and, Bool.false_eq_true, decide_eq_true_eq, ge_iff_le] at hh) <;> omega
theorem wrap_lo {κ : IntKind} {m : Nat} (h : m < loOf κ) : κ.wrap (Int.negSucc m) = Int.negSucc m := by
  cases κ <;> (try (exact absurd h (Nat.not_lt_zero _))) <;> simp only [loOf] at h <;> unfold IntKind.wrap IntKind.bits IntKind.signed <;> dsimp only <;>
    split <;> (rename_i hh; rw [Bool.true_and, decide_eq_true_eq] at hh) <;> omega

theorem wrapK_inv {κ : IntKind} {k hi lo : Nat} (hk : kOf k = κ) (hh : hi = hiOf κ) (hl : lo = loOf κ) {r : Int} {c : Int → Res} {o : AOut} {h : Hp} (e : wrapK k hi lo r c = .ok o h) : c (κ.wrap r) = .ok o h := by
  cases r with
  | ofNat m =>
    have e : ifK (Nat.blt m hi) (c (.ofNat m)) (intK ((kOf k).wrap (.ofNat m)) c) = .ok o h := e
    rw [ifK_eq, intK_eq, hk] at e
    split at e
    · rename_i hb
      have := wrap_hi (κ := κ) (m := m) (by rw [← hh]; simpa [Nat.blt_eq] using hb)
      rw [show (Int.ofNat m : Int) = (m : Int) from rfl, this]; exact e
    · exact e
  | negSucc m =>
    have e : ifK (Nat.blt m lo) (c (.negSucc m)) (intK ((kOf k).wrap (.negSucc m)) c) = .ok o h := e
    rw [ifK_eq, intK_eq, hk] at e
    split at e
    · rename_i hb
      rw [wrap_lo (κ := κ) (m := m) (by rw [← hl]; simpa [Nat.blt_eq] using hb)]; exact e
    · exact e

theorem addI_eq (m n : Int) : addI m n = m + n := by cases m <;> cases n <;> rfl
theorem subI_eq (m n : Int) : subI m n = m - n := by
  cases m <;> cases n <;> simp only [subI, Int.subNatNat_eq_coe] <;> simp <;> omega
theorem ltI_eq (m n : Int) : ltI m n = decide (m < n) := by
  cases m <;> cases n <;> simp only [ltI] <;> (rw [Bool.eq_iff_iff]; simp [Nat.blt_eq]) <;> omega
theorem eqI_eq (m n : Int) : eqI m n = (m == n) := by
  cases m <;> cases n <;> simp only [eqI] <;> (rw [Bool.eq_iff_iff]; simp) <;> omega

theorem pureInt_inv {s : Sem Value} {k : Int → Res} {o : AOut} {h : Hp} (e : pureInt s k = .ok o h) : ∃ κ r, s = .pure (.int κ r) ∧ k r = .ok o h := by
  unfold pureInt at e
  split at e
  · rename_i κ r; rw [intK_eq] at e; exact ⟨κ, r, rfl, e⟩
  · cases e

/-! ### Symbols -/

theorem symCmpK_inv {o : ICmp} {j k2 : Nat} {n : Int} {k : AV → Res} {out : AOut} {h' : Hp} (e : symCmpK o j k2 n k = .ok out h') : ∃ κ lo hi, symInt j = some (κ, lo, hi) ∧ κ = k2 ∧ o.mono = true ∧ cmpI o lo n = cmpI o hi n ∧ k (.bool (cmpI o lo n)) = .ok out h' := by
  unfold symCmpK at e
  split at e
  · rename_i κ lo hi hs
    obtain ⟨h1, e1⟩ := ifK_inv e
    obtain ⟨h2, e2⟩ := ifK_inv e1
    rw [boolK_eq, boolK_eq] at e2
    obtain ⟨h3, e3⟩ := ifK_inv e2
    exact ⟨κ, lo, hi, hs, Nat.eq_of_beq_eq_true h1, h2, by simpa using h3, e3⟩
  · cases e
theorem symConvK_inv {j κ : Nat} {k : AV → Res} {out : AOut} {h' : Hp} (e : symConvK j κ k = .ok out h') : ∃ l, symConv j κ = some l ∧ k (.sym l) = .ok out h' := by
  unfold symConvK at e
  split at e
  · exact ⟨_, by assumption, e⟩
  · cases e
theorem cmpI_mono {o : ICmp} (hm : o.mono = true) {lo hi z n : Int} (h : cmpI o lo n = cmpI o hi n) (h1 : lo ≤ z) (h2 : z ≤ hi) : cmpI o lo n = cmpI o z n := by
  rw [Bool.eq_iff_iff]
  rw [Bool.eq_iff_iff] at h
  cases o <;> first | cases hm | skip
  all_goals
    simp only [cmpI, ltI_eq] at h ⊢
    simp at h ⊢
    omega

section
variable {G : Gp} {ρ : Rho}

theorem run_eqGuard_int (op : BinOp) (t : TypeId) (x y : Operand) (k k' : IntKind) (a b : Int) (P : Program) (w : World) : (eqGuard op t x y (.int k a) (.int k' b)).run P w = .ok () w := by
  unfold eqGuard
  cases op <;> rfl
theorem run_eqGuard_str (op : BinOp) (t : TypeId) (x y : Operand) (a b : ByteArray) (P : Program) (w : World) : (eqGuard op t x y (.string a) (.string b)).run P w = .ok () w := by
  unfold eqGuard
  cases op <;> rfl

theorem binOp_int_type (op : BinOp) (t : TypeId) (k k' : IntKind) (a b : Int) : binOp op t (.int k a) (.int k' b) = binOp op 0 (.int k a) (.int k' b) := by
  cases op <;> rfl

theorem binOp_int_kind {op : BinOp} {t : TypeId} {k k' κ : IntKind} {a b r : Int} (h : binOp op t (.int k a) (.int k' b) = .pure (.int κ r)) : κ = k := by
  cases op <;> simp only [binOp] at h
  case shl => unfold Op.shift at h; split at h <;> first | (simp [runtimePanic, program, bind, Sem.bind] at h; done) | (simp [pure] at h; exact h.1.symm)
  case shr => unfold Op.shift at h; split at h <;> first | (simp [runtimePanic, program, bind, Sem.bind] at h; done) | (simp [pure] at h; exact h.1.symm)
  all_goals
    split at h
    · simp [stuck] at h
    · first
      | (simp [Op.intArith, pure] at h; exact h.1.symm)
      | (unfold Op.intDiv at h; split at h <;> first | (simp [runtimePanic, program, bind, Sem.bind] at h; done) | (simp [pure] at h; exact h.1.symm))
      | (simp [Op.intBits, pure] at h; exact h.1.symm)
      | (simp [Op.intCmp, pure] at h)

variable {c : Cx} {m : M} {ds : List Nat} {L : List AV} {T : VT} {tmps : Array Value} {h : Hp} {w : World} (hc : c.P = G.P) (r : Rel G ρ m h w) (e : Env c m ds L T tmps G ρ)
include hc r e

/-- Two numbers, and the operation as the model has it. -/
theorem vBin_ok {op : BinOp} {o' : IBin} (ho : ibin op = some o') {t u : TypeId} {κ : IntKind} {x y : Operand} {x' y' : Opd} (hx : c.opd ds x = some x') (hy : c.opd ds y = some y') :
    VOk G ρ m L T tmps h w (vBin o' (kNo κ) (hiOf κ) (loOf κ) x' y') (.binOp op t x y u) := by
  intro k o h' he
  obtain ⟨a, hv, e1⟩ := opd_sound hc r e hx he
  obtain ⟨b, hv2, e2⟩ := opd_sound hc r e hy e1
  obtain ⟨k1, n1, rfl, e3⟩ := AV.onInt_inv e2
  obtain ⟨k2, n2, rfl, e4⟩ := AV.onInt_inv e3
  obtain ⟨hk1, e5⟩ := ifK_inv e4
  obtain rfl := Nat.eq_of_beq_eq_true hk1
  simp only [VR, kOf_kNo] at hv hv2
  have main : ∀ z : Int, (binOp op 0 (.int κ n1) (.int (kOf k2) n2)).run G.P w = .ok (.int κ z) w → k (.int (kNo κ) z) = .ok o h' →
      ∃ a v, VR ρ m a v ∧ k a = .ok o h' ∧ ∀ oper : Oper, oper.op = .binOp op t x y u → (execOp (ev tmps) oper).run G.P w = .ok (.value v) w := fun z hz hk =>
    ⟨.int (kNo κ) z, .int κ z, by simp [VR, kOf_kNo], hk, fun oper ho => by
      simp only [execOp, ho, hv, hv2, Sem.run_bind, run_eqGuard_int, Result.andThen_ok, binOp_int_type op t, hz, Sem.run_pure]⟩
  cases op <;> simp only [ibin, Option.some.injEq, reduceCtorEq] at ho
  case add =>
    subst ho
    obtain ⟨hk2, e6⟩ := ifK_inv (show ifK (Nat.beq k2 (kNo κ)) (wrapK (kNo κ) (hiOf κ) (loOf κ) (addI n1 n2) _) .bad = .ok o h' from e5)
    obtain rfl := Nat.eq_of_beq_eq_true hk2
    have e7 := wrapK_inv (kOf_kNo κ) rfl rfl e6
    rw [addI_eq] at e7
    exact main _ (by simp [binOp, kOf_kNo, Op.intArith]) e7
  case sub =>
    subst ho
    obtain ⟨hk2, e6⟩ := ifK_inv (show ifK (Nat.beq k2 (kNo κ)) (wrapK (kNo κ) (hiOf κ) (loOf κ) (subI n1 n2) _) .bad = .ok o h' from e5)
    obtain rfl := Nat.eq_of_beq_eq_true hk2
    have e7 := wrapK_inv (kOf_kNo κ) rfl rfl e6
    rw [subI_eq] at e7
    exact main _ (by simp [binOp, kOf_kNo, Op.intArith]) e7
  case mul =>
    subst ho
    obtain ⟨hk2, e6⟩ := ifK_inv (show ifK (Nat.beq k2 (kNo κ)) (wrapK (kNo κ) (hiOf κ) (loOf κ) (Int.mul n1 n2) _) .bad = .ok o h' from e5)
    obtain rfl := Nat.eq_of_beq_eq_true hk2
    have e7 := wrapK_inv (kOf_kNo κ) rfl rfl e6
    exact main _ (by simp [binOp, kOf_kNo, Op.intArith]) e7
  case shl =>
    subst ho
    obtain ⟨κ', z, hz, e6⟩ := pureInt_inv (show pureInt (binOp .shl 0 (.int (kOf (kNo κ)) n1) (.int (kOf k2) n2)) _ = .ok o h' from e5)
    rw [kOf_kNo] at hz
    obtain rfl := binOp_int_kind hz
    exact main z (by rw [hz]; rfl) e6
  case shr =>
    subst ho
    obtain ⟨κ', z, hz, e6⟩ := pureInt_inv (show pureInt (binOp .shr 0 (.int (kOf (kNo κ)) n1) (.int (kOf k2) n2)) _ = .ok o h' from e5)
    rw [kOf_kNo] at hz
    obtain rfl := binOp_int_kind hz
    exact main z (by rw [hz]; rfl) e6
  all_goals
    subst ho
    obtain ⟨hk2, e6⟩ := ifK_inv (x := binSlow _ (kNo κ) n1 n2 _) e5
    obtain rfl := Nat.eq_of_beq_eq_true hk2
    obtain ⟨κ', z, hz, e7⟩ := pureInt_inv e6
    rw [kOf_kNo] at hz
    obtain rfl := binOp_int_kind hz
    refine main z ?_ e7
    rw [kOf_kNo]
    exact (congrArg (fun s => Sem.run G.P s w) hz).trans rfl

theorem vCmp_ok {op : BinOp} {o' : ICmp} (ho : icmp op = some o') {t u : TypeId} {x y : Operand} {x' y' : Opd} (hx : c.opd ds x = some x') (hy : c.opd ds y = some y') :
    VOk G ρ m L T tmps h w (vCmp o' x' y') (.binOp op t x y u) := by
  intro k o h' he
  obtain ⟨a, hv, e1⟩ := opd_sound hc r e hx he
  obtain ⟨b, hv2, e2⟩ := opd_sound hc r e hy e1
  rcases AV.onSymOr_inv e2 with ⟨j, rfl, e2⟩ | e2
  · obtain ⟨k2, n2, rfl, e3⟩ := AV.onInt_inv e2
    obtain ⟨κ, lo, hi, hs, hk, hmono, hlh, e4⟩ := symCmpK_inv e3
    subst hk
    obtain ⟨z, hz, h1, h2⟩ := ρ.ok.ints j κ lo hi hs
    have hv := hv.1.trans hz
    simp only [VR] at hv2
    refine ⟨.bool (cmpI o' z n2), .bool (cmpI o' z n2), rfl, by rw [cmpI_mono hmono hlh h1 h2] at e4; exact e4, fun oper hop => ?_⟩
    simp only [execOp, hop, hv, hv2, Sem.run_bind, run_eqGuard_int, Result.andThen_ok]
    cases op <;> simp only [icmp, Option.some.injEq, reduceCtorEq] at ho <;> subst ho <;>
      simp only [binOp, ne_eq, not_true_eq_false, if_false, Op.intCmp, Sem.run_pure, Result.andThen_ok, cmpI, eqI_eq, ltI_eq, Result.ok.injEq, and_true, Next.value.injEq, Value.bool.injEq] <;>
      (rw [Bool.eq_iff_iff]; simp) <;> omega
  obtain ⟨k1, n1, rfl, e3⟩ := AV.onInt_inv e2
  obtain ⟨k2, n2, rfl, e4⟩ := AV.onInt_inv e3
  obtain ⟨hk1, e5⟩ := ifK_inv e4
  obtain rfl := Nat.eq_of_beq_eq_true hk1
  rw [boolK_eq] at e5
  simp only [VR] at hv hv2
  refine ⟨.bool (cmpI o' n1 n2), .bool (cmpI o' n1 n2), rfl, e5, fun oper hop => ?_⟩
  simp only [execOp, hop, hv, hv2, Sem.run_bind, run_eqGuard_int, Result.andThen_ok]
  cases op <;> simp only [icmp, Option.some.injEq, reduceCtorEq] at ho <;> subst ho <;>
    simp only [binOp, ne_eq, not_true_eq_false, if_false, Op.intCmp, Sem.run_pure, Result.andThen_ok, cmpI, eqI_eq, ltI_eq, Result.ok.injEq, and_true, Next.value.injEq, Value.bool.injEq] <;>
    (rw [Bool.eq_iff_iff]; simp) <;> omega

theorem vNeg_ok {t : TypeId} {κ : IntKind} {x : Operand} {x' : Opd} (hx : c.opd ds x = some x') : VOk G ρ m L T tmps h w (vNeg (kNo κ) (hiOf κ) (loOf κ) x') (.unOp .neg t x) := by
  intro k o h' he
  obtain ⟨a, hv, e1⟩ := opd_sound hc r e hx he
  obtain ⟨k1, n1, rfl, e2⟩ := AV.onInt_inv e1
  obtain ⟨hk1, e3⟩ := ifK_inv e2
  obtain rfl := Nat.eq_of_beq_eq_true hk1
  have e4 := wrapK_inv (kOf_kNo κ) rfl rfl e3
  rw [subI_eq] at e4
  simp only [VR, kOf_kNo] at hv
  exact ⟨_, .int κ (κ.wrap (0 - n1)), by simp only [VR, kOf_kNo], e4, fun oper ho => by simp [execOp, ho, hv, Op.unary, Op.intArith]⟩

theorem vCvi_ok {s t : TypeId} {κ k0 : IntKind} (hs : c.P.underlying s = some (.int k0)) (ht : c.P.underlying t = some (.int κ)) {x : Operand} {x' : Opd} (hx : c.opd ds x = some x') :
    VOk G ρ m L T tmps h w (vCvi (kNo κ) (hiOf κ) (loOf κ) x') (.convert s t x) := by
  intro k o h' he
  obtain ⟨a, hv, e1⟩ := opd_sound hc r e hx he
  rw [hc] at hs ht
  rcases AV.onSymOr_inv e1 with ⟨j, rfl, e1⟩ | e1
  · obtain ⟨l, hl, e2⟩ := symConvK_inv e1
    obtain ⟨k0, z, h1, h2⟩ := ρ.ok.convs j _ l hl
    have hv := hv.1.trans h1
    refine ⟨.sym l, ρ.f l, ⟨rfl, by rw [h2]; rfl⟩, e2, fun oper ho => ?_⟩
    rw [h2, kOf_kNo]
    simp only [execOp, ho, hv, convert, Sem.run_bind, run_underlying hs, run_underlying ht, Result.andThen_ok, Conv.intToInt, Sem.run_pure]
  obtain ⟨k1, n1, rfl, e2⟩ := AV.onInt_inv e1
  have e3 := wrapK_inv (kOf_kNo κ) rfl rfl e2
  simp only [VR] at hv
  exact ⟨_, .int κ (κ.wrap n1), by simp only [VR, kOf_kNo], e3, fun oper ho => by
    simp only [execOp, ho, hv, convert, Sem.run_bind, run_underlying hs, run_underlying ht, Result.andThen_ok, Conv.intToInt, Sem.run_pure]⟩

end
end Go.Proofs.YtpngpoeifgkclaaGreatDoor.Am

/- Memory read, and aggregates. -/
namespace Go.Proofs.YtpngpoeifgkclaaGreatDoor.Am

section
variable {ob : AObj} {o : AOut} {h : Hp}
theorem AObj.onCells_inv {k : Bool → Nat → Nat → List AV → Res} (e : ob.onCells k = .ok o h) : ∃ g sz fz c, ob = .cells g sz fz c ∧ k g sz fz c = .ok o h := by
  cases ob <;> first | exact ⟨_, _, _, _, rfl, e⟩ | cases e
theorem AObj.onMap_inv {k : List AEnt → Nat → Res} (e : ob.onMap k = .ok o h) : ∃ es c, ob = .map es c ∧ k es c = .ok o h := by
  cases ob <;> first | exact ⟨_, _, rfl, e⟩ | cases e
theorem AObj.onLoop_inv {k : Nat → Option AJ → Hi → VT → Nat → Hi → Res} (e : ob.onLoop k = .ok o h) : ∃ st pe f T i d, ob = .loop st pe f T i d ∧ k st pe f T i d = .ok o h := by
  cases ob <;> first | exact ⟨_, _, _, _, _, _, rfl, e⟩ | cases e
theorem AObj.onDefd_inv {k : Option (List AD) → Res} (e : ob.onDefd k = .ok o h) : ∃ c, ob = .defd c ∧ k c = .ok o h := by
  cases ob <;> first | exact ⟨_, rfl, e⟩ | cases e
end

section
variable {G : Gp} {ρ : Rho} {m : M} {h : Hp} {w : World}

theorem obj_ok (r : Rel G ρ m h w) {b : Hi} {pl : Pl} (hb : h.at b ≠ .no) (hm : m b = some pl) : pl.blk < w.heap.size ∧ ObjR G ρ m pl w (h.at b) := by
  obtain ⟨pl', h1, h2, h3⟩ := r.dom b hb
  rw [hm] at h1; cases h1; exact ⟨h2, h3⟩

theorem cell_ok (r : Rel G ρ m h w) {b : Hi} {pl : Pl} {g : Bool} {sz fz : Nat} {cs : List AV} (hb : h.at b = .cells g sz fz cs) (hm : m b = some pl) {i : Nat} {a : AV} (ha : cs[i]? = some a) :
    ∃ v, w.cell? ⟨pl.blk, pl.base + i, none⟩ = some v ∧ VR ρ m a v ∧ v.oneCell' = true := by
  obtain ⟨_, h3⟩ := obj_ok r (by rw [hb]; simp) hm
  rw [hb] at h3
  obtain ⟨C, e, f, hh, _, _, _, hc, _⟩ := h3
  obtain ⟨v, h1, h2, h4⟩ := hc i a ha
  exact ⟨v, by simp [World.cell?, hh, h1], h2, h4⟩

theorem cells_ok (r : Rel G ρ m h w) {b : Hi} {pl : Pl} {g : Bool} {sz fz : Nat} {cs : List AV} (hb : h.at b = .cells g sz fz cs) (hm : m b = some pl) {o n : Nat} (hn : o + n ≤ cs.length) (P : Program) :
    ∃ xs : Array Value, (loadCells ⟨pl.blk, pl.base + o, none⟩ n).run P w = .ok xs w ∧ VRL ρ m ((cs.drop o).take n) xs.toList ∧ ∀ x ∈ xs.toList, x.oneCell' = true := by
  have key : ∀ j, j < n → ∃ a v, cs[o + j]? = some a ∧ w.cell? ⟨pl.blk, pl.base + o + j, none⟩ = some v ∧ VR ρ m a v ∧ v.oneCell' = true := fun j hj => by
    have hlt : o + j < cs.length := by omega
    obtain ⟨v, h1, h2⟩ := cell_ok r hb hm (List.getElem?_eq_getElem hlt)
    exact ⟨_, v, List.getElem?_eq_getElem hlt, by rw [Nat.add_assoc]; exact h1, h2⟩
  refine ⟨((List.range n).map fun j => (w.cell? ⟨pl.blk, pl.base + o + j, none⟩).getD undef).toArray, ?_, ?_, ?_⟩
  · exact run_loadCells w _ n _ fun j hj => by
      obtain ⟨a, v, _, h2, _⟩ := key j hj
      rw [Addr.add_lit, h2]; rfl
  · refine VRL.of_get (by simp; omega) fun i a v h1 h2 => ?_
    have hi : i < n := by
      rcases Nat.lt_or_ge i n with h | h
      · exact h
      · simp [List.getElem?_take, Nat.not_lt.2 h] at h1
    obtain ⟨a', v', e1, e2, e3, _⟩ := key i hi
    simp only [List.getElem?_take, hi, if_true, List.getElem?_drop] at h1
    rw [e1] at h1; cases h1
    simp only [List.getElem?_map, List.getElem?_range hi, Option.map_some, e2, Option.getD_some, Option.some.injEq] at h2
    subst h2; exact e3
  · intro x hx
    simp only [List.mem_map, List.mem_range] at hx
    obtain ⟨j, hj, rfl⟩ := hx
    obtain ⟨a, v, _, h2, _, h4⟩ := key j hj
    rw [h2]; exact h4

section
variable {c : Cx} {P : Program}
theorem run_isAgg (hc : c.P = P) {t : TypeId} {b : Bool} (e : c.isAgg t = some b) : (isAgg t).run P w = .ok b w := by
  subst hc
  unfold Cx.isAgg at e
  split at e <;> cases e <;> rename_i h1 <;> simp only [isAgg, Sem.run_bind, run_underlying h1, Result.andThen_ok, Sem.run_pure]
theorem run_typeInfo {t : TypeId} {i : TypeInfo} (e : P.info? t = some i) : (typeInfo t).run P w = .ok i w := by
  simp only [typeInfo, Sem.run_bind, run_program, Result.andThen_ok, e, Sem.run_pure]
theorem run_sizeOf (hc : c.P = P) {t : TypeId} {n : Nat} (e : c.size t = some n) : (sizeOf t).run P w = .ok n w := by
  subst hc
  unfold Cx.size at e
  cases hi : c.P.info? t with
  | none => simp [hi] at e
  | some i =>
    simp only [hi, Option.map_some, Option.some.injEq] at e
    simp only [sizeOf, Sem.run_bind, run_typeInfo hi, Result.andThen_ok, Sem.run_pure, e]
theorem run_zeroValue (hc : c.P = P) {t : TypeId} {z : Value} (e : c.zero t = some z) : (zeroValue t).run P w = .ok z w := by
  subst hc
  unfold Cx.zero at e
  cases hi : c.P.info? t with
  | none => simp [hi] at e
  | some i =>
    simp only [hi, Option.bind_some] at e
    simp only [zeroValue, Sem.run_bind, run_typeInfo hi, Result.andThen_ok, Sem.run_pure, e]
end

section
variable {c : Cx} {ds : List Nat} {L : List AV} {T : VT} {tmps : Array Value} (hc : c.P = G.P) (r : Rel G ρ m h w) (e : Env c m ds L T tmps G ρ)
include hc r e

theorem vLd1_ok {t : TypeId} {x : Operand} {x' : Opd} (ht : c.isAgg t = some false) (hx : c.opd ds x = some x') : VOk G ρ m L T tmps h w (vLd1 x') (.load t x) := by
  intro k o h' he
  obtain ⟨a, hv, e1⟩ := opd_sound hc r e hx he
  obtain ⟨b, i, rfl, e2⟩ := AV.onPtr_inv e1
  obtain ⟨hb, e3⟩ := atK_inv e2
  obtain ⟨g, sz, fz, cs, ho, e4⟩ := AObj.onCells_inv e3
  obtain ⟨a, ha, e5⟩ := nthK_inv e4
  obtain ⟨pl, hm, hv⟩ := hv
  obtain ⟨v, h1, h2, h3⟩ := cell_ok r ho hm ha
  refine ⟨a, v, h2, e5, fun oper hop => ?_⟩
  simp only [execOp, hop, hv, Instr.loadAt, Instr.sureAddr, loadVar, Sem.run_bind, Sem.run_pure, Result.andThen_ok, run_isAgg hc ht, Bool.false_eq_true, if_false, run_load, h1]

theorem vLdn_ok {t : TypeId} {n : Nat} {x : Operand} {x' : Opd} (ht : c.isAgg t = some true) (hn : c.size t = some n) (hx : c.opd ds x = some x') : VOk G ρ m L T tmps h w (vLdn x' n) (.load t x) := by
  intro k o h' he
  obtain ⟨a, hv, e1⟩ := opd_sound hc r e hx he
  obtain ⟨b, i, rfl, e2⟩ := AV.onPtr_inv e1
  obtain ⟨hb, e3⟩ := atK_inv e2
  obtain ⟨g, sz, fz, cs, ho, e4⟩ := AObj.onCells_inv e3
  obtain ⟨hl, e5⟩ := dropK_inv e4
  obtain ⟨hl2, e6⟩ := takeK_inv e5
  rw [List.append_nil] at e6
  obtain ⟨pl, hm, hv⟩ := hv
  obtain ⟨xs, h1, h2, h3⟩ := cells_ok r ho hm (o := i) (n := n) (by simp at hl2; omega) G.P
  refine ⟨.agg ((cs.drop i).take n), .agg xs, ⟨xs, rfl, h2, h3⟩, e6, fun oper hop => ?_⟩
  simp only [execOp, hop, hv, Instr.loadAt, Instr.sureAddr, loadVar, Sem.run_bind, Sem.run_pure, Result.andThen_ok, run_isAgg hc ht, run_sizeOf hc hn, if_true, h1]

theorem vFad_ok {t : TypeId} {fs : Array Field} {i : Nat} {f : Field} {s : Nat} {x : Operand} {x' : Opd} (ht : c.P.underlying t = some (.struct fs)) (hf : fs[i]? = some f) (hs : c.size f.type = some s) (hs0 : s ≠ 0)
    (hx : c.opd ds x = some x') : VOk G ρ m L T tmps h w (vFad x' f.offset) (.fieldAddr t x i) := by
  intro k o h' he
  obtain ⟨a, hv, e1⟩ := opd_sound hc r e hx he
  obtain ⟨b, j, rfl, e2⟩ := AV.onPtr_inv e1
  rw [natK_eq] at e2
  obtain ⟨pl, hm, hv⟩ := hv
  have hs' := fun w => run_sizeOf (w := w) hc hs
  rw [hc] at ht
  refine ⟨.ptr b (j + f.offset), .pointer (some ⟨pl.blk, pl.base + (j + f.offset), none⟩), ⟨pl, hm, rfl⟩, e2, fun oper hop => ?_⟩
  simp only [execOp, hop, hv, Instr.fieldAt, Instr.sureAddr, Sem.run_bind, run_underlying ht, Result.andThen_ok, hf, Sem.run_pure, fieldPlace, hs', hs0, if_false, Addr.add_lit, Nat.add_assoc]

theorem part_ok {t : TypeId} {n off : Nat} {agg : Bool} {l : List AV} {xs : Array Value} (hn : c.size t = some n) (ha : c.isAgg t = some agg) (hl : VRL ρ m l xs.toList) (h1 : ∀ x ∈ xs.toList, x.oneCell' = true)
    {k : AV → Res} {o : AOut} {h' : Hp} (he : partK l off n agg k = .ok o h') : ∃ a v, VR ρ m a v ∧ k a = .ok o h' ∧ (part t xs off).run G.P w = .ok v w := by
  have _ := r
  have _ := e
  have he : ifK agg (dropK off l fun d => takeK n d [] fun l => k (.agg l)) (nthK off l k) = .ok o h' := he
  rw [ifK_eq] at he
  cases agg with
  | true =>
    obtain ⟨e1, e2⟩ := dropK_inv he
    obtain ⟨e3, e4⟩ := takeK_inv e2
    rw [List.append_nil] at e4
    have hh := (hl.drop off).take n
    have ex : (xs.extract off (off + n)).toList = (xs.toList.drop off).take n := by
      simp only [Array.toList_extract, List.extract_eq_take_drop]; congr 1; omega
    refine ⟨.agg ((l.drop off).take n), .agg (xs.extract off (off + n)), ⟨_, rfl, by rw [ex]; exact hh, fun x hx => h1 x ?_⟩, e4, ?_⟩
    · rw [ex] at hx; exact List.mem_of_mem_drop (List.mem_of_mem_take hx)
    · simp only [part, Sem.run_bind, run_isAgg hc ha, Result.andThen_ok, if_true, run_sizeOf hc hn, Sem.run_pure]
  | false =>
    obtain ⟨a, e1, e2⟩ := nthK_inv he
    obtain ⟨v, e3, e4⟩ := hl.get e1
    rw [Array.getElem?_toList] at e3
    refine ⟨a, v, e4, e2, ?_⟩
    simp only [part, Sem.run_bind, run_isAgg hc ha, Result.andThen_ok, Bool.false_eq_true, if_false, e3, Sem.run_pure]

theorem vFld_ok {t : TypeId} {fs : Array Field} {i : Nat} {f : Field} {s : Nat} {agg : Bool} {x : Operand} {x' : Opd} (ht : c.P.underlying t = some (.struct fs)) (hf : fs[i]? = some f) (hs : c.size f.type = some s)
    (ha : c.isAgg f.type = some agg) (hx : c.opd ds x = some x') : VOk G ρ m L T tmps h w (vFld x' f.offset s agg) (.field t x i) := by
  intro k o h' he
  obtain ⟨a, hv, e1⟩ := opd_sound hc r e hx he
  obtain ⟨l, rfl, e2⟩ := AV.onAgg_inv e1
  obtain ⟨xs, hv, hl, h1⟩ := hv
  obtain ⟨a, v, h2, h3, h4⟩ := part_ok hc r e hs ha hl h1 e2
  rw [hc] at ht
  refine ⟨a, v, h2, h3, fun oper hop => ?_⟩
  simp only [execOp, hop, hv, Instr.field, Sem.run_bind, run_underlying ht, Result.andThen_ok, hf, asAgg, Sem.run_pure, h4]

end
end
end Go.Proofs.YtpngpoeifgkclaaGreatDoor.Am

/- Strings, bounds, indexes. -/
namespace Go.Proofs.YtpngpoeifgkclaaGreatDoor.Am

theorem codeOf_nil : codeOf [] = 0 := rfl
theorem codeOf_cons (b : UInt8) (l : List UInt8) : codeOf (b :: l) = b.toNat + 256 * codeOf l := rfl
theorem u8_lt (b : UInt8) : b.toNat < 256 := UInt8.toNat_lt b
theorem codeOf_append (a b : List UInt8) : codeOf (a ++ b) = codeOf a + 256 ^ a.length * codeOf b := by
  induction a with
  | nil => simp [codeOf_nil]
  | cons x a ih => simp only [List.cons_append, codeOf_cons, ih, List.length_cons, Nat.pow_succ, Nat.mul_add, Nat.add_assoc]; congr 2; rw [Nat.mul_comm (256 ^ a.length) 256, Nat.mul_assoc]
theorem codeOf_lt (l : List UInt8) : codeOf l < 256 ^ l.length := by
  induction l with
  | nil => simp [codeOf_nil]
  | cons x l ih => simp only [codeOf_cons, List.length_cons, Nat.pow_succ]; have := u8_lt x; omega
theorem codeOf_drop (l : List UInt8) (i : Nat) : codeOf (l.drop i) = codeOf l / 256 ^ i := by
  induction i generalizing l with
  | zero => simp
  | succ i ih => cases l with
    | nil => simp [codeOf_nil]
    | cons x l =>
      rw [List.drop_succ_cons, ih, codeOf_cons, Nat.pow_succ, Nat.mul_comm (256 ^ i) 256, ← Nat.div_div_eq_div_mul]
      have := u8_lt x
      congr 1; omega
theorem codeOf_take (l : List UInt8) (n : Nat) : codeOf (l.take n) = codeOf l % 256 ^ n := by
  induction n generalizing l with
  | zero => simp [codeOf_nil, Nat.mod_one]
  | succ n ih => cases l with
    | nil => simp [codeOf_nil]
    | cons x l =>
      rw [List.take_succ_cons, codeOf_cons, ih, codeOf_cons, Nat.pow_succ, Nat.mul_comm (256 ^ n) 256]
      have := u8_lt x
      rw [Nat.mod_mul, show (x.toNat + 256 * codeOf l) % 256 = x.toNat by omega, show (x.toNat + 256 * codeOf l) / 256 = codeOf l by omega]
theorem codeOf_inj {a b : List UInt8} (h : a.length = b.length) (e : codeOf a = codeOf b) : a = b := by
  induction a generalizing b with
  | nil => cases b with
    | nil => rfl
    | cons _ _ => simp at h
  | cons x a ih => cases b with
    | nil => simp at h
    | cons y b =>
      simp only [codeOf_cons] at e
      have := u8_lt x; have := u8_lt y
      have h1 : x.toNat = y.toNat := by omega
      have h2 : codeOf a = codeOf b := by omega
      rw [ih (by simpa using h) h2, UInt8.toNat_inj.1 h1]
theorem codeOf_get {l : List UInt8} {i : Nat} {b : UInt8} (h : l[i]? = some b) : codeOf l / 256 ^ i % 256 = b.toNat := by
  rw [← codeOf_drop]
  obtain ⟨hlt, he⟩ := List.getElem?_eq_some_iff.1 h
  rw [List.drop_eq_getElem_cons hlt, codeOf_cons, he]
  have := u8_lt b; omega

theorem SR.size {n v : Nat} {s : ByteArray} (h : SR n v s) : s.size = n := h.1
theorem SR.toList {n v : Nat} {s : ByteArray} (h : SR n v s) : s.toList.length = n ∧ codeOf s.toList = v := by rw [ByteArray.toList_eq]; exact h

theorem eqS_ok {n v m u : Nat} {s t : ByteArray} (h : SR n v s) (g : SR m u t) : eqS n v m u = (s.toList == t.toList) := by
  have e : eqS n v m u = (Nat.beq n m && Nat.beq v u) := by unfold eqS; cases Nat.beq n m <;> rfl
  rw [e, Bool.eq_iff_iff]
  simp only [Bool.and_eq_true, Nat.beq_eq, beq_iff_eq]
  constructor
  · rintro ⟨h1, h2⟩
    exact codeOf_inj (by rw [h.toList.1, g.toList.1, h1]) (by rw [h.toList.2, g.toList.2, h2])
  · intro e
    exact ⟨by rw [← h.toList.1, ← g.toList.1, e], by rw [← h.toList.2, ← g.toList.2, e]⟩

theorem SR.append {n v m u : Nat} {s t : ByteArray} (h : SR n v s) (g : SR m u t) : SR (n + m) (v + 256 ^ n * u) (s ++ t) := by
  have e : (s ++ t).data.toList = s.data.toList ++ t.data.toList := by simp
  exact ⟨by rw [e, List.length_append, h.1, g.1], by rw [e, codeOf_append, h.1, h.2, g.2]⟩

theorem SR.cut {n v : Nat} {s : ByteArray} (h : SR n v s) {lo hi : Nat} (h1 : lo ≤ hi) (h2 : hi ≤ n) : SR (hi - lo) (cutS v lo (hi - lo)) (s.extract lo hi) := by
  have e : (s.extract lo hi).data.toList = (s.data.toList.drop lo).take (hi - lo) := by
    rw [ByteArray.data_extract, Array.toList_extract, List.extract_eq_take_drop]
  refine ⟨by rw [e, List.length_take, List.length_drop, h.1]; omega, ?_⟩
  rw [e, codeOf_take, codeOf_drop, h.2]; rfl

theorem symEqK_inv {o : SBin} {j n v : Nat} {k : AV → Res} {out : AOut} {h' : Hp} (e : symEqK o j n v k = .ok out h') : ∃ l, symStr j = some l ∧ (n, v) ∈ symNames ∧ (SBin.rec (motive := fun _ => Res) (k (.bool false)) (k (.bool true)) .bad o : Res) = .ok out h' := by
  unfold symEqK at e
  split at e
  · rename_i l hl
    obtain ⟨h1, e1⟩ := ifK_inv e
    obtain ⟨q, hq, hb⟩ := List.any_eq_true.1 h1
    simp only [Bool.and_eq_true] at hb
    obtain ⟨qn, qv⟩ := q
    have h2 := Nat.eq_of_beq_eq_true hb.1
    have h3 := Nat.eq_of_beq_eq_true hb.2
    simp only at h2 h3
    subst h2 h3
    exact ⟨l, hl, hq, e1⟩
  · cases e
theorem symLenK_inv {j : Nat} {k : AV → Res} {out : AOut} {h' : Hp} (e : symLenK j k = .ok out h') : ∃ l, symStr j = some l ∧ k (.sym l) = .ok out h' := by
  unfold symLenK at e
  split at e
  · exact ⟨_, by assumption, e⟩
  · cases e

section
variable {G : Gp} {ρ : Rho} {m : M} {h : Hp} {w : World}
variable {c : Cx} {ds : List Nat} {L : List AV} {T : VT} {tmps : Array Value} (hc : c.P = G.P) (r : Rel G ρ m h w) (e : Env c m ds L T tmps G ρ)

/-- A bound, as it is written or as it is taken. -/
def OptV (tmps : Array Value) (d top : Nat) (i : Nat) : Option Operand → Prop
  | none => i = d
  | some y => ∃ κ, ev tmps y = .int κ (i : Int) ∧ i ≤ top

theorem OptV.le {tmps : Array Value} {d top i : Nat} {z : Option Operand} (hz : OptV tmps d top i z) (hd : d ≤ top) : i ≤ top := by
  cases z with
  | none => have : i = d := hz; omega
  | some y => obtain ⟨_, _, h⟩ := hz; exact h
theorem OptV.mono {tmps : Array Value} {d top top' i : Nat} {z : Option Operand} (hz : OptV tmps d top i z) (hd : top ≤ top') : OptV tmps d top' i z := by
  cases z with
  | none => exact hz
  | some y => obtain ⟨κ, h1, h⟩ := hz; exact ⟨κ, h1, Nat.le_trans h hd⟩

theorem bndK_inv {v : AV} {top : Nat} {k : Nat → Res} {o : AOut} {h' : Hp} (e : bndK v top k = .ok o h') : ∃ κ i, v = .int κ (Int.ofNat i) ∧ i ≤ top ∧ k i = .ok o h' := by
  obtain ⟨κ, n, rfl, e1⟩ := AV.onInt_inv e
  cases n with
  | negSucc _ => cases e1
  | ofNat i =>
    obtain ⟨e2, e3⟩ := ifK_inv (show ifK (Nat.ble i top) (k i) .bad = .ok o h' from e1)
    exact ⟨κ, i, rfl, Nat.le_of_ble_eq_true e2, e3⟩

theorem idxK_inv {v : AV} {n : Nat} {k : Nat → Res} {o : AOut} {h' : Hp} (e : idxK v n k = .ok o h') : ∃ κ i, v = .int κ (Int.ofNat i) ∧ i < n ∧ k i = .ok o h' := by
  obtain ⟨κ, j, rfl, e1⟩ := AV.onInt_inv e
  cases j with
  | negSucc _ => cases e1
  | ofNat i =>
    obtain ⟨e2, e3⟩ := ifK_inv (show ifK (Nat.blt i n) (k i) .bad = .ok o h' from e1)
    exact ⟨κ, i, rfl, by simpa [Nat.blt_eq] using e2, e3⟩

include hc r e in
theorem opt_ok {x : Option Operand} {x' : Option Opd} (hx : c.optO ds x = some x') {d top : Nat} {k : Nat → Res} {o : AOut} {h' : Hp} (he : optK x' d L T top k = .ok o h') : ∃ i, OptV tmps d top i x ∧ k i = .ok o h' := by
  cases x with
  | none => simp only [Cx.optO, Option.some.injEq] at hx; subst hx; exact ⟨d, rfl, he⟩
  | some y =>
    simp only [Cx.optO] at hx
    cases hy : c.opd ds y with
    | none => simp [hy] at hx
    | some y' =>
      simp only [hy, Option.map_some, Option.some.injEq] at hx
      subst hx
      obtain ⟨a, hv, e1⟩ := opd_sound hc r e hy (show evO y' L T (fun v => bndK v top k) = .ok o h' from he)
      obtain ⟨κ, i, rfl, hi, e2⟩ := bndK_inv e1
      exact ⟨i, ⟨kOf κ, hv, hi⟩, e2⟩

theorem run_sliceBound {κ : IntKind} {i top : Nat} {code : BoundsCode} {P : Program} (h : i ≤ top) : (Instr.sliceBound (.int κ (i : Int)) top code).run P w = .ok i w := by
  have : (0 : Int) ≤ i ∧ (i : Int) ≤ top := ⟨by omega, by omega⟩
  simp [Instr.sliceBound, asIntOf, this]

theorem run_sliceBounds {isS : Bool} {len cap mm hh ll : Nat} {lo hi mx : Option Operand} {P : Program} (hm : OptV tmps cap cap mm mx) (hh' : OptV tmps len mm hh hi) (hl : OptV tmps 0 hh ll lo) (hok : mx.isSome = true → hi.isSome = true) :
    (Instr.sliceBounds isS len cap (lo.map (ev tmps)) (hi.map (ev tmps)) (mx.map (ev tmps))).run P w = .ok (ll, hh, mm) w := by
  cases mx with
  | none =>
    simp only [OptV] at hm; subst hm
    cases hi with
    | none =>
      simp only [OptV] at hh'; subst hh'
      cases lo with
      | none => simp only [OptV] at hl; subst hl; simp [Instr.sliceBounds]
      | some y => obtain ⟨κ, e1, e2⟩ := hl; simp [Instr.sliceBounds, e1, run_sliceBound e2]
    | some z =>
      obtain ⟨κ, e1, e2⟩ := hh'
      cases lo with
      | none => simp only [OptV] at hl; subst hl; simp [Instr.sliceBounds, e1, run_sliceBound e2]
      | some y => obtain ⟨κ', e3, e4⟩ := hl; simp [Instr.sliceBounds, e1, e3, run_sliceBound e2, run_sliceBound e4]
  | some u =>
    obtain ⟨κ, e1, e2⟩ := hm
    cases hi with
    | none => simp at hok
    | some z =>
      obtain ⟨κ', e3, e4⟩ := hh'
      cases lo with
      | none => simp only [OptV] at hl; subst hl; simp [Instr.sliceBounds, e1, e3, run_sliceBound e2, run_sliceBound e4]
      | some y => obtain ⟨κ'', e5, e6⟩ := hl; simp [Instr.sliceBounds, e1, e3, e5, run_sliceBound e2, run_sliceBound e4, run_sliceBound e6]

include hc r e

theorem vSbin_ok {op : BinOp} {o' : SBin} (ho : sbinOf op = some o') {t u : TypeId} {x y : Operand} {x' y' : Opd} (hx : c.opd ds x = some x') (hy : c.opd ds y = some y') :
    VOk G ρ m L T tmps h w (vSbin o' x' y') (.binOp op t x y u) := by
  intro k o h' he
  obtain ⟨a, hv, e1⟩ := opd_sound hc r e hx he
  obtain ⟨b, hv2, e2⟩ := opd_sound hc r e hy e1
  rcases AV.onSymOr_inv e2 with ⟨j, rfl, e2⟩ | e2
  · obtain ⟨n2, v2, rfl, e3⟩ := AV.onStr_inv e2
    obtain ⟨l, hl, hmem, e4⟩ := symEqK_inv e3
    obtain ⟨s, hs, hne, _⟩ := ρ.ok.strs j l hl
    have hv := hv.1.trans hs
    obtain ⟨s2, hv2, hs2⟩ := hv2
    have hE : (s.toList == s2.toList) = false := by
      rw [beq_eq_false_iff_ne]
      intro he
      rw [ByteArray.toList_eq, ByteArray.toList_eq] at he
      exact hne (n2, v2) hmem (by unfold SR at hs2 ⊢; rw [he]; exact hs2)
    cases op <;> simp only [sbinOf, Option.some.injEq, reduceCtorEq] at ho <;> subst ho
    case add => cases e4
    case eql =>
      refine ⟨.bool false, .bool false, rfl, e4, fun oper hop => ?_⟩
      simp only [execOp, hop, hv, hv2, Sem.run_bind, run_eqGuard_str, Result.andThen_ok, binOp, Op.stringOp, Sem.run_pure, hE]
    case neq =>
      refine ⟨.bool true, .bool true, rfl, e4, fun oper hop => ?_⟩
      simp only [execOp, hop, hv, hv2, Sem.run_bind, run_eqGuard_str, Result.andThen_ok, binOp, Op.stringOp, Sem.run_pure, hE, Bool.not_false]
  rcases AV.onSymOr_inv e2 with ⟨j, rfl, e2⟩ | e2
  · obtain ⟨n, v, rfl, e3⟩ := AV.onStr_inv e2
    obtain ⟨l, hl, hmem, e4⟩ := symEqK_inv e3
    obtain ⟨s2, hs2, hne, _⟩ := ρ.ok.strs j l hl
    have hv2 := hv2.1.trans hs2
    obtain ⟨s, hv, hs⟩ := hv
    have hE : (s.toList == s2.toList) = false := by
      rw [beq_eq_false_iff_ne]
      intro he
      rw [ByteArray.toList_eq, ByteArray.toList_eq] at he
      exact hne (n, v) hmem (by unfold SR at hs ⊢; rw [← he]; exact hs)
    cases op <;> simp only [sbinOf, Option.some.injEq, reduceCtorEq] at ho <;> subst ho
    case add => cases e4
    case eql =>
      refine ⟨.bool false, .bool false, rfl, e4, fun oper hop => ?_⟩
      simp only [execOp, hop, hv, hv2, Sem.run_bind, run_eqGuard_str, Result.andThen_ok, binOp, Op.stringOp, Sem.run_pure, hE]
    case neq =>
      refine ⟨.bool true, .bool true, rfl, e4, fun oper hop => ?_⟩
      simp only [execOp, hop, hv, hv2, Sem.run_bind, run_eqGuard_str, Result.andThen_ok, binOp, Op.stringOp, Sem.run_pure, hE, Bool.not_false]
  obtain ⟨n, v, rfl, e3⟩ := AV.onStr_inv e2
  obtain ⟨n2, v2, rfl, e4⟩ := AV.onStr_inv e3
  obtain ⟨s, hv, hs⟩ := hv
  obtain ⟨s2, hv2, hs2⟩ := hv2
  have hE := eqS_ok hs hs2
  cases op <;> simp only [sbinOf, Option.some.injEq, reduceCtorEq] at ho <;> subst ho
  case add =>
    obtain ⟨h1, e5⟩ := ifK_inv e4
    rw [natK_eq, natK_eq] at e5
    have h1 : n + n2 < 4611686018427387904 := by simpa [Nat.blt_eq] using h1
    refine ⟨.str (n + n2) (v + 256 ^ n * v2), .string (s ++ s2), ⟨_, rfl, hs.append hs2⟩, e5, fun oper hop => ?_⟩
    have : ¬ (((s.size + s2.size : Nat) : Int) > IntKind.i64.max) := by rw [hs.size, hs2.size, IntKind.max_i64]; omega
    simp only [execOp, hop, hv, hv2, Sem.run_bind, run_eqGuard_str, Result.andThen_ok, binOp, Op.stringOp, this, if_false, Sem.run_pure]
  case eql =>
    have e4 : boolK (eqS n v n2 v2) (fun r => k (.bool r)) = .ok o h' := e4
    rw [boolK_eq] at e4
    refine ⟨.bool (eqS n v n2 v2), .bool (eqS n v n2 v2), rfl, e4, fun oper hop => ?_⟩
    simp only [execOp, hop, hv, hv2, Sem.run_bind, run_eqGuard_str, Result.andThen_ok, binOp, Op.stringOp, Sem.run_pure, hE]
  case neq =>
    have e4 : boolK (Bool.not (eqS n v n2 v2)) (fun r => k (.bool r)) = .ok o h' := e4
    rw [boolK_eq] at e4
    refine ⟨.bool (!eqS n v n2 v2), .bool (!eqS n v n2 v2), rfl, e4, fun oper hop => ?_⟩
    simp only [execOp, hop, hv, hv2, Sem.run_bind, run_eqGuard_str, Result.andThen_ok, binOp, Op.stringOp, Sem.run_pure, hE]

theorem vSlS_ok {t : TypeId} {x : Operand} {lo hi : Option Operand} {x' : Opd} {lo' hi' : Option Opd} (ht : c.P.underlying t = some .string) (hx : c.opd ds x = some x') (hlo : c.optO ds lo = some lo') (hhi : c.optO ds hi = some hi') :
    VOk G ρ m L T tmps h w (vSlS x' lo' hi') (.slice t x lo hi none) := by
  intro k o h' he
  obtain ⟨a, hv, e1⟩ := opd_sound hc r e hx he
  obtain ⟨n, v, rfl, e2⟩ := AV.onStr_inv e1
  obtain ⟨hh, h1, e3⟩ := opt_ok hc r e hhi e2
  obtain ⟨ll, h2, e4⟩ := opt_ok hc r e hlo e3
  rw [natK_eq, natK_eq] at e4
  obtain ⟨s, hv, hs⟩ := hv
  have hle : hh ≤ n := h1.le (Nat.le_refl _)
  have hle2 : ll ≤ hh := h2.le (Nat.zero_le _)
  rw [hc] at ht
  refine ⟨.str (hh - ll) (cutS v ll (hh - ll)), .string (s.extract ll hh), ⟨_, rfl, hs.cut hle2 hle⟩, e4, fun oper hop => ?_⟩
  have hb := fun w => run_sliceBounds (w := w) (isS := false) (P := G.P) (mx := none) (mm := n) (cap := n) rfl h1 h2 (by simp)
  simp only [Option.map_none] at hb
  simp only [execOp, hop, hv, Instr.sliceAt, Instr.slice, Sem.run_bind, run_underlying ht, Result.andThen_ok, Option.map_none, Option.isSome_none, Bool.false_eq_true, if_false, hs.size, hb, Sem.run_pure]

theorem vIxS_ok {t : TypeId} {x i : Operand} {x' i' : Opd} (ht : c.P.underlying t = some .string) (hx : c.opd ds x = some x') (hi : c.opd ds i = some i') : VOk G ρ m L T tmps h w (vIxS x' i') (.index t x i) := by
  intro k o h' he
  obtain ⟨a, hv, e1⟩ := opd_sound hc r e hx he
  obtain ⟨b, hv2, e2⟩ := opd_sound hc r e hi e1
  obtain ⟨n, v, rfl, e3⟩ := AV.onStr_inv e2
  obtain ⟨κ, j, rfl, hj, e4⟩ := idxK_inv e3
  rw [natK_eq] at e4
  obtain ⟨s, hv, hs⟩ := hv
  simp only [VR] at hv2
  rw [hc] at ht
  have hlt : j < s.size := by rw [hs.size]; exact hj
  have hb : byteAt v j = (s[j]'hlt).toNat := by
    have : s.data.toList[j]? = some (s[j]'hlt) := by
      rw [Array.getElem?_toList, Array.getElem?_eq_getElem hlt]; rfl
    rw [← codeOf_get this, hs.2]; rfl
  have hcond : (0 : Int) ≤ Int.ofNat j ∧ Int.ofNat j < (s.size : Int) := ⟨Int.natCast_nonneg j, Int.ofNat_lt.2 hlt⟩
  refine ⟨.int 4 (.ofNat (byteAt v j)), .int .u8 ((s[j]'hlt).toNat : Int), by rw [hb]; rfl, e4, fun oper hop => ?_⟩
  have hrun := run_index_string (P := G.P) w t s (kOf κ) (Int.ofNat j) ht
  rw [dif_pos hcond] at hrun
  simp only [execOp, hop, hv, hv2, Sem.run_bind, hrun, Result.andThen_ok, Sem.run_pure]
  rfl

theorem vLnS_ok {t u : TypeId} {x : Operand} {x' : Opd} (ht : c.P.underlying t = some .string) (hx : c.opd ds x = some x') {k : AV → Res} {o : AOut} {h' : Hp} (he : vLnS x' L T h k = .ok o h') :
    ∃ a v, VR ρ m a v ∧ k a = .ok o h' ∧ (Builtin.len_ #[t] u #[ev tmps x]).run G.P w = .ok v w := by
  obtain ⟨a, hv, e1⟩ := opd_sound hc r e hx he
  rw [hc] at ht
  rcases AV.onSymOr_inv e1 with ⟨j, rfl, e1⟩ | e1
  · obtain ⟨l, hl, e2⟩ := symLenK_inv e1
    obtain ⟨s, hs, _, hlen⟩ := ρ.ok.strs j l hl
    have hv := hv.1.trans hs
    exact ⟨.sym l, goInt s.size, ⟨hlen.symm, rfl⟩, e2, by rw [hv, run_len_string w t u s ht]⟩
  obtain ⟨n, v, rfl, e2⟩ := AV.onStr_inv e1
  obtain ⟨s, hv, hs⟩ := hv
  exact ⟨.int 3 (.ofNat n), goInt n, rfl, e2, by rw [hv, run_len_string w t u s ht, hs.size]⟩

theorem vSlL_ok {t el : TypeId} {sz : Nat} {x : Operand} {lo hi mx : Option Operand} {x' : Opd} {lo' hi' mx' : Option Opd} (ht : c.P.underlying t = some (.slice el)) (hs : c.size el = some sz) (hx : c.opd ds x = some x')
    (hlo : c.optO ds lo = some lo') (hhi : c.optO ds hi = some hi') (hmx : c.optO ds mx = some mx') (hok : mx.isSome = true → hi.isSome = true) : VOk G ρ m L T tmps h w (vSlL x' lo' hi' mx' sz) (.slice t x lo hi mx) := by
  intro k o h' he
  obtain ⟨a, hv, e1⟩ := opd_sound hc r e hx he
  have ht' := ht; rw [hc] at ht'
  have hsz := fun w => run_sizeOf (w := w) hc hs
  rcases AV.onSlice_inv e1 with ⟨rfl, e2⟩ | ⟨b, i, n, cp, rfl, e2⟩
  · obtain ⟨mm, h0, e3⟩ := opt_ok hc r e hmx e2
    obtain ⟨hh, h1, e4⟩ := opt_ok hc r e hhi e3
    obtain ⟨ll, h2, e5⟩ := opt_ok hc r e hlo e4
    have hm0 : mm = 0 := Nat.le_zero.1 (OptV.le h0 (Nat.le_refl _))
    have hh0 : hh = 0 := by have := OptV.le h1 (by omega); omega
    have hl0 : ll = 0 := by have := OptV.le h2 (by omega); omega
    simp only [VR] at hv
    refine ⟨.nils, .slice none 0 0, rfl, e5, fun oper hop => ?_⟩
    have hb := fun w => run_sliceBounds (w := w) (isS := true) (P := G.P) h0 h1 h2 hok
    simp only [execOp, hop, hv, Instr.sliceAt, Instr.slice, Sem.run_bind, run_underlying ht', Result.andThen_ok, hb, hsz, Sem.run_pure]
    simp [hm0, hh0, hl0]
  · obtain ⟨pl, ad, cc, hm, hv, hnc, had, hcr⟩ := hv
    have fin : ∀ (mm hh ll : Nat) (cap' : Option Nat), OptV tmps cc cc mm mx → OptV tmps n mm hh hi → OptV tmps 0 hh ll lo → CapR pl (i + ll * sz) (mm - ll) cap' → n ≤ mm ∨ hi.isSome = true →
        k (.slice b (i + ll * sz) (hh - ll) cap') = .ok o h' → ∃ a v, VR ρ m a v ∧ k a = .ok o h' ∧ ∀ oper : Oper, oper.op = .slice t x lo hi mx → (execOp (ev tmps) oper).run G.P w = .ok (.value v) w := by
      intro mm hh ll cap' h0 h1 h2 hcap hor hk
      have hmc : mm ≤ cc := OptV.le h0 (Nat.le_refl _)
      have hhm : hh ≤ mm := by
        rcases hor with hor | hor
        · exact OptV.le h1 hor
        · cases hi with
          | none => cases hor
          | some y => obtain ⟨_, _, h⟩ := h1; exact h
      have hll : ll ≤ hh := OptV.le h2 (Nat.zero_le _)
      have hb := fun w => run_sliceBounds (w := w) (isS := true) (P := G.P) h0 h1 h2 hok
      refine ⟨.slice b (i + ll * sz) (hh - ll) cap', .slice (some (if mm = ll then ad else ad.add (ll * sz))) (hh - ll) (mm - ll), ⟨pl, _, _, hm, rfl, by omega, fun hlt => ?_, hcap⟩, hk, fun oper hop => ?_⟩
      · rw [if_neg (by omega), had (by omega), Addr.add_lit, Nat.add_assoc]
      · simp only [execOp, hop, hv, Instr.sliceAt, Instr.slice, Sem.run_bind, run_underlying ht', Result.andThen_ok, hb, hsz, Sem.run_pure, Option.map_some]
        split <;> rfl
    cases cp with
    | some cp =>
      have hcc : cc = cp := hcr
      subst hcc
      obtain ⟨mm, h0, e3⟩ := opt_ok hc r e hmx (show optK mx' cc L T cc _ = .ok o h' from e2)
      obtain ⟨hh, h1, e4⟩ := opt_ok hc r e hhi e3
      obtain ⟨ll, h2, e5⟩ := opt_ok hc r e hlo e4
      refine fin mm hh ll (some (mm - ll)) h0 h1 h2 rfl ?_ e5
      cases mx with
      | none => have : mm = cc := h0; exact .inl (by omega)
      | some _ => exact .inr (hok rfl)
    | none =>
      cases mx with
      | none =>
        simp only [Cx.optO, Option.some.injEq] at hmx
        subst hmx
        obtain ⟨hb, e3⟩ := atK_inv (show atK b h _ = .ok o h' from e2)
        obtain ⟨g, osz, fz, cs, hob, e4⟩ := AObj.onCells_inv e3
        obtain ⟨hg, e5⟩ := ifK_inv e4
        obtain ⟨hos, e6⟩ := ifK_inv e5
        obtain rfl := Nat.eq_of_beq_eq_true hos
        obtain ⟨hh, h1, e7⟩ := opt_ok hc r e hhi e6
        obtain ⟨ll, h2, e8⟩ := opt_ok hc r e hlo e7
        obtain ⟨hlt, hobj⟩ := obj_ok r hb hm
        rw [hob] at hobj
        obtain ⟨C, et, f, _, _, _, hsz', _⟩ := hobj
        have hpsz := hsz' hg
        have hhn : hh ≤ n := OptV.le h1 (Nat.le_refl _)
        have hll : ll ≤ hh := OptV.le h2 (Nat.zero_le _)
        refine fin cc hh ll none rfl (OptV.mono h1 hnc) h2 ⟨?_, hcr.2⟩ (.inl hnc) e8
        have := hcr.1
        rw [← hpsz]
        have h3 : (cc - ll) * pl.sz + ll * pl.sz = cc * pl.sz := by rw [← Nat.add_mul]; congr 1; omega
        omega
      | some z =>
        obtain ⟨zz, hzz⟩ : ∃ zz, mx' = some zz := by
          simp only [Cx.optO] at hmx
          cases hz : c.opd ds z with
          | none => simp [hz] at hmx
          | some z' => simp only [hz, Option.map_some, Option.some.injEq] at hmx; exact ⟨z', hmx.symm⟩
        subst hzz
        obtain ⟨mm, h0, e3⟩ := opt_ok hc r e hmx (show optK (some zz) 0 L T n _ = .ok o h' from e2)
        obtain ⟨hh, h1, e4⟩ := opt_ok hc r e hhi e3
        obtain ⟨ll, h2, e5⟩ := opt_ok hc r e hlo e4
        refine fin mm hh ll (some (mm - ll)) (by obtain ⟨κ, h3, h4⟩ := h0; exact ⟨κ, h3, by omega⟩) h1 h2 rfl (.inr (hok rfl)) e5

theorem vSlA_ok {t el : TypeId} {n sz : Nat} {x : Operand} {lo hi mx : Option Operand} {x' : Opd} {lo' hi' mx' : Option Opd} (ht : c.P.underlying t = some (.array n el)) (hs : c.size el = some sz) (hx : c.opd ds x = some x')
    (hlo : c.optO ds lo = some lo') (hhi : c.optO ds hi = some hi') (hmx : c.optO ds mx = some mx') (hok : mx.isSome = true → hi.isSome = true) : VOk G ρ m L T tmps h w (vSlA x' lo' hi' mx' n sz) (.slice t x lo hi mx) := by
  intro k o h' he
  obtain ⟨a, hv, e1⟩ := opd_sound hc r e hx he
  rw [hc] at ht
  have hsz := fun w => run_sizeOf (w := w) hc hs
  obtain ⟨b, i, rfl, e2⟩ := AV.onPtr_inv e1
  obtain ⟨pl, hm, hv⟩ := hv
  obtain ⟨mm, h0, e3⟩ := opt_ok hc r e hmx e2
  obtain ⟨hh, h1, e4⟩ := opt_ok hc r e hhi e3
  obtain ⟨ll, h2, e5⟩ := opt_ok hc r e hlo e4
  have hmn : mm ≤ n := h0.le (Nat.le_refl _)
  have hhm : hh ≤ mm := by
    cases mx with
    | none => have h0 : mm = n := h0; exact h1.le (by omega)
    | some y =>
      cases hi with
      | none => simp at hok
      | some z => obtain ⟨_, _, h⟩ := h1; exact h
  have hll : ll ≤ hh := h2.le (Nat.zero_le _)
  have hb := fun w => run_sliceBounds (w := w) (isS := false) (P := G.P) h0 h1 h2 hok
  refine ⟨.slice b (i + ll * sz) (hh - ll) (some (mm - ll)), .slice (some (if mm = ll then ⟨pl.blk, pl.base + i, none⟩ else ⟨pl.blk, pl.base + i + ll * sz, none⟩)) (hh - ll) (mm - ll), ⟨pl, _, _, hm, rfl, by omega, fun hlt => ?_, rfl⟩, e5, fun oper hop => ?_⟩
  · rw [if_neg (by omega), Nat.add_assoc]
  · simp only [execOp, hop, hv, Instr.sliceAt, Instr.sureAddr, Sem.run_bind, run_underlying ht, Result.andThen_ok, hb, hsz, Sem.run_pure, Addr.add_lit]

theorem vIxL_ok {t el : TypeId} {sz : Nat} {x i : Operand} {x' i' : Opd} (ht : c.P.underlying t = some (.slice el)) (hs : c.size el = some sz) (hx : c.opd ds x = some x') (hi : c.opd ds i = some i') :
    VOk G ρ m L T tmps h w (vIxL x' i' sz) (.indexAddr t x i) := by
  intro k o h' he
  obtain ⟨a, hv, e1⟩ := opd_sound hc r e hx he
  obtain ⟨b, hv2, e2⟩ := opd_sound hc r e hi e1
  rcases AV.onSlice_inv e2 with ⟨rfl, e3⟩ | ⟨b, o0, n, cp, rfl, e3⟩
  · cases e3
  obtain ⟨κ, j, rfl, hj, e4⟩ := idxK_inv e3
  rw [natK_eq] at e4
  obtain ⟨pl, ad, cc, hm, hv, hnc, had, hcr⟩ := hv
  simp only [VR, Int.ofNat_eq_natCast] at hv2
  rw [hc] at ht
  have hel : G.P.elem t = el := by simp [Program.elem, ht]
  have hcond : (0 : Int) ≤ (j : Int) ∧ (j : Int) < (n : Int) := ⟨by omega, by omega⟩
  have hrun := run_indexAt_slice (P := G.P) w t ad n cc (kOf κ) (j : Int) (by rw [hel]; exact ht)
  rw [if_pos hcond, hel, run_sizeOf hc hs, Result.andThen_ok, had (by omega), Addr.add_lit] at hrun
  refine ⟨.ptr b (o0 + j * sz), .pointer (some ⟨pl.blk, pl.base + (o0 + j * sz), none⟩), ⟨pl, hm, rfl⟩, e4, fun oper hop => ?_⟩
  rw [had (by omega)] at hv
  simp only [execOp, hop, hv, hv2, Sem.run_bind, hrun, Result.andThen_ok, Sem.run_pure, Int.toNat_natCast, Nat.add_assoc]

theorem vIxA_ok {t el : TypeId} {n sz : Nat} {x i : Operand} {x' i' : Opd} (ht : c.P.underlying t = some (.array n el)) (hs : c.size el = some sz) (hx : c.opd ds x = some x') (hi : c.opd ds i = some i') :
    VOk G ρ m L T tmps h w (vIxA x' i' n sz) (.indexAddr t x i) := by
  intro k o h' he
  obtain ⟨a, hv, e1⟩ := opd_sound hc r e hx he
  obtain ⟨b, hv2, e2⟩ := opd_sound hc r e hi e1
  obtain ⟨b, o0, rfl, e3⟩ := AV.onPtr_inv e2
  obtain ⟨κ, j, rfl, hj, e4⟩ := idxK_inv e3
  rw [natK_eq] at e4
  obtain ⟨pl, hm, hv⟩ := hv
  simp only [VR, Int.ofNat_eq_natCast] at hv2
  rw [hc] at ht
  have hel : G.P.elem t = el := by simp [Program.elem, ht]
  have hen : G.P.arrayLen t = n := by simp [Program.arrayLen, ht]
  have hcond : (0 : Int) ≤ (j : Int) ∧ (j : Int) < (n : Int) := ⟨by omega, by omega⟩
  have hrun := run_indexAt_array (P := G.P) w t ⟨pl.blk, pl.base + o0, none⟩ (kOf κ) (j : Int) (by rw [hel, hen]; exact ht)
  rw [hen, if_pos hcond, hel, run_sizeOf hc hs, Result.andThen_ok, Addr.add_lit] at hrun
  refine ⟨.ptr b (o0 + j * sz), .pointer (some ⟨pl.blk, pl.base + (o0 + j * sz), none⟩), ⟨pl, hm, rfl⟩, e4, fun oper hop => ?_⟩
  simp only [execOp, hop, hv, hv2, Sem.run_bind, hrun, Result.andThen_ok, Sem.run_pure, Int.toNat_natCast, Nat.add_assoc]

theorem vIxG_ok {t el : TypeId} {n sz : Nat} {agg : Bool} {x i : Operand} {x' i' : Opd} (ht : c.P.underlying t = some (.array n el)) (hs : c.size el = some sz) (ha : c.isAgg el = some agg) (hx : c.opd ds x = some x') (hi : c.opd ds i = some i') :
    VOk G ρ m L T tmps h w (vIxG x' i' n sz agg) (.index t x i) := by
  intro k o h' he
  obtain ⟨a, hv, e1⟩ := opd_sound hc r e hx he
  obtain ⟨b, hv2, e2⟩ := opd_sound hc r e hi e1
  obtain ⟨l, rfl, e3⟩ := AV.onAgg_inv e2
  obtain ⟨κ, j, rfl, hj, e4⟩ := idxK_inv e3
  rw [natK_eq] at e4
  obtain ⟨xs, hv, hl, h1⟩ := hv
  simp only [VR] at hv2
  obtain ⟨a, v, h2, h3, h4⟩ := part_ok hc r e hs ha hl h1 e4
  rw [hc] at ht
  have hcond : (0 : Int) ≤ Int.ofNat j ∧ Int.ofNat j < (n : Int) := ⟨Int.natCast_nonneg j, Int.ofNat_lt.2 hj⟩
  refine ⟨a, v, h2, h3, fun oper hop => ?_⟩
  simp only [execOp, hop, hv, hv2, Instr.index, asIntOf, Sem.run_bind, Sem.run_pure, Result.andThen_ok, run_underlying ht, if_pos hcond, run_sizeOf hc hs]
  rw [show (part el xs ((Int.ofNat j).toNat * sz)).run G.P w = .ok v w from h4]
  rfl

end
end Go.Proofs.YtpngpoeifgkclaaGreatDoor.Am

/- Builtin functions, equality, maps that are read. -/
namespace Go.Proofs.YtpngpoeifgkclaaGreatDoor.Am

section
variable {G : Gp} {ρ : Rho} {m : M} {h : Hp} {w : World}

theorem exec_builtin {k : Call} {b : Builtin} (hk : k.callee = .builtin b) {ρ' : Operand → Value} {oper : Oper} (ho : oper.op = .call k) (P : Program) :
    ∃ cs, (execOp ρ' oper).run P w = (builtin b k.argTypes oper.type cs (k.args.map ρ')).run P w := by
  refine ⟨k.args.map fun | .const _ => true | _ => false, ?_⟩
  simp only [execOp, ho, resolve, hk, Sem.run_bind, Sem.run_pure, Result.andThen_ok, invoke]
  rfl

theorem exec_extern {k : Call} {f : Nat} {fn : Func} {E : Array Value → Sem Value} (hk : k.callee = .value (.func f)) {tmps : Array Value} {oper : Oper} (ho : oper.op = .call k) {P : Program}
    (hf : P.funcs[f]? = some fn) (hname : (fn.name == "runtime.NumGoroutine") = false) (hb : fn.body.isNone = true) (hn : Extern.findNext fn = none) (he : Extern.find fn = some E) :
    (execOp (ev tmps) oper).run P w = ((E (k.args.map (ev tmps))).run P w).andThen fun v w' => .ok (.value v) w' := by
  simp only [execOp, ho, resolve, hk, ev, Deferred.ofValue, Sem.run_bind, Sem.run_pure, Result.andThen_ok, invoke, Array.append_empty, Array.empty_append]
  exact run_callFunc_extern hf hname hb hn he _ w

theorem find_indexByte {fn : Func} (hn : fn.name = "internal/bytealg.IndexByteString") (ho : fn.origin = "") :
    (fn.name == "runtime.NumGoroutine") = false ∧ Extern.findNext fn = none ∧ Extern.find fn = some Extern.BytealgIndexByte.indexByte := by
  have h1 : Extern.allNextRows.lookup "internal/bytealg.IndexByteString" = none := by kernel_rfl
  have h2 : Extern.allNextRows.lookup "" = none := by kernel_rfl
  have h3 : Extern.allGenericRows.lookup "internal/bytealg.IndexByteString" = none := by kernel_rfl
  have h4 : Extern.allTypedRows.lookup "internal/bytealg.IndexByteString" = none := by kernel_rfl
  have h5 : Extern.allRows.lookup "internal/bytealg.IndexByteString" = some Extern.BytealgIndexByte.indexByte := by kernel_rfl
  refine ⟨by rw [hn]; decide, ?_, ?_⟩
  · simp only [Extern.findNext, hn, ho, h1, h2]; rfl
  · simp only [Extern.find, hn, ho, h3, h4, h5]; rfl

theorem find_count {fn : Func} (hn : fn.name = "internal/bytealg.CountString") (ho : fn.origin = "") :
    (fn.name == "runtime.NumGoroutine") = false ∧ Extern.findNext fn = none ∧ Extern.find fn = some Extern.BytealgCount.count := by
  have h1 : Extern.allNextRows.lookup "internal/bytealg.CountString" = none := by kernel_rfl
  have h2 : Extern.allNextRows.lookup "" = none := by kernel_rfl
  have h3 : Extern.allGenericRows.lookup "internal/bytealg.CountString" = none := by kernel_rfl
  have h4 : Extern.allTypedRows.lookup "internal/bytealg.CountString" = none := by kernel_rfl
  have h5 : Extern.allRows.lookup "internal/bytealg.CountString" = some Extern.BytealgCount.count := by kernel_rfl
  refine ⟨by rw [hn]; decide, ?_, ?_⟩
  · simp only [Extern.findNext, hn, ho, h1, h2]; rfl
  · simp only [Extern.find, hn, ho, h3, h4, h5]; rfl

theorem idxB_ok {c : UInt8} {l : List UInt8} : ∀ {i : Nat} {k : Int → Res} {o : AOut} {h' : Hp}, idxB c.toNat l.length (codeOf l) i k = .ok o h' →
    k (if Lib.indexByte l c = -1 then -1 else Lib.indexByte l c + i) = .ok o h' := by
  induction l with
  | nil => intro i k o h' e; exact e
  | cons b l ih =>
    intro i k o h' e
    have hb := u8_lt b
    have h1 : codeOf (b :: l) % 256 = b.toNat := by rw [codeOf_cons]; omega
    have h2 : codeOf (b :: l) / 256 = codeOf l := by rw [codeOf_cons]; omega
    have e : ifK (Nat.beq (codeOf (b :: l) % 256) c.toNat) (k (.ofNat i)) (natK (codeOf (b :: l) / 256) fun v => natK (Nat.succ i) fun i => idxB c.toNat l.length v i k) = .ok o h' := e
    rw [ifK_eq, natK_eq, natK_eq, h1, h2] at e
    have hge := Lib.indexByte_ge l c
    by_cases hbc : b = c
    · subst hbc
      simp only [Nat.beq_refl, if_true] at e
      have : Lib.indexByte (b :: l) b = 0 := by simp [Lib.indexByte]
      rw [this, if_neg (by decide)]
      simpa using e
    · have hne : ¬ (Nat.beq b.toNat c.toNat = true) := by
        intro h; exact hbc (UInt8.toNat_inj.1 (Nat.eq_of_beq_eq_true h))
      rw [if_neg hne] at e
      have e2 := ih e
      have hib : Lib.indexByte (b :: l) c = if Lib.indexByte l c = -1 then -1 else Lib.indexByte l c + 1 := by simp [Lib.indexByte, hbc]
      rw [hib]
      by_cases hm : Lib.indexByte l c = -1
      · simpa [hm] using e2
      · rw [if_neg hm] at e2
        rw [if_neg hm, if_neg (by omega)]
        have : Lib.indexByte l c + 1 + (i : Int) = Lib.indexByte l c + ((i.succ : Nat) : Int) := by omega
        rw [this]; exact e2

theorem cntB_ok {c : UInt8} {l : List UInt8} : ∀ {a : Nat} {k : Nat → Res} {o : AOut} {h' : Hp}, cntB c.toNat l.length (codeOf l) a k = .ok o h' → k (a + l.count c) = .ok o h' := by
  induction l with
  | nil => intro a k o h' e; exact e
  | cons b l ih =>
    intro a k o h' e
    have hb := u8_lt b
    have h1 : codeOf (b :: l) % 256 = b.toNat := by rw [codeOf_cons]; omega
    have h2 : codeOf (b :: l) / 256 = codeOf l := by rw [codeOf_cons]; omega
    have e : natK (codeOf (b :: l) / 256) (fun w => ifK (Nat.beq (codeOf (b :: l) % 256) c.toNat) (natK (Nat.succ a) fun a => cntB c.toNat l.length w a k) (cntB c.toNat l.length w a k)) = .ok o h' := e
    rw [natK_eq, ifK_eq, natK_eq, h1, h2] at e
    by_cases hbc : b = c
    · subst hbc
      simp only [Nat.beq_refl, if_true] at e
      have := ih e
      rw [List.count_cons_self]
      rw [show a + (List.count b l + 1) = a.succ + List.count b l by omega]; exact this
    · have hne : ¬ (Nat.beq b.toNat c.toNat = true) := by
        intro h; exact hbc (UInt8.toNat_inj.1 (Nat.eq_of_beq_eq_true h))
      rw [if_neg hne] at e
      rw [List.count_cons_of_ne hbc]; exact ih e

theorem byteK_inv {v : AV} {k : Nat → Res} {o : AOut} {h' : Hp} (e : byteK v k = .ok o h') : ∃ b : UInt8, v = .int 4 (Int.ofNat b.toNat) ∧ k b.toNat = .ok o h' := by
  obtain ⟨κ, n, rfl, e1⟩ := AV.onInt_inv e
  obtain ⟨e2, e3⟩ := ifK_inv e1
  obtain rfl := Nat.eq_of_beq_eq_true e2
  cases n with
  | negSucc _ => cases e3
  | ofNat i =>
    obtain ⟨e4, e5⟩ := ifK_inv (show ifK (Nat.blt i 256) (k i) .bad = .ok o h' from e3)
    have hi : i < 256 := by simpa [Nat.blt_eq] using e4
    have : (UInt8.ofNat i).toNat = i := by simp; omega
    exact ⟨UInt8.ofNat i, by rw [this], by rw [this]; exact e5⟩

theorem u8_back (b : UInt8) : ((b.toNat : Int).toNat).toUInt8 = b := by simp

section
variable {c : Cx} {ds : List Nat} {L : List AV} {T : VT} {tmps : Array Value} (hc : c.P = G.P) (r : Rel G ρ m h w) (e : Env c m ds L T tmps G ρ)
include hc r e

omit hc r e in
theorem opds_two {l : List Operand} {x' y' : Opd} (h : c.opds ds l = some [x', y']) : ∃ x y, l = [x, y] ∧ c.opd ds x = some x' ∧ c.opd ds y = some y' := by
  cases l with
  | nil => simp [Cx.opds] at h
  | cons x l =>
    simp only [Cx.opds] at h
    split at h
    · rename_i a b h1 h2
      simp only [Option.some.injEq, List.cons.injEq] at h
      obtain ⟨rfl, rfl⟩ := h
      cases l with
      | nil => simp [Cx.opds] at h2
      | cons y l =>
        simp only [Cx.opds] at h2
        split at h2
        · rename_i a2 b2 h3 h4
          simp only [Option.some.injEq, List.cons.injEq] at h2
          obtain ⟨rfl, rfl⟩ := h2
          cases l with
          | nil => exact ⟨x, y, rfl, h1, h3⟩
          | cons z l => simp only [Cx.opds] at h4; split at h4 <;> simp at h4
        · cases h2
    · cases h
omit hc r e in
theorem opds_one {l : List Operand} {x' : Opd} (h : c.opds ds l = some [x']) : ∃ x, l = [x] ∧ c.opd ds x = some x' := by
  cases l with
  | nil => simp [Cx.opds] at h
  | cons x l =>
    simp only [Cx.opds] at h
    split at h
    · rename_i a b h1 h2
      simp only [Option.some.injEq, List.cons.injEq] at h
      obtain ⟨rfl, rfl⟩ := h
      cases l with
      | nil => exact ⟨x, rfl, h1⟩
      | cons y l => simp only [Cx.opds] at h2; split at h2 <;> simp at h2
    · cases h

omit hc r e in
theorem arr_of_list {α : Type} {a : Array α} {l : List α} (h : a.toList = l) : a = l.toArray := by rw [← h]

omit hc r e in
theorem len_cut {argTypes : Array TypeId} {t : TypeId} {ts : List TypeId} (h : argTypes.toList = t :: ts) (u : TypeId) (x : Value) : Builtin.len_ argTypes u #[x] = Builtin.len_ #[t] u #[x] := by
  rw [arr_of_list h]
  simp [Builtin.len_]

theorem vLn_ok {k : Call} {t : TypeId} {ts : List TypeId} {x' : Opd} {d : TypeDesc} {vo : EK} (hk : k.callee = .builtin .len) (ht : c.P.underlying t = some d) (hts : k.argTypes.toList = t :: ts) (hx : c.opds ds k.args.toList = some [x'])
    (hvo : (d = .string ∧ vo = vLnS x') ∨ (∃ el, d = .slice el ∧ vo = vLnL x') ∨ (∃ a b, d = .map a b ∧ vo = vLnM x')) : VOk G ρ m L T tmps h w vo (.call k) := by
  intro kk o h' he
  obtain ⟨x, hxl, hx1⟩ := opds_one hx
  have hargs : k.args.map (ev tmps) = #[ev tmps x] := by rw [arr_of_list hxl]; simp
  have fin : (∃ a v, VR ρ m a v ∧ kk a = .ok o h' ∧ ∀ u, (Builtin.len_ #[t] u #[ev tmps x]).run G.P w = .ok v w) → ∃ a v, VR ρ m a v ∧ kk a = .ok o h' ∧ ∀ oper : Oper, oper.op = .call k → (execOp (ev tmps) oper).run G.P w = .ok (.value v) w := by
    rintro ⟨a, v, h1, h2, h3⟩
    refine ⟨a, v, h1, h2, fun oper ho => ?_⟩
    obtain ⟨cs, hcs⟩ := exec_builtin (w := w) hk (ρ' := ev tmps) ho G.P
    rw [hcs, hargs]
    simp only [builtin, len_cut hts, Sem.run_bind, h3, Result.andThen_ok, Sem.run_pure]
  apply fin
  rw [hc] at ht
  rcases hvo with ⟨rfl, rfl⟩ | ⟨el, rfl, rfl⟩ | ⟨p, q, rfl, rfl⟩
  · obtain ⟨a, hv, e1⟩ := opd_sound hc r e hx1 he
    rcases AV.onSymOr_inv e1 with ⟨j, rfl, e1⟩ | e1
    · obtain ⟨l, hl, e2⟩ := symLenK_inv e1
      obtain ⟨s, hs, _, hlen⟩ := ρ.ok.strs j l hl
      have hv := hv.1.trans hs
      exact ⟨.sym l, goInt s.size, ⟨hlen.symm, rfl⟩, e2, fun u => by rw [hv, run_len_string w t u s ht]⟩
    obtain ⟨n, v, rfl, e2⟩ := AV.onStr_inv e1
    obtain ⟨s, hv, hs⟩ := hv
    exact ⟨.int 3 (.ofNat n), goInt n, rfl, e2, fun u => by rw [hv, run_len_string w t u s ht, hs.size]⟩
  · obtain ⟨a, hv, e1⟩ := opd_sound hc r e hx1 he
    rcases AV.onSlice_inv e1 with ⟨rfl, e2⟩ | ⟨b, i, n, cp, rfl, e2⟩
    · simp only [VR] at hv
      exact ⟨.int 3 0, goInt 0, rfl, e2, fun u => by rw [hv]; simp [Builtin.len_, run_underlying ht]⟩
    · obtain ⟨pl, ad, cc, hm, hv, _⟩ := hv
      exact ⟨.int 3 (.ofNat n), goInt n, rfl, e2, fun u => by rw [hv]; simp [Builtin.len_, run_underlying ht]⟩
  · obtain ⟨a, hv, e1⟩ := opd_sound hc r e hx1 he
    rcases AV.onMap_inv e1 with ⟨rfl, e2⟩ | ⟨b, rfl, e2⟩
    · simp only [VR] at hv
      exact ⟨.int 3 0, goInt 0, rfl, e2, fun u => by rw [hv]; simp [Builtin.len_, run_underlying ht]⟩
    · obtain ⟨hb, e3⟩ := atK_inv e2
      obtain ⟨es, cl, hob, e4⟩ := AObj.onMap_inv e3
      obtain ⟨pl, hm, hv⟩ := hv
      obtain ⟨hlt, hobj⟩ := obj_ok r hb hm
      rw [hob] at hobj
      obtain ⟨E, hE, hER⟩ := hobj
      have hlen : ∀ (es : List AEnt) (E : List MapEntry), EntR ρ m es E → E.length = es.length := by
        intro es
        induction es with
        | nil => intro E h; simp only [EntR] at h; simp [h]
        | cons a l ih => rintro E ⟨e, r, rfl, _, _, _, h⟩; simp [ih r h]
      have hle : ∀ (es : List AEnt) (kk : Nat → Res), lenE es kk = kk es.length := by
        intro es
        induction es with
        | nil => intro kk; rfl
        | cons a l ih => intro kk; show lenE l _ = _; rw [ih]; rfl
      rw [hle] at e4
      refine ⟨.int 3 (.ofNat es.length), goInt es.length, rfl, e4, fun u => ?_⟩
      have hsz : E.size = es.length := by rw [← Array.length_toList]; exact hlen _ _ hER
      rw [hv]
      simp [Builtin.len_, run_underlying ht, getObj, Sem.run, hE, hsz]

theorem vMn_ok {k : Call} {x' y' : Opd} (hk : k.callee = .builtin .min) (hx : c.opds ds k.args.toList = some [x', y']) : VOk G ρ m L T tmps h w (vMn x' y') (.call k) := by
  intro kk o h' he
  obtain ⟨x, y, hxl, hx1, hy1⟩ := opds_two hx
  have hargs : k.args.map (ev tmps) = #[ev tmps x, ev tmps y] := by rw [arr_of_list hxl]; simp
  obtain ⟨a, hv, e1⟩ := opd_sound hc r e hx1 he
  obtain ⟨b, hv2, e2⟩ := opd_sound hc r e hy1 e1
  obtain ⟨k1, n1, rfl, e3⟩ := AV.onInt_inv e2
  obtain ⟨k2, n2, rfl, e4⟩ := AV.onInt_inv e3
  simp only [VR] at hv hv2
  rw [ifK_eq, ltI_eq] at e4
  refine ⟨.int k1 (if n2 < n1 then n2 else n1), .int (kOf k1) (if n2 < n1 then n2 else n1), rfl, ?_, fun oper ho => ?_⟩
  · by_cases hlt : n2 < n1 <;> simp [hlt] at e4 ⊢ <;> exact e4
  · obtain ⟨cs, hcs⟩ := exec_builtin (w := w) hk (ρ' := ev tmps) ho G.P
    rw [hcs, hargs, hv, hv2]
    simp [builtin, Builtin.min_, Builtin.min2]

theorem vMx_ok {k : Call} {x' y' : Opd} (hk : k.callee = .builtin .max) (hx : c.opds ds k.args.toList = some [x', y']) : VOk G ρ m L T tmps h w (vMx x' y') (.call k) := by
  intro kk o h' he
  obtain ⟨x, y, hxl, hx1, hy1⟩ := opds_two hx
  have hargs : k.args.map (ev tmps) = #[ev tmps x, ev tmps y] := by rw [arr_of_list hxl]; simp
  obtain ⟨a, hv, e1⟩ := opd_sound hc r e hx1 he
  obtain ⟨b, hv2, e2⟩ := opd_sound hc r e hy1 e1
  obtain ⟨k1, n1, rfl, e3⟩ := AV.onInt_inv e2
  obtain ⟨k2, n2, rfl, e4⟩ := AV.onInt_inv e3
  simp only [VR] at hv hv2
  rw [ifK_eq, ltI_eq] at e4
  refine ⟨.int k1 (if n2 > n1 then n2 else n1), .int (kOf k1) (if n2 > n1 then n2 else n1), rfl, ?_, fun oper ho => ?_⟩
  · by_cases hlt : n1 < n2 <;> simp [hlt] at e4 ⊢ <;> exact e4
  · obtain ⟨cs, hcs⟩ := exec_builtin (w := w) hk (ρ' := ev tmps) ho G.P
    rw [hcs, hargs, hv, hv2]
    simp [builtin, Builtin.max_, Builtin.max2]

theorem vIbs_ok {k : Call} {f : Nat} {fn : Func} {x' y' : Opd} (hk : k.callee = .value (.func f)) (hf : c.P.funcs[f]? = some fn) (hb : fn.body = none) (hn : fn.name = "internal/bytealg.IndexByteString") (ho : fn.origin = "")
    (hx : c.opds ds k.args.toList = some [x', y']) : VOk G ρ m L T tmps h w (vIbs x' y') (.call k) := by
  intro kk o h' he
  obtain ⟨x, y, hxl, hx1, hy1⟩ := opds_two hx
  have hargs : k.args.map (ev tmps) = #[ev tmps x, ev tmps y] := by rw [arr_of_list hxl]; simp
  obtain ⟨a, hv, e1⟩ := opd_sound hc r e hx1 he
  obtain ⟨b, hv2, e2⟩ := opd_sound hc r e hy1 e1
  obtain ⟨n, v, rfl, e3⟩ := AV.onStr_inv e2
  obtain ⟨b8, rfl, e4⟩ := byteK_inv e3
  obtain ⟨s, hv, hs⟩ := hv
  have hv2 : ev tmps y = .int .u8 (b8.toNat : Int) := hv2
  rw [← hs.1, ← hs.2] at e4
  have e5 := idxB_ok e4
  have hge := Lib.indexByte_ge s.data.toList b8
  obtain ⟨f1, f2, f3⟩ := find_indexByte hn ho
  rw [hc] at hf
  refine ⟨.int 3 (Lib.indexByte s.data.toList b8), .int .i64 (Lib.indexByte s.data.toList b8), rfl, ?_, fun oper hop => ?_⟩
  · split at e5
    · rename_i h; rw [h]; exact e5
    · simpa using e5
  · rw [exec_extern hk hop hf f1 (by rw [hb]; rfl) f2 f3, hargs, hv, hv2, Lib.run_indexByteString, Result.andThen_ok, u8_back]

theorem vCts_ok {k : Call} {f : Nat} {fn : Func} {x' y' : Opd} (hk : k.callee = .value (.func f)) (hf : c.P.funcs[f]? = some fn) (hb : fn.body = none) (hn : fn.name = "internal/bytealg.CountString") (ho : fn.origin = "")
    (hx : c.opds ds k.args.toList = some [x', y']) : VOk G ρ m L T tmps h w (vCts x' y') (.call k) := by
  intro kk o h' he
  obtain ⟨x, y, hxl, hx1, hy1⟩ := opds_two hx
  have hargs : k.args.map (ev tmps) = #[ev tmps x, ev tmps y] := by rw [arr_of_list hxl]; simp
  obtain ⟨a, hv, e1⟩ := opd_sound hc r e hx1 he
  obtain ⟨b, hv2, e2⟩ := opd_sound hc r e hy1 e1
  obtain ⟨n, v, rfl, e3⟩ := AV.onStr_inv e2
  obtain ⟨b8, rfl, e4⟩ := byteK_inv e3
  obtain ⟨s, hv, hs⟩ := hv
  have hv2 : ev tmps y = .int .u8 (b8.toNat : Int) := hv2
  rw [← hs.1, ← hs.2] at e4
  have e5 := cntB_ok e4
  rw [Nat.zero_add] at e5
  obtain ⟨f1, f2, f3⟩ := find_count hn ho
  rw [hc] at hf
  refine ⟨.int 3 (.ofNat (s.data.toList.count b8)), .int .i64 (s.data.toList.count b8 : Nat), rfl, e5, fun oper hop => ?_⟩
  rw [exec_extern hk hop hf f1 (by rw [hb]; rfl) f2 f3, hargs, hv, hv2, Lib.run_countString, Result.andThen_ok, u8_back]
  rfl

end
end
end Go.Proofs.YtpngpoeifgkclaaGreatDoor.Am

