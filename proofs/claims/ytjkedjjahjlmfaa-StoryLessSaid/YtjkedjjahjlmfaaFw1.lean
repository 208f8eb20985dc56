/- Abstract data, abstract store, the small compiled language, and its meaning (no proof about the machine here). -/
import Derived.CallsIn
namespace Go.Dn
set_option linter.unusedVariables false

/-- Pure data: what Go values read as, slices by value. A row is the list of one element's cells. -/
inductive D where
  | int (k : IntKind) (n : Int)
  | bool (b : Bool)
  | str (s : List UInt8)
  | nilp | nils | nilm | nilf | nili
  | iface (t : Nat) (d : D)
  | list (rows : List (List D))
  | agg (cs : List D)
  deriving Inhabited

/-- Values of the abstract machine. `sl`: a slice of a mutable array object; `fl`: a slice whose capacity is its length; `tl`: a slice that may grow (token `t`, first row `st`); `ro`: the address of cells that stay. -/
inductive V where
  | d (x : D)
  | da (cs : List D)
  | agg (cs : List V)
  | tup (vs : List V)
  | ref (r off : Nat)
  | ro (cs : List D)
  | sl (r off len sz : Nat)
  | fl (rows : List (List D))
  | tl (rows : List (List D)) (t st sz : Nat)
  | map (r : Nat)
  | fn (f : Fn) (first caps : List V)
  | ifc (t : Nat) (v : V)
  | gone
  | any
  deriving Inhabited

inductive Obj where
  | cells (cs : List V)
  | map (es : List (D × V))
  | dead
  | free
  deriving Inhabited

structure St where
  objs : List Obj
  toks : List Nat

def St.empty : St := ⟨[], []⟩

abbrev Env := List (Nat × V)

def Env.get : Env → Nat → V
  | [], _ => .any
  | (s, v) :: r, t => if s = t then v else Env.get r t

def Env.set : Env → Nat → V → Env
  | [], t, x => [(t, x)]
  | (s, v) :: r, t, x => if s = t then (t, x) :: r else (s, v) :: Env.set r t x

/-- Keep these slots alone, in this order. -/
def Env.pick (e : Env) (ks : List Nat) : Env := ks.map fun k => (k, e.get k)

inductive Opd where
  | t (n : Nat)
  | c (x : D)
  | ca (l : List D)
  | f (k : Nat)
  deriving Inhabited

def Opd.ev (e : Env) : Opd → V
  | .t n => e.get n
  | .c x => .d x
  | .ca l => .da l
  | .f k => .fn (.func k) [] []

/-- What two operands are compared as, or reckoned with. -/
inductive Ty where
  | int | bool | str | ptr | slice | map | func | iface | flat
  deriving Inhabited, DecidableEq

/-- A leaf that is compared by its bits. -/
inductive Lf where
  | int (k : IntKind) | bool | str
  deriving Inhabited, DecidableEq

inductive Conv where
  | int (k : IntKind)
  | strBytes (e : Nat)
  | bytesStr
  | same
  deriving Inhabited, DecidableEq

/-- Operations that leave the store as it is. -/
inductive POp where
  | move (x : Opd)
  | pick (c a b : Opd)
  | bin (op : BinOp) (ty : Ty) (ks : List Lf) (x y : Opd)
  | una (op : UnOp) (x : Opd)
  | conv (k : Conv) (x : Opd)
  | load (agg : Bool) (n : Nat) (x : Opd)
  | nilCheck (x : Opd)
  | faddr (off : Nat) (x : Opd)
  | field (agg : Bool) (off n : Nat) (x : Opd)
  | iaddr (sz : Nat) (x i : Opd)
  | iaddrArr (len sz : Nat) (x i : Opd)
  | index (agg : Bool) (len sz : Nat) (x i : Opd)
  | indexStr (x i : Opd)
  | slice (sz : Nat) (x : Opd) (lo hi mx : Option Opd)
  | sliceStr (x : Opd) (lo hi : Option Opd)
  | sliceArr (n sz : Nat) (x : Opd) (lo hi : Option Opd)
  | bslice (e len sz : Nat) (zero : List D) (parts : List (Nat × Opd))
  | build (zero : List D) (parts : List (Nat × Nat × Opd))
  | len (ty : Ty) (x : Opd)
  | lenArr (n : Nat)
  | min (xs : List Opd)
  | max (xs : List Opd)
  | mkif (t : Nat) (x : Opd)
  | assert (t : Nat) (zero : Opd) (ok : Bool) (x : Opd)
  | extract (x : Opd) (i : Nat)
  | mkfn (f : Fn) (first caps : List Opd)
  | lookup (zero : List V) (agg : Bool) (ok : Bool) (x k : Opd)
  deriving Inhabited

/-- Operations that turn the store. -/
inductive EOp where
  | alloc (zero : List V)
  | box (x : Opd)
  | store (n : Nat) (a x : Opd)
  | append (e sz bytes : Nat) (s x : Opd)
  | appendStr (e : Nat) (s x : Opd)
  | appendZero (e sz bytes : Nat) (zero : List D) (s n : Opd)
  | copy (sz : Nat) (s x : Opd)
  | clear (sz : Nat) (zero : List D) (s : Opd)
  | makeSlice (e sz bytes : Nat) (zero : List D) (len cap : Opd)
  | makeMap
  | mapUpdate (m k x : Opd)
  | mapDelete (m k : Opd)
  deriving Inhabited

/-- How a call hands over: `val`: all by value, nothing of the store; `raw`: as it stands; `rd`: as it stands, and the store is kept as it is. -/
inductive Mode where
  | val | raw | rd
  deriving Inhabited, DecidableEq

inductive Ins where
  | p (dst : Option Nat) (op : POp)
  | e (dst : Option Nat) (op : EOp)
  | call (dst : Option Nat) (f : Nat) (args : List Opd)
  | callv (dst : Option Nat) (f : Opd) (args : List Opd)
  | when (s : Nat) (want : Bool) (body : List Ins)
  deriving Inhabited

/-- An operation of a region that draws its order: its guard, what stands ahead of it, which new object it may lay. -/
structure DOp where
  guard : Option (Nat × Bool)
  ins : Ins
  after : List Nat
  al : Nat
  deriving Inhabited

inductive C where
  | skip
  | ops (ks : List Nat) (l : List Ins)
  | drw (ks : List Nat) (na : Nat) (l : List DOp)
  | seq (a b : C)
  | cond (c : Opd) (thn els : C)
  | block (id : Nat) (body : C)
  | loop (ks : List Nat) (body : C)
  | exit (id : Nat)
  | ret
  deriving Inhabited

inductive Ex where
  | normal | exit (id : Nat) | ret

/-! ### data out of values -/

def V.isD : V → Bool
  | .d _ => true
  | _ => false

def V.getD : V → D
  | .d x => x
  | _ => .nilp

/-- Cells as data, all of them pure. -/
def ofD : List V → Option (List D)
  | [] => some []
  | .d x :: r => match ofD r with
    | some l => some (x :: l)
    | none => none
  | _ :: _ => none

def mkAgg (cs : List V) : V :=
  match ofD cs with
  | some l => .da l
  | none => .agg cs

/-- The cells that a value takes; none: it is none that takes cells. -/
def V.cells : V → Option (List V)
  | .da l => some (l.map .d)
  | .agg l => some l
  | .tup _ | .any | .gone => none
  | v => some [v]

def rowsOf (sz : Nat) : Nat → List D → List (List D)
  | 0, _ => []
  | n + 1, l => l.take sz :: rowsOf sz n (l.drop sz)

/-- The rows that a slice has now. -/
def V.rows (σ : St) : V → Option (List (List D))
  | .d .nils => some []
  | .d (.list rows) => some rows
  | .fl rows => some rows
  | .tl rows _ _ _ => some rows
  | .sl r off len sz => match σ.objs[r]? with
    | some (.cells cs) => match ofD ((cs.drop off).take (len * sz)) with
      | some l => some (rowsOf sz len l)
      | none => none
    | _ => none
  | _ => none

def V.byVal (σ : St) : V → Option V
  | .d x => some (.d x)
  | .da l => some (.da l)
  | .fl rows => some (.d (.list rows))
  | .tl rows _ _ _ => some (.d (.list rows))
  | .sl r off len sz => match V.rows σ (.sl r off len sz) with
    | some rows => some (.d (.list rows))
    | none => none
  | _ => none

/-- By value, of the objects from `lo` on. -/
def V.byValN (lo : Nat) (σ : St) : V → Option V
  | .sl r off len sz => if lo ≤ r then V.byVal σ (.sl r off len sz) else none
  | v => V.byVal σ v

def V.borrows : V → Bool
  | .sl .. => true
  | _ => false

/-- Pure data of one part. -/
def V.flatv : V → Bool
  | .d _ | .da _ => true
  | _ => false

/-- Pure data, results of several parts too. -/
def V.pure : V → Bool
  | .d _ | .da _ => true
  | .tup vs => vs.all V.flatv
  | _ => false

def D.scalar : D → Bool
  | .int .. | .bool _ | .str _ | .nilp | .nils | .nilm | .nilf | .nili => true
  | .iface _ (.int ..) => true
  | _ => false

def V.scalar : V → Bool
  | .d x => x.scalar
  | .da l => l.all D.scalar
  | _ => false

def V.scalars : V → Bool
  | .tup vs => vs.all V.scalar
  | v => v.scalar

end Go.Dn
