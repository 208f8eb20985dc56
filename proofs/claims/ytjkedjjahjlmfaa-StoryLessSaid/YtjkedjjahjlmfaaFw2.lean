/- The meaning of the small language: a weakest precondition over pure data. Nothing about the machine yet. -/
import Derived.Test.YtjkedjjahjlmfaaFw1
import Derived.Laws.Entries
namespace Go.Dn
set_option linter.unusedVariables false
noncomputable section
open Classical

def Lf.fits : Lf → D → Bool
  | .int k, .int k' n => k == k' && decide (k.min ≤ n) && decide (n ≤ k.max)
  | .bool, .bool _ => true
  | .str, .str s => decide (s.length ≤ 9223372036854775807)
  | _, _ => false

def fitsAll : List Lf → List D → Bool
  | [], [] => true
  | k :: ks, d :: ds => k.fits d && fitsAll ks ds
  | _, _ => false

def intBin (op : BinOp) (k : IntKind) (a b : Int) : Option V :=
  match op with
  | .add => some (.d (.int k (k.wrap (a + b))))
  | .sub => some (.d (.int k (k.wrap (a - b))))
  | .mul => some (.d (.int k (k.wrap (a * b))))
  | .quo => if b = 0 then none else some (.d (.int k (k.wrap (a.tdiv b))))
  | .rem => if b = 0 then none else some (.d (.int k (a.tmod b)))
  | .and => some (.d (.int k (bits .and k a b)))
  | .or => some (.d (.int k (bits .or k a b)))
  | .xor => some (.d (.int k (bits .xor k a b)))
  | .andNot => some (.d (.int k (bits .andNot k a b)))
  | .eql => some (.d (.bool (decide (a = b))))
  | .neq => some (.d (.bool (!decide (a = b))))
  | .lss => some (.d (.bool (decide (a < b))))
  | .leq => some (.d (.bool (decide (a ≤ b))))
  | .gtr => some (.d (.bool (decide (b < a))))
  | .geq => some (.d (.bool (decide (b ≤ a))))
  | _ => none

def shiftBin (op : BinOp) (k : IntKind) (a b : Int) : Option V :=
  if b < 0 then none else
  match op with
  | .shl => some (.d (.int k (k.wrap (a * 2 ^ (min b.toNat k.bits)))))
  | .shr => some (.d (.int k (a / 2 ^ (min b.toNat k.bits))))
  | _ => none

def strBin (op : BinOp) (a b : List UInt8) : Option V :=
  match op with
  | .add => if ((a.length + b.length : Nat) : Int) ≤ 9223372036854775807 then some (.d (.str (a ++ b))) else none
  | .eql => some (.d (.bool (decide (a = b))))
  | .neq => some (.d (.bool (!decide (a = b))))
  | .lss => some (.d (.bool (Op.bytesLess a b)))
  | .leq => some (.d (.bool (Op.bytesLess a b || decide (a = b))))
  | .gtr => some (.d (.bool (!(Op.bytesLess a b || decide (a = b)))))
  | .geq => some (.d (.bool (!Op.bytesLess a b)))
  | _ => none

/-- Is a value its type's nil? (none: the value isn't of a type that has one, or it can't be told) -/
def V.isNil : Ty → V → Option Bool
  | .ptr, .d .nilp => some true
  | .ptr, .ref _ _ => some false
  | .ptr, .ro _ => some false
  | .slice, .d .nils => some true
  | .slice, .d (.list _) => some false
  | .slice, .fl _ => some false
  | .slice, .tl _ _ _ _ => some false
  | .slice, .sl .. => some false
  | .map, .d .nilm => some true
  | .map, .map _ => some false
  | .func, .d .nilf => some true
  | .func, .fn .. => some false
  | .iface, .d .nili => some true
  | .iface, .d (.iface ..) => some false
  | .iface, .ifc .. => some false
  | _, _ => none

def eqV (ty : Ty) (ks : List Lf) (x y : V) (xc yc : Bool) : Option Bool :=
  match ty with
  | .bool => match x, y with
    | .d (.bool a), .d (.bool b) => some (a == b)
    | _, _ => none
  | .flat => match x, y with
    | .da a, .da b => if fitsAll ks a && fitsAll ks b then some (decide (a = b)) else none
    | _, _ => none
  | t => match V.isNil t x, V.isNil t y with
    | some true, some true => if t = .iface then (if xc || yc then some true else none) else some true
    | some true, some false => some false
    | some false, some true => some false
    | _, _ => none

def Opd.isC : Opd → Bool
  | .c _ => true
  | .ca _ => true
  | _ => false

def evalBin (op : BinOp) (ty : Ty) (ks : List Lf) (x y : V) (xc yc : Bool) : Option V :=
  match x, y with
  | .d (.int k a), .d (.int k' b) =>
    match op with
    | .shl | .shr => shiftBin op k a b
    | op => if k = k' then intBin op k a b else none
  | .d (.str a), .d (.str b) => strBin op a b
  | x, y => match op with
    | .eql => (eqV ty ks x y xc yc).map fun b => .d (.bool b)
    | .neq => (eqV ty ks x y xc yc).map fun b => .d (.bool !b)
    | _ => none

def evalUn (op : UnOp) (x : V) : Option V :=
  match op, x with
  | .not, .d (.bool b) => some (.d (.bool !b))
  | .neg, .d (.int k n) => some (.d (.int k (k.wrap (0 - n))))
  | .xor, .d (.int k n) => some (.d (.int k (bits .xor k (if k.signed then -1 else k.max) n)))
  | _, _ => none

def byteRows (s : List UInt8) : List (List D) := s.map fun b => [D.int .u8 b.toNat]

def rowBytes : List (List D) → Option (List UInt8)
  | [] => some []
  | [.int .u8 n] :: r => match rowBytes r with
    | some l => some (UInt8.ofNat n.toNat :: l)
    | none => none
  | _ :: _ => none

def evalConv (σ : St) (k : Conv) (x : V) : Option V :=
  match k with
  | .int k => match x with
    | .d (.int _ n) => some (.d (.int k (k.wrap n)))
    | _ => none
  | .strBytes _ => match x with
    | .d (.str s) => some (.d (.list (byteRows s)))
    | _ => none
  | .bytesStr => match V.rows σ x with
    | some rows => match rowBytes rows with
      | some l => some (.d (.str l))
      | none => none
    | none => none
  | .same => match x with
    | .d (.str s) => some (.d (.str s))
    | _ => none

/-- Cells put over others from a place on. -/
def splice {α : Type} (cs : List α) (off : Nat) (xs : List α) : List α := cs.take off ++ xs ++ cs.drop (off + xs.length)

def loadAt (σ : St) (agg : Bool) (n : Nat) (x : V) : Option V :=
  match x with
  | .ref r off => match σ.objs[r]? with
    | some (.cells cs) =>
      if agg then (if off + n ≤ cs.length then some (mkAgg ((cs.drop off).take n)) else none)
      else cs[off]?
    | _ => none
  | .ro cs =>
    if agg then (if n ≤ cs.length then some (.da (cs.take n)) else none)
    else match cs with
      | c :: _ => some (.d c)
      | [] => none
  | _ => none

def partOf (agg : Bool) (off n : Nat) (x : V) : Option V :=
  match x with
  | .da l =>
    if agg then (if off + n ≤ l.length then some (.da ((l.drop off).take n)) else none)
    else match l[off]? with
      | some c => some (.d c)
      | none => none
  | .agg l =>
    if agg then (if off + n ≤ l.length then some (mkAgg ((l.drop off).take n)) else none)
    else l[off]?
  | _ => none

/-- An index: a number of any kind. -/
def asIdx : V → Option Int
  | .d (.int _ n) => some n
  | _ => none

def boundV (dflt : Nat) : Option V → Option Int
  | none => some dflt
  | some x => asIdx x

/-- Every row has so many cells. -/
def fitR (sz : Nat) (rows : List (List D)) : Bool := rows.all fun r => r.length == sz

/-- Slicing by value. -/
def sliceV (sz : Nat) (x : V) (lo hi : Nat) (mx : Option Nat) : Option V :=
  match x, mx with
  | .d .nils, none => if hi = 0 then some (.d .nils) else none
  | .d .nils, some m => if m = 0 then some (.d .nils) else none
  | .d (.list rows), none => if fitR sz rows = true ∧ hi ≤ rows.length then some (.d (.list ((rows.drop lo).take (hi - lo)))) else none
  | .fl rows, none => if fitR sz rows = false then none else if hi = rows.length then some (.fl (rows.drop lo)) else if hi ≤ rows.length then some (.d (.list ((rows.drop lo).take (hi - lo)))) else none
  | .tl rows t st s, none => if fitR sz rows = false ∨ s ≠ sz then none else if hi = rows.length then some (.tl (rows.drop lo) t (st + lo) s) else if hi ≤ rows.length then some (.d (.list ((rows.drop lo).take (hi - lo)))) else none
  | .sl r off len s, none => if s = sz ∧ hi ≤ len then some (.sl r (off + lo * sz) (hi - lo) sz) else none
  | .d (.list rows), some m => if fitR sz rows = true ∧ m = hi ∧ hi ≤ rows.length then some (.fl ((rows.drop lo).take (hi - lo))) else none
  | .fl rows, some m => if fitR sz rows = true ∧ m = hi ∧ hi ≤ rows.length then some (.fl ((rows.drop lo).take (hi - lo))) else none
  | .tl rows _ _ _, some m => if fitR sz rows = true ∧ m = hi ∧ hi ≤ rows.length then some (.fl ((rows.drop lo).take (hi - lo))) else none
  | _, _ => none

/-- How many elements a slice has. -/
def lenV (σ : St) (x : V) : Option Nat :=
  match x with
  | .d .nils => some 0
  | .d (.list rows) => some rows.length
  | .fl rows => some rows.length
  | .tl rows _ _ _ => some rows.length
  | .sl _ _ len _ => some len
  | _ => none

def lenT (σ : St) (ty : Ty) (x : V) : Option Nat :=
  match ty with
  | .slice => lenV σ x
  | .str => match x with
    | .d (.str s) => some s.length
    | _ => none
  | .map => match x with
    | .d .nilm => some 0
    | .map r => match σ.objs[r]? with
      | some (.map es) => some es.length
      | _ => none
    | _ => none
  | _ => none

/-- Parts put into cells: (place, size, value). -/
def fillV (cs : List V) : List (Nat × Nat × V) → Option (List V)
  | [] => some cs
  | (off, size, v) :: r =>
    match v.cells with
    | some vs => if vs.length = size ∧ off + size ≤ cs.length then fillV (splice cs off vs) r else none
    | none => none

def minInts : Int → List V → IntKind → Option Int
  | m, [], _ => some m
  | m, .d (.int k n) :: r, k0 => if k = k0 then minInts (if n < m then n else m) r k0 else none
  | _, _, _ => none

def maxInts : Int → List V → IntKind → Option Int
  | m, [], _ => some m
  | m, .d (.int k n) :: r, k0 => if k = k0 then maxInts (if m < n then n else m) r k0 else none
  | _, _, _ => none

def minAll : List V → Option V
  | .d (.int k n) :: r => match minInts n r k with | some m => some (.d (.int k m)) | none => none
  | _ => none

def maxAll : List V → Option V
  | .d (.int k n) :: r => match maxInts n r k with | some m => some (.d (.int k m)) | none => none
  | _ => none

/-- A list that is not written any more, as data. -/
def frzV : V → V
  | .fl r => .d (.list r)
  | .tl r _ _ _ => .d (.list r)
  | v => v

def repl (n : Nat) (zero : List D) : List V :=
  match n with
  | 0 => []
  | n + 1 => zero.map .d ++ repl n zero

def findE (k : D) : List (D × V) → Option V
  | [] => none
  | (k', v) :: r => if k' = k then some v else findE k r

def nilCheckV : V → Option V
  | .ref r off => some (.ref r off)
  | .ro cs => some (.ro cs)
  | .fn (.func f) first caps => some (.fn (.func f) first caps)
  | _ => none

def faddrV (off : Nat) : V → Option V
  | .ref r o => some (.ref r (o + off))
  | .ro cs => if off ≤ cs.length then some (.ro (cs.drop off)) else none
  | _ => none

def iaddrV (σ : St) (sz : Nat) (x i : V) : Option V :=
  match asIdx i with
  | some j => match x with
    | .sl r off len s => if s = sz ∧ 0 ≤ j ∧ j < len then some (.ref r (off + j.toNat * sz)) else none
    | y => match V.rows σ y with
      | some rows => if 0 ≤ j ∧ j < rows.length then (match rows[j.toNat]? with | some row => if row.length = sz then some (.ro row) else none | none => none) else none
      | none => none
  | none => none

def iaddrArrV (len sz : Nat) (x i : V) : Option V :=
  match asIdx i with
  | some j => if 0 ≤ j ∧ j < len then (match x with
    | .ref r o => some (.ref r (o + j.toNat * sz))
    | .ro cs => if j.toNat * sz ≤ cs.length then some (.ro (cs.drop (j.toNat * sz))) else none
    | _ => none) else none
  | none => none

def indexV (agg : Bool) (len sz : Nat) (x i : V) : Option V :=
  match asIdx i with
  | some j => if 0 ≤ j ∧ j < len then partOf agg (j.toNat * sz) sz x else none
  | none => none

def indexStrV (x i : V) : Option V :=
  match x, asIdx i with
  | .d (.str s), some j => if 0 ≤ j then (match s[j.toNat]? with | some b => some (.d (.int .u8 b.toNat)) | none => none) else none
  | _, _ => none

def sliceX (σ : St) (sz : Nat) (x : V) (lo hi mx : Option V) : Option V :=
  match lenV σ x with
  | some len => match boundV 0 lo, boundV len hi with
    | some l, some h => if 0 ≤ l ∧ l ≤ h then
        (match mx with
         | none => sliceV sz x l.toNat h.toNat none
         | some m => match asIdx m with
           | some k => if hi.isSome ∧ h ≤ k then sliceV sz x l.toNat h.toNat (some k.toNat) else none
           | none => none)
      else none
    | _, _ => none
  | none => none

def sliceStrV (x : V) (lo hi : Option V) : Option V :=
  match x with
  | .d (.str s) => match boundV 0 lo, boundV s.length hi with
    | some l, some h => if 0 ≤ l ∧ l ≤ h ∧ h ≤ s.length then some (.d (.str ((s.drop l.toNat).take (h.toNat - l.toNat)))) else none
    | _, _ => none
  | _ => none

def sliceArrV (σ : St) (n sz : Nat) (x : V) (lo hi : Option V) : Option V :=
  match boundV 0 lo, boundV n hi with
  | some l, some h => if 0 ≤ l ∧ l ≤ h ∧ h ≤ n then
      (match x with
       | .ref r o => match σ.objs[r]? with
         | some (.cells cs) => if o + n * sz = cs.length then some (.sl r (o + l.toNat * sz) (h.toNat - l.toNat) sz) else none
         | _ => none
       | .ro cs => if n * sz ≤ cs.length then some (.d (.list (rowsOf sz (h.toNat - l.toNat) (cs.drop (l.toNat * sz))))) else none
       | _ => none)
    else none
  | _, _ => none

def mkifV (t : Nat) : V → Option V
  | .d y => some (.d (.iface t y))
  | .da l => some (.d (.iface t (.agg l)))
  | .any => none
  | .gone => none
  | .tup _ => none
  | y => some (.ifc t y)

/-- What an interface value holds, by itself. -/
def unwrapD : D → V
  | .agg l => .da l
  | y => .d y

def assertV (t : Nat) (zero : V) (ok : Bool) : V → Option V
  | .d (.iface t' y) =>
    if t' = t then some (if ok then .tup [unwrapD y, .d (.bool true)] else unwrapD y)
    else if ok then some (.tup [zero, .d (.bool false)]) else none
  | .d .nili => if ok then some (.tup [zero, .d (.bool false)]) else none
  | _ => none

def extractV (x : V) (i : Nat) : Option V :=
  match x with
  | .tup vs => vs[i]?
  | _ => none

def evalP (op : POp) (e : Env) (σ : St) : Option V :=
  match op with
  | .move x => some (x.ev e)
  | .pick c a b => match c.ev e with
    | .d (.bool t) => some (if t then a.ev e else b.ev e)
    | _ => none
  | .bin op ty ks x y => evalBin op ty ks (x.ev e) (y.ev e) x.isC y.isC
  | .una op x => evalUn op (x.ev e)
  | .conv k x => evalConv σ k (x.ev e)
  | .load agg n x => loadAt σ agg n (x.ev e)
  | .nilCheck x => nilCheckV (x.ev e)
  | .faddr off x => faddrV off (x.ev e)
  | .field agg off n x => partOf agg off n (x.ev e)
  | .iaddr sz x i => iaddrV σ sz (x.ev e) (i.ev e)
  | .iaddrArr len sz x i => iaddrArrV len sz (x.ev e) (i.ev e)
  | .index agg len sz x i => indexV agg len sz (x.ev e) (i.ev e)
  | .indexStr x i => indexStrV (x.ev e) (i.ev e)
  | .slice sz x lo hi mx => sliceX σ sz (x.ev e) (lo.map (Opd.ev e)) (hi.map (Opd.ev e)) (mx.map (Opd.ev e))
  | .sliceStr x lo hi => sliceStrV (x.ev e) (lo.map (Opd.ev e)) (hi.map (Opd.ev e))
  | .sliceArr n sz x lo hi => sliceArrV σ n sz (x.ev e) (lo.map (Opd.ev e)) (hi.map (Opd.ev e))
  | .bslice t len sz zero parts =>
    match fillV (repl len zero) (parts.map fun (i, x) => (i * sz, sz, x.ev e)) with
    | some cs => match ofD (cs.map frzV) with
      | some l => some (.fl (rowsOf sz len l))
      | none => none
    | none => none
  | .build zero parts => match fillV (zero.map .d) (parts.map fun (o, n, x) => (o, n, x.ev e)) with
    | some cs => some (mkAgg cs)
    | none => none
  | .len ty x => match lenT σ ty (x.ev e) with
    | some n => some (.d (.int .i64 n))
    | none => none
  | .lenArr n => some (.d (.int .i64 n))
  | .min xs => minAll (xs.map (Opd.ev e))
  | .max xs => maxAll (xs.map (Opd.ev e))
  | .mkif t x => mkifV t (x.ev e)
  | .assert t zero ok x => assertV t (zero.ev []) ok (x.ev e)
  | .extract x i => extractV (x.ev e) i
  | .mkfn f first caps => some (.fn f (first.map (Opd.ev e)) (caps.map (Opd.ev e)))
  | .lookup zero agg ok x k => none

def St.setObj (σ : St) (r : Nat) (o : Obj) : St := { σ with objs := σ.objs.set r o }
def St.push (σ : St) (o : Obj) : St := { σ with objs := σ.objs ++ [o] }
def St.pushTok (σ : St) (k : Nat) : St := { σ with toks := σ.toks ++ [k] }
/-- Where a new object goes. -/
def St.spot (σ : St) (tg : Option Nat) : Nat := match tg with | some r => r | none => σ.objs.length
def St.place (σ : St) (tg : Option Nat) (o : Obj) : Option St :=
  match tg with
  | none => some (σ.push o)
  | some r => match σ.objs[r]? with
    | some .free => some (σ.setObj r o)
    | _ => none
def St.setTok (σ : St) (t k : Nat) : St := { σ with toks := σ.toks.set t k }

/-- What is appended, put behind a slice; `bytes` of an element bound the room. -/
def appendV (σ : St) (tg : Option Nat) (sz bytes : Nat) (s : V) (ys : List (List D)) : Option (V × St) :=
  if fitR sz ys = false then none else
  match s with
  | .sl r off len s' =>
    if s' = sz ∧ 0 < sz then
      match σ.objs[r]? with
      | some (.cells cs) =>
        if off + (len + ys.length) * sz ≤ cs.length then
          some (.sl r off (len + ys.length) sz, σ.setObj r (.cells (splice cs (off + len * sz) (ys.flatten.map .d))))
        else none
      | _ => none
    else none
  | s =>
    if ys = [] then (if (V.rows σ s).isSome then some (s, σ) else none) else
    match s with
    | .d .nils => if 0 < sz ∧ ys.length * bytes ≤ 140737488355328 ∧ ys.length ≤ 9223372036854775807 then some (.tl ys σ.toks.length 0 sz, σ.pushTok ys.length) else none
    | .fl rows => if 0 < sz ∧ fitR sz rows = true ∧ (rows.length + ys.length) * bytes ≤ 140737488355328 ∧ rows.length + ys.length ≤ 9223372036854775807 then some (.tl (rows ++ ys) σ.toks.length 0 sz, σ.pushTok (rows.length + ys.length)) else none
    | .tl rows t st s' =>
      if s' = sz ∧ fitR sz rows = true ∧ σ.toks[t]? = some (st + rows.length) ∧ (rows.length + ys.length) * bytes ≤ 140737488355328 ∧ rows.length + ys.length ≤ 9223372036854775807 then
        some (.tl (rows ++ ys) t st sz, σ.setTok t (st + rows.length + ys.length))
      else none
    | _ => none

def newObj (σ : St) (tg : Option Nat) (o : Obj) (v : Nat → V) : Option (V × St) :=
  match σ.place tg o with
  | some σ' => some (v (σ.spot tg), σ')
  | none => none

/-- Rows put over a slice's own. -/
def copyV (σ : St) (sz : Nat) (s : V) (ys : List (List D)) : Option (V × St) :=
  if fitR sz ys = false then none else
  match s with
  | .sl r off len s' =>
    if s' = sz ∧ 0 < sz then
      match σ.objs[r]? with
      | some (.cells cs) =>
        if off + len * sz ≤ cs.length then
          some (.d (.int .i64 (min ys.length len : Nat)), σ.setObj r (.cells (splice cs off ((ys.take len).flatten.map .d))))
        else none
      | _ => none
    else none
  | s => if lenV σ s = some 0 then some (.d (.int .i64 0), σ) else none

def clearV (σ : St) (sz : Nat) (zero : List D) (s : V) : Option (V × St) :=
  match s with
  | .sl r off len s' =>
    if s' = sz ∧ 0 < sz then
      match σ.objs[r]? with
      | some (.cells cs) =>
        if off + len * sz ≤ cs.length then some (.tup [], σ.setObj r (.cells (splice cs off (repl len zero)))) else none
      | _ => none
    else none
  | s => if lenV σ s = some 0 then some (.tup [], σ) else none

/-- What is appended, in an object of its own that may be written. -/
def appendM (σ : St) (tg : Option Nat) (sz bytes : Nat) (s : V) (ys : List (List D)) : Option (V × St) :=
  if fitR sz ys = false ∨ ys = [] then none else
  match s with
  | .d .nils => if 0 < sz ∧ ys.length * bytes ≤ 140737488355328 ∧ ys.length ≤ 9223372036854775807 then
      newObj σ tg (.cells (ys.flatten.map .d)) fun r => .sl r 0 ys.length sz else none
  | .fl rows => if 0 < sz ∧ fitR sz rows = true ∧ (rows.length + ys.length) * bytes ≤ 140737488355328 ∧ rows.length + ys.length ≤ 9223372036854775807 then
      newObj σ tg (.cells ((rows ++ ys).flatten.map .d)) fun r => .sl r 0 (rows.length + ys.length) sz else none
  | _ => none

def evalE (op : EOp) (e : Env) (σ : St) (tg : Option Nat) : Option (V × St) :=
  match op with
  | .alloc zero => newObj σ tg (.cells zero) fun r => .ref r 0
  | .box x => match (x.ev e).cells with
    | some l => newObj σ tg (.cells l) fun r => .ref r 0
    | none => none
  | .store n a x => match a.ev e with
    | .ref r off => match σ.objs[r]? with
      | some (.cells cs) =>
        match (x.ev e).cells with
        | some l => if l.length = n ∧ off + n ≤ cs.length then some (.gone, σ.setObj r (.cells (splice cs off l))) else none
        | none => none
      | _ => none
    | _ => none
  | .append t sz bytes s x => match V.rows σ (x.ev e) with
    | some ys => appendV σ tg sz bytes (s.ev e) ys
    | none => none
  | .appendStr t s x => match x.ev e with
    | .d (.str l) => appendV σ tg 1 1 (s.ev e) (byteRows l)
    | _ => none
  | .appendZero t sz bytes zero s n => none
  | .copy sz s x => match V.rows σ (x.ev e) with
    | some ys => copyV σ sz (s.ev e) ys
    | none => none
  | .clear sz zero s => clearV σ sz zero (s.ev e)
  | .makeSlice t sz bytes zero len cap => match len.ev e, cap.ev e with
    | .d (.int k l), .d (.int k' c) => if k = .i64 ∧ k' = .i64 ∧ 0 ≤ l ∧ l ≤ c ∧ c * bytes ≤ 140737488355328 ∧ c ≤ 9223372036854775807 ∧ 0 < sz then
        newObj σ tg (.cells (repl c.toNat zero)) fun r => .sl r 0 l.toNat sz
      else none
    | _, _ => none
  | .makeMap => none
  | .mapUpdate m k x => none
  | .mapDelete m k => none

/-- The cells of so many zero rows. -/
def zerosD (n : Nat) (z : List D) : List D := match n with
  | 0 => []
  | n + 1 => z ++ zerosD n z

/-- The other way of an operation that has one: append makes an object that may be written. -/
def evalM (op : EOp) (e : Env) (σ : St) (tg : Option Nat) : Option (V × St) :=
  match op with
  | .append t sz bytes s x => match V.rows σ (x.ev e) with
    | some ys => appendM σ tg sz bytes (s.ev e) ys
    | none => none
  | .appendStr t s x => match x.ev e with
    | .d (.str l) => appendM σ tg 1 1 (s.ev e) (byteRows l)
    | _ => none
  | .makeSlice t sz bytes zero len cap => match len.ev e, cap.ev e with
    | .d (.int k l), .d (.int k' c) => if k = .i64 ∧ k' = .i64 ∧ 0 ≤ l ∧ l = c ∧ c * bytes ≤ 140737488355328 ∧ c ≤ 9223372036854775807 then
        some (.fl (rowsOf sz l.toNat (zerosD l.toNat zero)), σ)
      else none
    | _, _ => none
  | _ => none

/-! ### calls, instructions, code -/

abbrev Post := V → St → Prop
abbrev CallP := Mode → Nat → List V → St → Post → Prop

structure Cx where
  mode : Nat → Mode
  /-- Slots that name no object where a region's operations look at them. -/
  dry : List Nat := []

def byVals (σ : St) : List V → Option (List V)
  | [] => some []
  | v :: r => match v.byVal σ, byVals σ r with
    | some x, some l => some (x :: l)
    | _, _ => none

/-- A call, in a mode. -/
def callM (K : CallP) (m : Mode) (f : Nat) (vs : List V) (σ : St) (Q : Post) : Prop :=
  match m with
  | .raw => ∃ Q', K .raw f vs σ Q' ∧ ∀ v s, Q' v s → Q v s
  | .rd => ∃ Q', K .rd f vs σ Q' ∧ ∀ v s, Q' v s → Q v σ
  | .val => match byVals σ vs with
    | some ds => ∃ Q', K .val f ds St.empty Q' ∧ ∀ v s, Q' v s → v.pure = true ∧ (vs.any V.borrows = true → v.scalars = true) ∧ Q v σ
    | none => False

/-- A call, in whichever mode. -/
def callK (K : CallP) (cx : Cx) (f : Nat) (vs : List V) (σ : St) (Q : Post) : Prop := ∃ m, callM K m f vs σ Q

def putE (e : Env) (dst : Option Nat) (v : V) : Env :=
  match dst with
  | some s => e.set s v
  | none => e

mutual
def wins (K : CallP) (cx : Cx) : List Ins → Env → St → (Env → St → Prop) → Prop
  | [], e, σ, Q => Q e σ
  | i :: r, e, σ, Q => wone K cx i e σ fun e' σ' => wins K cx r e' σ' Q
def wone (K : CallP) (cx : Cx) : Ins → Env → St → (Env → St → Prop) → Prop
  | .p dst op, e, σ, Q => match evalP op e σ with
    | some v => Q (putE e dst v) σ
    | none => False
  | .e dst op, e, σ, Q => (match evalE op e σ none with
    | some (v, σ') => Q (putE e dst v) σ'
    | none => False) ∨ (match evalM op e σ none with
    | some (v, σ') => Q (putE e dst v) σ'
    | none => False)
  | .call dst f args, e, σ, Q => callK K cx f (args.map (Opd.ev e)) σ fun v σ' => Q (putE e dst v) σ'
  | .callv dst f args, e, σ, Q => match f.ev e with
    | .fn (.func g) first caps => callK K cx g (first ++ args.map (Opd.ev e) ++ caps) σ fun v σ' => Q (putE e dst v) σ'
    | _ => False
  | .when s want body, e, σ, Q => match e.get s with
    | .d (.bool b) => if b = want then wins K cx body e σ Q else Q (goneAll body e) σ
    | .gone => Q (goneAll body e) σ
    | _ => False
def goneAll : List Ins → Env → Env
  | [], e => e
  | i :: r, e => goneAll r (goneOne i e)
def goneOne : Ins → Env → Env
  | .p dst _, e => putE e dst .gone
  | .e dst _, e => putE e dst .gone
  | .call dst _ _, e => putE e dst .gone
  | .callv dst _ _, e => putE e dst .gone
  | .when _ _ body, e => goneAll body e
end

/-- One operation of a region that draws its order. -/
def wdop (K : CallP) (cx : Cx) (n0 : Nat) (o : DOp) (e : Env) (σ : St) (Q : Env → St → Prop) : Prop :=
  let go : Prop := match o.ins with
    | .e dst op => (match evalE op e σ (some (n0 + o.al)) with
      | some (v, σ') => Q (putE e dst v) σ'
      | none => False) ∨ (match evalM op e σ (some (n0 + o.al)) with
      | some (v, σ') => Q (putE e dst v) σ'
      | none => False)
    | i => wone K cx i e σ Q
  match o.guard with
  | none => go
  | some (s, want) => match e.get s with
    | .d (.bool b) => if b = want then go else Q (goneOne o.ins e) σ
    | .gone => Q (goneOne o.ins e) σ
    | _ => False

def readyD (l : List DOp) (listed : List Nat) : List Nat :=
  (List.range l.length).filter fun i => !listed.contains i && ((l[i]?).map fun o => o.after.all fun j => listed.contains j).getD false

/-- A region's operations in whatever order its edges allow. -/
def wany (K : CallP) (cx : Cx) (n0 : Nat) (l : List DOp) : Nat → List Nat → Env → St → (Env → St → Prop) → Prop
  | 0, listed, e, σ, Q => readyD l listed = [] ∧ Q e σ
  | f + 1, listed, e, σ, Q => (readyD l listed = [] → Q e σ) ∧
      ∀ i ∈ readyD l listed, ∃ o, l[i]? = some o ∧ wdop K cx n0 o e σ fun e' σ' => wany K cx n0 l f (i :: listed) e' σ' Q

/-- The objects that a value names itself. -/
def dref : V → List Nat
  | .ref r _ => [r]
  | .sl r _ _ _ => [r]
  | .map r => [r]
  | _ => []

/-- No slot names an object that isn't there. -/
def Okay (e : Env) (σ : St) : Prop := ∀ s, ∀ r ∈ dref (e.get s), r < σ.objs.length

def St.room (σ : St) (n : Nat) : St := { σ with objs := σ.objs ++ List.replicate n .free }

abbrev PostC := Ex → Env → St → Prop

def LoopP (T : Env → St → PostC → Prop) (ks : List Nat) (e : Env) (σ : St) (Q : PostC) : Prop :=
  ∀ I : Env → St → Prop, (∀ e σ, T e σ (fun ex e' σ' => match ex with | .normal => I (e'.pick ks) σ' | x => Q x e' σ') → I e σ) → I (e.pick ks) σ

def wcode (K : CallP) (cx : Cx) : C → Env → St → PostC → Prop
  | .skip, e, σ, Q => Q .normal e σ
  | .ops ks l, e, σ, Q => wins K cx l e σ fun e' σ' => Q .normal (e'.pick ks) σ'
  | .drw ks na l, e, σ, Q => Okay e σ → wany K cx σ.objs.length l l.length [] e (σ.room na) fun e' σ' => Q .normal (e'.pick ks) σ'
  | .seq a b, e, σ, Q => wcode K cx a e σ fun ex e' σ' => match ex with
    | .normal => wcode K cx b e' σ' Q
    | x => Q x e' σ'
  | .cond c a b, e, σ, Q => match c.ev e with
    | .d (.bool t) => if t = true then wcode K cx a e σ Q else wcode K cx b e σ Q
    | _ => False
  | .block id c, e, σ, Q => wcode K cx c e σ fun ex e' σ' => match ex with
    | .exit j => if j = id then Q .normal e' σ' else Q (.exit j) e' σ'
    | x => Q x e' σ'
  | .loop ks c, e, σ, Q => LoopP (fun e σ Q => wcode K cx c e σ Q) ks e σ Q
  | .exit id, e, σ, Q => Q (.exit id) e σ
  | .ret, e, σ, Q => Q .ret e σ

inductive Res where
  | tmp (s : Nat)
  | cell (s : Nat) (agg : Bool) (n : Nat)
  deriving Inhabited

structure FnC where
  nparams : Nat
  ntmps : Nat
  res : List Res
  body : C
  deriving Inhabited

def Res.ev (e : Env) (σ : St) : Res → Option V
  | .tmp s => some (e.get s)
  | .cell s agg n => loadAt σ agg n (e.get s)

def resAll (e : Env) (σ : St) : List Res → Option (List V)
  | [] => some []
  | r :: l => match r.ev e σ, resAll e σ l with
    | some v, some vs => some (v :: vs)
    | _, _ => none

def tupOf : List V → V
  | [v] => v
  | vs => .tup vs

def byValsN (lo : Nat) (σ : St) : List V → Option (List V)
  | [] => some []
  | v :: r => match v.byValN lo σ, byValsN lo σ r with
    | some x, some l => some (x :: l)
    | _, _ => none

/-- What stood there stands there as it did. -/
def Keeps (σ s : St) : Prop := (∀ i, i < σ.objs.length → s.objs[i]? = σ.objs[i]?) ∧ ∀ (t k : Nat), σ.toks[t]? = some k → s.toks[t]? = some k

def retV (mode : Mode) (lo : Nat) (e : Env) (σ : St) (rs : List Res) : Option V :=
  match resAll e σ rs with
  | some vs => match mode with
    | .raw => some (tupOf vs)
    | .val => match byVals σ vs with
      | some ds => some (tupOf ds)
      | none => none
    | .rd => match byValsN lo σ vs with
      | some ds => some (tupOf ds)
      | none => none
  | none => none

def initEnv : Nat → List V → Env
  | _, [] => []
  | i, v :: r => (i, v) :: initEnv (i + 1) r

def bodyP (K : CallP) (cx : Cx) (mode : Mode) (fc : FnC) (vs : List V) (σ : St) (Q : Post) : Prop :=
  vs.length = fc.nparams ∧ wcode K cx fc.body (initEnv 0 vs) σ fun ex e s => match ex with
    | .exit _ => False
    | _ => ∃ v, retV mode σ.objs.length e s fc.res = some v ∧ (mode = .rd → Keeps σ s) ∧ Q v s

/-- The least meaning of calls over a table of functions. -/
def Call (Γ : Nat → Option FnC) (cx : Cx) : CallP := fun m f vs σ Q =>
  ∀ K : CallP, (∀ m f vs σ Q, (∃ fc, Γ f = some fc ∧ bodyP K cx m fc vs σ Q) → K m f vs σ Q) → K m f vs σ Q

end
end Go.Dn
