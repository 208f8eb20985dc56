import Derived.CallsIn
import Derived.Laws.Entries
import GoSem.ClaimKeys
import Derived.DeepKeys2
import Derived.WalkKit
import Derived.DeepKeys
/- Abstract data, abstract store, the small compiled language, and its meaning (no proof about the machine here). -/
namespace Go.Dn

inductive D where
 | int (k:IntKind) (n:Int)
 | bool (b:Bool)
 | str (s:List UInt8)
 | nilp | nils | nilm | nilf | nili
 | iface (t:Nat) (d:D)
 | list (rows:List (List D))
 | agg (cs:List D)
 deriving Inhabited

inductive V where
 | d (x:D)
 | da (cs:List D)
 | agg (cs:List V)
 | tup (vs:List V)
 | ref (r off:Nat)
 | ro (cs:List D)
 | sl (r off len sz:Nat)
 | fl (rows:List (List D))
 | tl (rows:List (List D)) (t st sz:Nat)
 | map (r:Nat)
 | yld (r:Nat)
 | iter (r:Nat)
 | fn (f:Fn) (first caps:List V)
 | ifc (t:Nat) (v:V)
 | gone
 | any
 deriving Inhabited

abbrev Env:=List (Nat×V)

def Env.get:Env→Nat→V
 | [],_=>.any
 | (s,v)::r,t=>if s=t then v else Env.get r t

def Env.set:Env→Nat→V→Env
 | [],t,x=>[(t,x)]
 | (s,v)::r,t,x=>if s=t then(t,x)::r else(s,v)::Env.set r t x

def Env.pick (e:Env)(ks:List Nat):Env:=ks.map fun k=>(k,e.get k)

inductive Opd where
 | t (n:Nat)
 | c (x:D)
 | ca (l:List D)
 | f (k:Nat)
 deriving Inhabited

def Opd.ev (e:Env):Opd→V
 | .t n=>e.get n
 | .c x=>.d x
 | .ca l=>.da l
 | .f k=>.fn (.func k) [] []

inductive Ty where
 | int | bool | str | ptr | slice | map | func | iface | flat
 deriving Inhabited,DecidableEq

inductive Lf where
 | int (k:IntKind) | bool | str
 deriving Inhabited,DecidableEq

inductive Conv where
 | int (k:IntKind)
 | strBytes (e:Nat)
 | bytesStr
 | same
 deriving Inhabited,DecidableEq

inductive POp where
 | move (x:Opd)
 | pick (c a b:Opd)
 | bin (op:BinOp) (ty:Ty) (ks:List Lf) (x y:Opd)
 | una (op:UnOp) (x:Opd)
 | conv (k:Conv) (x:Opd)
 | load (agg:Bool) (n:Nat) (x:Opd)
 | nilCheck (x:Opd)
 | faddr (off:Nat) (x:Opd)
 | field (agg:Bool) (off n:Nat) (x:Opd)
 | iaddr (sz:Nat) (x i:Opd)
 | iaddrArr (len sz:Nat) (x i:Opd)
 | index (agg:Bool) (len sz:Nat) (x i:Opd)
 | indexStr (x i:Opd)
 | slice (sz:Nat) (x:Opd) (lo hi mx:Option Opd)
 | sliceStr (x:Opd) (lo hi:Option Opd)
 | sliceArr (n sz:Nat) (x:Opd) (lo hi:Option Opd)
 | bslice (e len sz:Nat) (zero:List D) (parts:List (Nat×Opd))
 | build (zero:List D) (parts:List (Nat×Nat×Opd))
 | len (ty:Ty) (x:Opd)
 | lenArr (n:Nat)
 | cap (x:Opd)
 | min (xs:List Opd)
 | max (xs:List Opd)
 | mkif (t:Nat) (x:Opd)
 | assert (t:Nat) (zero:Opd) (ok:Bool) (x:Opd)
 | extract (x:Opd) (i:Nat)
 | mkfn (f:Fn) (first caps:List Opd)
 | lookup (ka:Bool) (ks:List Lf) (zero:Opd) (ok:Bool) (x k:Opd)
 | mkfl (sz bytes:Nat) (zero:List D) (len cap:Opd)
 deriving Inhabited

inductive EOp where
 | alloc (zero:List V)
 | box (x:Opd)
 | store (n:Nat) (a x:Opd)
 | append (e sz bytes:Nat) (s x:Opd)
 | appendStr (e:Nat) (s x:Opd)
 | appendZero (e sz bytes:Nat) (zero:List D) (s n:Opd)
 | copy (sz:Nat) (s x:Opd)
 | clear (sz:Nat) (zero:List D) (s:Opd)
 | makeSlice (e sz bytes:Nat) (zero:List D) (len cap:Opd)
 | makeMap
 | mapUpdate (ka:Bool) (ks:List Lf) (m k x:Opd)
 | mapDelete (ka:Bool) (ks:List Lf) (m k:Opd)
 | range (x:Opd)
 | entry (x:Opd)
 | cloneMap (x:Opd)
 deriving Inhabited

inductive Mode where
 | val | raw | rd | rnd
 deriving Inhabited,DecidableEq

inductive Ins where
 | p (dst:Option Nat) (op:POp)
 | e (dst:Option Nat) (op:EOp)
 | call (dst:Option Nat) (f:Nat) (args:List Opd)
 | callv (dst:Option Nat) (f:Opd) (args:List Opd)
 | next (dst:Option Nat) (it:Opd)
 | when (s:Nat) (want:Bool) (body:List Ins)
 deriving Inhabited

structure DOp where
 guard:Option (Nat×Bool)
 ins:Ins
 after:List Nat
 al:Nat
 deriving Inhabited

inductive C where
 | skip
 | ops (ks:List Nat) (l:List Ins)
 | drw (ks:List Nat) (na:Nat) (l:List DOp)
 | seq (a b:C)
 | cond (c:Opd) (thn els:C)
 | block (id:Nat) (body:C)
 | loop (ks:List Nat) (body:C)
 | exit (id:Nat)
 | ret
 | rangeF (ks:List Nat) (f:Opd) (ps:List Nat) (a b:C)
 deriving Inhabited

inductive Ex where
 | normal | exit (id:Nat) | ret
 deriving Inhabited

inductive LSt where
 | ready | busy | done (x:Ex)
 deriving Inhabited

inductive Obj where
 | cells (cs:List V)
 | map (es:List (Nat×V×V)) (clock:Nat)
 | iter (m:Option Nat) (since:Nat) (seen:List Nat) (last:Nat)
 | loop (e:Env) (ps:List Nat) (a b:C) (st:LSt)
 | dead
 | free
 deriving Inhabited

structure St where
 objs:List Obj
 toks:List Nat

def St.empty:St:=⟨[],[]⟩

def V.isD:V→Bool
 | .d _=>true
 | _=>false

def ofD:List V→Option (List D)
 | []=>some []
 | .d x::r=>match ofD r with
  | some l=>some (x::l)
  | none=>none
 | _::_=>none

def mkAgg (cs:List V):V :=
 match ofD cs with
 | some l=>.da l
 | none=>.agg cs

def V.cells:V→Option (List V)
 | .da l=>some (l.map .d)
 | .agg l=>some l
 | .tup _ | .any | .gone=>none
 | v=>some [v]

def rowsOf (sz:Nat):Nat→List D→List (List D)
 | 0,_=>[]
 | n+1,l=>l.take sz::rowsOf sz n (l.drop sz)

def V.rows (σ:St):V→Option (List (List D))
 | .d .nils=>some []
 | .d (.list rows)=>some rows
 | .fl rows=>some rows
 | .tl rows _ _ _=>some rows
 | .sl r off len sz=>match σ.objs[r]? with
  | some (.cells cs)=>match ofD ((cs.drop off).take (len*sz)) with
   | some l=>some (rowsOf sz len l)
   | none=>none
  | _=>none
 | _=>none

def V.byVal (σ:St):V→Option V
 | .d x=>some (.d x)
 | .da l=>some (.da l)
 | .fl rows=>some (.d (.list rows))
 | .tl rows _ _ _=>some (.d (.list rows))
 | .sl r off len sz=>match V.rows σ (.sl r off len sz) with
  | some rows=>some (.d (.list rows))
  | none=>none
 | _=>none

def V.byValN (lo:Nat) (σ:St):V→Option V
 | .sl r off len sz=>if lo≤r then V.byVal σ (.sl r off len sz) else none
 | v=>V.byVal σ v

def V.borrows:V→Bool
 | .sl .. => true
 | _=>false

def V.flatv:V→Bool
 | .d _ | .da _=>true
 | _=>false

def V.pure:V→Bool
 | .d _ | .da _=>true
 | .tup vs=>vs.all V.flatv
 | _=>false

def D.scalar:D→Bool
 | .int .. | .bool _ | .str _ | .nilp | .nils | .nilm | .nilf | .nili=>true
 | .iface _ (.int ..)=>true
 | _=>false

def V.scalar:V→Bool
 | .d x=>x.scalar
 | .da l=>l.all D.scalar
 | _=>false

def V.scalars:V→Bool
 | .tup vs=>vs.all V.scalar
 | v=>v.scalar

end Go.Dn

/- The meaning of the small language: a weakest precondition over pure data. Nothing about the machine yet. -/
namespace Go.Dn

noncomputable section
open Classical

def Lf.fits:Lf→D→Bool
 | .int k,.int k' n=>k==k'&&decide (k.min≤n)&&decide (n≤k.max)
 | .bool,.bool _=>true
 | .str,.str s=>decide (s.length≤9223372036854775807)
 | _,_=>false

def fitsAll:List Lf→List D→Bool
 | [],[]=>true
 | k::ks,d::ds=>k.fits d&&fitsAll ks ds
 | _,_=>false

def intBin (op:BinOp)(k:IntKind)(a b:Int):Option V :=
 match op with
 | .add=>some (.d (.int k (k.wrap (a+b))))
 | .sub=>some (.d (.int k (k.wrap (a-b))))
 | .mul=>some (.d (.int k (k.wrap (a*b))))
 | .quo=>if b=0 then none else some (.d (.int k (k.wrap (a.tdiv b))))
 | .rem=>if b=0 then none else some (.d (.int k (a.tmod b)))
 | .and=>some (.d (.int k (bits .and k a b)))
 | .or=>some (.d (.int k (bits .or k a b)))
 | .xor=>some (.d (.int k (bits .xor k a b)))
 | .andNot=>some (.d (.int k (bits .andNot k a b)))
 | .eql=>some (.d (.bool (decide (a=b))))
 | .neq=>some (.d (.bool (!decide (a=b))))
 | .lss=>some (.d (.bool (decide (a<b))))
 | .leq=>some (.d (.bool (decide (a≤b))))
 | .gtr=>some (.d (.bool (decide (b<a))))
 | .geq=>some (.d (.bool (decide (b≤a))))
 | _=>none

def shiftBin (op:BinOp)(k:IntKind)(a b:Int):Option V :=
 if b<0 then none else
 match op with
 | .shl=>some (.d (.int k (k.wrap (a*2 ^ (min b.toNat k.bits)))))
 | .shr=>some (.d (.int k (a / 2 ^ (min b.toNat k.bits))))
 | _=>none

def strBin (op:BinOp)(a b:List UInt8):Option V :=
 match op with
 | .add=>if ((a.length+b.length:Nat):Int)≤9223372036854775807 then some (.d (.str (a++b))) else none
 | .eql=>some (.d (.bool (decide (a=b))))
 | .neq=>some (.d (.bool (!decide (a=b))))
 | .lss=>some (.d (.bool (Op.bytesLess a b)))
 | .leq=>some (.d (.bool (Op.bytesLess a b||decide (a=b))))
 | .gtr=>some (.d (.bool (!(Op.bytesLess a b||decide (a=b)))))
 | .geq=>some (.d (.bool (!Op.bytesLess a b)))
 | _=>none

def V.isNil:Ty→V→Option Bool
 | .ptr,.d .nilp=>some true
 | .ptr,.ref _ _=>some false
 | .ptr,.ro _=>some false
 | .slice,.d .nils=>some true
 | .slice,.d (.list _)=>some false
 | .slice,.fl _=>some false
 | .slice,.tl _ _ _ _=>some false
 | .slice,.sl .. => some false
 | .map,.d .nilm=>some true
 | .map,.map _=>some false
 | .func,.d .nilf=>some true
 | .func,.fn .. => some false
 | .iface,.d .nili=>some true
 | .iface,.d (.iface ..)=>some false
 | .iface,.ifc .. => some false
 | _,_=>none

def eqV (ty:Ty)(ks:List Lf)(x y:V)(xc yc:Bool):Option Bool :=
 match ty with
 | .bool=>match x,y with
  | .d (.bool a),.d (.bool b)=>some (a==b)
  | _,_=>none
 | .flat=>match x,y with
  | .da a,.da b=>if fitsAll ks a&&fitsAll ks b then some (decide (a=b)) else none
  | _,_=>none
 | t=>match V.isNil t x,V.isNil t y with
  | some true,some true=>if t = .iface then(if xc||yc then some true else none) else some true
  | some true,some false=>some false
  | some false,some true=>some false
  | _,_=>none

def Opd.isC:Opd→Bool
 | .c _=>true
 | .ca _=>true
 | _=>false

def evalBin (op:BinOp)(ty:Ty)(ks:List Lf)(x y:V)(xc yc:Bool):Option V :=
 match x,y with
 | .d (.int k a),.d (.int k' b) =>
  match op with
  | .shl | .shr=>shiftBin op k a b
  | op=>if k=k' then intBin op k a b else none
 | .d (.str a),.d (.str b)=>strBin op a b
 | x,y=>match op with
  | .eql=>(eqV ty ks x y xc yc).map fun b=>.d (.bool b)
  | .neq=>(eqV ty ks x y xc yc).map fun b=>.d (.bool !b)
  | _=>none

def evalUn (op:UnOp)(x:V):Option V :=
 match op,x with
 | .not,.d (.bool b)=>some (.d (.bool !b))
 | .neg,.d (.int k n)=>some (.d (.int k (k.wrap (0-n))))
 | .xor,.d (.int k n)=>some (.d (.int k (bits .xor k (if k.signed then -1 else k.max) n)))
 | _,_=>none

def byteRows (s:List UInt8):List (List D):=s.map fun b=>[D.int .u8 b.toNat]

def rowBytes:List (List D)→Option (List UInt8)
 | []=>some []
 | [.int .u8 n]::r=>match rowBytes r with
  | some l=>some (UInt8.ofNat n.toNat::l)
  | none=>none
 | _::_=>none

def evalConv (σ:St)(k:Conv)(x:V):Option V :=
 match k with
 | .int k=>match x with
  | .d (.int _ n)=>some (.d (.int k (k.wrap n)))
  | _=>none
 | .strBytes _=>match x with
  | .d (.str s)=>some (.d (.list (byteRows s)))
  | _=>none
 | .bytesStr=>match V.rows σ x with
  | some rows=>match rowBytes rows with
   | some l=>some (.d (.str l))
   | none=>none
  | none=>none
 | .same=>match x with
  | .d (.str s)=>some (.d (.str s))
  | _=>none

def splice {α:Type}(cs:List α)(off:Nat)(xs:List α):List α:=cs.take off++xs++cs.drop (off+xs.length)

def loadAt (σ:St)(agg:Bool)(n:Nat)(x:V):Option V :=
 match x with
 | .ref r off=>match σ.objs[r]? with
  | some (.cells cs) =>
   if agg then(if off+n≤cs.length then some (mkAgg ((cs.drop off).take n)) else none)
   else cs[off]?
  | _=>none
 | .ro cs =>
  if agg then(if n≤cs.length then some (.da (cs.take n)) else none)
  else match cs with
   | c::_=>some (.d c)
   | []=>none
 | _=>none

def partOf (agg:Bool)(off n:Nat)(x:V):Option V :=
 match x with
 | .da l =>
  if agg then(if off+n≤l.length then some (.da ((l.drop off).take n)) else none)
  else match l[off]? with
   | some c=>some (.d c)
   | none=>none
 | .agg l =>
  if agg then(if off+n≤l.length then some (mkAgg ((l.drop off).take n)) else none)
  else l[off]?
 | _=>none

def asIdx:V→Option Int
 | .d (.int _ n)=>some n
 | _=>none

def boundV (dflt:Nat):Option V→Option Int
 | none=>some dflt
 | some x=>asIdx x

def fitR (sz:Nat)(rows:List (List D)):Bool:=rows.all fun r=>r.length==sz

def sliceV (sz:Nat)(x:V)(lo hi:Nat)(mx:Option Nat):Option V :=
 match x,mx with
 | .d .nils,none=>if hi=0 then some (.d .nils) else none
 | .d .nils,some m=>if m=0 then some (.d .nils) else none
 | .d (.list rows),none=>if fitR sz rows=true∧hi≤rows.length then some (.d (.list ((rows.drop lo).take (hi-lo)))) else none
 | .fl rows,none=>if fitR sz rows=false then none else if hi=rows.length then some (.fl (rows.drop lo)) else if hi≤rows.length then some (.d (.list ((rows.drop lo).take (hi-lo)))) else none
 | .tl rows t st s,none=>if fitR sz rows=false∨s≠sz then none else if hi=rows.length then some (.tl (rows.drop lo) t (st+lo) s) else if hi≤rows.length then some (.d (.list ((rows.drop lo).take (hi-lo)))) else none
 | .sl r off len s,none=>if s=sz∧hi≤len then some (.sl r (off+lo*sz) (hi-lo) sz) else none
 | .d (.list rows),some m=>if fitR sz rows=true∧m=hi∧hi≤rows.length then some (.fl ((rows.drop lo).take (hi-lo))) else none
 | .fl rows,some m=>if fitR sz rows=true∧m=hi∧hi≤rows.length then some (.fl ((rows.drop lo).take (hi-lo))) else none
 | .tl rows _ _ _,some m=>if fitR sz rows=true∧m=hi∧hi≤rows.length then some (.fl ((rows.drop lo).take (hi-lo))) else none
 | _,_=>none

def lenV (σ:St)(x:V):Option Nat :=
 match x with
 | .d .nils=>some 0
 | .d (.list rows)=>some rows.length
 | .fl rows=>some rows.length
 | .tl rows _ _ _=>some rows.length
 | .sl _ _ len _=>some len
 | _=>none

def lenT (σ:St)(ty:Ty)(x:V):Option Nat :=
 match ty with
 | .slice=>lenV σ x
 | .str=>match x with
  | .d (.str s)=>some s.length
  | _=>none
 | .map=>match x with
  | .d .nilm=>some 0
  | .map r=>match σ.objs[r]? with
   | some (.map es _)=>some es.length
   | _=>none
  | _=>none
 | _=>none

def fillV (cs:List V):List (Nat×Nat×V)→Option (List V)
 | []=>some cs
 | (off,size,v)::r =>
  match v.cells with
  | some vs=>if vs.length=size∧off+size≤cs.length then fillV (splice cs off vs) r else none
  | none=>none

def minInts:Int→List V→IntKind→Option Int
 | m,[],_=>some m
 | m,.d (.int k n)::r,k0=>if k=k0 then minInts (if n<m then n else m) r k0 else none
 | _,_,_=>none

def maxInts:Int→List V→IntKind→Option Int
 | m,[],_=>some m
 | m,.d (.int k n)::r,k0=>if k=k0 then maxInts (if m<n then n else m) r k0 else none
 | _,_,_=>none

def minAll:List V→Option V
 | .d (.int k n)::r=>match minInts n r k with | some m=>some (.d (.int k m)) | none=>none
 | _=>none

def maxAll:List V→Option V
 | .d (.int k n)::r=>match maxInts n r k with | some m=>some (.d (.int k m)) | none=>none
 | _=>none

def frzV:V→V
 | .fl r=>.d (.list r)
 | .tl r _ _ _=>.d (.list r)
 | v=>v

def repl (n:Nat)(zero:List D):List V :=
 match n with
 | 0=>[]
 | n+1=>zero.map .d++repl n zero

def keyOk (ka:Bool)(ks:List Lf):V→Bool
 | .d d=>!ka&&fitsAll ks [d]
 | .da l=>ka&&fitsAll ks l
 | _=>false

def keysOk (ka:Bool)(ks:List Lf)(es:List (Nat×V×V)):Prop:=∀ x∈es,keyOk ka ks x.2.1=true

def findM (k:V):List (Nat×V×V)→Option V
 | []=>none
 | (_,k',v)::r=>if k'=k then some v else findM k r

def putM (k v:V):List (Nat×V×V)→List (Nat×V×V)
 | []=>[]
 | (b,k',v')::r=>if k'=k then(b,k,v)::r else(b,k',v')::putM k v r

def delM (k:V):List (Nat×V×V)→List (Nat×V×V)
 | []=>[]
 | (b,k',v')::r=>if k'=k then r else(b,k',v')::delM k r

def lookM (σ:St)(ka:Bool)(ks:List Lf)(x k:V):Option (Option V) :=
 if keyOk ka ks k=false then none else
 match x with
 | .d .nilm=>some none
 | .map r=>match σ.objs[r]? with
  | some (.map es _)=>if keysOk ka ks es then some (findM k es) else none
  | _=>none
 | _=>none

def lookupV (σ:St)(ka:Bool)(ks:List Lf)(zero:V)(ok:Bool)(x k:V):Option V :=
 match lookM σ ka ks x k with
 | some (some v)=>some (if ok then .tup [v,.d (.bool true)] else v)
 | some none=>some (if ok then .tup [zero,.d (.bool false)] else zero)
 | none=>none

def nilCheckV:V→Option V
 | .ref r off=>some (.ref r off)
 | .ro cs=>some (.ro cs)
 | .fn (.func f) first caps=>some (.fn (.func f) first caps)
 | _=>none

def faddrV (off:Nat):V→Option V
 | .ref r o=>some (.ref r (o+off))
 | .ro cs=>if off≤cs.length then some (.ro (cs.drop off)) else none
 | _=>none

def iaddrV (σ:St)(sz:Nat)(x i:V):Option V :=
 match asIdx i with
 | some j=>match x with
  | .sl r off len s=>if s=sz∧0≤j∧j<len then some (.ref r (off+j.toNat*sz)) else none
  | y=>match V.rows σ y with
   | some rows=>if 0≤j∧j<rows.length then(match rows[j.toNat]? with | some row=>if row.length=sz then some (.ro row) else none | none=>none) else none
   | none=>none
 | none=>none

def iaddrArrV (len sz:Nat)(x i:V):Option V :=
 match asIdx i with
 | some j=>if 0≤j∧j<len then(match x with
  | .ref r o=>some (.ref r (o+j.toNat*sz))
  | .ro cs=>if j.toNat*sz≤cs.length then some (.ro (cs.drop (j.toNat*sz))) else none
  | _=>none) else none
 | none=>none

def indexV (agg:Bool)(len sz:Nat)(x i:V):Option V :=
 match asIdx i with
 | some j=>if 0≤j∧j<len then partOf agg (j.toNat*sz) sz x else none
 | none=>none

def indexStrV (x i:V):Option V :=
 match x,asIdx i with
 | .d (.str s),some j=>if 0≤j then(match s[j.toNat]? with | some b=>some (.d (.int .u8 b.toNat)) | none=>none) else none
 | _,_=>none

def sliceX (σ : St) (sz : Nat) (x : V) (lo hi mx : Option V) : Option V :=
  match lenV σ x with
  | some len => match boundV 0 lo, boundV len hi with
    | some l, some h => if 0 ≤ l ∧ l ≤ h then
        (match mx with
         | none => sliceV sz x l.toNat h.toNat none
         | some m => match asIdx m with
           | some k => if hi.isSome ∧ h ≤ k then sliceV sz x l.toNat h.toNat (some k.toNat) else none
           | none => none)
      else none
    | _, _ => none
  | none => none

def sliceStrV (x:V)(lo hi:Option V):Option V :=
 match x with
 | .d (.str s)=>match boundV 0 lo,boundV s.length hi with
  | some l,some h=>if 0≤l∧l≤h∧h≤s.length then some (.d (.str ((s.drop l.toNat).take (h.toNat-l.toNat)))) else none
  | _,_=>none
 | _=>none

def sliceArrV (σ : St) (n sz : Nat) (x : V) (lo hi : Option V) : Option V :=
  match boundV 0 lo, boundV n hi with
  | some l, some h => if 0 ≤ l ∧ l ≤ h ∧ h ≤ n then
      (match x with
       | .ref r o => match σ.objs[r]? with
         | some (.cells cs) => if o + n * sz = cs.length then some (.sl r (o + l.toNat * sz) (h.toNat - l.toNat) sz) else none
         | _ => none
       | .ro cs => if n * sz ≤ cs.length then some (.d (.list (rowsOf sz (h.toNat - l.toNat) (cs.drop (l.toNat * sz))))) else none
       | _ => none)
    else none
  | _, _ => none

def mkifV (t:Nat):V→Option V
 | .d y=>some (.d (.iface t y))
 | .da l=>some (.d (.iface t (.agg l)))
 | .any=>none
 | .gone=>none
 | .tup _=>none
 | y=>some (.ifc t y)

def unwrapD:D→V
 | .agg l=>.da l
 | y=>.d y

def assertV (t:Nat)(zero:V)(ok:Bool):V→Option V
 | .d (.iface t' y) =>
  if t'=t then some (if ok then .tup [unwrapD y,.d (.bool true)] else unwrapD y)
  else if ok then some (.tup [zero,.d (.bool false)]) else none
 | .d .nili=>if ok then some (.tup [zero,.d (.bool false)]) else none
 | .ifc t' y =>
  if t'=t then some (if ok then .tup [y,.d (.bool true)] else y)
  else if ok then some (.tup [zero,.d (.bool false)]) else none
 | _=>none

def extractV (x:V)(i:Nat):Option V :=
 match x with
 | .tup vs=>vs[i]?
 | _=>none

def zerosD (n:Nat)(z:List D):List D:=match n with
 | 0=>[]
 | n+1=>z++zerosD n z

def evalP (op:POp)(e:Env) (σ:St):Option V :=
 match op with
 | .move x=>some (x.ev e)
 | .pick c a b=>match c.ev e with
  | .d (.bool t)=>some (if t then a.ev e else b.ev e)
  | _=>none
 | .bin op ty ks x y=>evalBin op ty ks (x.ev e) (y.ev e) x.isC y.isC
 | .una op x=>evalUn op (x.ev e)
 | .conv k x=>evalConv σ k (x.ev e)
 | .load agg n x=>loadAt σ agg n (x.ev e)
 | .nilCheck x=>nilCheckV (x.ev e)
 | .faddr off x=>faddrV off (x.ev e)
 | .field agg off n x=>partOf agg off n (x.ev e)
 | .iaddr sz x i=>iaddrV σ sz (x.ev e) (i.ev e)
 | .iaddrArr len sz x i=>iaddrArrV len sz (x.ev e) (i.ev e)
 | .index agg len sz x i=>indexV agg len sz (x.ev e) (i.ev e)
 | .indexStr x i=>indexStrV (x.ev e) (i.ev e)
 | .slice sz x lo hi mx=>sliceX σ sz (x.ev e) (lo.map (Opd.ev e)) (hi.map (Opd.ev e)) (mx.map (Opd.ev e))
 | .sliceStr x lo hi=>sliceStrV (x.ev e) (lo.map (Opd.ev e)) (hi.map (Opd.ev e))
 | .sliceArr n sz x lo hi=>sliceArrV σ n sz (x.ev e) (lo.map (Opd.ev e)) (hi.map (Opd.ev e))
 | .bslice t len sz zero parts =>
  match fillV (repl len zero) (parts.map fun(i,x)=>(i*sz,sz,x.ev e)) with
  | some cs=>match ofD (cs.map frzV) with
   | some l=>some (.fl (rowsOf sz len l))
   | none=>none
  | none=>none
 | .build zero parts=>match fillV (zero.map .d) (parts.map fun(o,n,x)=>(o,n,x.ev e)) with
  | some cs=>some (mkAgg cs)
  | none=>none
 | .len ty x=>match lenT σ ty (x.ev e) with
  | some n=>some (.d (.int .i64 n))
  | none=>none
 | .lenArr n=>some (.d (.int .i64 n))
 | .cap x=>match x.ev e with
  | .d .nils=>some (.d (.int .i64 0))
  | _=>none
 | .min xs=>minAll (xs.map (Opd.ev e))
 | .max xs=>maxAll (xs.map (Opd.ev e))
 | .mkif t x=>mkifV t (x.ev e)
 | .assert t zero ok x=>assertV t (zero.ev []) ok (x.ev e)
 | .extract x i=>extractV (x.ev e) i
 | .mkfn f first caps=>some (.fn f (first.map (Opd.ev e)) (caps.map (Opd.ev e)))
 | .lookup ka ks zero ok x k=>lookupV σ ka ks (zero.ev []) ok (x.ev e) (k.ev e)
 | .mkfl sz bytes zero len cap=>match len.ev e,cap.ev e with
  | .d (.int k l),.d (.int k' c)=>if k = .i64∧k' = .i64∧0≤l∧l=c∧c*bytes≤140737488355328∧c≤9223372036854775807 then some (.fl (rowsOf sz l.toNat (zerosD l.toNat zero))) else none
  | _,_=>none

def St.setObj (σ:St)(r:Nat)(o:Obj):St:={ σ with objs:=σ.objs.set r o }
def St.push (σ:St)(o:Obj):St:={ σ with objs:=σ.objs++[o] }
def St.pushTok (σ:St)(k:Nat):St:={ σ with toks:=σ.toks++[k] }
def St.spot (σ:St)(tg:Option Nat):Nat:=match tg with | some r=>r | none=>σ.objs.length
def St.place (σ:St)(tg:Option Nat)(o:Obj):Option St :=
 match tg with
 | none=>some (σ.push o)
 | some r=>match σ.objs[r]? with
  | some .free=>some (σ.setObj r o)
  | _=>none
def St.setTok (σ:St)(t k:Nat):St:={ σ with toks:=σ.toks.set t k }

def appendV (σ:St)(tg:Option Nat)(sz bytes:Nat)(s:V)(ys:List (List D)):Option (V×St) :=
 if fitR sz ys=false then none else
 match s with
 | .sl r off len s' =>
  if s'=sz∧0<sz then
   match σ.objs[r]? with
   | some (.cells cs) =>
    if off+(len+ys.length)*sz≤cs.length then
     some (.sl r off (len+ys.length) sz,σ.setObj r (.cells (splice cs (off+len*sz) (ys.flatten.map .d))))
    else none
   | _=>none
  else none
 | s =>
  if ys=[] then(if (V.rows σ s).isSome then some (s,σ) else none) else
  match s with
  | .d .nils=>if 0<sz∧ys.length*bytes≤140737488355328∧ys.length≤9223372036854775807 then some (.tl ys σ.toks.length 0 sz,σ.pushTok ys.length) else none
  | .fl rows=>if 0<sz∧fitR sz rows=true∧(rows.length+ys.length)*bytes≤140737488355328∧rows.length+ys.length≤9223372036854775807 then some (.tl (rows++ys) σ.toks.length 0 sz,σ.pushTok (rows.length+ys.length)) else none
  | .tl rows t st s' =>
   if s'=sz∧fitR sz rows=true∧σ.toks[t]?=some (st+rows.length)∧(rows.length+ys.length)*bytes≤140737488355328∧rows.length+ys.length≤9223372036854775807 then
    some (.tl (rows++ys) t st sz,σ.setTok t (st+rows.length+ys.length))
   else none
  | _=>none

def newObj (σ:St)(tg:Option Nat)(o:Obj)(v:Nat→V):Option (V×St) :=
 match σ.place tg o with
 | some σ'=>some (v (σ.spot tg),σ')
 | none=>none

def copyV (σ:St)(sz:Nat)(s:V)(ys:List (List D)):Option (V×St) :=
 if fitR sz ys=false then none else
 match s with
 | .sl r off len s' =>
  if s'=sz∧0<sz then
   match σ.objs[r]? with
   | some (.cells cs) =>
    if off+len*sz≤cs.length then
     some (.d (.int .i64 (min ys.length len:Nat)),σ.setObj r (.cells (splice cs off ((ys.take len).flatten.map .d))))
    else none
   | _=>none
  else none
 | s=>if lenV σ s=some 0 then some (.d (.int .i64 0),σ) else none

def clearV (σ:St)(sz:Nat)(zero:List D)(s:V):Option (V×St) :=
 match s with
 | .sl r off len s' =>
  if s'=sz∧0<sz then
   match σ.objs[r]? with
   | some (.cells cs) =>
    if off+len*sz≤cs.length then some (.tup [],σ.setObj r (.cells (splice cs off (repl len zero)))) else none
   | _=>none
  else none
 | s=>if lenV σ s=some 0 then some (.tup [],σ) else none

def appendM (σ : St) (tg : Option Nat) (sz bytes : Nat) (s : V) (ys : List (List D)) : Option (V × St) :=
  if fitR sz ys = false ∨ ys = [] then none else
  match s with
  | .d .nils => if 0 < sz ∧ ys.length * bytes ≤ 140737488355328 ∧ ys.length ≤ 9223372036854775807 then
      newObj σ tg (.cells (ys.flatten.map .d)) fun r => .sl r 0 ys.length sz else none
  | .fl rows => if 0 < sz ∧ fitR sz rows = true ∧ (rows.length + ys.length) * bytes ≤ 140737488355328 ∧ rows.length + ys.length ≤ 9223372036854775807 then
      newObj σ tg (.cells ((rows ++ ys).flatten.map .d)) fun r => .sl r 0 (rows.length + ys.length) sz else none
  | .sl r off len s' => if s' = sz ∧ 0 < sz ∧ (len + ys.length) * bytes ≤ 140737488355328 ∧ len + ys.length ≤ 9223372036854775807 then
      (match σ.objs[r]? with
       | some (.cells cs) => if off + len * sz ≤ cs.length ∧ off < cs.length then
           newObj (σ.setObj r .dead) tg (.cells ((cs.drop off).take (len * sz) ++ ys.flatten.map .d)) fun r => .sl r 0 (len + ys.length) sz else none
       | _ => none) else none
  | _ => none

def appendX (σ : St) (tg : Option Nat) (sz bytes : Nat) (s x : V) : Option (V × St) :=
  match x with
  | .sl rx ox lx sx => match σ.objs[rx]? with
    | some (.cells cx) => if sx = sz ∧ 0 < sz ∧ 0 < lx ∧ ox + lx * sz ≤ cx.length then
        (match s with
        | .d .nils => if lx * bytes ≤ 140737488355328 ∧ lx ≤ 9223372036854775807 then newObj σ tg (.cells ((cx.drop ox).take (lx * sz))) fun r => .sl r 0 lx sz else none
        | .sl r off len s' => if s' = sz ∧ (len + lx) * bytes ≤ 140737488355328 ∧ len + lx ≤ 9223372036854775807 then
            (match σ.objs[r]? with
             | some (.cells cs) => if off + len * sz ≤ cs.length ∧ off < cs.length then
                 newObj (σ.setObj r .dead) tg (.cells ((cs.drop off).take (len * sz) ++ (cx.drop ox).take (lx * sz))) fun r => .sl r 0 (len + lx) sz else none
             | _ => none) else none
        | _ => none) else none
    | _ => none
  | _ => none

def updateV (σ:St)(ka:Bool)(ks:List Lf)(m k x:V):Option (V×St) :=
 match m with
 | .map r=>match σ.objs[r]? with
  | some (.map es clock)=>if keyOk ka ks k=true∧keysOk ka ks es∧x.cells.isSome=true then
    some (.gone,σ.setObj r (match findM k es with
     | some _=>.map (putM k x es) clock
     | none=>.map (es++[(clock,k,x)]) (clock+1)))
   else none
  | _=>none
 | _=>none

def deleteV (σ:St)(ka:Bool)(ks:List Lf)(m k:V):Option (V×St) :=
 if keyOk ka ks k=false then none else
 match m with
 | .d .nilm=>some (.tup [],σ)
 | .map r=>match σ.objs[r]? with
  | some (.map es clock)=>if keysOk ka ks es then some (.tup [],σ.setObj r (.map (delM k es) clock)) else none
  | _=>none
 | _=>none

def rangeV (σ:St)(tg:Option Nat)(x:V):Option (V×St) :=
 match x with
 | .d .nilm=>newObj σ tg (.iter none 0 [] 0) .iter
 | .map r=>match σ.objs[r]? with
  | some (.map es clock)=>newObj σ tg (.iter (some r) clock [] clock) .iter
  | _=>none
 | _=>none

def entryV (σ:St)(x:V):Option V :=
 match x with
 | .iter r=>match σ.objs[r]? with
  | some (.iter (some m) _ seen last)=>match seen.getLast?,σ.objs[m]? with
   | some b,some (.map es clock)=>if clock=last then(match es.find? (fun e=>e.1==b) with
    | some e=>some (.tup [e.2.1,e.2.2])
    | none=>none) else none
   | _,_=>none
  | _=>none
 | _=>none

def cloneV (σ:St)(tg:Option Nat)(x:V):Option (V×St) :=
 match x with
 | .ifc t (.map r)=>match σ.objs[r]? with
  | some (.map es clock)=>newObj σ tg (.map es clock) fun q=>.ifc t (.map q)
  | _=>none
 | _=>none

def evalE (op:EOp)(e:Env) (σ:St)(tg:Option Nat):Option (V×St) :=
 match op with
 | .alloc zero=>newObj σ tg (.cells zero) fun r=>.ref r 0
 | .box x=>match (x.ev e).cells with
  | some l=>newObj σ tg (.cells l) fun r=>.ref r 0
  | none=>none
 | .store n a x=>match a.ev e with
  | .ref r off=>match σ.objs[r]? with
   | some (.cells cs) =>
    match (x.ev e).cells with
    | some l=>if l.length=n∧off+n≤cs.length then some (.gone,σ.setObj r (.cells (splice cs off l))) else none
    | none=>none
   | _=>none
  | _=>none
 | .append t sz bytes s x=>match V.rows σ (x.ev e) with
  | some ys=>appendV σ tg sz bytes (s.ev e) ys
  | none=>none
 | .appendStr t s x=>match x.ev e with
  | .d (.str l)=>appendV σ tg 1 1 (s.ev e) (byteRows l)
  | _=>none
 | .appendZero t sz bytes zero s n=>match s.ev e,n.ev e with
  | .d .nils,.d (.int k l)=>if k = .i64∧0<l∧l*bytes≤140737488355328∧l≤9223372036854775807∧0<sz then
    newObj σ tg (.cells (repl l.toNat zero)) fun r=>.sl r 0 l.toNat sz
   else none
  | _,_=>none
 | .copy sz s x=>match V.rows σ (x.ev e) with
  | some ys=>copyV σ sz (s.ev e) ys
  | none=>none
 | .clear sz zero s=>clearV σ sz zero (s.ev e)
 | .makeSlice t sz bytes zero len cap=>match len.ev e,cap.ev e with
  | .d (.int k l),.d (.int k' c)=>if k = .i64∧k' = .i64∧0≤l∧l≤c∧c*bytes≤140737488355328∧c≤9223372036854775807∧0<sz then
    newObj σ tg (.cells (repl c.toNat zero)) fun r=>.sl r 0 l.toNat sz
   else none
  | _,_=>none
 | .makeMap=>newObj σ tg (.map [] 0) .map
 | .mapUpdate ka ks m k x=>updateV σ ka ks (m.ev e) (k.ev e) (x.ev e)
 | .mapDelete ka ks m k=>deleteV σ ka ks (m.ev e) (k.ev e)
 | .range x=>rangeV σ tg (x.ev e)
 | .entry x=>match entryV σ (x.ev e) with
  | some v=>some (v,σ)
  | none=>none
 | .cloneMap x=>cloneV σ tg (x.ev e)

def evalM (op:EOp)(e:Env) (σ:St)(tg:Option Nat):Option (V×St) :=
 match op with
 | .append t sz bytes s x=>match V.rows σ (x.ev e) with
  | some ys=>appendM σ tg sz bytes (s.ev e) ys
  | none=>appendX σ tg sz bytes (s.ev e) (x.ev e)
 | .appendStr t s x=>match x.ev e with
  | .d (.str l)=>appendM σ tg 1 1 (s.ev e) (byteRows l)
  | _=>none
 | .makeSlice t sz bytes zero len cap=>match len.ev e,cap.ev e with
  | .d (.int k l),.d (.int k' c)=>if k = .i64∧k' = .i64∧0≤l∧l=c∧c*bytes≤140737488355328∧c≤9223372036854775807 then
    some (.fl (rowsOf sz l.toNat (zerosD l.toNat zero)),σ)
   else none
  | _,_=>none
 | .appendZero t sz bytes zero s n=>match n.ev e with
  | .d (.int k l)=>if k = .i64∧0≤l∧(lenV σ (s.ev e)).isSome=true then
    (if l=0 then some (s.ev e,σ) else appendM σ tg sz bytes (s.ev e) (List.replicate l.toNat zero))
   else none
  | _=>none
 | _=>none

def thaw (σ:St):List (Nat×Nat×V)→Option (List (Nat×Nat×V)×St)
 | []=>some ([],σ)
 | (o,n,v)::l=>match v with
  | .sl r off len sz=>match V.rows σ (.sl r off len sz) with
   | some rows=>match thaw (σ.setObj r .dead) l with
    | some (l',s)=>some ((o,n,.d (.list rows))::l',s)
    | none=>none
   | none=>none
  | v=>match thaw σ l with
   | some (l',s)=>some ((o,n,v)::l',s)
   | none=>none

def evalF (op:POp)(e:Env) (σ:St):Option (V×St) :=
 match op with
 | .bslice t len sz zero parts=>match thaw σ (parts.map fun(i,x)=>(i*sz,sz,x.ev e)) with
  | some (l,s)=>match fillV (repl len zero) l with
   | some cs=>match ofD (cs.map frzV) with
    | some ds=>some (.fl (rowsOf sz len ds),s)
    | none=>none
   | none=>none
  | none=>none
 | _=>none

abbrev Post:=V→St→Prop
abbrev CallP:=Mode→Nat→List V→St→Post→Prop

structure Cx where
 mode:Nat→Mode
 /-- Slots that name no object where a region's operations look at them. -/
 dry:List Nat:=[]
 /-- Package-level variables that stay as they are, and what they hold. -/
 globs:List (Nat×List D):=[]
 /-- Slots (of operations in the order of the text) for which a list of values is an object that may be written. -/
 obj:List Nat:=[]
 /-- The same, of a slot and a type of elements. -/
 objs:List (Nat×Nat):=[]

def GB:Nat:=1000000

def byVals (σ:St):List V→Option (List V)
 | []=>some []
 | v::r=>match v.byVal σ,byVals σ r with
  | some x,some l=>some (x::l)
  | _,_=>none

def callM (K:CallP)(m:Mode)(f:Nat)(vs:List V) (σ:St)(Q:Post):Prop :=
 match m with
 | .raw=>∃ Q',K .raw f vs σ Q'∧∀ v s,Q' v s→Q v s
 | .rd=>∃ Q',K .rd f vs σ Q'∧∀ v s,Q' v s→Q v σ
 | .rnd=>False
 | .val=>match byVals σ vs with
  | some ds=>∃ Q',K .val f ds St.empty Q'∧∀ v s,Q' v s→v.pure=true∧(vs.any V.borrows=true→v.scalars=true)∧Q v σ
  | none=>False

def callK0 (K:CallP)(cx:Cx)(f:Nat)(vs:List V) (σ:St)(Q:Post):Prop:=∃ m,callM K m f vs σ Q
def thawV (σ:St):List V→Option (List V×St)
 | []=>some ([],σ)
 | v::l=>match v with
  | .sl r off len sz=>match V.rows σ (.sl r off len sz) with
   | some rows=>match thawV (σ.setObj r .dead) l with
    | some (l',s)=>some (.d (.list rows)::l',s)
    | none=>none
   | none=>none
  | v=>match thawV σ l with
   | some (l',s)=>some (v::l',s)
   | none=>none
def callK (K:CallP)(cx:Cx)(f:Nat)(vs:List V) (σ:St)(Q:Post):Prop:=callK0 K cx f vs σ Q∨∃ vs' σ',thawV σ vs=some (vs',σ')∧callK0 K cx f vs' σ' Q

def putE (e:Env)(dst:Option Nat)(v:V):Env :=
 match dst with
 | some s=>e.set s v
 | none=>e

def nextV (it:V) (σ:St)(Q:Post):Prop :=
 match it with
 | .iter r=>match σ.objs[r]? with
  | some (.iter none _ _ _)=>Q (.tup [.d (.bool false)]) σ
  | some (.iter (some m) since seen last)=>match σ.objs[m]? with
   | some (.map es clock)=>clock=since∧last=since∧(∀ x∈es,x.1<since) ∧
     (∀ x∈es,seen.contains x.1=false→Q (.tup [.d (.bool true),x.2.1,x.2.2]) (σ.setObj r (.iter (some m) since (seen++[x.1]) clock))) ∧
     ((∀ x∈es,seen.contains x.1=true)→Q (.tup [.d (.bool false)]) σ)
   | _=>False
  | _=>False
 | _=>False

def isObj (cx:Cx)(dst:Option Nat)(op:POp):Bool:=match op with
 | .bslice t _ _ _ _=>match dst with
  | some s=>cx.obj.contains s||cx.objs.contains (s,t)
  | none=>false
 | _=>false
def evalB (op:POp)(e:Env) (σ:St):Option (V×St):=match op with
 | .bslice t len sz zero parts=>match fillV (repl len zero) (parts.map fun(i,x)=>(i*sz,sz,x.ev e)) with
  | some cs=>newObj σ none (.cells cs) fun r=>.sl r 0 len sz
  | none=>none
 | _=>none

mutual
def wins (K:CallP)(cx:Cx):List Ins→Env→St→(Env→St→Prop)→Prop
 | [],e,σ,Q=>Q e σ
 | i::r,e,σ,Q=>wone K cx i e σ fun e' σ'=>wins K cx r e' σ' Q
def wone (K:CallP)(cx:Cx):Ins→Env→St→(Env→St→Prop)→Prop
 | .p dst op,e,σ,Q=>if isObj cx dst op=true then(match evalB op e σ with
   | some (v,s)=>Q (putE e dst v) s
   | none=>False)
  else match evalP op e σ with
  | some v=>Q (putE e dst v) σ
  | none=>match evalF op e σ with
   | some (v,s)=>Q (putE e dst v) s
   | none=>False
 | .e dst op,e,σ,Q=>(match evalE op e σ none with
  | some (v,σ')=>Q (putE e dst v) σ'
  | none=>False)∨(match evalM op e σ none with
  | some (v,σ')=>Q (putE e dst v) σ'
  | none=>False)
 | .call dst f args,e,σ,Q=>callK K cx f (args.map (Opd.ev e)) σ fun v σ'=>Q (putE e dst v) σ'
 | .callv dst f args,e,σ,Q=>match f.ev e with
  | .fn (.func g) first caps=>callK K cx g (first++args.map (Opd.ev e)++caps) σ fun v σ'=>Q (putE e dst v) σ'
  | .yld r=>∃ Q',K .rnd r (args.map (Opd.ev e)) σ Q'∧∀ v σ',Q' v σ'→Q (putE e dst v) σ'
  | _=>False
 | .next dst it,e,σ,Q=>nextV (it.ev e) σ fun v σ'=>Q (putE e dst v) σ'
 | .when s want body,e,σ,Q=>match e.get s with
  | .d (.bool b)=>if b=want then wins K cx body e σ Q else Q (goneAll body e) σ
  | .gone=>Q (goneAll body e) σ
  | _=>False
def goneAll:List Ins→Env→Env
 | [],e=>e
 | i::r,e=>goneAll r (goneOne i e)
def goneOne:Ins→Env→Env
 | .p dst _,e=>putE e dst .gone
 | .e dst _,e=>putE e dst .gone
 | .call dst _ _,e=>putE e dst .gone
 | .callv dst _ _,e=>putE e dst .gone
 | .next dst _,e=>putE e dst .gone
 | .when _ _ body,e=>goneAll body e
end

def wdop (K:CallP)(cx:Cx)(n0:Nat)(o:DOp)(e:Env) (σ:St)(Q:Env→St→Prop):Prop :=
 let go:Prop:=match o.ins with
  | .e dst op=>(match evalE op e σ (some (n0+o.al)) with
   | some (v,σ')=>Q (putE e dst v) σ'
   | none=>False)∨(match evalM op e σ (some (n0+o.al)) with
   | some (v,σ')=>Q (putE e dst v) σ'
   | none=>False)
  | .p dst op=>(match evalP op e σ with
   | some v=>Q (putE e dst v) σ
   | none=>False)
  | i=>wone K cx i e σ Q
 match o.guard with
 | none=>go
 | some (s,want)=>match e.get s with
  | .d (.bool b)=>if b=want then go else Q (goneOne o.ins e) σ
  | .gone=>Q (goneOne o.ins e) σ
  | _=>False

def readyD (l:List DOp)(listed:List Nat):List Nat :=
 (List.range l.length).filter fun i=>!listed.contains i&&((l[i]?).map fun o=>o.after.all fun j=>listed.contains j).getD false

def wany (K:CallP)(cx:Cx)(n0:Nat)(l:List DOp):Nat→List Nat→Env→St→(Env→St→Prop)→Prop
 | 0,listed,e,σ,Q=>readyD l listed=[]∧Q e σ
 | f+1,listed,e,σ,Q=>(readyD l listed=[]→Q e σ) ∧
   ∀ i∈readyD l listed,∃ o,l[i]?=some o∧wdop K cx n0 o e σ fun e' σ'=>wany K cx n0 l f (i::listed) e' σ' Q

def dref:V→List Nat
 | .ref r _=>[r]
 | .sl r _ _ _=>[r]
 | .map r=>[r]
 | .yld r=>[r]
 | .iter r=>[r]
 | _=>[]

def Okay (e:Env) (σ:St):Prop:=∀ s,∀ r∈dref (e.get s),r<σ.objs.length

def St.room (σ:St)(n:Nat):St:={ σ with objs:=σ.objs++List.replicate n .free }

abbrev PostC:=Ex→Env→St→Prop

def LoopP (T:Env→St→PostC→Prop)(ks:List Nat)(e:Env) (σ:St)(Q:PostC):Prop :=
 ∀ I:Env→St→Prop,(∀ e σ,T e σ (fun ex e' σ'=>match ex with | .normal=>I (e'.pick ks) σ' | x=>Q x e' σ')→I e σ)→I (e.pick ks) σ

def wcode (K:CallP)(cx:Cx):C→Env→St→PostC→Prop
 | .skip,e,σ,Q=>Q .normal e σ
 | .ops ks l,e,σ,Q=>wins K cx l e σ fun e' σ'=>Q .normal (e'.pick ks) σ'
 | .drw ks na l,e,σ,Q=>Okay e σ→wany K cx σ.objs.length l l.length [] e (σ.room na) fun e' σ'=>Q .normal (e'.pick ks) σ'
 | .seq a b,e,σ,Q=>wcode K cx a e σ fun ex e' σ'=>match ex with
  | .normal=>wcode K cx b e' σ' Q
  | x=>Q x e' σ'
 | .cond c a b,e,σ,Q=>match c.ev e with
  | .d (.bool t)=>if t=true then wcode K cx a e σ Q else wcode K cx b e σ Q
  | _=>False
 | .block id c,e,σ,Q=>wcode K cx c e σ fun ex e' σ'=>match ex with
  | .exit j=>if j=id then Q .normal e' σ' else Q (.exit j) e' σ'
  | x=>Q x e' σ'
 | .loop ks c,e,σ,Q=>LoopP (fun e σ Q=>wcode K cx c e σ Q) ks e σ Q
 | .exit id,e,σ,Q=>Q (.exit id) e σ
 | .ret,e,σ,Q=>Q .ret e σ
 | .rangeF ks f ps a b,e,σ,Q=>match f.ev e with
  | .fn (.func g) first caps=>callM K .raw g (first++[.yld σ.objs.length]++caps) (σ.push (.loop (e.pick ks) ps a b .ready)) fun _ s=>match s.objs[σ.objs.length]? with
   | some (.loop _ _ _ _ .ready)=>Q .normal (e.pick ks) (s.setObj σ.objs.length .dead)
   | some (.loop _ _ _ _ (.done x))=>Q x (e.pick ks) (s.setObj σ.objs.length .dead)
   | _=>False
  | _=>False

inductive Res where
 | tmp (s:Nat)
 | cell (s:Nat) (agg:Bool) (n:Nat)
 deriving Inhabited

structure FnC where
 nparams:Nat
 ntmps:Nat
 res:List Res
 body:C
 globs:List (Nat×List D):=[]
 deriving Inhabited

def Res.ev (e:Env) (σ:St):Res→Option V
 | .tmp s=>some (e.get s)
 | .cell s agg n=>loadAt σ agg n (e.get s)

def resAll (e:Env) (σ:St):List Res→Option (List V)
 | []=>some []
 | r::l=>match r.ev e σ,resAll e σ l with
  | some v,some vs=>some (v::vs)
  | _,_=>none

def tupOf:List V→V
 | [v]=>v
 | vs=>.tup vs

def byValsN (lo:Nat) (σ:St):List V→Option (List V)
 | []=>some []
 | v::r=>match v.byValN lo σ,byValsN lo σ r with
  | some x,some l=>some (x::l)
  | _,_=>none

def Keeps (σ s:St):Prop:=(∀ i,i<σ.objs.length→s.objs[i]?=σ.objs[i]?)∧∀ (t k:Nat),σ.toks[t]?=some k→s.toks[t]?=some k

def retV (mode:Mode)(lo:Nat)(e:Env) (σ:St)(rs:List Res):Option V :=
 match resAll e σ rs with
 | some vs=>match mode with
  | .raw=>some (tupOf vs)
  | .val=>match byVals σ vs with
   | some ds=>some (tupOf ds)
   | none=>none
  | .rd=>match byValsN lo σ vs with
   | some ds=>some (tupOf ds)
   | none=>none
  | .rnd=>none
 | none=>none

def initEnv:Nat→List V→Env
 | _,[]=>[]
 | i,v::r=>(i,v)::initEnv (i+1) r

def globEnv (l:List (Nat×List D)):Env:=l.map fun x=>(GB+x.1,.ro x.2)

def bodyP (K:CallP)(cx:Cx)(mode:Mode)(fc:FnC)(vs:List V) (σ:St)(Q:Post):Prop :=
 vs.length=fc.nparams∧wcode K cx fc.body (initEnv 0 vs++globEnv fc.globs) σ fun ex e s=>match ex with
  | .exit _=>False
  | _=>∃ v,retV mode σ.objs.length e s fc.res=some v∧(mode = .rd→Keeps σ s)∧Q v s

def setAll:Env→List Nat→List V→Env
 | e,p::ps,v::vs=>setAll (e.set p v) ps vs
 | e,_,_=>e

def roundP (K:CallP)(cx:Cx)(r:Nat)(vs:List V) (σ:St)(Q:Post):Prop :=
 ∃ e ps a b,σ.objs[r]?=some (.loop e ps a b .ready)∧vs.length=ps.length∧wcode K cx a (setAll e ps vs) σ fun ex e1 s1=>match ex with
  | .normal=>s1.objs[r]?=some (.loop e ps a b .ready)∧wcode K cx b e1 (s1.setObj r (.loop e ps a b .busy)) fun ex e2 s2=>s2.objs[r]?=some (.loop e ps a b .busy)∧match ex with
   | .normal=>Q (.d (.bool true)) (s2.setObj r (.loop e ps a b .ready))
   | x=>Q (.d (.bool false)) (s2.setObj r (.loop e ps a b (.done x)))
  | _=>False

def stepP (Γ:Nat→Option FnC)(K:CallP)(cx:Cx):CallP:=fun m f vs σ Q =>
 match m with
 | .rnd=>roundP K cx f vs σ Q
 | m=>∃ fc,Γ f=some fc∧bodyP K cx m fc vs σ Q

def Call (Γ:Nat→Option FnC)(cx:Cx):CallP:=fun m f vs σ Q =>
 ∀ K:CallP,(∀ m f vs σ Q,stepP Γ K cx m f vs σ Q→K m f vs σ Q)→K m f vs σ Q

end
end Go.Dn

/- From the loaded program's code to the small language: a closed computation, asked of the kernel function by function. -/
namespace Go.Dn

def aggT (P:Program)(t:TypeId):Bool :=
 match P.underlying t with
 | some (.struct _)=>true
 | some (.array _ _)=>true
 | _=>false

def okT (P:Program)(t:TypeId):Bool:=(P.underlying t).isSome

def concT (P:Program)(t:TypeId):Bool :=
 match P.underlying t with
 | some (.interface _)=>false
 | none=>false
 | _=>true

def leafD:Value→Option D
 | .int k n=>some (.int k n)
 | .bool b=>some (.bool b)
 | .string s=>some (.str s.data.toList)
 | .pointer none=>some .nilp
 | .slice none 0 0=>some .nils
 | .map none=>some .nilm
 | .nilFunc=>some .nilf
 | .nilIface=>some .nili
 | _=>none

def leafsD:List Value→Option (List D)
 | []=>some []
 | v::r=>match leafD v,leafsD r with
  | some d,some l=>some (d::l)
  | _,_=>none

def constO:Value→Option Opd
 | .agg cs=>match leafsD cs.toList with
  | some l=>some (.ca l)
  | none=>none
 | v=>match leafD v with
  | some d=>some (.c d)
  | none=>none

def zeroOf (P:Program)(t:TypeId):Option (List D) :=
 match P.info? t with
 | some i=>match i.zero with
  | some z=>leafsD z.cells.toList
  | none=>none
 | none=>none

def zeroX (P:Program)(t:TypeId):Option Opd :=
 match P.info? t with
 | some i=>match i.zero with
  | some z=>constO z
  | none=>none
 | none=>none

def compOpd:Operand→Option Opd
 | .tmp t=>if t<GB then some (.t t) else none
 | .const v=>constO v
 | .func f=>some (.f f)
 | .global g=>some (.t (GB+g))

def compOpds:List Operand→Option (List Opd)
 | []=>some []
 | x::r=>match compOpd x,compOpds r with
  | some a,some l=>some (a::l)
  | _,_=>none

def leavesFs (P : Program) (f : TypeId → Option (List Lf)) : Nat → List Field → Option (List Lf)
  | _, [] => some []
  | off, x :: r => match f x.type with
    | some l => if x.name ≠ "_" ∧ x.offset = off ∧ P.cellsOf x.type = l.length then
        (match leavesFs P f (off + l.length) r with
         | some b => some (l ++ b)
         | none => none) else none
    | none => none

def leavesOf (P:Program):Nat→TypeId→Option (List Lf)
 | 0,_=>none
 | n+1,t=>match P.underlying t with
  | some (.int k)=>some [.int k]
  | some .bool=>some [.bool]
  | some .string=>some [.str]
  | some (.array len e)=>match leavesOf P n e with
   | some l=>if P.cellsOf e=l.length∧P.cellsOf t=len*l.length then some ((List.replicate len l).flatten) else none
   | none=>none
  | some (.struct fs)=>match leavesFs P (leavesOf P n) 0 fs.toList with
   | some l=>if P.cellsOf t=l.length then some l else none
   | none=>none
  | _=>none

def flatOf (P:Program)(t:TypeId):Option (Ty×List Lf) :=
 match leavesOf P 12 t with
 | some ks=>if P.keyTypeAt 12 t && !P.eqGuardType P.depth t then some (.flat,ks) else none
 | none=>none

def compKey (P:Program)(t:TypeId):Option (Bool×List Lf) :=
 match P.underlying t with
 | some (.int k)=>some (false,[.int k])
 | some .bool=>some (false,[.bool])
 | some .string=>some (false,[.str])
 | some (.array ..)=>wide
 | some (.struct _)=>wide
 | _=>none
where
 wide:Option (Bool×List Lf):=match leavesOf P (P.types.size+1) t with
  | some ks=>if P.keyTypeAt (P.types.size+1) t&&P.tiled (P.types.size+1) t&&decide (P.types.size+2≤10000)&&P.cellsOf t==ks.length then some (true,ks) else none
  | none=>none

def mapKeyOf (P:Program)(t:TypeId):Option (Bool×List Lf) :=
 match P.underlying t with
 | some (.map k _)=>compKey P k
 | _=>none

def compTy (P:Program)(t:TypeId):Option (Ty×List Lf) :=
 match P.underlying t with
 | some (.int _)=>some (.int,[])
 | some .bool=>some (.bool,[])
 | some .string=>some (.str,[])
 | some (.pointer _)=>some (.ptr,[])
 | some (.slice _)=>some (.slice,[])
 | some (.map _ _)=>some (.map,[])
 | some (.func ..)=>some (.func,[])
 | some (.interface _)=>some (.iface,[])
 | some (.array ..)=>flatOf P t
 | some (.struct _)=>flatOf P t
 | _=>none

def fieldOf (P:Program)(t:TypeId)(i:Nat):Option (Nat×TypeId) :=
 match P.underlying t with
 | some (.struct fs)=>match fs[i]? with
  | some f=>if P.cellsOf f.type=0∨okT P f.type=false then none else some (f.offset,f.type)
  | none=>none
 | _=>none

def compConv (P:Program)(src dst:TypeId):Option Conv :=
 match P.underlying src,P.underlying dst with
 | some (.int _),some (.int k)=>some (.int k)
 | some .string,some .string=>some .same
 | some .string,some (.slice e)=>match P.underlying e with | some (.int .u8)=>some (.strBytes e) | _=>none
 | some (.slice e),some .string=>match P.underlying e with | some (.int .u8)=>some .bytesStr | _=>none
 | _,_=>none

def optOpd:Option Operand→Option (Option Opd)
 | none=>some none
 | some x=>match compOpd x with | some a=>some (some a) | none=>none

def partsOf:List (Nat×Operand)→Option (List (Nat×Opd))
 | []=>some []
 | (i,x)::r=>match compOpd x,partsOf r with
  | some a,some l=>some ((i,a)::l)
  | _,_=>none

def hasInfo (P:Program)(t:TypeId):Bool:=(P.info? t).isSome

def placeOf (P:Program)(t:TypeId)(i:Nat):Option (Nat×Nat) :=
 match P.underlying t with
 | some (.struct fs)=>if fs.toList.all (fun f=>hasInfo P f.type) then(match fs[i]? with | some f=>some (f.offset,P.cellsOf f.type) | none=>none) else none
 | some (.array _ e)=>if hasInfo P e then some (i*P.cellsOf e,P.cellsOf e) else none
 | _=>none

def placesOf (P:Program)(t:TypeId):List (Nat×Operand)→Option (List (Nat×Nat×Opd))
 | []=>some []
 | (i,x)::r=>match placeOf P t i,compOpd x,placesOf P t r with
  | some (o,n),some a,some l=>some ((o,n,a)::l)
  | _,_,_=>none

def growOk (P:Program)(e:TypeId):Bool :=
 match zeroOf P e with
 | some z=>P.cellsOf e != 0&&z.length==P.cellsOf e
 | none=>false

def compBuiltin (P:Program)(dst:Option Nat)(c:Go.Call)(b:Builtin):Option Ins :=
 match b with
 | .len=>match c.argTypes[0]?,compOpds c.args.toList with
  | some t,some [x]=>match P.underlying t with
   | some (.array n _)=>some (.p dst (.lenArr n))
   | some .string=>some (.p dst (.len .str x))
   | some (.slice _)=>some (.p dst (.len .slice x))
   | some (.map _ _)=>some (.p dst (.len .map x))
   | _=>none
  | _,_=>none
 | .append=>match c.argTypes[0]?,c.argTypes[1]?,compOpds c.args.toList with
  | some s,some x,some [a,b]=>match P.underlying s with
   | some (.slice e)=>match P.underlying x with
    | some (.slice _)=>if growOk P e then some (.e dst (.append e (P.cellsOf e) (P.bytesOf e) a b)) else none
    | some .string=>if growOk P e∧P.cellsOf e=1∧P.bytesOf e=1 then some (.e dst (.appendStr e a b)) else none
    | some (.int _)=>match zeroOf P e with
     | some z=>if growOk P e=false then none else some (.e dst (.appendZero e (P.cellsOf e) (P.bytesOf e) z a b))
     | none=>none
    | _=>none
   | _=>none
  | _,_,_=>none
 | .copy=>match c.argTypes[0]?,c.argTypes[1]?,compOpds c.args.toList with
  | some s,some x,some [a,b]=>match P.underlying s,P.underlying x with
   | some (.slice e),some (.slice _)=>if P.cellsOf e=0 then none else some (.e dst (.copy (P.cellsOf e) a b))
   | _,_=>none
  | _,_,_=>none
 | .clear=>match c.argTypes[0]?,compOpds c.args.toList with
  | some s,some [a]=>match P.underlying s with
   | some (.slice e)=>match zeroOf P e with
    | some z=>if P.cellsOf e=0∨z.length≠P.cellsOf e then none else some (.e dst (.clear (P.cellsOf e) z a))
    | none=>none
   | _=>none
  | _,_=>none
 | .min=>match compOpds c.args.toList with | some l=>some (.p dst (.min l)) | none=>none
 | .max=>match compOpds c.args.toList with | some l=>some (.p dst (.max l)) | none=>none
 | .delete=>match c.argTypes[0]?,compOpds c.args.toList with
  | some t,some [m,k]=>match mapKeyOf P t with
   | some (ka,ks)=>some (.e dst (.mapDelete ka ks m k))
   | none=>none
  | _,_=>none
 | .cap=>match c.argTypes[0]?,compOpds c.args.toList with
  | some t,some [x]=>match P.underlying t with
   | some (.slice _)=>some (.p dst (.cap x))
   | _=>none
  | _,_=>none
 | _=>none

def cloneFn (fn : Func) : Bool := fn.name == "maps.clone" && fn.body.isNone && (Extern.findNext fn).isNone

def compCall (P:Program)(dst:Option Nat)(ty:TypeId)(c:Go.Call):Option Ins :=
 match c.callee with
 | .value (.func f)=>match compOpds c.args.toList with
  | some l=>match P.funcs[f]? with
   | some fn => if fn.body.isSome ∧ fn.name ≠ "runtime.NumGoroutine" then some (.call dst f l) else (match l with
    | [x]=>if cloneFn fn then some (.e dst (.cloneMap x)) else none
    | _=>none)
   | none=>none
  | none=>none
 | .value (.tmp t)=>match compOpds c.args.toList with | some l=>if t<GB then some (.callv dst (.t t) l) else none | none=>none
 | .builtin b=>compBuiltin P dst c b
 | _=>none

def compOp (P:Program)(o:Oper):Option Ins :=
 let p (x:Option POp):Option Ins:=match x with | some op=>some (.p o.dst op) | none=>none
 let un (x:Operand) (f:Opd→Option POp):Option Ins:=match compOpd x with | some a=>p (f a) | none=>none
 let bi (x y:Operand) (f:Opd→Opd→Option POp):Option Ins:=match compOpd x,compOpd y with | some a,some b=>p (f a b) | _,_=>none
 match o.op with
 | .move x=>un x fun a=>some (.move a)
 | .assign x=>un x fun a=>some (.move a)
 | .pick c a b=>match compOpd c with
  | some c=>bi a b fun a b=>some (.pick c a b)
  | none=>none
 | .binOp op t x y _=>match compTy P t with
  | some (ty,ks)=>bi x y fun a b=>some (.bin op ty ks a b)
  | none=>none
 | .unOp op _ x=>un x fun a=>some (.una op a)
 | .convert s d x=>match compConv P s d with
  | some k=>un x fun a=>some (.conv k a)
  | none=>none
 | .load t a=>if okT P t then un a fun a=>some (.load (aggT P t) (P.cellsOf t) a) else none
 | .nilCheck x=>un x fun a=>some (.nilCheck a)
 | .fieldAddr s x f=>match fieldOf P s f with
  | some (off,_)=>un x fun a=>some (.faddr off a)
  | none=>none
 | .field s x f=>match fieldOf P s f with
  | some (off,t)=>un x fun a=>some (.field (aggT P t) off (P.cellsOf t) a)
  | none=>none
 | .indexAddr t x i=>match P.underlying t with
  | some (.slice e)=>if P.cellsOf e=0 then none else bi x i fun a b=>some (.iaddr (P.cellsOf e) a b)
  | some (.array n e)=>if P.cellsOf e=0 then none else bi x i fun a b=>some (.iaddrArr n (P.cellsOf e) a b)
  | _=>none
 | .index t x i=>match P.underlying t with
  | some .string=>bi x i fun a b=>some (.indexStr a b)
  | some (.array n e)=>if P.cellsOf e=0∨okT P e=false then none else bi x i fun a b=>some (.index (aggT P e) n (P.cellsOf e) a b)
  | _=>none
 | .slice t x lo hi mx=>match P.underlying t,optOpd lo,optOpd hi,optOpd mx with
  | some .string,some l,some h,some none=>un x fun a=>some (.sliceStr a l h)
  | some (.slice e),some l,some h,some m=>if P.cellsOf e=0 then none else un x fun a=>some (.slice (P.cellsOf e) a l h m)
  | some (.array n e),some l,some h,some none=>if P.cellsOf e=0 then none else un x fun a=>some (.sliceArr n (P.cellsOf e) a l h)
  | _,_,_,_=>none
 | .buildSlice t len parts=>match P.underlying t with
  | some (.slice e)=>match zeroOf P e,partsOf parts.toList with
   | some z,some l=>if P.cellsOf e=0∨len*P.cellsOf e>2 ^ 24∨z.length≠P.cellsOf e then none else p (some (.bslice e len (P.cellsOf e) z l))
   | _,_=>none
  | _=>none
 | .build t parts=>match zeroOf P t,placesOf P t parts.toList with
  | some z,some l=>if (match P.underlying t with | some (.struct fs)=>fs.toList.all (fun f=>hasInfo P f.type) | some (.array _ e)=>hasInfo P e | _=>false) then p (some (.build z l)) else none
  | _,_=>none
 | .makeInterface t x=>if concT P t then un x fun a=>some (.mkif t a) else none
 | .typeAssert x _ t ok=>match zeroX P t with
  | some z=>if concT P t then un x fun a=>some (.assert t z ok a) else none
  | none=>none
 | .extract x i=>un x fun a=>some (.extract a i)
 | .makeFunc fn first caps=>match compOpds first.toList,compOpds caps.toList with
  | some a,some b=>p (some (.mkfn fn a b))
  | _,_=>none
 | .lookup t x k ok=>match P.underlying t with
  | some (.map kt e)=>match compKey P kt,zeroX P e with
   | some (ka,ks),some z=>bi x k fun a b=>some (.lookup ka ks z ok a b)
   | _,_=>none
  | _=>none
 | .alloc t=>match zeroOf P t with
  | some z=>some (.e o.dst (.alloc (z.map .d)))
  | none=>none
 | .box _ x=>match compOpd x with | some a=>some (.e o.dst (.box a)) | none=>none
 | .store t a x=>match compOpd a,compOpd x with
  | some a,some x=>if hasInfo P t then some (.e o.dst (.store (P.cellsOf t) a x)) else none
  | _,_=>none
 | .makeSlice t l c=>match P.underlying t with
  | some (.slice e)=>match zeroOf P e,compOpd l,compOpd c with
   | some z,some a,some b=>if growOk P e=false then none else some (.e o.dst (.makeSlice e (P.cellsOf e) (P.bytesOf e) z a b))
   | _,_,_=>none
  | _=>none
 | .makeMap _ none=>some (.e o.dst .makeMap)
 | .mapUpdate t m k x=>match mapKeyOf P t,compOpds [m,k,x] with
  | some (ka,ks),some [m,k,x]=>some (.e o.dst (.mapUpdate ka ks m k x))
  | _,_=>none
 | .range t x=>match P.underlying t,compOpd x with
  | some (.map _ _),some a=>some (.e o.dst (.range a))
  | _,_=>none
 | .next x str=>match compOpd x with
  | some a=>if str then none else some (.next o.dst a)
  | none=>none
 | .entry x=>match compOpd x with
  | some a=>some (.e o.dst (.entry a))
  | none=>none
 | .call c=>compCall P o.dst o.type c
 | .panic _=>some (.p o.dst (.extract (.c .nilp) 0))
 | _=>none

def Ins.dst:Ins→Option Nat
 | .p d _=>d
 | .e d _=>d
 | .call d _ _=>d
 | .callv d _ _=>d
 | .next d _=>d
 | .when .. => none

def compOne (P:Program)(n:Nat)(ops:Array Oper)(o:Oper):Option (Option (Nat×Bool)×Ins) :=
 match compOp P o with
 | none=>none
 | some i =>
  if o.dst.all (· < n) then
   match o.guard with
   | none=>some (none,i)
   | some (j,w)=>match (ops[j]?).bind (·.dst) with
    | some s=>some (some (s,w),i)
    | none=>none
  else none

def compList (P:Program)(n:Nat)(ops:Array Oper):List Oper→Option (List (Option (Nat×Bool)×Ins))
 | []=>some []
 | o::r=>match compOne P n ops o,compList P n ops r with
  | some x,some l=>some (x::l)
  | _,_=>none

def group:List (Option (Nat×Bool)×Ins)→List Ins
 | []=>[]
 | (none,i)::r=>i::group r
 | (some (s,w),i)::r=>match group r with
  | .when s' w' body::r'=>if s=s'∧w=w'∧i.dst≠some s then .when s w (i::body)::r' else .when s w [i] :: .when s' w' body::r'
  | l=>.when s w [i]::l

def Ins.lays:Ins→Bool
 | .e _ (.alloc _) | .e _ (.box _) | .e _ .makeMap | .e _ (.range _) | .e _ (.cloneMap _) | .e _ (.makeSlice ..) | .e _ (.append ..) | .e _ (.appendStr ..) | .e _ (.appendZero ..)=>true
 | _=>false

def afterOf (o:Oper):List Nat:=(o.after.toList.filter fun e=>Region.binds .any e).map (·.on)

def compDraw (P:Program)(n:Nat)(ops:Array Oper):Nat→List Oper→Option (List DOp×Nat)
 | k,[]=>some ([],k)
 | k,o::r=>match compOne P n ops o with
  | some (g,i)=>match compDraw P n ops (if i.lays then k+1 else k) r with
   | some (l,m)=>some (⟨g,i,afterOf o,k⟩::l,m)
   | none=>none
  | none=>none

def C.plain:C→Bool
 | .seq a b=>a.plain&&b.plain
 | .cond _ a b=>a.plain&&b.plain
 | .block _ c=>c.plain
 | .loop _ c=>c.plain
 | .rangeF .. => false
 | _=>true

def comp (P:Program)(n:Nat):Code→Option C
 | .skip=>some .skip
 | .region _ ops false=>match compList P n ops ops.toList with
  | some l=>some (.ops [] (group l))
  | none=>none
 | .region _ ops true=>match compDraw P n ops 0 ops.toList with
  | some (l,m)=>some (.drw [] m l)
  | none=>none
 | .seq a b=>match comp P n a,comp P n b with
  | some x,some y=>some (.seq x y)
  | _,_=>none
 | .cond c a b=>match compOpd c,comp P n a,comp P n b with
  | some c,some x,some y=>some (.cond c x y)
  | _,_,_=>none
 | .block id c=>match comp P n c with | some x=>some (.block id x) | none=>none
 | .loop c=>match comp P n c with | some x=>some (.loop [] x) | none=>none
 | .exit id=>some (.exit id)
 | .ret=>some .ret
 | .rangeFunc f ps a b=>match compOpd f,comp P n a,comp P n b with
  | some f,some x,some y=>if x.plain&&y.plain&&ps.toList.all (· < n) then some (.rangeF [] f ps.toList x y) else none
  | _,_,_=>none
 | _=>none

def erase:C→C
 | .ops _ l=>.ops [] l
 | .drw _ m l=>.drw [] m l
 | .seq a b=>.seq (erase a) (erase b)
 | .cond c a b=>.cond c (erase a) (erase b)
 | .block id c=>.block id (erase c)
 | .loop _ c=>.loop [] (erase c)
 | .rangeF _ f ps a b=>.rangeF [] f ps (erase a) (erase b)
 | c=>c

theorem erase_plain : ∀ c:C,(erase c).plain=c.plain
 | .skip | .ops .. | .drw .. | .exit _ | .ret | .rangeF .. => rfl
 | .seq a b=>by simp only [erase,C.plain,erase_plain a,erase_plain b]
 | .cond _ a b=>by simp only [erase,C.plain,erase_plain a,erase_plain b]
 | .block _ c=>by simp only [erase,C.plain,erase_plain c]
 | .loop _ c=>by simp only [erase,C.plain,erase_plain c]

def compRes (P:Program):List ResultVar→Option (List Res)
 | []=>some []
 | .tmp s::r=>match compRes P r with
  | some l=>if s<GB then some (.tmp s::l) else none
  | none=>none
 | .cell a t::r=>match compRes P r with
  | some l=>if okT P t∧a<GB then some (.cell a (aggT P t) (P.cellsOf t)::l) else none
  | none=>none

end Go.Dn

/- What abstract values mean in the model's world. -/
namespace Go.Dn

set_option linter.unusedSimpArgs false

structure Tok where
 b:Nat
 o:Nat
 s0:Nat
 sz:Nat
 lim:Nat

structure Gh where
 has:Nat→Prop
 obj:Nat→Nat×Nat
 len:Nat→Nat
 lim:Nat→Nat
 tok:Nat→Tok
 frz:Nat→Nat→Prop
 prog:Program

def oneC:Value→Bool
 | .agg _ | .tuple _=>false
 | _=>true

inductive DR (frz:Nat→Nat→Prop) (w:World):D→Value→Prop
 | int (k:IntKind) (n:Int):DR frz w (.int k n) (.int k n)
 | bool (b:Bool):DR frz w (.bool b) (.bool b)
 | str (l:List UInt8):DR frz w (.str l) (.string ⟨l.toArray⟩)
 | nilp:DR frz w .nilp (.pointer none)
 | nils:DR frz w .nils (.slice none 0 0)
 | nilm:DR frz w .nilm (.map none)
 | nilf:DR frz w .nilf .nilFunc
 | nili:DR frz w .nili .nilIface
 | iface (t:Nat) (d:D) (v:Value) (h:DR frz w d v):DR frz w (.iface t d) (.iface t v)
 | list (rows:List (List D)) (b o cap sz:Nat) (cv:Nat→Value) (hcap:rows.length≤cap)
   (hsz : ∀ (i:Nat) (row:List D),rows[i]?=some row→row.length=sz)
   (hf : ∀ k,k<rows.length*sz→frz b (o+k))
   (hc : ∀ k,k<rows.length*sz→w.cell? ⟨b,o+k,none⟩=some (cv k))
   (h1 : ∀ k,k<rows.length*sz→oneC (cv k)=true)
   (hd : ∀ (i:Nat) (row:List D) (j:Nat) (d:D),rows[i]?=some row→row[j]?=some d→DR frz w d (cv (i*sz+j))) :
   DR frz w (.list rows) (.slice (some ⟨b,o,none⟩) rows.length cap)
 | list0 (a:Addr) (cap:Nat):DR frz w (.list []) (.slice (some a) 0 cap)
 | agg (cs:List D) (vs:Array Value) (hl:cs.length=vs.size) (h1 : ∀ (i:Nat) (v:Value),vs[i]?=some v→oneC v=true) (h : ∀ (i:Nat) (d:D) (v:Value),cs[i]?=some d→vs[i]?=some v→DR frz w d v):DR frz w (.agg cs) (.agg vs)

theorem DR.asList {f:Nat→Nat→Prop}{w:World}{rows:List (List D)}{b o n cap:Nat}(h:DR f w (.list rows) (.slice (some ⟨b,o,none⟩) n cap)):n=rows.length∧∃ (sz:Nat)(cv:Nat→Value),rows.length≤cap ∧
  (∀ (i:Nat) (row:List D),rows[i]?=some row→row.length=sz)∧(∀ k,k<rows.length*sz→f b (o+k))∧(∀ k,k<rows.length*sz→w.cell? ⟨b,o+k,none⟩=some (cv k)) ∧
  (∀ k,k<rows.length*sz→oneC (cv k)=true)∧(∀ (i:Nat) (row:List D) (j:Nat) (d:D),rows[i]?=some row→row[j]?=some d→DR f w d (cv (i*sz+j))):=by
 cases h with
 | list _ _ _ _ sz cv hcap hsz hf hc h1 hd=>exact⟨rfl,sz,cv,hcap,hsz,hf,hc,h1,hd⟩
 | list0 _ _=>exact⟨rfl,0,fun _=>undef,Nat.zero_le _,fun i row h=>by simp at h,fun k hk=>by simp at hk,fun k hk=>by simp at hk,fun k hk=>by simp at hk,fun i row j d h=>by simp at h⟩

structure Stay (f f':Nat→Nat→Prop)(w w':World):Prop where
 frz : ∀ b o,f b o→f' b o
 cell : ∀ b o,f b o→w'.cell? ⟨b,o,none⟩=w.cell? ⟨b,o,none⟩

theorem DR.mono {f f':Nat→Nat→Prop}{w w':World}(hs:Stay f f' w w'){d:D}{v:Value}(h:DR f w d v):DR f' w' d v:=by
 induction h with
 | int k n=>exact .int k n
 | bool b=>exact .bool b
 | str l=>exact .str l
 | nilp=>exact .nilp
 | nils=>exact .nils
 | nilm=>exact .nilm
 | nilf=>exact .nilf
 | nili=>exact .nili
 | iface t d v _ ih=>exact .iface t d v ih
 | list rows b o cap sz cv hcap hsz hf hc h1 _ ih =>
  exact .list rows b o cap sz cv hcap hsz (fun k hk=>hs.frz _ _ (hf k hk)) (fun k hk=>by rw [hs.cell _ _ (hf k hk)]; exact hc k hk) h1 ih
 | list0 a cap=>exact .list0 a cap
 | agg cs vs hl h1 _ ih=>exact .agg cs vs hl h1 ih

theorem Stay.refl (f:Nat→Nat→Prop)(w:World):Stay f f w w:=⟨fun _ _ h=>h,fun _ _ _=>rfl⟩
theorem Stay.trans {f f' f'':Nat→Nat→Prop}{w w' w'':World}(h:Stay f f' w w')(h':Stay f' f'' w' w''):Stay f f'' w w'' :=
 ⟨fun b o x=>h'.frz b o (h.frz b o x),fun b o x=>(h'.cell b o (h.frz b o x)).trans (h.cell b o x)⟩

inductive VR (g:Gh) (tk:List Nat) (w:World):V→Value→Prop
 | d (x:D) (v:Value) (h:DR g.frz w x v) (h1:oneC v=true):VR g tk w (.d x) v
 | da (cs:List D) (vs:Array Value) (h:DR g.frz w (.agg cs) (.agg vs)):VR g tk w (.da cs) (.agg vs)
 | agg (cs:List V) (vs:Array Value) (hl:cs.length=vs.size) (h1 : ∀ (i:Nat) (v:Value),vs[i]?=some v→oneC v=true) (h : ∀ (i:Nat) (c:V) (v:Value),cs[i]?=some c→vs[i]?=some v→VR g tk w c v):VR g tk w (.agg cs) (.agg vs)
 | tup (cs:List V) (vs:Array Value) (hl:cs.length=vs.size) (h : ∀ (i:Nat) (c:V) (v:Value),cs[i]?=some c→vs[i]?=some v→VR g tk w c v):VR g tk w (.tup cs) (.tuple vs)
 | ref (r off:Nat) (h:g.has r):VR g tk w (.ref r off) (.pointer (some ⟨(g.obj r).1,(g.obj r).2+off,none⟩))
 | ro (cs:List D) (b o:Nat) (cv:Nat→Value)
   (hf : ∀ k,k<cs.length→g.frz b (o+k)) (hc : ∀ k,k<cs.length→w.cell? ⟨b,o+k,none⟩=some (cv k)) (h1 : ∀ k,k<cs.length→oneC (cv k)=true)
   (hd : ∀ (k:Nat) (d:D),cs[k]?=some d→DR g.frz w d (cv k)):VR g tk w (.ro cs) (.pointer (some ⟨b,o,none⟩))
 | sl (r off len sz cap:Nat) (a:Addr) (h:g.has r) (hcap:len≤cap) (hsz:0<sz) (hin:off+len*sz≤g.len r) (hout:g.len r≤off+cap*sz)
   (ha:off<g.len r→a=⟨(g.obj r).1,(g.obj r).2+off,none⟩) (hsp:a.spot=none) (hlim:off+cap*sz≤g.lim r):VR g tk w (.sl r off len sz) (.slice (some a) len cap)
 | fl (rows:List (List D)) (a:Addr) (h:DR g.frz w (.list rows) (.slice (some a) rows.length rows.length)):VR g tk w (.fl rows) (.slice (some a) rows.length rows.length)
 | tl (rows:List (List D)) (t st sz k:Nat) (a:Addr) (cap:Nat) (hd:DR g.frz w (.list rows) (.slice (some a) rows.length cap)) (ht:tk[t]?=some k) (hle:st+rows.length≤k)
   (hh : ∀ row∈rows,row.length=sz) (hsz:(g.tok t).sz=sz)
   (ha:st+rows.length=k→rows.length<cap→(g.tok t).s0≤st∧a=⟨(g.tok t).b,(g.tok t).o+(st-(g.tok t).s0)*(g.tok t).sz,none⟩∧st+cap≤(g.tok t).lim):VR g tk w (.tl rows t st sz) (.slice (some a) rows.length cap)
 | map (r:Nat) (h:g.has r):VR g tk w (.map r) (.map (some (g.obj r).1))
 | yld (r:Nat) (h:g.has r):VR g tk w (.yld r) (.func (.yield (g.obj r).1) #[] #[])
 | iter (r:Nat) (h:g.has r):VR g tk w (.iter r) (.pointer (some ⟨(g.obj r).1,0,none⟩))
 | fn (f:Fn) (first caps:List V) (first' caps':Array Value) (hl:first.length=first'.size) (hl':caps.length=caps'.size)
   (h : ∀ (i:Nat) (c:V) (v:Value),first[i]?=some c→first'[i]?=some v→VR g tk w c v) (h' : ∀ (i:Nat) (c:V) (v:Value),caps[i]?=some c→caps'[i]?=some v→VR g tk w c v) :
   VR g tk w (.fn f first caps) (.func f first' caps')
 | ifc (t:Nat) (v:V) (x:Value) (h:VR g tk w v x):VR g tk w (.ifc t v) (.iface t x)
 | gone:VR g tk w .gone undef
 | any (v:Value):VR g tk w .any v

structure Later (g:Gh)(tk:List Nat)(w:World)(g':Gh)(tk':List Nat)(w':World):Prop where
 stay:Stay g.frz g'.frz w w'
 has : ∀ r,g.has r→g'.has r∧g'.obj r=g.obj r∧g'.len r=g.len r
 tok : ∀ t k,tk[t]?=some k→∃ k',tk'[t]?=some k'∧k≤k'∧(k=k'→g'.tok t=g.tok t)∧(g'.tok t).sz=(g.tok t).sz
 prog:g'.prog=g.prog
 lim : ∀ r,g.has r→g'.lim r=g.lim r

theorem VR.later {g g':Gh}{tk tk':List Nat}{w w':World}(hl:Later g tk w g' tk' w'){v:V}{x:Value}(h:VR g tk w v x):VR g' tk' w' v x:=by
 induction h with
 | d x v h h1=>exact .d x v (h.mono hl.stay) h1
 | da cs vs h=>exact .da cs vs (h.mono hl.stay)
 | agg cs vs hs h1 _ ih=>exact .agg cs vs hs h1 ih
 | tup cs vs hs _ ih=>exact .tup cs vs hs ih
 | ref r off h=>obtain⟨h1,h2,h3⟩:=hl.has r h; rw [← h2]; exact .ref r off h1
 | ro cs b o cv hf hc h1 hd =>
  exact .ro cs b o cv (fun k hk=>hl.stay.frz _ _ (hf k hk)) (fun k hk=>by rw [hl.stay.cell _ _ (hf k hk)]; exact hc k hk) h1 (fun k d hk=>(hd k d hk).mono hl.stay)
 | sl r off len sz cap a h hcap hsz hin hout ha hsp hlim =>
  obtain⟨h1,h2,h3⟩:=hl.has r h
  exact .sl r off len sz cap a h1 hcap hsz (by rw [h3]; exact hin) (by rw [h3]; exact hout) (by rw [h3,h2]; exact ha) hsp (by rw [hl.lim r h]; exact hlim)
 | fl rows a h=>exact .fl rows a (h.mono hl.stay)
 | tl rows t st sz k a cap hd ht hle hh hsz ha =>
  obtain⟨k',h1,h2,h3,h4⟩:=hl.tok t k ht
  refine .tl rows t st sz k' a cap (hd.mono hl.stay) h1 (Nat.le_trans hle h2) hh (by rw [h4]; exact hsz) (fun e hc=>?_)
  have hk:k=k':=by omega
  rw [h3 hk]
  exact ha (by omega) hc
 | map r h=>obtain⟨h1,h2,h3⟩:=hl.has r h; rw [← h2]; exact .map r h1
 | yld r h=>obtain⟨h1,h2,h3⟩:=hl.has r h; rw [← h2]; exact .yld r h1
 | iter r h=>obtain⟨h1,h2,h3⟩:=hl.has r h; rw [← h2]; exact .iter r h1
 | fn f first caps first' caps' h1 h2 _ _ ih ih'=>exact .fn f first caps first' caps' h1 h2 ih ih'
 | ifc t v x _ ih=>exact .ifc t v x ih
 | gone=>exact .gone
 | any v=>exact .any v

theorem Later.refl (g:Gh)(tk:List Nat)(w:World):Later g tk w g tk w :=
 ⟨Stay.refl _ _,fun r h=>⟨h,rfl,rfl⟩,fun t k h=>⟨k,h,Nat.le_refl _,fun _=>rfl,rfl⟩,rfl,fun _ _=>rfl⟩
theorem Later.trans {g g' g'':Gh}{tk tk' tk'':List Nat}{w w' w'':World}(h:Later g tk w g' tk' w')(h':Later g' tk' w' g'' tk'' w''):Later g tk w g'' tk'' w'':=by
 refine⟨h.stay.trans h'.stay,fun r hr=>?_,fun t k ht=>?_,h'.prog.trans h.prog,fun r hr=>(h'.lim r (h.has r hr).1).trans (h.lim r hr)⟩
 ·obtain⟨a,b,c⟩:=h.has r hr
  obtain⟨a',b',c'⟩:=h'.has r a
  exact⟨a',b'.trans b,c'.trans c⟩
 ·obtain⟨k',a,b,c,d⟩:=h.tok t k ht
  obtain⟨k'',a',b',c',d'⟩:=h'.tok t k' a
  refine⟨k'',a',Nat.le_trans b b',fun e=>?_,d'.trans d⟩
  have e1:k=k':=by omega
  have e2:k'=k'':=by omega
  exact(c' e2).trans (c e1)

def slotV (tmps:Array Value)(s:Nat):Value:=if s<GB then tmps.getD s undef else .pointer (some ⟨s-GB,0,none⟩)

def EnvR (g:Gh)(tk:List Nat)(w:World)(n:Nat)(e:Env)(tmps:Array Value):Prop :=
 (tmps.size=n∧n≤GB)∧∀ s,VR g tk w (e.get s) (slotV tmps s)

theorem EnvR.later {g g':Gh}{tk tk':List Nat}{w w':World}{n:Nat}{e:Env}{tmps:Array Value}(hl:Later g tk w g' tk' w')(h:EnvR g tk w n e tmps):EnvR g' tk' w' n e tmps :=
 ⟨h.1,fun s=>(h.2 s).later hl⟩

def exCode:Ex→Option Code
 | .normal=>none
 | .exit id=>some (.exit id)
 | .ret=>some .ret

def LSt.is:LSt→Loop→Prop
 | .ready,l=>l.state = .ready∧l.pending=none
 | .busy,l=>l.state = .busy
 | .done x,l=>x ≠ .normal∧l.state = .done∧l.pending=exCode x

def OthR (g:Gh)(tk:List Nat)(w:World):Obj→Go.Obj→Prop
 | .map es clock,.map es' clock'=>clock=clock'∧es.length=es'.size∧(es.map fun x=>x.2.1).Nodup∧∀ (i b:Nat) (k v:V),es[i]?=some (b,k,v)→∃ x,es'[i]?=some x∧x.born=b∧VR g tk w k x.key∧VR g tk w v x.val∧v.cells.isSome=true
 | .iter m since seen last,.mapIter m' since' seen' last'=>m'=m.map (fun r=>(g.obj r).1)∧(∀ r,m=some r→g.has r)∧since'=since∧seen'.toList=seen∧last'=last
 | .loop e ps a b st,.loop l=>l.params.toList=ps∧st.is l∧a.plain=true∧b.plain=true∧∃ n,(∀ p∈ps,p<n)∧comp g.prog n l.assign=some (erase a)∧comp g.prog n l.body=some (erase b)∧EnvR g tk w n e l.tmps
 | _,_=>False

def Obj.isOth:Obj→Prop
 | .map .. => True
 | .iter .. => True
 | .loop .. => True
 | _=>False

theorem OthR.later {g g':Gh}{tk tk':List Nat}{w w':World}(hl:Later g tk w g' tk' w'){o:Obj}{ho:Go.Obj}(h:OthR g tk w o ho):OthR g' tk' w' o ho:=by
 cases o <;> cases ho <;> try exact h.elim
 case map es clock es' clock' =>
  obtain⟨h1,h2,h4,h3⟩:=h
  refine⟨h1,h2,h4,fun i b k v hi=>?_⟩
  obtain⟨x,a1,a2,a3,a4,a5⟩:=h3 i b k v hi
  exact⟨x,a1,a2,a3.later hl,a4.later hl,a5⟩
 case iter m since seen last m' since' seen' last' =>
  obtain⟨h1,h2,h3⟩:=h
  refine⟨?_,fun r hr=>(hl.has r (h2 r hr)).1,h3⟩
  rw [h1]
  cases m with
  | none=>rfl
  | some r=>simp [(hl.has r (h2 r rfl)).2.1]
 case loop e ps a b st l =>
  obtain⟨h1,h2,h3,h4,n,h5,h6,h7,h8⟩:=h
  exact⟨h1,h2,h3,h4,n,h5,by rw [hl.prog]; exact h6,by rw [hl.prog]; exact h7,h8.later hl⟩

def NoFz (c:Array Value)(fz:Nat×Nat):Prop:=∀ o,o<c.size→¬ (fz.1≤o∧o<fz.2)

def Obj.live:Obj→Prop
 | .dead=>False
 | .free=>False
 | _=>True

def Mine (g:Gh) (σ:St)(b:Nat):Prop :=
 (∃ (r:Nat) (o:Obj),σ.objs[r]?=some o∧o.live∧(g.obj r).1=b)∨(∃ (t k:Nat),σ.toks[t]?=some k∧(g.tok t).b=b)

structure Sim (g:Gh) (σ:St)(w:World):Prop where
 has : ∀ (r:Nat) (o:Obj),σ.objs[r]?=some o→o.live→g.has r
 bound : ∀ r,g.has r→r<σ.objs.length
 free : ∀ r,σ.objs[r]?=some .free→¬ g.has r
 cells : ∀ (r:Nat) (cs:List V),σ.objs[r]?=some (.cells cs)→cs.length=g.len r ∧
  ∃ c e fz,w.heap[(g.obj r).1]?=some (.cells c e fz)∧NoFz c fz∧∀ (j:Nat) (v:V),cs[j]?=some v→∃ cv,c[(g.obj r).2+j]?=some cv∧oneC cv=true∧VR g σ.toks w v cv
 oth : ∀ (r:Nat) (o:Obj),σ.objs[r]?=some o→o.isOth→∃ ho,w.heap[(g.obj r).1]?=some ho∧OthR g σ.toks w o ho
 dist : ∀ (r r':Nat) (o o':Obj),σ.objs[r]?=some o→o.live→σ.objs[r']?=some o'→o'.live→r≠r'→(g.obj r).1≠(g.obj r').1
 nofrz : ∀ (r:Nat) (o:Obj),σ.objs[r]?=some o→o.live→∀ q,¬ g.frz (g.obj r).1 q
 tok : ∀ (t k:Nat),σ.toks[t]?=some k→(0<(g.tok t).sz∧(g.tok t).s0≤k)∧∃ c e fz,w.heap[(g.tok t).b]?=some (.cells c e fz)∧NoFz c fz ∧
  (g.tok t).o+((g.tok t).lim-(g.tok t).s0)*(g.tok t).sz≤c.size∧∀ q,(g.tok t).o+(k-(g.tok t).s0)*(g.tok t).sz≤q→¬ g.frz (g.tok t).b q
 tdist : ∀ (t t' k k':Nat),σ.toks[t]?=some k→σ.toks[t']?=some k'→t≠t'→(g.tok t).b≠(g.tok t').b
 tobj : ∀ (t k r:Nat) (o:Obj),σ.toks[t]?=some k→σ.objs[r]?=some o→o.live→(g.tok t).b≠(g.obj r).1
 frzb : ∀ b q,g.frz b q→∃ v,w.cell? ⟨b,q,none⟩=some v
 lims : ∀ (r:Nat) (cs:List V),σ.objs[r]?=some (.cells cs)→g.len r≤g.lim r∧∀ c e fz,w.heap[(g.obj r).1]?=some (.cells c e fz)→(g.obj r).2+g.lim r≤c.size

structure Ev (g:Gh) (σ:St)(w:World)(g':Gh) (σ':St)(w':World):Prop where
 later:Later g σ.toks w g' σ'.toks w'
 size:w.heap.size≤w'.heap.size
 os:w'.os=w.os
 tape:w'.tape=w.tape
 output:w'.output=w.output
 frame : ∀ b,b<w.heap.size→¬ Mine g σ b→w'.heap[b]?=w.heap[b]?
 mine : ∀ b,Mine g' σ' b→Mine g σ b∨w.heap.size≤b
 newf : ∀ b q,g'.frz b q→g.frz b q∨Mine g σ b∨w.heap.size≤b

theorem Ev.refl (g:Gh) (σ:St)(w:World):Ev g σ w g σ w :=
 ⟨Later.refl _ _ _,Nat.le_refl _,rfl,rfl,rfl,fun _ _ _=>rfl,fun _ h=>.inl h,fun _ _ h=>.inl h⟩

theorem Ev.trans {g g' g'':Gh} {σ σ' σ'':St}{w w' w'':World}(h:Ev g σ w g' σ' w')(h':Ev g' σ' w' g'' σ'' w''):Ev g σ w g'' σ'' w'':=by
 refine⟨h.later.trans h'.later,Nat.le_trans h.size h'.size,h'.os.trans h.os,h'.tape.trans h.tape,h'.output.trans h.output,fun b hb hm=>?_,fun b hb=>?_,fun b q hq=>?_⟩
 ·rw [h'.frame b (Nat.lt_of_lt_of_le hb h.size) (fun hm'=>?_),h.frame b hb hm]
  rcases h.mine b hm' with h1 | h1
  ·exact hm h1
  ·omega
 ·rcases h'.mine b hb with h1 | h1
  ·exact h.mine b h1
  ·exact .inr (Nat.le_trans h.size h1)
 ·rcases h'.newf b q hq with h1 | h1 | h1
  ·exact h.newf b q h1
  ·rcases h.mine b h1 with h2 | h2
   ·exact .inr (.inl h2)
   ·exact .inr (.inr h2)
  ·exact .inr (.inr (Nat.le_trans h.size h1))

theorem Env.get_set (e:Env)(s t:Nat)(v:V):(e.set s v).get t=if s=t then v else e.get t:=by
 induction e with
 | nil=>simp [Env.set,Env.get]
 | cons p r ih =>
  obtain⟨q,u⟩:=p
  by_cases h:q=s
  ·subst h
   by_cases h2:q=t <;> simp [Env.set,Env.get,h2]
  ·by_cases h2:q=t
   ·subst h2
    have hn : ¬ s=q:=fun e=>h e.symm
    simp [Env.set,Env.get,h,hn]
   ·simp only [Env.set,h,if_false,Env.get,h2]
    exact ih

theorem Env.get_pick (e:Env)(ks:List Nat)(t:Nat):(e.pick ks).get t=if t∈ks then e.get t else .any:=by
 induction ks with
 | nil=>simp [Env.pick,Env.get]
 | cons k ks ih =>
  simp only [Env.pick,List.map_cons,Env.get] at ih ⊢
  by_cases h:k=t
  ·subst h; simp
  ·have hn : ¬ t=k:=fun e=>h e.symm
   simp [h,hn,ih]

theorem Sim.blk {g:Gh} {σ:St}{w:World}(hs:Sim g σ w){r:Nat}{o:Obj}(h:σ.objs[r]?=some o)(hl:o.live):(g.obj r).1<w.heap.size:=by
 have key : ∀ {b:Nat} {o:Go.Obj},w.heap[b]?=some o→b<w.heap.size:=fun h=>(Array.getElem?_eq_some_iff.1 h).1
 cases o with
 | cells cs=>obtain⟨_,c,e,fz,h2,_⟩:=hs.cells r cs h; exact key h2
 | map es c=>obtain⟨ho,h1,_⟩:=hs.oth r _ h trivial; exact key h1
 | iter m s t l=>obtain⟨ho,h1,_⟩:=hs.oth r _ h trivial; exact key h1
 | loop e p a b s=>obtain⟨ho,h1,_⟩:=hs.oth r _ h trivial; exact key h1
 | dead=>exact hl.elim
 | free=>exact hl.elim
theorem Obj.isOth.live {o:Obj}(h:o.isOth):o.live:=by cases o <;> first | exact h.elim | trivial

theorem EnvR.set {g:Gh}{tk:List Nat}{w:World}{n:Nat}{e:Env}{tmps:Array Value}(h:EnvR g tk w n e tmps){s:Nat}(hs:s<n){v:V}{x:Value}(hv:VR g tk w v x) :
  EnvR g tk w n (e.set s v) (tmps.setIfInBounds s x):=by
 refine⟨by simp [h.1.1,h.1.2],fun t=>?_⟩
 rw [Env.get_set]
 by_cases hst:s=t
 ·subst hst
  have h1:s<tmps.size:=by rw [h.1.1]; exact hs
  have h2:s<GB:=Nat.lt_of_lt_of_le hs h.1.2
  simpa [slotV,h2,Array.getD_eq_getD_getElem?,h1] using hv
 ·simp only [hst,if_false]
  have:=h.2 t
  unfold slotV at this ⊢
  rw [Array.getD_eq_getD_getElem?,Array.getElem?_setIfInBounds_ne hst,← Array.getD_eq_getD_getElem?]
  exact this

theorem EnvR.at {g:Gh}{tk:List Nat}{w:World}{n:Nat}{e:Env}{tmps:Array Value}(h:EnvR g tk w n e tmps){s:Nat}(hs:s<GB):VR g tk w (e.get s) (tmps.getD s undef):=by
 have:=h.2 s
 rwa [slotV,if_pos hs] at this

theorem EnvR.pick {g:Gh}{tk:List Nat}{w:World}{n:Nat}{e:Env}{tmps:Array Value}(h:EnvR g tk w n e tmps)(ks:List Nat):EnvR g tk w n (e.pick ks) tmps:=by
 refine⟨h.1,fun t=>?_⟩
 rw [Env.get_pick]
 split
 ·exact h.2 t
 ·exact .any _

end Go.Dn

/- Each operation that leaves the store alone does in the world what it does in the abstract. -/
namespace Go.Dn

set_option linter.unusedSimpArgs false

variable {P:Program} {g:Gh} {tk:List Nat} {w:World}

theorem VR.inv_d {x:D}{v:Value}(h:VR g tk w (.d x) v):DR g.frz w x v:=by cases h; assumption
theorem DR.inv_int {f:Nat→Nat→Prop}{k:IntKind}{n:Int}{v:Value}(h:DR f w (.int k n) v):v = .int k n:=by cases h; rfl
theorem DR.inv_bool {f:Nat→Nat→Prop}{b:Bool}{v:Value}(h:DR f w (.bool b) v):v = .bool b:=by cases h; rfl
theorem DR.inv_str {f:Nat→Nat→Prop}{l:List UInt8}{v:Value}(h:DR f w (.str l) v):v = .string ⟨l.toArray⟩:=by cases h; rfl
theorem VR.inv_int {k:IntKind}{n:Int}{v:Value}(h:VR g tk w (.d (.int k n)) v):v = .int k n:=h.inv_d.inv_int
theorem VR.inv_bool {b:Bool}{v:Value}(h:VR g tk w (.d (.bool b)) v):v = .bool b:=h.inv_d.inv_bool
theorem VR.inv_str {l:List UInt8}{v:Value}(h:VR g tk w (.d (.str l)) v):v = .string ⟨l.toArray⟩:=h.inv_d.inv_str
theorem VR.int (k:IntKind)(n:Int):VR g tk w (.d (.int k n)) (.int k n):=.d _ _ (.int k n) rfl
theorem VR.bool (b:Bool):VR g tk w (.d (.bool b)) (.bool b):=.d _ _ (.bool b) rfl
theorem VR.str (l:List UInt8):VR g tk w (.d (.str l)) (.string ⟨l.toArray⟩):=.d _ _ (.str l) rfl

theorem leafD_rel {v:Value}{d:D}(h:leafD v=some d)(f:Nat→Nat→Prop)(w:World):DR f w d v:=by
 unfold leafD at h
 split at h
 case h_3 s=>cases h; exact .str s.data.toList
 all_goals first | (cases h; constructor) | cases h

theorem leafD_one {v:Value}{d:D}(h:leafD v=some d):oneC v=true:=by
 unfold leafD at h
 split at h <;> first | rfl | cases h

theorem leafsD_one : ∀ {vs:List Value}{ds:List D},leafsD vs=some ds→∀ (i:Nat)(v:Value),vs[i]?=some v→oneC v=true
 | [],ds,_,i,v,hv=>by simp at hv
 | x::r,ds,h,i,v,hv=>by
  unfold leafsD at h
  split at h
  ·rename_i d l hd hl
   cases i with
   | zero=>simp at hv; subst hv; exact leafD_one hd
   | succ i=>simp at hv; exact leafsD_one hl i v hv
  ·cases h

theorem leafsD_rel : ∀ {vs:List Value}{ds:List D},leafsD vs=some ds→ds.length=vs.length∧∀ (f:Nat→Nat→Prop)(w:World)(i:Nat)(d:D)(v:Value),ds[i]?=some d→vs[i]?=some v→DR f w d v
 | [],ds,h=>by
  simp [leafsD] at h; subst h
  exact⟨rfl,fun f w i d v hd=>by simp at hd⟩
 | v::r,ds,h=>by
  unfold leafsD at h
  split at h
  ·rename_i d l hd hl
   cases h
   obtain⟨h1,h2⟩:=leafsD_rel hl
   refine⟨by simp [h1],fun f w i d' v' hd' hv'=>?_⟩
   cases i with
   | zero=>simp at hd' hv'; subst hd' hv'; exact leafD_rel hd f w
   | succ i=>simp at hd' hv'; exact h2 f w i d' v' hd' hv'
  ·cases h

theorem constO_rel {v:Value}{x:Opd}(h:constO v=some x)(e:Env):VR g tk w (x.ev e) v:=by
 unfold constO at h
 split at h
 ·rename_i cs
  split at h
  ·rename_i l hl
   cases h
   obtain⟨h1,h2⟩:=leafsD_rel hl
   exact .da l cs (.agg l cs (by simpa using h1) (fun i v hv=>leafsD_one hl i v (by simpa using hv)) (fun i d v hd hv=>h2 _ w i d v hd (by simpa using hv)))
  ·cases h
 ·split at h
  ·rename_i d hd
   cases h
   exact .d _ _ (leafD_rel hd _ _) (leafD_one hd)
  ·cases h

theorem opd_rel {x:Operand}{x':Opd}(hx:compOpd x=some x'){n:Nat}{e:Env}{a:Act}(he:EnvR g tk w n e a.tmps):VR g tk w (x'.ev e) (a.eval x):=by
 unfold compOpd at hx
 split at hx
 ·split at hx
  ·rename_i hlt
   cases hx
   exact he.at hlt
  ·cases hx
 ·exact constO_rel hx e
 ·cases hx; exact .fn _ _ _ _ _ rfl rfl (fun i c v hc=>by simp at hc) (fun i c v hc=>by simp at hc)
 ·rename_i gl
  cases hx
  have:=he.2 (GB+gl)
  rw [slotV,if_neg (by omega),Nat.add_sub_cancel_left] at this
  exact this

theorem run_intBin {op : BinOp} {k : IntKind} {a b : Int} {v : V} (hop : op ≠ .shl ∧ op ≠ .shr) (h : intBin op k a b = some v) (t : TypeId) :
    ∃ cv, (Go.binOp op t (.int k a) (.int k b)).run P w = .ok cv w ∧ VR g tk w v cv := by
  cases op <;> simp only [intBin] at h <;> try (cases h; done)
  case add => cases h; exact ⟨_, by simp [Go.binOp, Op.intArith], .int _ _⟩
  case sub => cases h; exact ⟨_, by simp [Go.binOp, Op.intArith], .int _ _⟩
  case mul => cases h; exact ⟨_, by simp [Go.binOp, Op.intArith], .int _ _⟩
  case quo => split at h; · cases h
              · rename_i hb; cases h; exact ⟨_, by simp [Go.binOp, Op.intDiv, hb], .int _ _⟩
  case rem => split at h; · cases h
              · rename_i hb; cases h; exact ⟨_, by simp [Go.binOp, Op.intDiv, hb], .int _ _⟩
  case and => cases h; exact ⟨_, by simp only [Go.binOp, ne_eq, not_true_eq_false, if_false, intBits_and, Sem.run_pure], .int _ _⟩
  case or => cases h; exact ⟨_, by simp only [Go.binOp, ne_eq, not_true_eq_false, if_false, intBits_or, Sem.run_pure], .int _ _⟩
  case xor => cases h; exact ⟨_, by simp only [Go.binOp, ne_eq, not_true_eq_false, if_false, intBits_xor, Sem.run_pure], .int _ _⟩
  case andNot => cases h; exact ⟨_, by simp only [Go.binOp, ne_eq, not_true_eq_false, if_false, intBits_andNot, Sem.run_pure], .int _ _⟩
  case eql => cases h; exact ⟨_, by simp [Go.binOp, Op.intCmp]; rfl, .bool _⟩
  case neq => cases h; exact ⟨_, by simp [Go.binOp, Op.intCmp, bne]; rfl, .bool _⟩
  case lss => cases h; exact ⟨_, by simp [Go.binOp, Op.intCmp], .bool _⟩
  case leq => cases h; exact ⟨_, by simp [Go.binOp, Op.intCmp], .bool _⟩
  case gtr => cases h; exact ⟨_, by simp [Go.binOp, Op.intCmp], .bool _⟩
  case geq => cases h; exact ⟨_, by simp [Go.binOp, Op.intCmp], .bool _⟩

theorem run_shiftBin {op:BinOp}{k k':IntKind}{a b:Int}{v:V}(hop:op = .shl∨op = .shr)(h:shiftBin op k a b=some v)(t:TypeId) :
  ∃ cv,(Go.binOp op t (.int k a) (.int k' b)).run P w = .ok cv w∧VR g tk w v cv:=by
 unfold shiftBin at h
 split at h
 ·cases h
 ·rename_i hb
  rcases hop with rfl | rfl
  ·cases h; exact⟨_,by simp [Go.binOp,Op.shift,hb],.int _ _⟩
  ·cases h
   refine⟨.int k (a / 2 ^ (min b.toNat k.bits)),?_,.int _ _⟩
   have hp:(0:Int)≤2 ^ (min b.toNat k.bits):=Int.pow_nonneg (by decide)
   simp [Go.binOp,Op.shift,hb,Int.fdiv_eq_ediv_of_nonneg _ hp]

theorem bytes_toList (l:List UInt8):(⟨l.toArray⟩:ByteArray).toList=l:=by simp

theorem bytes_size (l:List UInt8):(⟨l.toArray⟩:ByteArray).size=l.length:=by simp [ByteArray.size]

theorem bytes_append (a b:List UInt8):(⟨a.toArray⟩++⟨b.toArray⟩:ByteArray)=⟨(a++b).toArray⟩:=by
 apply ByteArray.ext
 simp

theorem run_strBin {op:BinOp}{a b:List UInt8}{v:V}(h:strBin op a b=some v)(t:TypeId) :
  ∃ cv,(Go.binOp op t (.string ⟨a.toArray⟩) (.string ⟨b.toArray⟩)).run P w = .ok cv w∧VR g tk w v cv:=by
 have hb : ∀ x y:List UInt8,(x==y)=decide (x=y):=fun x y=>by by_cases e:x=y <;> simp [e]
 cases op <;> simp only [strBin] at h <;> try (cases h; done)
 case add =>
  split at h
  ·rename_i hl
   cases h
   refine⟨.string ⟨(a++b).toArray⟩,?_,.str _⟩
   have hn : ¬ ((a.length:Int)+b.length>9223372036854775807):=by omega
   simp only [Go.binOp,Op.stringOp,bytes_size,bytes_append,IntKind.max]
   simp only [IntKind.bits,IntKind.signed]
   rw [if_neg (by simpa using hn)]
   rfl
  ·cases h
 case eql=>cases h; exact⟨_,by simp only [Go.binOp,Op.stringOp,bytes_toList,hb]; rfl,.bool _⟩
 case neq=>cases h; exact⟨_,by simp only [Go.binOp,Op.stringOp,bytes_toList,hb]; rfl,.bool _⟩
 case lss=>cases h; exact⟨_,by simp only [Go.binOp,Op.stringOp,bytes_toList,hb]; rfl,.bool _⟩
 case leq=>cases h; exact⟨_,by simp only [Go.binOp,Op.stringOp,bytes_toList,hb]; rfl,.bool _⟩
 case gtr=>cases h; exact⟨_,by simp only [Go.binOp,Op.stringOp,bytes_toList,hb]; rfl,.bool _⟩
 case geq=>cases h; exact⟨_,by simp only [Go.binOp,Op.stringOp,bytes_toList,hb]; rfl,.bool _⟩

def nilOf:Ty→Value
 | .ptr=>.pointer none
 | .slice=>.slice none 0 0
 | .map=>.map none
 | .func=>.nilFunc
 | _=>.nilIface

theorem isNil_true {ty:Ty}{x:V}{v:Value}(h:V.isNil ty x=some true)(hx:VR g tk w x v):v=nilOf ty:=by
 unfold V.isNil at h
 split at h <;> first | (cases h; done) | skip
 all_goals (have hd:=hx.inv_d; clear hx; cases hd; rfl)

def NotNil:Ty→Value→Prop
 | .ptr,v=>∃ a,v = .pointer (some a)
 | .slice,v=>∃ a n c,v = .slice (some a) n c
 | .map,v=>∃ a,v = .map (some a)
 | .func,v=>∃ f a b,v = .func f a b
 | _,v=>∃ t x,v = .iface t x

theorem isNil_false {ty:Ty}{x:V}{v:Value}(h:V.isNil ty x=some false)(hx:VR g tk w x v):NotNil ty v:=by
 unfold V.isNil at h
 split at h <;> first | (cases h; done) | skip
 all_goals first | (have hd:=hx.inv_d; clear hx; cases hd <;> first | exact⟨_,rfl⟩ | exact⟨_,_,rfl⟩ | exact⟨_,_,_,rfl⟩) | (cases hx; first | exact⟨_,rfl⟩ | exact⟨_,_,rfl⟩ | exact⟨_,_,_,rfl⟩)

def TyIs (P:Program)(t:TypeId):Ty→Prop
 | .ptr=>∃ e,P.underlying t=some (.pointer e)
 | .slice=>∃ e,P.underlying t=some (.slice e)
 | .map=>∃ k e,P.underlying t=some (.map k e)
 | .func=>∃ a b c,P.underlying t=some (.func a b c)
 | .iface=>∃ ms,P.underlying t=some (.interface ms)
 | .bool=>P.underlying t=some .bool
 | _=>True

theorem compTy_is {t:TypeId}{ty:Ty}{ks:List Lf}(h:compTy P t=some (ty,ks)):TyIs P t ty:=by
 unfold compTy at h
 split at h <;> first | (cases h; first | exact⟨_,by assumption⟩ | exact⟨_,_,by assumption⟩ | exact⟨_,_,_,by assumption⟩ | assumption | trivial) | skip
 ·unfold flatOf at h; split at h
  ·split at h
   ·cases h; trivial
   ·cases h
  ·cases h
 ·unfold flatOf at h; split at h
  ·split at h
   ·cases h; trivial
   ·cases h
  ·cases h
 ·cases h

theorem run_equal_nil {t:TypeId}{ty:Ty}(ht:TyIs P t ty){x y:Value}(hx:x=nilOf ty∨NotNil ty x)(hy:y=nilOf ty∨NotNil ty y)
  (hno:x=nilOf ty∨y=nilOf ty) (hty:ty = .ptr∨ty = .slice∨ty = .map∨ty = .func∨ty = .iface) :
  ∃ b,(Op.equal t x y).run P w = .ok b w∧(b=true↔(x=nilOf ty∧y=nilOf ty)):=by
 show ∃ b,(Op.equalIn (9999+1) t x y).run P w = .ok b w∧_
 generalize 9999=n
 rcases hty with rfl | rfl | rfl | rfl | rfl
 ·obtain⟨e,he⟩:=ht
  rcases hx with rfl | ⟨a,rfl⟩ <;> rcases hy with rfl | ⟨b,rfl⟩
  ·exact⟨true,by simp [Op.equalIn,run_underlying he,nilOf],by simp⟩
  ·exact⟨false,by simp [Op.equalIn,run_underlying he,nilOf],by simp [nilOf]⟩
  ·exact⟨false,by simp [Op.equalIn,run_underlying he,nilOf],by simp [nilOf]⟩
  ·rcases hno with h | h <;> simp [nilOf] at h
 ·obtain⟨e,he⟩:=ht
  rcases hx with rfl | ⟨a,n,c,rfl⟩ <;> rcases hy with rfl | ⟨b,m,d,rfl⟩
  ·exact⟨true,by simp [Op.equalIn,run_underlying he,nilOf],by simp⟩
  ·exact⟨false,by simp [Op.equalIn,run_underlying he,nilOf],by simp [nilOf]⟩
  ·exact⟨false,by simp [Op.equalIn,run_underlying he,nilOf],by simp [nilOf]⟩
  ·rcases hno with h | h <;> simp [nilOf] at h
 ·obtain⟨k,e,he⟩:=ht
  rcases hx with rfl | ⟨a,rfl⟩ <;> rcases hy with rfl | ⟨b,rfl⟩
  ·exact⟨true,by simp [Op.equalIn,run_underlying he,nilOf],by simp⟩
  ·exact⟨false,by simp [Op.equalIn,run_underlying he,nilOf],by simp [nilOf]⟩
  ·exact⟨false,by simp [Op.equalIn,run_underlying he,nilOf],by simp [nilOf]⟩
  ·rcases hno with h | h <;> simp [nilOf] at h
 ·obtain⟨k,e,m,he⟩:=ht
  rcases hx with rfl | ⟨a,n,c,rfl⟩ <;> rcases hy with rfl | ⟨b,m,d,rfl⟩
  ·exact⟨true,by simp [Op.equalIn,run_underlying he,nilOf],by simp⟩
  ·exact⟨false,by simp [Op.equalIn,run_underlying he,nilOf],by simp [nilOf]⟩
  ·exact⟨false,by simp [Op.equalIn,run_underlying he,nilOf],by simp [nilOf]⟩
  ·rcases hno with h | h <;> simp [nilOf] at h
 ·obtain⟨ms,he⟩:=ht
  rcases hx with rfl | ⟨a,n,rfl⟩ <;> rcases hy with rfl | ⟨b,m,rfl⟩
  ·exact⟨true,by simp [Op.equalIn,run_underlying he,nilOf],by simp⟩
  ·exact⟨false,by simp [Op.equalIn,run_underlying he,nilOf],by simp [nilOf]⟩
  ·exact⟨false,by simp [Op.equalIn,run_underlying he,nilOf],by simp [nilOf]⟩
  ·rcases hno with h | h <;> simp [nilOf] at h

def litOf:D→Lit
 | .int k n=>.int k n
 | .bool b=>.bool b
 | .str s=>.string s
 | _=>.bool false

def DRs (f:Nat→Nat→Prop)(w:World):List D→List Value→Prop
 | [],[]=>True
 | d::ds,v::vs=>DR f w d v∧DRs f w ds vs
 | _,_=>False

theorem DRs.length {f:Nat→Nat→Prop} : ∀ {ds:List D}{vs:List Value},DRs f w ds vs→ds.length=vs.length
 | [],[],_=>rfl
 | _::_,_::_,h=>by simp [DRs.length h.2]
 | [],_::_,h=>h.elim
 | _::_,[],h=>h.elim

theorem DRs.of_get {f:Nat→Nat→Prop} : ∀ {ds:List D}{vs:List Value},ds.length=vs.length→(∀ (i:Nat)(d:D)(v:Value),ds[i]?=some d→vs[i]?=some v→DR f w d v)→DRs f w ds vs
 | [],[],_,_=>trivial
 | d::ds,v::vs,hl,h=>⟨h 0 d v rfl rfl,DRs.of_get (by simpa using hl) (fun i d' v' h1 h2=>h (i+1) d' v' (by simpa using h1) (by simpa using h2))⟩
 | [],_::_,hl,_=>by simp at hl
 | _::_,[],hl,_=>by simp at hl

theorem DRs.get {f:Nat→Nat→Prop} : ∀ {ds:List D}{vs:List Value},DRs f w ds vs→∀ (i:Nat)(d:D)(v:Value),ds[i]?=some d→vs[i]?=some v→DR f w d v
 | [],[],_,i,d,v,h,_=>by simp at h
 | d::ds,v::vs,h,i,d',v',h1,h2=>by
  cases i with
  | zero=>simp at h1 h2; subst h1 h2; exact h.1
  | succ i=>exact DRs.get h.2 i d' v' (by simpa using h1) (by simpa using h2)
 | [],_::_,h,_,_,_,_,_=>h.elim
 | _::_,[],h,_,_,_,_,_=>h.elim

theorem DRs.append_inv {f:Nat→Nat→Prop} : ∀ {as bs:List D}{vs:List Value},DRs f w (as++bs) vs→∃ xs ys,vs=xs++ys∧DRs f w as xs∧DRs f w bs ys
 | [],bs,vs,h=>⟨[],vs,rfl,trivial,h⟩
 | a::as,bs,[],h=>h.elim
 | a::as,bs,v::vs,h=>by
  obtain⟨xs,ys,rfl,h1,h2⟩:=DRs.append_inv (as:=as) h.2
  exact⟨v::xs,ys,rfl,⟨h.1,h1⟩,h2⟩

theorem fitsAll_length : ∀ {ks:List Lf}{ds:List D},fitsAll ks ds=true→ks.length=ds.length
 | [],[],_=>rfl
 | _::_,_::_,h=>by simp [fitsAll] at h; simp [fitsAll_length h.2]
 | [],_::_,h=>by simp [fitsAll] at h
 | _::_,[],h=>by simp [fitsAll] at h

theorem fitsAll_append : ∀ {ks ks':List Lf}{ds:List D},fitsAll (ks++ks') ds=true→∃ a b,ds=a++b∧fitsAll ks a=true∧fitsAll ks' b=true
 | [],ks',ds,h=>⟨[],ds,rfl,rfl,h⟩
 | k::ks,ks',[],h=>by simp [fitsAll] at h
 | k::ks,ks',d::ds,h=>by
  simp [fitsAll] at h
  obtain⟨a,b,rfl,h1,h2⟩:=fitsAll_append h.2
  exact⟨d::a,b,rfl,by simp [fitsAll,h.1,h1],h2⟩

theorem keyLits_leaf {n:Nat}{t:TypeId}{k:Lf}{d:D}{v:Value}(hu:P.underlying t=some (match k with | .int q=>.int q | .bool=>.bool | .str=>.string))(hf:k.fits d=true){f:Nat→Nat→Prop}(hd:DR f w d v) :
  P.keyLits (n+1) t [v]=some [litOf d]:=by
 cases k with
 | int q =>
  cases d <;> simp [Lf.fits] at hf
  obtain⟨⟨rfl,h1⟩,h2⟩:=hf
  cases hd
  simp [Program.keyLits,hu,Lit.wf,h1,h2,litOf]
 | bool =>
  cases d <;> simp [Lf.fits] at hf
  cases hd
  simp [Program.keyLits,hu,litOf]
 | str =>
  cases d <;> simp [Lf.fits] at hf
  rename_i s
  cases hd
  have:(⟨s.toArray⟩:ByteArray).size≤maxLen:=by rw [bytes_size]; simp only [maxLen]; omega
  simp [Program.keyLits,hu,litOf,this]

theorem keyLits_items {F:Nat→Nat→Prop}{m:Nat}{e:TypeId}{l:List Lf}(hc:P.cellsOf e=l.length)(ih : ∀ (ds:List D)(xs:List Value),fitsAll l ds=true→DRs F w ds xs→P.keyLits m e xs=some (ds.map litOf)) :
  ∀ (k:Nat) (pre xs:List Value) (ds:List D) (j:Nat),pre.length=j*l.length→fitsAll ((List.replicate k l).flatten) ds=true→DRs F w ds xs →
   ∃ r,((List.range k).map (j + ·)).mapM (fun i=>P.keyLits m e (((pre++xs).drop (i*P.cellsOf e)).take (P.cellsOf e)))=some r∧r.flatten=ds.map litOf
 | 0,pre,xs,ds,j,hp,hf,hd=>by
  have:ds=[]:=List.eq_nil_of_length_eq_zero (by have:=fitsAll_length hf; simp at this; exact this.symm)
  subst this
  exact⟨[],by simp,rfl⟩
 | k+1,pre,xs,ds,j,hp,hf,hd=>by
  simp only [List.replicate_succ,List.flatten_cons] at hf
  obtain⟨a,b,rfl,h1,h2⟩:=fitsAll_append hf
  obtain⟨us,vs,rfl,d1,d2⟩:=hd.append_inv
  have hul:us.length=l.length:=by rw [← d1.length,fitsAll_length h1]
  obtain⟨r,hr,hfl⟩:=keyLits_items hc ih k (pre++us) vs b (j+1) (by simp [hp,hul,Nat.add_mul]) h2 d2
  have e1:((pre++(us++vs)).drop (j*P.cellsOf e)).take (P.cellsOf e)=us:=by
   rw [hc,← hp,List.drop_left,← hul,List.take_left]
  refine⟨a.map litOf::r,?_,by simp [hfl]⟩
  rw [List.range_succ_eq_map,List.map_cons,List.mapM_cons,Nat.add_zero,e1,ih a us h1 d1]
  simp only [List.map_map]
  have e2:(List.range k).map ((fun x=>j+x) ∘ Nat.succ)=(List.range k).map (j+1 + ·):=by
   apply List.map_congr_left; intro x _; simp; omega
  rw [e2]
  rw [← List.append_assoc,hr]
  rfl

theorem keyLits_fields {F:Nat→Nat→Prop}{m:Nat}{lv:TypeId→Option (List Lf)}(ih : ∀ (t:TypeId)(ks:List Lf),lv t=some ks→∀ (ds:List D)(xs:List Value),fitsAll ks ds=true→DRs F w ds xs→P.keyLits m t xs=some (ds.map litOf)) :
  ∀ (fs:List Field) (off:Nat) (ks:List Lf) (pre xs:List Value) (ds:List D),leavesFs P lv off fs=some ks→pre.length=off→fitsAll ks ds=true→DRs F w ds xs →
   (∀ f ∈ fs, f.name ≠ "_") ∧ ∃ r, fs.mapM (fun f => P.keyLits m f.type (((pre ++ xs).drop f.offset).take (P.cellsOf f.type))) = some r ∧ r.flatten = ds.map litOf
 | [],off,ks,pre,xs,ds,h,hp,hf,hd=>by
  simp [leavesFs] at h; subst h
  have:ds=[]:=List.eq_nil_of_length_eq_zero (by have:=fitsAll_length hf; simp at this; exact this.symm)
  subst this
  exact⟨by simp,[],rfl,rfl⟩
 | x::fs,off,ks,pre,xs,ds,h,hp,hf,hd=>by
  unfold leavesFs at h
  split at h
  ·rename_i l hl
   split at h
   ·rename_i hc
    obtain⟨hn,ho,hcell⟩:=hc
    split at h
    ·rename_i b hb
     cases h
     obtain⟨a,c,rfl,h1,h2⟩:=fitsAll_append hf
     obtain⟨us,vs,rfl,d1,d2⟩:=hd.append_inv
     have hul:us.length=l.length:=by rw [← d1.length,fitsAll_length h1]
     obtain⟨hnn,r,hr,hfl⟩:=keyLits_fields ih fs (off+l.length) b (pre++us) vs c hb (by simp [hp,hul]) h2 d2
     have e1:((pre++(us++vs)).drop x.offset).take (P.cellsOf x.type)=us:=by
      rw [ho,hcell,← hp,List.drop_left,← hul,List.take_left]
     refine⟨fun f hfm=>?_,a.map litOf::r,?_,by simp [hfl]⟩
     ·rcases List.mem_cons.1 hfm with rfl | hm
      ·exact hn
      ·exact hnn f hm
     ·rw [List.mapM_cons,e1,ih x.type l hl a us h1 d1,← List.append_assoc,hr]
      rfl
    ·cases h
   ·cases h
  ·cases h

theorem keyLits_leaves {F:Nat→Nat→Prop} : ∀ (n:Nat)(t:TypeId)(ks:List Lf),leavesOf P n t=some ks→∀ (ds:List D)(xs:List Value),fitsAll ks ds=true→DRs F w ds xs→P.keyLits n t xs=some (ds.map litOf)
 | 0,t,ks,h,ds,xs,hf,hd=>by simp [leavesOf] at h
 | n+1,t,ks,h,ds,xs,hf,hd=>by
  have one : ∀ (k:Lf),ks=[k]→P.underlying t=some (match k with | .int q=>.int q | .bool=>.bool | .str=>.string)→P.keyLits (n+1) t xs=some (ds.map litOf):=by
   rintro k rfl hu
   match ds,xs,hf,hd with
   | [d],[v],hf,hd=>simp [fitsAll] at hf; exact keyLits_leaf hu hf hd.1
   | [],_,hf,_=>simp [fitsAll] at hf
   | _::_::_,_,hf,_=>simp [fitsAll] at hf
   | [_],[],_,hd=>exact hd.elim
   | [_],_::_::_,_,hd=>exact hd.2.elim
  unfold leavesOf at h
  split at h
  ·cases h; exact one _ rfl (by assumption)
  ·cases h; exact one _ rfl (by assumption)
  ·cases h; exact one _ rfl (by assumption)
  ·rename_i len e hu
   split at h
   ·rename_i l hl
    split at h
    ·rename_i hc
     cases h
     obtain⟨hc1,hc2⟩:=hc
     obtain⟨r,hr,hfl⟩:=keyLits_items (F:=F) hc1 (fun ds xs=>keyLits_leaves n e l hl ds xs) len [] xs ds 0 (by simp) hf hd
     have hxl:xs.length=P.cellsOf t:=by rw [← hd.length,← fitsAll_length hf,hc2]; simp [List.length_flatten]
     unfold Program.keyLits
     simp only [hu,hxl,if_true]
     simp only [Nat.zero_add,List.map_id',List.nil_append] at hr
     rw [hr]
     simp [hfl]
    ·cases h
   ·cases h
  ·rename_i fs hu
   split at h
   ·rename_i l hl
    split at h
    ·rename_i hc
     cases h
     obtain⟨hnn,r,hr,hfl⟩:=keyLits_fields (F:=F) (fun t ks hlv ds xs=>keyLits_leaves n t ks hlv ds xs) fs.toList 0 ks [] xs ds hl rfl hf hd
     have hxl:xs.length=P.cellsOf t:=by rw [← hd.length,← fitsAll_length hf,hc]
     unfold Program.keyLits
     have hall : fs.all (·.name != "_") = true := by
      rw [Array.all_eq_true_iff_forall_mem]
      intro f hfm
      simpa using hnn f (Array.mem_toList_iff.2 hfm)
     simp only [hu,hxl,hall,and_self,if_true]
     simp only [List.nil_append] at hr
     rw [hr]
     simp [hfl]
    ·cases h
   ·cases h
  ·cases h

theorem litOf_inj : ∀ {ks:List Lf}{a b:List D},fitsAll ks a=true→fitsAll ks b=true→(a.map litOf=b.map litOf↔a=b)
 | [],[],[],_,_=>by simp
 | k::ks,x::a,y::b,h1,h2=>by
  simp only [fitsAll,Bool.and_eq_true] at h1 h2
  have:=litOf_inj h1.2 h2.2
  simp only [List.map_cons,List.cons.injEq,this]
  refine and_congr_left fun _=>?_
  cases k <;> cases x <;> simp [Lf.fits] at h1 <;> cases y <;> simp [Lf.fits] at h2 <;> simp [litOf]
 | [],_::_,_,h,_=>by simp [fitsAll] at h
 | [],[],_::_,_,h=>by simp [fitsAll] at h
 | _::_,[],_,h,_=>by simp [fitsAll] at h
 | _::_,_::_,[],_,h=>by simp [fitsAll] at h

theorem flatOf_inv {t:TypeId}{ty:Ty}{ks:List Lf}(h:flatOf P t=some (ty,ks)):ty = .flat∧leavesOf P 12 t=some ks∧P.keyTypeAt 12 t=true∧P.eqGuardType P.depth t=false:=by
 unfold flatOf at h
 split at h
 ·rename_i ks' hk
  split at h
  ·rename_i hc; cases h; simp at hc; exact⟨rfl,hk,hc.1,hc.2⟩
  ·cases h
 ·cases h

theorem run_equal_flat {t:TypeId}{ks:List Lf}(hl:leavesOf P 12 t=some ks)(hk:P.keyTypeAt 12 t=true)(hagg:aggT P t=true){F:Nat→Nat→Prop}{a b:List D}{xs ys:Array Value}
  (fa:fitsAll ks a=true) (fb:fitsAll ks b=true) (da:DRs F w a xs.toList) (db:DRs F w b ys.toList) :
  ∃ r,(Op.equal t (.agg xs) (.agg ys)).run P w = .ok r w∧(r=true↔a=b):=by
 have ha:=keyLits_leaves 12 t ks hl a xs.toList fa da
 have hb:=keyLits_leaves 12 t ks hl b ys.toList fb db
 have hcell:P.cellsOf t=ks.length:=by
  unfold leavesOf at hl
  unfold aggT at hagg
  split at hl
  ·rename_i hu; simp [hu] at hagg
  ·rename_i hu; simp [hu] at hagg
  ·rename_i hu; simp [hu] at hagg
  ·split at hl
   ·split at hl
    ·rename_i hc; cases hl; rw [hc.2]; simp [List.length_flatten]
    ·cases hl
   ·cases hl
  ·split at hl
   ·split at hl
    ·rename_i hc; cases hl; exact hc
    ·cases hl
   ·cases hl
  ·cases hl
 have form : ∀ (zs:Array Value) (c:List D),fitsAll ks c=true→DRs F w c zs.toList→(Value.agg zs).formed P t=true:=by
  intro zs c fc dc
  have hz:zs.size=P.cellsOf t:=by rw [hcell,fitsAll_length fc,dc.length]; simp
  unfold aggT at hagg
  unfold Value.formed
  split at hagg <;> simp_all
 obtain⟨r,hr,hiff⟩:=run_equalIn_deep (P:=P) 9988 12 t hk w 12 12 (.agg xs) (.agg ys) _ _ (form xs a fa da) (form ys b fb db) (by simpa [Value.cells] using ha) (by simpa [Value.cells] using hb)
 exact⟨r,hr,hiff.trans (litOf_inj fa fb)⟩

end Go.Dn

/- Each operation that leaves the store alone does in the world what it does in the abstract: one theorem. -/
namespace Go.Dn

set_option linter.unusedSimpArgs false

variable {P:Program} {g:Gh} {σ:St} {tk:List Nat} {w:World}

theorem run_eqGuard_plain {op:BinOp}(t:TypeId)(x y:Operand){a b:Value}(h : ¬ (a = .nilIface∧b = .nilIface))(h' : ∀ p q,¬ (a = .agg p∧b = .agg q)):(eqGuard op t x y a b).run P w = .ok () w:=by
 unfold eqGuard
 cases op <;> simp <;> (split <;> first | rfl | exact absurd ⟨rfl,rfl⟩ h | exact absurd ⟨rfl,rfl⟩ (h' _ _))

theorem run_eqGuard_nil {op:BinOp}(t:TypeId){x y:Operand}(h:(∃ v,x = .const v)∨(∃ v,y = .const v)):(eqGuard op t x y .nilIface .nilIface).run P w = .ok () w:=by
 unfold eqGuard
 rcases h with⟨v,rfl⟩ | ⟨v,rfl⟩
 ·cases op <;> simp
 ·cases op <;> simp

theorem run_eqGuard_flat {op:BinOp}(t:TypeId)(x y:Operand){a b:Array Value}(h:P.eqGuardType P.depth t=false):(eqGuard op t x y (.agg a) (.agg b)).run P w = .ok () w:=by
 have hp:(program:Sem Program).run P w = .ok P w:=rfl
 unfold eqGuard
 cases op <;> simp [hp,h]

theorem run_eql_other (t:TypeId){x y:Value}(hi : ∀ k n k' n',¬ (x = .int k n∧y = .int k' n'))(hs : ∀ a b,¬ (x = .string a∧y = .string b))(hf : ∀ k n k' n',¬ (x = .float k n∧y = .float k' n'))(hc : ∀ k n m k' n' m',¬ (x = .complex k n m∧y = .complex k' n' m')) :
  (Go.binOp .eql t x y).run P w=((Op.equal t x y).run P w).andThen fun b w'=>.ok (.bool b) w':=by
 unfold Go.binOp
 split <;> first | exact absurd ⟨rfl,rfl⟩ (hi _ _ _ _) | exact absurd ⟨rfl,rfl⟩ (hs _ _) | exact absurd ⟨rfl,rfl⟩ (hf _ _ _ _) | exact absurd ⟨rfl,rfl⟩ (hc _ _ _ _ _ _) | simp_all

theorem run_neq_other (t:TypeId){x y:Value}(hi : ∀ k n k' n',¬ (x = .int k n∧y = .int k' n'))(hs : ∀ a b,¬ (x = .string a∧y = .string b))(hf : ∀ k n k' n',¬ (x = .float k n∧y = .float k' n'))(hc : ∀ k n m k' n' m',¬ (x = .complex k n m∧y = .complex k' n' m')) :
  (Go.binOp .neq t x y).run P w=((Op.equal t x y).run P w).andThen fun b w'=>.ok (.bool !b) w':=by
 unfold Go.binOp
 split <;> first | exact absurd ⟨rfl,rfl⟩ (hi _ _ _ _) | exact absurd ⟨rfl,rfl⟩ (hs _ _) | exact absurd ⟨rfl,rfl⟩ (hf _ _ _ _) | exact absurd ⟨rfl,rfl⟩ (hc _ _ _ _ _ _) | simp_all

theorem isNil_ty {ty:Ty}{x:V}{b:Bool}(h:V.isNil ty x=some b):ty = .ptr∨ty = .slice∨ty = .map∨ty = .func∨ty = .iface:=by
 cases ty <;> first | (simp; done) | (exfalso; cases x <;> first | (simp [V.isNil] at h; done) | (rename_i d; cases d <;> simp [V.isNil] at h))

theorem notNil_ne {ty:Ty}{v:Value}(hty:ty = .ptr∨ty = .slice∨ty = .map∨ty = .func∨ty = .iface)(h:NotNil ty v):v≠nilOf ty:=by
 rcases hty with rfl | rfl | rfl | rfl | rfl
 ·obtain⟨a,rfl⟩:=h; simp [nilOf]
 ·obtain⟨a,n,c,rfl⟩:=h; simp [nilOf]
 ·obtain⟨a,rfl⟩:=h; simp [nilOf]
 ·obtain⟨f,a,b,rfl⟩:=h; simp [nilOf]
 ·obtain⟨t,x,rfl⟩:=h; simp [nilOf]

theorem niled_shape {ty:Ty}{v:Value}(hty:ty = .ptr∨ty = .slice∨ty = .map∨ty = .func∨ty = .iface)(h:v=nilOf ty∨NotNil ty v) :
  (∀ k n,v ≠ .int k n)∧(∀ s,v ≠ .string s)∧(∀ k n,v ≠ .float k n)∧(∀ k n m,v ≠ .complex k n m)∧(∀ p,v ≠ .agg p)∧(v = .nilIface→ty = .iface):=by
 rcases hty with rfl | rfl | rfl | rfl | rfl
 ·rcases h with rfl | ⟨a,rfl⟩ <;> simp [nilOf]
 ·rcases h with rfl | ⟨a,n,c,rfl⟩ <;> simp [nilOf]
 ·rcases h with rfl | ⟨a,rfl⟩ <;> simp [nilOf]
 ·rcases h with rfl | ⟨f,a,b,rfl⟩ <;> simp [nilOf]
 ·rcases h with rfl | ⟨t,x,rfl⟩ <;> simp [nilOf]

theorem isC_const {x:Operand}{x':Opd}(hx:compOpd x=some x')(h:x'.isC=true) : ∃ v,x = .const v:=by
 unfold compOpd at hx
 split at hx
 ·split at hx
  ·cases hx; simp [Opd.isC] at h
  ·cases hx
 ·exact⟨_,rfl⟩
 ·cases hx; simp [Opd.isC] at h
 ·cases hx; simp [Opd.isC] at h

theorem eqV_rel {t:TypeId}{ty:Ty}{ks:List Lf}(ht:compTy P t=some (ty,ks)){x y:V}{cx cy:Value}{ox oy:Operand}{ox' oy':Opd}(hox:compOpd ox=some ox')(hoy:compOpd oy=some oy')
  (hx:VR g tk w x cx) (hy:VR g tk w y cy) {b:Bool} (h:eqV ty ks x y ox'.isC oy'.isC=some b) (op:BinOp) (hop:op = .eql∨op = .neq) :
  (do eqGuard op t ox oy cx cy; Go.binOp op t cx cy:Sem Value).run P w = .ok (.bool (if op = .eql then b else !b)) w:=by
 have fin : ∀ {r:Bool},(Op.equal t cx cy).run P w = .ok r w→r=b→(∀ k n k' n',¬ (cx = .int k n∧cy = .int k' n'))→(∀ a b,¬ (cx = .string a∧cy = .string b))→(∀ k n k' n',¬ (cx = .float k n∧cy = .float k' n'))→(∀ k n m k' n' m',¬ (cx = .complex k n m∧cy = .complex k' n' m')) →
   (eqGuard op t ox oy cx cy).run P w = .ok () w→(do eqGuard op t ox oy cx cy; Go.binOp op t cx cy:Sem Value).run P w = .ok (.bool (if op = .eql then b else !b)) w:=by
  intro r hr hb h1 h2 h3 h4 hg
  subst hb
  rcases hop with rfl | rfl
  ·simp [hg,run_eql_other t h1 h2 h3 h4,hr]
  ·simp [hg,run_neq_other t h1 h2 h3 h4,hr]
 unfold eqV at h
 cases hty:ty
 case bool =>
  subst hty
  simp only at h
  split at h
  ·cases h
   have e1:=hx.inv_bool; have e2:=hy.inv_bool
   subst e1 e2
   have hu:P.underlying t=some .bool:=compTy_is ht
   exact fin (run_equal_bool w t _ _ hu) rfl (by simp) (by simp) (by simp) (by simp) (run_eqGuard_plain t ox oy (by simp) (by simp))
  ·cases h
 case flat =>
  subst hty
  simp only at h
  split at h
  ·rename_i l m
   split at h
   ·rename_i hf
    simp only [Bool.and_eq_true] at hf
    cases h
    cases hx with
    | da _ xs dx =>
    cases hy with
    | da _ ys dy =>
    cases dx with
    | agg _ _ hl1 _ h1 =>
     cases dy with
     | agg _ _ hl2 _ h2 =>
      have hfl : ∃ ks',ks'=ks∧flatOf P t=some (Ty.flat,ks'):=by
       unfold compTy at ht
       split at ht <;> first | (cases ht; done) | exact⟨_,rfl,ht⟩
      obtain⟨_,rfl,hfl⟩:=hfl
      obtain⟨_,hlv,hkt,hgd⟩:=flatOf_inv hfl
      have hagg:aggT P t=true:=by
       unfold compTy at ht
       unfold aggT
       split at ht <;> first | (cases ht; done) | simp_all
      obtain⟨r,hr,hiff⟩:=run_equal_flat (w:=w) hlv hkt hagg hf.1 hf.2 (DRs.of_get (by simpa using hl1) (fun i d v hd hv=>h1 i d v hd (by simpa using hv))) (DRs.of_get (by simpa using hl2) (fun i d v hd hv=>h2 i d v hd (by simpa using hv)))
      refine fin hr ?_ (by simp) (by simp) (by simp) (by simp) (run_eqGuard_flat t ox oy hgd)
      by_cases e:l=m
      ·simp [e,hiff.2 e]
      ·have:r=false:=by cases r; rfl; exact absurd (hiff.1 rfl) e
       simp [e,this]
   ·cases h
  ·cases h
 all_goals
  rw [hty] at h
  simp only at h
  split at h
  ·rename_i hx' hy'
   have hn:=isNil_ty hx'
   have e1:=isNil_true hx' hx
   have e2:=isNil_true hy' hy
   have hb:b=true∧(ty = .iface→ox'.isC=true∨oy'.isC=true):=by
    rw [hty]
    simp at h
    first | exact⟨by simpa using h.symm,by simp⟩ | (obtain⟨h1,h2⟩:=h; exact⟨by simpa using h2.symm,fun _=>by simpa using h1⟩)
   obtain⟨r,hr,hiff⟩:=run_equal_nil (w:=w) (compTy_is ht) (.inl (hty▸e1)) (.inl (hty▸e2)) (.inl (hty▸e1)) (hty▸hn)
   have hr1:r=true:=hiff.2 ⟨hty▸e1,hty▸e2⟩
   obtain⟨a1,a2,a3,a4,a5,a6⟩:=niled_shape hn (.inl e1)
   refine fin hr (by rw [hr1,hb.1]) (fun k n k' n' h=>a1 _ _ h.1) (fun a b h=>a2 _ h.1) (fun k n k' n' h=>a3 _ _ h.1) (fun k n m k' n' m' h=>a4 _ _ _ h.1) ?_
   by_cases hi:cx = .nilIface∧cy = .nilIface
   ·obtain⟨rfl,rfl⟩:=hi
    have:=a6 rfl
    rcases hb.2 (hty.trans this) with hc | hc
    ·exact run_eqGuard_nil t (.inl (isC_const hox hc))
    ·exact run_eqGuard_nil t (.inr (isC_const hoy hc))
   ·exact run_eqGuard_plain t ox oy hi (fun p q h=>a5 _ h.1)
  ·rename_i hx' hy'
   have hn:=isNil_ty hx'
   have e1:=isNil_true hx' hx
   have e2:=isNil_false hy' hy
   cases h
   obtain⟨r,hr,hiff⟩:=run_equal_nil (w:=w) (compTy_is ht) (.inl (hty▸e1)) (.inr (hty▸e2)) (.inl (hty▸e1)) (hty▸hn)
   have hr1:r=false:=by
    cases r
    ·rfl
    ·exact absurd (hiff.1 rfl).2 (hty▸notNil_ne hn e2)
   obtain⟨a1,a2,a3,a4,a5,a6⟩:=niled_shape hn (.inl e1)
   exact fin hr hr1 (fun k n k' n' h=>a1 _ _ h.1) (fun a b h=>a2 _ h.1) (fun k n k' n' h=>a3 _ _ h.1) (fun k n m k' n' m' h=>a4 _ _ _ h.1)
    (run_eqGuard_plain t ox oy (fun h=>by
     have hi:=(niled_shape hn (.inr e2)).2.2.2.2.2 h.2
     have:=notNil_ne hn e2
     rw [h.2,hi] at this
     exact this rfl) (fun p q h=>a5 _ h.1))
  ·rename_i hx' hy'
   have hn:=isNil_ty hy'
   have e1:=isNil_false hx' hx
   have e2:=isNil_true hy' hy
   cases h
   obtain⟨r,hr,hiff⟩:=run_equal_nil (w:=w) (compTy_is ht) (.inr (hty▸e1)) (.inl (hty▸e2)) (.inr (hty▸e2)) (hty▸hn)
   have hr1:r=false:=by
    cases r
    ·rfl
    ·exact absurd (hiff.1 rfl).1 (hty▸notNil_ne hn e1)
   obtain⟨a1,a2,a3,a4,a5,a6⟩:=niled_shape hn (.inr e1)
   exact fin hr hr1 (fun k n k' n' h=>a1 _ _ h.1) (fun a b h=>a2 _ h.1) (fun k n k' n' h=>a3 _ _ h.1) (fun k n m k' n' m' h=>a4 _ _ _ h.1)
    (run_eqGuard_plain t ox oy (fun h=>by
     have hi:=(niled_shape hn (.inr e1)).2.2.2.2.2 h.1
     have:=notNil_ne hn e1
     rw [h.1,hi] at this
     exact this rfl) (fun p q h=>a5 _ h.1))
  ·cases h

theorem evalBin_rel {t:TypeId}{ty:Ty}{ks:List Lf}(ht:compTy P t=some (ty,ks)){x y:V}{cx cy:Value}{ox oy:Operand}{ox' oy':Opd}(hox:compOpd ox=some ox')(hoy:compOpd oy=some oy')
  (hx:VR g tk w x cx) (hy:VR g tk w y cy) {op:BinOp} {v:V} (h:evalBin op ty ks x y ox'.isC oy'.isC=some v) :
  ∃ cv,(do eqGuard op t ox oy cx cy; Go.binOp op t cx cy:Sem Value).run P w = .ok cv w∧VR g tk w v cv:=by
 have pre : ∀ {r:Value},(eqGuard op t ox oy cx cy).run P w = .ok () w→(Go.binOp op t cx cy).run P w = .ok r w→(do eqGuard op t ox oy cx cy; Go.binOp op t cx cy:Sem Value).run P w = .ok r w:=by
  intro r h1 h2
  simp [h1,h2]
 unfold evalBin at h
 split at h
 ·rename_i k a k' b
  have e1:=hx.inv_int; have e2:=hy.inv_int
  subst e1 e2
  have hg:=run_eqGuard_plain (P:=P) (w:=w) (op:=op) t ox oy (a:=.int k a) (b:=.int k' b) (by simp) (by simp)
  split at h
  ·obtain⟨cv,h1,h2⟩:=run_shiftBin (P:=P) (g:=g) (tk:=tk) (w:=w) (k':=k') (.inl rfl) h t
   exact⟨cv,pre hg h1,h2⟩
  ·obtain⟨cv,h1,h2⟩:=run_shiftBin (P:=P) (g:=g) (tk:=tk) (w:=w) (k':=k') (.inr rfl) h t
   exact⟨cv,pre hg h1,h2⟩
  ·split at h
   ·rename_i h1 h2 hk
    subst hk
    obtain⟨cv,h1,h2⟩:=run_intBin (P:=P) (g:=g) (tk:=tk) (w:=w) ⟨fun e=>h1 e,fun e=>h2 e⟩ h t
    exact⟨cv,pre hg h1,h2⟩
   ·cases h
 ·have e1:=hx.inv_str; have e2:=hy.inv_str
  subst e1 e2
  obtain⟨cv,h1,h2⟩:=run_strBin (P:=P) (g:=g) (tk:=tk) (w:=w) h t
  exact⟨cv,pre (run_eqGuard_plain t ox oy (by simp) (by simp)) h1,h2⟩
 ·split at h
  ·simp only [Option.map_eq_some_iff] at h
   obtain⟨b,hb,rfl⟩:=h
   exact⟨_,eqV_rel ht hox hoy hx hy hb .eql (.inl rfl),.bool _⟩
  ·simp only [Option.map_eq_some_iff] at h
   obtain⟨b,hb,rfl⟩:=h
   exact⟨_,eqV_rel ht hox hoy hx hy hb .neq (.inr rfl),.bool _⟩
  ·cases h

theorem evalUn_rel {op:UnOp}{x v:V}{cx:Value}(hx:VR g tk w x cx)(h:evalUn op x=some v) : ∃ cv,(Op.unary op cx).run P w = .ok cv w∧VR g tk w v cv:=by
 unfold evalUn at h
 split at h
 ·cases h; have e:=hx.inv_bool; subst e; exact⟨_,by simp [Op.unary],.bool _⟩
 ·cases h; have e:=hx.inv_int; subst e; exact⟨_,by simp [Op.unary,Op.intArith],.int _ _⟩
 ·cases h; have e:=hx.inv_int; subst e; exact⟨_,by simp only [Op.unary,intBits_xor,Sem.run_pure],.int _ _⟩
 ·cases h

end Go.Dn
