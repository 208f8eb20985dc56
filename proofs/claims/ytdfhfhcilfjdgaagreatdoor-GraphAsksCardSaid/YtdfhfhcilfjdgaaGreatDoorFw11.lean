import Derived.CallsIn
import Derived.Laws.Entries
import GoSem.ClaimKeys
import Derived.DeepKeys2
import Derived.WalkKit
import Derived.DeepKeys
import Derived.Lib.ConvBytes
import Derived.Laws.BytesString
set_option linter.unusedVariables false
set_option linter.unusedSimpArgs false
open List renaming reduceReplicate → aA,getElem?_eq_some_iff → aB,getElem?_append_left → aC,replicate → aD,cons_append → aE,getElem?_set_ne → aF,append_nil → aG,nil_append → aH,map_cons → aI,take_of_length_le → aK,mem_of_getElem? → aL,map_nil → aM,getElem?_set_self → aO,length_map → aQ,getElem?_eq_none → aR,mem_map → aT,mem_append → aW,length_append → aX,mem_filter → aY,take_append_getElem → aZ,getD_eq_getElem?_getD → bA,take_length → bC,drop_zero → bF,getElem?_map → bG,getElem?_append_right → bH,mem_singleton → bI,getElem?_eq_getElem → bO,eq_nil_of_length_eq_zero → bP,getElem?_of_mem → bQ,length_replicate → bS,drop_of_length_le → bT,mem_cons → bU,append_assoc → bV,mem_append_right → bX
open Go.IntKind renaming i64 → aJ,u64 → bL
open Option renaming some → aN
open Bool renaming false_eq_true → aP,and_eq_true → aS
open Go.Builtin renaming zeroCells → aU,append_ → bD,firstCells → bM
open Go.Result renaming andThen_ok → aV
open Nat renaming le_refl → bB,mul_le_mul_right → bE,add_mul → bJ,lt_or_ge → bR
open Array renaming getElem?_eq_some_iff → bW
/- Abstract data, abstract store, the small compiled language, and its meaning (no proof about the machine here). -/
namespace Go.Dn

inductive D where
 | int (k:IntKind) (n:Int)
 | bool (b:Bool)
 | str (s:List UInt8)
 | nilp | nils | nilm | nilf | nili
 | iface (t:Nat) (d:D)
 | list (rows:List (List D))
 | agg (cs:List D)
 deriving Inhabited

inductive V where
 | d (x:D)
 | da (cs:List D)
 | agg (cs:List V)
 | tup (vs:List V)
 | ref (r off:Nat)
 | ro (cs:List D)
 | sl (r off len sz:Nat)
 | fl (rows:List (List D))
 | tl (rows:List (List D)) (t st sz:Nat)
 | map (r:Nat)
 | yld (r:Nat)
 | iter (r:Nat)
 | fn (f:Fn) (first caps:List V)
 | ifc (t:Nat) (v:V)
 | gone
 | any
 deriving Inhabited

abbrev Env:=List (Nat×V)

def Env.get:Env→Nat→V
 | [],_=>.any
 | (s,v)::r,t=>if s=t then v else Env.get r t

def Env.set:Env→Nat→V→Env
 | [],t,x=>[(t,x)]
 | (s,v)::r,t,x=>if s=t then(t,x)::r else(s,v)::Env.set r t x

def Env.pick (e:Env)(ks:List Nat):Env:=ks.map fun k=>(k,e.get k)

inductive Opd where
 | t (n:Nat)
 | c (x:D)
 | ca (l:List D)
 | f (k:Nat)
 deriving Inhabited

def Opd.ev (e:Env):Opd→V
 | .t n=>e.get n
 | .c x=>.d x
 | .ca l=>.da l
 | .f k=>.fn (.func k) [] []

inductive Ty where
 | int | bool | str | ptr | slice | map | func | iface | flat
 deriving Inhabited,DecidableEq

inductive Lf where
 | int (k:IntKind) | bool | str
 deriving Inhabited,DecidableEq

inductive Conv where
 | int (k:IntKind)
 | strBytes (e:Nat)
 | bytesStr
 | same
 deriving Inhabited,DecidableEq

inductive POp where
 | move (x:Opd)
 | pick (c a b:Opd)
 | bin (op:BinOp) (ty:Ty) (ks:List Lf) (x y:Opd)
 | una (op:UnOp) (x:Opd)
 | conv (k:Conv) (x:Opd)
 | load (agg:Bool) (n:Nat) (x:Opd)
 | nilCheck (x:Opd)
 | faddr (off:Nat) (x:Opd)
 | field (agg:Bool) (off n:Nat) (x:Opd)
 | iaddr (sz:Nat) (x i:Opd)
 | iaddrArr (len sz:Nat) (x i:Opd)
 | index (agg:Bool) (len sz:Nat) (x i:Opd)
 | indexStr (x i:Opd)
 | slice (sz:Nat) (x:Opd) (lo hi mx:Option Opd)
 | sliceStr (x:Opd) (lo hi:Option Opd)
 | sliceArr (n sz:Nat) (x:Opd) (lo hi:Option Opd)
 | bslice (e len sz:Nat) (zero:List D) (parts:List (Nat×Opd))
 | build (zero:List D) (parts:List (Nat×Nat×Opd))
 | len (ty:Ty) (x:Opd)
 | lenArr (n:Nat)
 | cap (x:Opd)
 | min (xs:List Opd)
 | max (xs:List Opd)
 | mkif (t:Nat) (x:Opd)
 | assert (t:Nat) (zero:Opd) (ok:Bool) (x:Opd)
 | extract (x:Opd) (i:Nat)
 | mkfn (f:Fn) (first caps:List Opd)
 | lookup (ka:Bool) (ks:List Lf) (zero:Opd) (ok:Bool) (x k:Opd)
 | mkfl (sz bytes:Nat) (zero:List D) (len cap:Opd)
 deriving Inhabited

inductive EOp where
 | alloc (zero:List V)
 | box (x:Opd)
 | store (n:Nat) (a x:Opd)
 | append (e sz bytes:Nat) (s x:Opd)
 | appendStr (e:Nat) (s x:Opd)
 | appendZero (e sz bytes:Nat) (zero:List D) (s n:Opd)
 | copy (sz:Nat) (s x:Opd)
 | clear (sz:Nat) (zero:List D) (s:Opd)
 | makeSlice (e sz bytes:Nat) (zero:List D) (len cap:Opd)
 | makeMap
 | mapUpdate (ka:Bool) (ks:List Lf) (m k x:Opd)
 | mapDelete (ka:Bool) (ks:List Lf) (m k:Opd)
 | range (x:Opd)
 | entry (x:Opd)
 | cloneMap (x:Opd)
 deriving Inhabited

inductive Mode where
 | val | raw | rd | rnd
 deriving Inhabited,DecidableEq

inductive Ins where
 | p (dst:Option Nat) (op:POp)
 | e (dst:Option Nat) (op:EOp)
 | call (dst:Option Nat) (f:Nat) (args:List Opd)
 | callv (dst:Option Nat) (f:Opd) (args:List Opd)
 | next (dst:Option Nat) (it:Opd)
 | when (s:Nat) (want:Bool) (body:List Ins)
 deriving Inhabited

structure DOp where
 guard:Option (Nat×Bool)
 ins:Ins
 after:List Nat
 al:Nat
 deriving Inhabited

inductive C where
 | skip
 | ops (ks:List Nat) (l:List Ins)
 | drw (ks:List Nat) (na:Nat) (l:List DOp)
 | seq (a b:C)
 | cond (c:Opd) (thn els:C)
 | block (id:Nat) (body:C)
 | loop (ks:List Nat) (body:C)
 | exit (id:Nat)
 | ret
 | rangeF (ks:List Nat) (f:Opd) (ps:List Nat) (a b:C)
 deriving Inhabited

inductive Ex where
 | normal | exit (id:Nat) | ret
 deriving Inhabited

inductive LSt where
 | ready | busy | done (x:Ex)
 deriving Inhabited

inductive Obj where
 | cells (cs:List V)
 | map (es:List (Nat×V×V)) (clock:Nat)
 | iter (m:Option Nat) (since:Nat) (seen:List Nat) (last:Nat)
 | loop (e:Env) (ps:List Nat) (a b:C) (st:LSt)
 | dead
 | free
 deriving Inhabited

structure St where
 objs:List Obj
 toks:List Nat

def St.empty:St:=⟨[],[]⟩

def V.isD:V→Bool
 | .d _=>true
 | _=>false

def ofD:List V→Option (List D)
 | []=>some []
 | .d x::r=>match ofD r with
  | some l=>some (x::l)
  | none=>none
 | _::_=>none

def bZ (cs:List V):V :=
 match ofD cs with
 | some l=>.da l
 | none=>.agg cs

def V.cells:V→Option (List V)
 | .da l=>some (l.map .d)
 | .agg l=>some l
 | .tup _ | .any | .gone=>none
 | v=>some [v]

def gJ (sz:Nat):Nat→List D→List (List D)
 | 0,_=>[]
 | n+1,l=>l.take sz::gJ sz n (l.drop sz)

def V.rows (σ:St):V→Option (List (List D))
 | .d .nils=>some []
 | .d (.list rows)=>some rows
 | .fl rows=>some rows
 | .tl rows _ _ _=>some rows
 | .sl r off len sz=>match σ.objs[r]? with
  | some (.cells cs)=>match ofD ((cs.drop off).take (len*sz)) with
   | some l=>some (gJ sz len l)
   | none=>none
  | _=>none
 | _=>none

def V.byVal1 (σ:St):V→Option D
 | .d x=>some x
 | .fl rows=>some (.list rows)
 | .tl rows _ _ _=>some (.list rows)
 | .sl r off len sz=>match V.rows σ (.sl r off len sz) with
  | some rows=>some (.list rows)
  | none=>none
 | _=>none
def jY (σ:St):List V→Option (List D)
 | []=>some []
 | v::r=>match v.byVal1 σ,jY σ r with
  | some x,some l=>some (x::l)
  | _,_=>none

def V.byVal (σ:St):V→Option V
 | .d x=>some (.d x)
 | .da l=>some (.da l)
 | .fl rows=>some (.d (.list rows))
 | .tl rows _ _ _=>some (.d (.list rows))
 | .sl r off len sz=>match V.rows σ (.sl r off len sz) with
  | some rows=>some (.d (.list rows))
  | none=>none
 | .agg cs=>match jY σ cs with
  | some l=>some (.da l)
  | none=>none
 | _=>none

def V.fromLo (lo:Nat):V→Bool
 | .sl r _ _ _=>decide (lo≤r)
 | _=>true

def V.byValN (lo:Nat) (σ:St):V→Option V
 | .sl r off len sz=>if lo≤r then V.byVal σ (.sl r off len sz) else none
 | .agg cs=>if cs.all (V.fromLo lo)=true then V.byVal σ (.agg cs) else none
 | v=>V.byVal σ v

def V.borrow1:V→Bool
 | .sl .. => true
 | _=>false
def V.borrows:V→Bool
 | .sl .. => true
 | .agg cs=>cs.any V.borrow1
 | _=>false

def V.flatv:V→Bool
 | .d _ | .da _=>true
 | _=>false

def V.pure:V→Bool
 | .d _ | .da _=>true
 | .tup vs=>vs.all V.flatv
 | _=>false

def D.scalar:D→Bool
 | .int .. | .bool _ | .str _ | .nilp | .nils | .nilm | .nilf | .nili=>true
 | .iface _ (.int ..)=>true
 | _=>false

def V.scalar:V→Bool
 | .d x=>x.scalar
 | .da l=>l.all D.scalar
 | _=>false

def V.scalars:V→Bool
 | .tup vs=>vs.all V.scalar
 | v=>v.scalar

end Go.Dn

/- The meaning of the small language: a weakest precondition aG1 pure data. Nothing about the machine yet. -/
namespace Go.Dn

noncomputable section
open Classical

def Lf.fits:Lf→D→Bool
 | .int k,.int k' n=>k==k'&&decide (k.min≤n)&&decide (n≤k.max)
 | .bool,.bool _=>true
 | .str,.str s=>decide (s.length≤9223372036854775807)
 | _,_=>false

def fI:List Lf→List D→Bool
 | [],[]=>true
 | k::ks,d::ds=>k.fits d&&fI ks ds
 | _,_=>false

def eO (op:BinOp)(k:IntKind)(a b:Int):Option V :=
 match op with
 | .add=>some (.d (.int k (k.wrap (a+b))))
 | .sub=>some (.d (.int k (k.wrap (a-b))))
 | .mul=>some (.d (.int k (k.wrap (a*b))))
 | .quo=>if b=0 then none else some (.d (.int k (k.wrap (a.tdiv b))))
 | .rem=>if b=0 then none else some (.d (.int k (a.tmod b)))
 | .and=>some (.d (.int k (bits .and k a b)))
 | .or=>some (.d (.int k (bits .or k a b)))
 | .xor=>some (.d (.int k (bits .xor k a b)))
 | .andNot=>some (.d (.int k (bits .andNot k a b)))
 | .eql=>some (.d (.bool (decide (a=b))))
 | .neq=>some (.d (.bool (!decide (a=b))))
 | .lss=>some (.d (.bool (decide (a<b))))
 | .leq=>some (.d (.bool (decide (a≤b))))
 | .gtr=>some (.d (.bool (decide (b<a))))
 | .geq=>some (.d (.bool (decide (b≤a))))
 | _=>none

def iM (op:BinOp)(k:IntKind)(a b:Int):Option V :=
 if b<0 then none else
 match op with
 | .shl=>some (.d (.int k (k.wrap (a*2 ^ (min b.toNat k.bits)))))
 | .shr=>some (.d (.int k (a / 2 ^ (min b.toNat k.bits))))
 | _=>none

def aD9 (op:BinOp)(a b:List UInt8):Option V :=
 match op with
 | .add=>if ((a.length+b.length:Nat):Int)≤9223372036854775807 then some (.d (.str (a++b))) else none
 | .eql=>some (.d (.bool (decide (a=b))))
 | .neq=>some (.d (.bool (!decide (a=b))))
 | .lss=>some (.d (.bool (Op.bytesLess a b)))
 | .leq=>some (.d (.bool (Op.bytesLess a b||decide (a=b))))
 | .gtr=>some (.d (.bool (!(Op.bytesLess a b||decide (a=b)))))
 | .geq=>some (.d (.bool (!Op.bytesLess a b)))
 | _=>none

def V.isNil:Ty→V→Option Bool
 | .ptr,.d .nilp=>some true
 | .ptr,.ref _ _=>some false
 | .ptr,.ro _=>some false
 | .slice,.d .nils=>some true
 | .slice,.d (.list _)=>some false
 | .slice,.fl _=>some false
 | .slice,.tl _ _ _ _=>some false
 | .slice,.sl .. => some false
 | .map,.d .nilm=>some true
 | .map,.map _=>some false
 | .func,.d .nilf=>some true
 | .func,.fn .. => some false
 | .iface,.d .nili=>some true
 | .iface,.d (.iface ..)=>some false
 | .iface,.ifc .. => some false
 | _,_=>none

def eqV (ty:Ty)(ks:List Lf)(x y:V)(xc yc:Bool):Option Bool :=
 match ty with
 | .bool=>match x,y with
  | .d (.bool a),.d (.bool b)=>some (a==b)
  | _,_=>none
 | .flat=>match x,y with
  | .da a,.da b=>if fI ks a&&fI ks b then some (decide (a=b)) else none
  | _,_=>none
 | t=>match V.isNil t x,V.isNil t y with
  | some true,some true=>if t = .iface then(if xc||yc then some true else none) else some true
  | some true,some false=>some false
  | some false,some true=>some false
  | _,_=>none

def Opd.isC:Opd→Bool
 | .c _=>true
 | .ca _=>true
 | _=>false

def cB (op:BinOp)(ty:Ty)(ks:List Lf)(x y:V)(xc yc:Bool):Option V :=
 match x,y with
 | .d (.int k a),.d (.int k' b) =>
  match op with
  | .shl | .shr=>iM op k a b
  | op=>if k=k' then eO op k a b else none
 | .d (.str a),.d (.str b)=>aD9 op a b
 | x,y=>match op with
  | .eql=>(eqV ty ks x y xc yc).map fun b=>.d (.bool b)
  | .neq=>(eqV ty ks x y xc yc).map fun b=>.d (.bool !b)
  | _=>none

def eQ (op:UnOp)(x:V):Option V :=
 match op,x with
 | .not,.d (.bool b)=>some (.d (.bool !b))
 | .neg,.d (.int k n)=>some (.d (.int k (k.wrap (0-n))))
 | .xor,.d (.int k n)=>some (.d (.int k (bits .xor k (if k.signed then -1 else k.max) n)))
 | _,_=>none

def cC (s:List UInt8):List (List D):=s.map fun b=>[D.int .u8 b.toNat]

def rX:List (List D)→Option (List UInt8)
 | []=>some []
 | [.int .u8 n]::r=>match rX r with
  | some l=>some (UInt8.ofNat n.toNat::l)
  | none=>none
 | _::_=>none

def cF (σ:St)(k:Conv)(x:V):Option V :=
 match k with
 | .int k=>match x with
  | .d (.int _ n)=>some (.d (.int k (k.wrap n)))
  | _=>none
 | .strBytes _=>match x with
  | .d (.str s)=>some (.d (.list (cC s)))
  | _=>none
 | .bytesStr=>match V.rows σ x with
  | some rows=>match rX rows with
   | some l=>some (.d (.str l))
   | none=>none
  | none=>none
 | .same=>match x with
  | .d (.str s)=>some (.d (.str s))
  | _=>none

def splice {α:Type}(cs:List α)(off:Nat)(xs:List α):List α:=cs.take off++xs++cs.drop (off+xs.length)

def loadAt (σ:St)(agg:Bool)(n:Nat)(x:V):Option V :=
 match x with
 | .ref r off=>match σ.objs[r]? with
  | some (.cells cs) =>
   if agg then(if off+n≤cs.length then some (bZ ((cs.drop off).take n)) else none)
   else cs[off]?
  | _=>none
 | .ro cs =>
  if agg then(if n≤cs.length then some (.da (cs.take n)) else none)
  else match cs with
   | c::_=>some (.d c)
   | []=>none
 | _=>none

def dL (agg:Bool)(off n:Nat)(x:V):Option V :=
 match x with
 | .da l =>
  if agg then(if off+n≤l.length then some (.da ((l.drop off).take n)) else none)
  else match l[off]? with
   | some c=>some (.d c)
   | none=>none
 | .agg l =>
  if agg then(if off+n≤l.length then some (bZ ((l.drop off).take n)) else none)
  else l[off]?
 | _=>none

def jX:V→Option Int
 | .d (.int _ n)=>some n
 | _=>none

def jN (dflt:Nat):Option V→Option Int
 | none=>some dflt
 | some x=>jX x

def kV (sz:Nat)(rows:List (List D)):Bool:=rows.all fun r=>r.length==sz

def kL (sz:Nat)(x:V)(lo hi:Nat)(mx:Option Nat):Option V :=
 match x,mx with
 | .d .nils,none=>if hi=0 then some (.d .nils) else none
 | .d .nils,some m=>if m=0 then some (.d .nils) else none
 | .d (.list rows),none=>if kV sz rows=true∧hi≤rows.length then some (.d (.list ((rows.drop lo).take (hi-lo)))) else none
 | .fl rows,none=>if kV sz rows=false then none else if hi=rows.length then some (.fl (rows.drop lo)) else if hi≤rows.length then some (.d (.list ((rows.drop lo).take (hi-lo)))) else none
 | .tl rows t st s,none=>if kV sz rows=false∨s≠sz then none else if hi=rows.length then some (.tl (rows.drop lo) t (st+lo) s) else if hi≤rows.length then some (.d (.list ((rows.drop lo).take (hi-lo)))) else none
 | .sl r off len s,none=>if s=sz∧hi≤len then some (.sl r (off+lo*sz) (hi-lo) sz) else none
 | .d (.list rows),some m=>if kV sz rows=true∧m=hi∧hi≤rows.length then some (.fl ((rows.drop lo).take (hi-lo))) else none
 | .fl rows,some m=>if kV sz rows=true∧m=hi∧hi≤rows.length then some (.fl ((rows.drop lo).take (hi-lo))) else none
 | .tl rows _ _ _,some m=>if kV sz rows=true∧m=hi∧hi≤rows.length then some (.fl ((rows.drop lo).take (hi-lo))) else none
 | .sl _ _ _ s,some m=>if s=sz∧hi=0∧m=0 then some (.fl []) else none
 | _,_=>none

def lenV (σ:St)(x:V):Option Nat :=
 match x with
 | .d .nils=>some 0
 | .d (.list rows)=>some rows.length
 | .fl rows=>some rows.length
 | .tl rows _ _ _=>some rows.length
 | .sl _ _ len _=>some len
 | _=>none

def gZ (σ:St)(ty:Ty)(x:V):Option Nat :=
 match ty with
 | .slice=>lenV σ x
 | .str=>match x with
  | .d (.str s)=>some s.length
  | _=>none
 | .map=>match x with
  | .d .nilm=>some 0
  | .map r=>match σ.objs[r]? with
   | some (.map es _)=>some es.length
   | _=>none
  | _=>none
 | _=>none

def fE (cs:List V):List (Nat×Nat×V)→Option (List V)
 | []=>some cs
 | (off,size,v)::r =>
  match v.cells with
  | some vs=>if vs.length=size∧off+size≤cs.length then fE (splice cs off vs) r else none
  | none=>none

def pH:Int→List V→IntKind→Option Int
 | m,[],_=>some m
 | m,.d (.int k n)::r,k0=>if k=k0 then pH (if n<m then n else m) r k0 else none
 | _,_,_=>none

def uG:Int→List V→IntKind→Option Int
 | m,[],_=>some m
 | m,.d (.int k n)::r,k0=>if k=k0 then uG (if m<n then n else m) r k0 else none
 | _,_,_=>none

def vL:List V→Option V
 | .d (.int k n)::r=>match pH n r k with | some m=>some (.d (.int k m)) | none=>none
 | _=>none

def aDU:List V→Option V
 | .d (.int k n)::r=>match uG n r k with | some m=>some (.d (.int k m)) | none=>none
 | _=>none

def oR:V→V
 | .fl r=>.d (.list r)
 | .tl r _ _ _=>.d (.list r)
 | v=>v

def iL (n:Nat)(zero:List D):List V :=
 match n with
 | 0=>[]
 | n+1=>zero.map .d++iL n zero

def jB (ka:Bool)(ks:List Lf):V→Bool
 | .d d=>!ka&&fI ks [d]
 | .da l=>ka&&fI ks l
 | _=>false

def zK (ka:Bool)(ks:List Lf)(es:List (Nat×V×V)):Prop:=∀ x∈es,jB ka ks x.2.1=true

def uB (k:V):List (Nat×V×V)→Option V
 | []=>none
 | (_,k',v)::r=>if k'=k then some v else uB k r

def aAF (k v:V):List (Nat×V×V)→List (Nat×V×V)
 | []=>[]
 | (b,k',v')::r=>if k'=k then(b,k,v)::r else(b,k',v')::aAF k v r

def tX (k:V):List (Nat×V×V)→List (Nat×V×V)
 | []=>[]
 | (b,k',v')::r=>if k'=k then r else(b,k',v')::tX k r

def rR (σ:St)(ka:Bool)(ks:List Lf)(x k:V):Option (Option V) :=
 if jB ka ks k=false then none else
 match x with
 | .d .nilm=>some none
 | .map r=>match σ.objs[r]? with
  | some (.map es _)=>if zK ka ks es then some (uB k es) else none
  | _=>none
 | _=>none

def jH (σ:St)(ka:Bool)(ks:List Lf)(zero:V)(ok:Bool)(x k:V):Option V :=
 match rR σ ka ks x k with
 | some (some v)=>some (if ok then .tup [v,.d (.bool true)] else v)
 | some none=>some (if ok then .tup [zero,.d (.bool false)] else zero)
 | none=>none

def gQ:V→Option V
 | .ref r off=>some (.ref r off)
 | .ro cs=>some (.ro cs)
 | .fn (.func f) first caps=>some (.fn (.func f) first caps)
 | _=>none

def cH (off:Nat):V→Option V
 | .ref r o=>some (.ref r (o+off))
 | .ro cs=>if off≤cs.length then some (.ro (cs.drop off)) else none
 | _=>none

def jA (σ:St)(sz:Nat)(x i:V):Option V :=
 match jX i with
 | some j=>match x with
  | .sl r off len s=>if s=sz∧0≤j∧j<len then some (.ref r (off+j.toNat*sz)) else none
  | y=>match V.rows σ y with
   | some rows=>if 0≤j∧j<rows.length then(match rows[j.toNat]? with | some row=>if row.length=sz then some (.ro row) else none | none=>none) else none
   | none=>none
 | none=>none

def kZ (len sz:Nat)(x i:V):Option V :=
 match jX i with
 | some j=>if 0≤j∧j<len then(match x with
  | .ref r o=>some (.ref r (o+j.toNat*sz))
  | .ro cs=>if j.toNat*sz≤cs.length then some (.ro (cs.drop (j.toNat*sz))) else none
  | _=>none) else none
 | none=>none

def zH (agg:Bool)(len sz:Nat)(x i:V):Option V :=
 match jX i with
 | some j=>if 0≤j∧j<len then dL agg (j.toNat*sz) sz x else none
 | none=>none

def pX (x i:V):Option V :=
 match x,jX i with
 | .d (.str s),some j=>if 0≤j then(match s[j.toNat]? with | some b=>some (.d (.int .u8 b.toNat)) | none=>none) else none
 | _,_=>none

def mD (σ : St) (sz : Nat) (x : V) (lo hi mx : Option V) : Option V :=
  match lenV σ x with
  | some len => match jN 0 lo, jN len hi with
    | some l, some h => if 0 ≤ l ∧ l ≤ h then
        (match mx with
         | none => kL sz x l.toNat h.toNat none
         | some m => match jX m with
           | some k => if hi.isSome ∧ h ≤ k then kL sz x l.toNat h.toNat (some k.toNat) else none
           | none => none)
      else none
    | _, _ => none
  | none => none

def vZ (x:V)(lo hi:Option V):Option V :=
 match x with
 | .d (.str s)=>match jN 0 lo,jN s.length hi with
  | some l,some h=>if 0≤l∧l≤h∧h≤s.length then some (.d (.str ((s.drop l.toNat).take (h.toNat-l.toNat)))) else none
  | _,_=>none
 | _=>none

def lD (σ : St) (n sz : Nat) (x : V) (lo hi : Option V) : Option V :=
  match jN 0 lo, jN n hi with
  | some l, some h => if 0 ≤ l ∧ l ≤ h ∧ h ≤ n then
      (match x with
       | .ref r o => match σ.objs[r]? with
         | some (.cells cs) => if o + n * sz = cs.length then some (.sl r (o + l.toNat * sz) (h.toNat - l.toNat) sz) else none
         | _ => none
       | .ro cs => if n * sz ≤ cs.length then some (.d (.list (gJ sz (h.toNat - l.toNat) (cs.drop (l.toNat * sz))))) else none
       | _ => none)
    else none
  | _, _ => none

def rT (t:Nat):V→Option V
 | .d y=>some (.d (.iface t y))
 | .da l=>some (.d (.iface t (.agg l)))
 | .any=>none
 | .gone=>none
 | .tup _=>none
 | y=>some (.ifc t y)

def yG:D→V
 | .agg l=>.da l
 | y=>.d y

def xX (t:Nat)(zero:V)(ok:Bool):V→Option V
 | .d (.iface t' y) =>
  if t'=t then some (if ok then .tup [yG y,.d (.bool true)] else yG y)
  else if ok then some (.tup [zero,.d (.bool false)]) else none
 | .d .nili=>if ok then some (.tup [zero,.d (.bool false)]) else none
 | .ifc t' y =>
  if t'=t then some (if ok then .tup [y,.d (.bool true)] else y)
  else if ok then some (.tup [zero,.d (.bool false)]) else none
 | _=>none

def cI (x:V)(i:Nat):Option V :=
 match x with
 | .tup vs=>vs[i]?
 | _=>none

def qY (n:Nat)(z:List D):List D:=match n with
 | 0=>[]
 | n+1=>z++qY n z

def dC (op:POp)(e:Env) (σ:St):Option V :=
 match op with
 | .move x=>some (x.ev e)
 | .pick c a b=>match c.ev e with
  | .d (.bool t)=>some (if t then a.ev e else b.ev e)
  | _=>none
 | .bin op ty ks x y=>cB op ty ks (x.ev e) (y.ev e) x.isC y.isC
 | .una op x=>eQ op (x.ev e)
 | .conv k x=>cF σ k (x.ev e)
 | .load agg n x=>loadAt σ agg n (x.ev e)
 | .nilCheck x=>gQ (x.ev e)
 | .faddr off x=>cH off (x.ev e)
 | .field agg off n x=>dL agg off n (x.ev e)
 | .iaddr sz x i=>jA σ sz (x.ev e) (i.ev e)
 | .iaddrArr len sz x i=>kZ len sz (x.ev e) (i.ev e)
 | .index agg len sz x i=>zH agg len sz (x.ev e) (i.ev e)
 | .indexStr x i=>pX (x.ev e) (i.ev e)
 | .slice sz x lo hi mx=>mD σ sz (x.ev e) (lo.map (Opd.ev e)) (hi.map (Opd.ev e)) (mx.map (Opd.ev e))
 | .sliceStr x lo hi=>vZ (x.ev e) (lo.map (Opd.ev e)) (hi.map (Opd.ev e))
 | .sliceArr n sz x lo hi=>lD σ n sz (x.ev e) (lo.map (Opd.ev e)) (hi.map (Opd.ev e))
 | .bslice t len sz zero parts =>
  match fE (iL len zero) (parts.map fun(i,x)=>(i*sz,sz,x.ev e)) with
  | some cs=>match ofD (cs.map oR) with
   | some l=>some (.fl (gJ sz len l))
   | none=>none
  | none=>none
 | .build zero parts=>match fE (zero.map .d) (parts.map fun(o,n,x)=>(o,n,x.ev e)) with
  | some cs=>some (bZ cs)
  | none=>none
 | .len ty x=>match gZ σ ty (x.ev e) with
  | some n=>some (.d (.int .i64 n))
  | none=>none
 | .lenArr n=>some (.d (.int .i64 n))
 | .cap x=>match x.ev e with
  | .d .nils=>some (.d (.int .i64 0))
  | _=>none
 | .min xs=>vL (xs.map (Opd.ev e))
 | .max xs=>aDU (xs.map (Opd.ev e))
 | .mkif t x=>rT t (x.ev e)
 | .assert t zero ok x=>xX t (zero.ev []) ok (x.ev e)
 | .extract x i=>cI (x.ev e) i
 | .mkfn f first caps=>some (.fn f (first.map (Opd.ev e)) (caps.map (Opd.ev e)))
 | .lookup ka ks zero ok x k=>jH σ ka ks (zero.ev []) ok (x.ev e) (k.ev e)
 | .mkfl sz bytes zero len cap=>match len.ev e,cap.ev e with
  | .d (.int k l),.d (.int k' c)=>if k = .i64∧k' = .i64∧0≤l∧l=c∧c*bytes≤140737488355328∧c≤9223372036854775807 then some (.fl (gJ sz l.toNat (qY l.toNat zero))) else none
  | _,_=>none

def St.setObj (σ:St)(r:Nat)(o:Obj):St:={ σ with objs:=σ.objs.set r o }
def St.push (σ:St)(o:Obj):St:={ σ with objs:=σ.objs++[o] }
def St.pushTok (σ:St)(k:Nat):St:={ σ with toks:=σ.toks++[k] }
def St.spot (σ:St)(tg:Option Nat):Nat:=match tg with | some r=>r | none=>σ.objs.length
def St.place (σ:St)(tg:Option Nat)(o:Obj):Option St :=
 match tg with
 | none=>some (σ.push o)
 | some r=>match σ.objs[r]? with
  | some .free=>some (σ.setObj r o)
  | _=>none
def St.setTok (σ:St)(t k:Nat):St:={ σ with toks:=σ.toks.set t k }

def jE (σ:St)(tg:Option Nat)(sz bytes:Nat)(s:V)(ys:List (List D)):Option (V×St) :=
 if kV sz ys=false then none else
 match s with
 | .sl r off len s' =>
  if s'=sz∧0<sz then
   match σ.objs[r]? with
   | some (.cells cs) =>
    if off+(len+ys.length)*sz≤cs.length then
     some (.sl r off (len+ys.length) sz,σ.setObj r (.cells (splice cs (off+len*sz) (ys.flatten.map .d))))
    else none
   | _=>none
  else none
 | s =>
  if ys=[] then(if (V.rows σ s).isSome then some (s,σ) else none) else
  match s with
  | .d .nils=>if 0<sz∧ys.length*bytes≤140737488355328∧ys.length≤9223372036854775807 then some (.tl ys σ.toks.length 0 sz,σ.pushTok ys.length) else none
  | .fl rows=>if 0<sz∧kV sz rows=true∧(rows.length+ys.length)*bytes≤140737488355328∧rows.length+ys.length≤9223372036854775807 then some (.tl (rows++ys) σ.toks.length 0 sz,σ.pushTok (rows.length+ys.length)) else none
  | .tl rows t st s' =>
   if s'=sz∧kV sz rows=true∧σ.toks[t]?=some (st+rows.length)∧(rows.length+ys.length)*bytes≤140737488355328∧rows.length+ys.length≤9223372036854775807 then
    some (.tl (rows++ys) t st sz,σ.setTok t (st+rows.length+ys.length))
   else none
  | _=>none

def newObj (σ:St)(tg:Option Nat)(o:Obj)(v:Nat→V):Option (V×St) :=
 match σ.place tg o with
 | some σ'=>some (v (σ.spot tg),σ')
 | none=>none

def aEz (σ:St)(sz:Nat)(s:V)(ys:List (List D)):Option (V×St) :=
 if kV sz ys=false then none else
 match s with
 | .sl r off len s' =>
  if s'=sz∧0<sz then
   match σ.objs[r]? with
   | some (.cells cs) =>
    if off+len*sz≤cs.length then
     some (.d (.int .i64 (min ys.length len:Nat)),σ.setObj r (.cells (splice cs off ((ys.take len).flatten.map .d))))
    else none
   | _=>none
  else none
 | s=>if lenV σ s=some 0 then some (.d (.int .i64 0),σ) else none

def aDG (σ:St)(sz:Nat)(zero:List D)(s:V):Option (V×St) :=
 match s with
 | .sl r off len s' =>
  if s'=sz∧0<sz then
   match σ.objs[r]? with
   | some (.cells cs) =>
    if off+len*sz≤cs.length then some (.tup [],σ.setObj r (.cells (splice cs off (iL len zero)))) else none
   | _=>none
  else none
 | s=>if lenV σ s=some 0 then some (.tup [],σ) else none

def kQ (σ : St) (tg : Option Nat) (sz bytes : Nat) (s : V) (ys : List (List D)) : Option (V × St) :=
  if kV sz ys = false ∨ ys = [] then none else
  match s with
  | .d .nils => if 0 < sz ∧ ys.length * bytes ≤ 140737488355328 ∧ ys.length ≤ 9223372036854775807 then
      newObj σ tg (.cells (ys.flatten.map .d)) fun r => .sl r 0 ys.length sz else none
  | .fl rows => if 0 < sz ∧ kV sz rows = true ∧ (rows.length + ys.length) * bytes ≤ 140737488355328 ∧ rows.length + ys.length ≤ 9223372036854775807 then
      newObj σ tg (.cells ((rows ++ ys).flatten.map .d)) fun r => .sl r 0 (rows.length + ys.length) sz else none
  | .sl r off len s' => if s' = sz ∧ 0 < sz ∧ (len + ys.length) * bytes ≤ 140737488355328 ∧ len + ys.length ≤ 9223372036854775807 then
      (match σ.objs[r]? with
       | some (.cells cs) => if off + len * sz ≤ cs.length ∧ off < cs.length then
           newObj (σ.setObj r .dead) tg (.cells ((cs.drop off).take (len * sz) ++ ys.flatten.map .d)) fun r => .sl r 0 (len + ys.length) sz else none
       | _ => none) else none
  | _ => none

def aBt (σ : St) (tg : Option Nat) (sz bytes : Nat) (s x : V) : Option (V × St) :=
  match x with
  | .sl rx ox lx sx => match σ.objs[rx]? with
    | some (.cells cx) => if sx = sz ∧ 0 < sz ∧ 0 < lx ∧ ox + lx * sz ≤ cx.length then
        (match s with
        | .d .nils => if lx * bytes ≤ 140737488355328 ∧ lx ≤ 9223372036854775807 then newObj σ tg (.cells ((cx.drop ox).take (lx * sz))) fun r => .sl r 0 lx sz else none
        | .sl r off len s' => if s' = sz ∧ (len + lx) * bytes ≤ 140737488355328 ∧ len + lx ≤ 9223372036854775807 then
            (match σ.objs[r]? with
             | some (.cells cs) => if off + len * sz ≤ cs.length ∧ off < cs.length then
                 newObj (σ.setObj r .dead) tg (.cells ((cs.drop off).take (len * sz) ++ (cx.drop ox).take (lx * sz))) fun r => .sl r 0 (len + lx) sz else none
             | _ => none) else none
        | _ => none) else none
    | _ => none
  | _ => none

def mA (σ:St)(ka:Bool)(ks:List Lf)(m k x:V):Option (V×St) :=
 match m with
 | .map r=>match σ.objs[r]? with
  | some (.map es clock)=>if jB ka ks k=true∧zK ka ks es∧x.cells.isSome=true then
    some (.gone,σ.setObj r (match uB k es with
     | some _=>.map (aAF k x es) clock
     | none=>.map (es++[(clock,k,x)]) (clock+1)))
   else none
  | _=>none
 | _=>none

def pE (σ:St)(ka:Bool)(ks:List Lf)(m k:V):Option (V×St) :=
 if jB ka ks k=false then none else
 match m with
 | .d .nilm=>some (.tup [],σ)
 | .map r=>match σ.objs[r]? with
  | some (.map es clock)=>if zK ka ks es then some (.tup [],σ.setObj r (.map (tX k es) clock)) else none
  | _=>none
 | _=>none

def tM (σ:St)(tg:Option Nat)(x:V):Option (V×St) :=
 match x with
 | .d .nilm=>newObj σ tg (.iter none 0 [] 0) .iter
 | .map r=>match σ.objs[r]? with
  | some (.map es clock)=>newObj σ tg (.iter (some r) clock [] clock) .iter
  | _=>none
 | _=>none

def eM (σ:St)(x:V):Option V :=
 match x with
 | .iter r=>match σ.objs[r]? with
  | some (.iter (some m) _ seen last)=>match seen.getLast?,σ.objs[m]? with
   | some b,some (.map es clock)=>if clock=last then(match es.find? (fun e=>e.1==b) with
    | some e=>some (.tup [e.2.1,e.2.2])
    | none=>none) else none
   | _,_=>none
  | _=>none
 | _=>none

def eP (σ:St)(tg:Option Nat)(x:V):Option (V×St) :=
 match x with
 | .ifc t (.map r)=>match σ.objs[r]? with
  | some (.map es clock)=>newObj σ tg (.map es clock) fun q=>.ifc t (.map q)
  | _=>none
 | _=>none

def dM (op:EOp)(e:Env) (σ:St)(tg:Option Nat):Option (V×St) :=
 match op with
 | .alloc zero=>newObj σ tg (.cells zero) fun r=>.ref r 0
 | .box x=>match (x.ev e).cells with
  | some l=>newObj σ tg (.cells l) fun r=>.ref r 0
  | none=>none
 | .store n a x=>match a.ev e with
  | .ref r off=>match σ.objs[r]? with
   | some (.cells cs) =>
    match (x.ev e).cells with
    | some l=>if l.length=n∧off+n≤cs.length then some (.gone,σ.setObj r (.cells (splice cs off l))) else none
    | none=>none
   | _=>none
  | _=>none
 | .append t sz bytes s x=>match V.rows σ (x.ev e) with
  | some ys=>jE σ tg sz bytes (s.ev e) ys
  | none=>none
 | .appendStr t s x=>match x.ev e with
  | .d (.str l)=>jE σ tg 1 1 (s.ev e) (cC l)
  | _=>none
 | .appendZero t sz bytes zero s n=>match s.ev e,n.ev e with
  | .d .nils,.d (.int k l)=>if k = .i64∧0<l∧l*bytes≤140737488355328∧l≤9223372036854775807∧0<sz then
    newObj σ tg (.cells (iL l.toNat zero)) fun r=>.sl r 0 l.toNat sz
   else none
  | _,_=>none
 | .copy sz s x=>match V.rows σ (x.ev e) with
  | some ys=>aEz σ sz (s.ev e) ys
  | none=>none
 | .clear sz zero s=>aDG σ sz zero (s.ev e)
 | .makeSlice t sz bytes zero len cap=>match len.ev e,cap.ev e with
  | .d (.int k l),.d (.int k' c)=>if k = .i64∧k' = .i64∧0≤l∧l≤c∧c*bytes≤140737488355328∧c≤9223372036854775807∧0<sz then
    newObj σ tg (.cells (iL c.toNat zero)) fun r=>.sl r 0 l.toNat sz
   else none
  | _,_=>none
 | .makeMap=>newObj σ tg (.map [] 0) .map
 | .mapUpdate ka ks m k x=>mA σ ka ks (m.ev e) (k.ev e) (x.ev e)
 | .mapDelete ka ks m k=>pE σ ka ks (m.ev e) (k.ev e)
 | .range x=>tM σ tg (x.ev e)
 | .entry x=>match eM σ (x.ev e) with
  | some v=>some (v,σ)
  | none=>none
 | .cloneMap x=>eP σ tg (x.ev e)

def iB (op:EOp)(e:Env) (σ:St)(tg:Option Nat):Option (V×St) :=
 match op with
 | .append t sz bytes s x=>match V.rows σ (x.ev e) with
  | some ys=>kQ σ tg sz bytes (s.ev e) ys
  | none=>aBt σ tg sz bytes (s.ev e) (x.ev e)
 | .appendStr t s x=>match x.ev e with
  | .d (.str l)=>kQ σ tg 1 1 (s.ev e) (cC l)
  | _=>none
 | .makeSlice t sz bytes zero len cap=>match len.ev e,cap.ev e with
  | .d (.int k l),.d (.int k' c)=>if k = .i64∧k' = .i64∧0≤l∧l=c∧c*bytes≤140737488355328∧c≤9223372036854775807 then
    some (.fl (gJ sz l.toNat (qY l.toNat zero)),σ)
   else none
  | _,_=>none
 | .appendZero t sz bytes zero s n=>match n.ev e with
  | .d (.int k l)=>if k = .i64∧0≤l∧(lenV σ (s.ev e)).isSome=true then
    (if l=0 then some (s.ev e,σ) else kQ σ tg sz bytes (s.ev e) (aD l.toNat zero))
   else none
  | _=>none
 | _=>none

def gR (σ:St):List (Nat×Nat×V)→Option (List (Nat×Nat×V)×St)
 | []=>some ([],σ)
 | (o,n,v)::l=>match v with
  | .sl r off len sz=>match V.rows σ (.sl r off len sz) with
   | some rows=>match gR (σ.setObj r .dead) l with
    | some (l',s)=>some ((o,n,.d (.list rows))::l',s)
    | none=>none
   | none=>none
  | v=>match gR σ l with
   | some (l',s)=>some ((o,n,v)::l',s)
   | none=>none

def fP (op:POp)(e:Env) (σ:St):Option (V×St) :=
 match op with
 | .bslice t len sz zero parts=>match gR σ (parts.map fun(i,x)=>(i*sz,sz,x.ev e)) with
  | some (l,s)=>match fE (iL len zero) l with
   | some cs=>match ofD (cs.map oR) with
    | some ds=>some (.fl (gJ sz len ds),s)
    | none=>none
   | none=>none
  | none=>none
 | _=>none

abbrev jD:=V→St→Prop
abbrev iI:=Mode→Nat→List V→St→jD→Prop

structure Cx where
 mode:Nat→Mode
 /-- Slots that name no object where a region's operations look at them. -/
 dry:List Nat:=[]
 /-- Package-level variables that stay as they are, and what they hold. -/
 globs:List (Nat×List D):=[]
 /-- Slots (of operations in the order of the text) for which a list of values is an object that may be written. -/
 obj:List Nat:=[]
 /-- The same, of a slot and a type of elements. -/
 objs:List (Nat×Nat):=[]

def GB:Nat:=1000000

def cN (σ:St):List V→Option (List V)
 | []=>some []
 | v::r=>match v.byVal σ,cN σ r with
  | some x,some l=>some (x::l)
  | _,_=>none

def wJ (K:iI)(m:Mode)(f:Nat)(vs:List V) (σ:St)(Q:jD):Prop :=
 match m with
 | .raw=>∃ Q',K .raw f vs σ Q'∧∀ v s,Q' v s→Q v s
 | .rd=>∃ Q',K .rd f vs σ Q'∧∀ v s,Q' v s→Q v σ
 | .rnd=>False
 | .val=>match cN σ vs with
  | some ds=>∃ Q',K .val f ds St.empty Q'∧∀ v s,Q' v s→v.pure=true∧(vs.any V.borrows=true→v.scalars=true)∧Q v σ
  | none=>False

def tF (K:iI)(cx:Cx)(f:Nat)(vs:List V) (σ:St)(Q:jD):Prop:=∃ m,wJ K m f vs σ Q
def xL (σ:St):List V→Option (List V×St)
 | []=>some ([],σ)
 | v::l=>match v with
  | .sl r off len sz=>match V.rows σ (.sl r off len sz) with
   | some rows=>match xL (σ.setObj r .dead) l with
    | some (l',s)=>some (.d (.list rows)::l',s)
    | none=>none
   | none=>none
  | v=>match xL σ l with
   | some (l',s)=>some (v::l',s)
   | none=>none
def callK (K:iI)(cx:Cx)(f:Nat)(vs:List V) (σ:St)(Q:jD):Prop:=tF K cx f vs σ Q∨∃ vs' σ',xL σ vs=some (vs',σ')∧tF K cx f vs' σ' Q

def eK (e:Env)(dst:Option Nat)(v:V):Env :=
 match dst with
 | some s=>e.set s v
 | none=>e

def uH (it:V) (σ:St)(Q:jD):Prop :=
 match it with
 | .iter r=>match σ.objs[r]? with
  | some (.iter none _ _ _)=>Q (.tup [.d (.bool false)]) σ
  | some (.iter (some m) since seen last)=>match σ.objs[m]? with
   | some (.map es clock)=>clock=since∧last=since∧(∀ x∈es,x.1<since) ∧
     (∀ x∈es,seen.contains x.1=false→Q (.tup [.d (.bool true),x.2.1,x.2.2]) (σ.setObj r (.iter (some m) since (seen++[x.1]) clock))) ∧
     ((∀ x∈es,seen.contains x.1=true)→Q (.tup [.d (.bool false)]) σ)
   | _=>False
  | _=>False
 | _=>False

def fR (cx:Cx)(dst:Option Nat)(op:POp):Bool:=match op with
 | .bslice t _ _ _ _=>match dst with
  | some s=>cx.obj.contains s||cx.objs.contains (s,t)
  | none=>false
 | _=>false
def fO (op:POp)(e:Env) (σ:St):Option (V×St):=match op with
 | .bslice t len sz zero parts=>match fE (iL len zero) (parts.map fun(i,x)=>(i*sz,sz,x.ev e)) with
  | some cs=>newObj σ none (.cells cs) fun r=>.sl r 0 len sz
  | none=>none
 | _=>none

mutual
def iD (K:iI)(cx:Cx):List Ins→Env→St→(Env→St→Prop)→Prop
 | [],e,σ,Q=>Q e σ
 | i::r,e,σ,Q=>jG K cx i e σ fun e' σ'=>iD K cx r e' σ' Q
def jG (K:iI)(cx:Cx):Ins→Env→St→(Env→St→Prop)→Prop
 | .p dst op,e,σ,Q=>if fR cx dst op=true then(match fO op e σ with
   | some (v,s)=>Q (eK e dst v) s
   | none=>False)
  else match dC op e σ with
  | some v=>Q (eK e dst v) σ
  | none=>match fP op e σ with
   | some (v,s)=>Q (eK e dst v) s
   | none=>False
 | .e dst op,e,σ,Q=>(match dM op e σ none with
  | some (v,σ')=>Q (eK e dst v) σ'
  | none=>False)∨(match iB op e σ none with
  | some (v,σ')=>Q (eK e dst v) σ'
  | none=>False)
 | .call dst f args,e,σ,Q=>callK K cx f (args.map (Opd.ev e)) σ fun v σ'=>Q (eK e dst v) σ'
 | .callv dst f args,e,σ,Q=>match f.ev e with
  | .fn (.func g) first caps=>callK K cx g (first++args.map (Opd.ev e)++caps) σ fun v σ'=>Q (eK e dst v) σ'
  | .yld r=>∃ Q',K .rnd r (args.map (Opd.ev e)) σ Q'∧∀ v σ',Q' v σ'→Q (eK e dst v) σ'
  | _=>False
 | .next dst it,e,σ,Q=>uH (it.ev e) σ fun v σ'=>Q (eK e dst v) σ'
 | .when s want body,e,σ,Q=>match e.get s with
  | .d (.bool b)=>if b=want then iD K cx body e σ Q else Q (dD body e) σ
  | .gone=>Q (dD body e) σ
  | _=>False
def dD:List Ins→Env→Env
 | [],e=>e
 | i::r,e=>dD r (dG i e)
def dG:Ins→Env→Env
 | .p dst _,e=>eK e dst .gone
 | .e dst _,e=>eK e dst .gone
 | .call dst _ _,e=>eK e dst .gone
 | .callv dst _ _,e=>eK e dst .gone
 | .next dst _,e=>eK e dst .gone
 | .when _ _ body,e=>dD body e
end

def aF8 (K:iI)(cx:Cx)(n0:Nat)(o:DOp)(e:Env) (σ:St)(Q:Env→St→Prop):Prop :=
 let go:Prop:=match o.ins with
  | .e dst op=>(match dM op e σ (some (n0+o.al)) with
   | some (v,σ')=>Q (eK e dst v) σ'
   | none=>False)∨(match iB op e σ (some (n0+o.al)) with
   | some (v,σ')=>Q (eK e dst v) σ'
   | none=>False)
  | .p dst op=>(match dC op e σ with
   | some v=>Q (eK e dst v) σ
   | none=>False)
  | i=>jG K cx i e σ Q
 match o.guard with
 | none=>go
 | some (s,want)=>match e.get s with
  | .d (.bool b)=>if b=want then go else Q (dG o.ins e) σ
  | .gone=>Q (dG o.ins e) σ
  | _=>False

def qW (l:List DOp)(listed:List Nat):List Nat :=
 (List.range l.length).filter fun i=>!listed.contains i&&((l[i]?).map fun o=>o.after.all fun j=>listed.contains j).getD false

def aEe (K:iI)(cx:Cx)(n0:Nat)(l:List DOp):Nat→List Nat→Env→St→(Env→St→Prop)→Prop
 | 0,listed,e,σ,Q=>qW l listed=[]∧Q e σ
 | f+1,listed,e,σ,Q=>(qW l listed=[]→Q e σ) ∧
   ∀ i∈qW l listed,∃ o,l[i]?=some o∧aF8 K cx n0 o e σ fun e' σ'=>aEe K cx n0 l f (i::listed) e' σ' Q

def aCx:V→List Nat
 | .sl r _ _ _=>[r]
 | _=>[]
def jP:V→List Nat
 | .ref r _=>[r]
 | .sl r _ _ _=>[r]
 | .map r=>[r]
 | .yld r=>[r]
 | .iter r=>[r]
 | .agg cs=>cs.flatMap aCx
 | _=>[]

def aK3 (e:Env) (σ:St):Prop:=∀ s,∀ r∈jP (e.get s),r<σ.objs.length

def St.room (σ:St)(n:Nat):St:={ σ with objs:=σ.objs++aD n .free }

abbrev gT:=Ex→Env→St→Prop

def aK2 (T:Env→St→gT→Prop)(ks:List Nat)(e:Env) (σ:St)(Q:gT):Prop :=
 ∀ I:Env→St→Prop,(∀ e σ,T e σ (fun ex e' σ'=>match ex with | .normal=>I (e'.pick ks) σ' | x=>Q x e' σ')→I e σ)→I (e.pick ks) σ

def gF (K:iI)(cx:Cx):C→Env→St→gT→Prop
 | .skip,e,σ,Q=>Q .normal e σ
 | .ops ks l,e,σ,Q=>iD K cx l e σ fun e' σ'=>Q .normal (e'.pick ks) σ'
 | .drw ks na l,e,σ,Q=>aK3 e σ→aEe K cx σ.objs.length l l.length [] e (σ.room na) fun e' σ'=>Q .normal (e'.pick ks) σ'
 | .seq a b,e,σ,Q=>gF K cx a e σ fun ex e' σ'=>match ex with
  | .normal=>gF K cx b e' σ' Q
  | x=>Q x e' σ'
 | .cond c a b,e,σ,Q=>match c.ev e with
  | .d (.bool t)=>if t=true then gF K cx a e σ Q else gF K cx b e σ Q
  | _=>False
 | .block id c,e,σ,Q=>gF K cx c e σ fun ex e' σ'=>match ex with
  | .exit j=>if j=id then Q .normal e' σ' else Q (.exit j) e' σ'
  | x=>Q x e' σ'
 | .loop ks c,e,σ,Q=>aK2 (fun e σ Q=>gF K cx c e σ Q) ks e σ Q
 | .exit id,e,σ,Q=>Q (.exit id) e σ
 | .ret,e,σ,Q=>Q .ret e σ
 | .rangeF ks f ps a b,e,σ,Q=>match f.ev e with
  | .fn (.func g) first caps=>wJ K .raw g (first++[.yld σ.objs.length]++caps) (σ.push (.loop (e.pick ks) ps a b .ready)) fun _ s=>match s.objs[σ.objs.length]? with
   | some (.loop _ _ _ _ .ready)=>Q .normal (e.pick ks) (s.setObj σ.objs.length .dead)
   | some (.loop _ _ _ _ (.done x))=>Q x (e.pick ks) (s.setObj σ.objs.length .dead)
   | _=>False
  | _=>False

inductive Res where
 | tmp (s:Nat)
 | cell (s:Nat) (agg:Bool) (n:Nat)
 deriving Inhabited

structure FnC where
 nparams:Nat
 ntmps:Nat
 res:List Res
 body:C
 globs:List (Nat×List D):=[]
 deriving Inhabited

def Res.ev (e:Env) (σ:St):Res→Option V
 | .tmp s=>some (e.get s)
 | .cell s agg n=>loadAt σ agg n (e.get s)

def eL (e:Env) (σ:St):List Res→Option (List V)
 | []=>some []
 | r::l=>match r.ev e σ,eL e σ l with
  | some v,some vs=>some (v::vs)
  | _,_=>none

def fL:List V→V
 | [v]=>v
 | vs=>.tup vs

def dI (lo:Nat) (σ:St):List V→Option (List V)
 | []=>some []
 | v::r=>match v.byValN lo σ,dI lo σ r with
  | some x,some l=>some (x::l)
  | _,_=>none

def lI (σ s:St):Prop:=(∀ i,i<σ.objs.length→s.objs[i]?=σ.objs[i]?)∧∀ (t k:Nat),σ.toks[t]?=some k→s.toks[t]?=some k

def gO (mode:Mode)(lo:Nat)(e:Env) (σ:St)(rs:List Res):Option V :=
 match eL e σ rs with
 | some vs=>match mode with
  | .raw=>some (fL vs)
  | .val=>match cN σ vs with
   | some ds=>some (fL ds)
   | none=>none
  | .rd=>match dI lo σ vs with
   | some ds=>some (fL ds)
   | none=>none
  | .rnd=>none
 | none=>none

def dE:Nat→List V→Env
 | _,[]=>[]
 | i,v::r=>(i,v)::dE (i+1) r

def dF (l:List (Nat×List D)):Env:=l.map fun x=>(GB+x.1,.ro x.2)

def tP (K:iI)(cx:Cx)(mode:Mode)(fc:FnC)(vs:List V) (σ:St)(Q:jD):Prop :=
 vs.length=fc.nparams∧gF K cx fc.body (dE 0 vs++dF fc.globs) σ fun ex e s=>match ex with
  | .exit _=>False
  | _=>∃ v,gO mode σ.objs.length e s fc.res=some v∧(mode = .rd→lI σ s)∧Q v s

def eN:Env→List Nat→List V→Env
 | e,p::ps,v::vs=>eN (e.set p v) ps vs
 | e,_,_=>e

def aAg (K:iI)(cx:Cx)(r:Nat)(vs:List V) (σ:St)(Q:jD):Prop :=
 ∃ e ps a b,σ.objs[r]?=some (.loop e ps a b .ready)∧vs.length=ps.length∧gF K cx a (eN e ps vs) σ fun ex e1 s1=>match ex with
  | .normal=>s1.objs[r]?=some (.loop e ps a b .ready)∧gF K cx b e1 (s1.setObj r (.loop e ps a b .busy)) fun ex e2 s2=>s2.objs[r]?=some (.loop e ps a b .busy)∧match ex with
   | .normal=>Q (.d (.bool true)) (s2.setObj r (.loop e ps a b .ready))
   | x=>Q (.d (.bool false)) (s2.setObj r (.loop e ps a b (.done x)))
  | _=>False

def uW (Γ:Nat→Option FnC)(K:iI)(cx:Cx):iI:=fun m f vs σ Q =>
 match m with
 | .rnd=>aAg K cx f vs σ Q
 | m=>∃ fc,Γ f=some fc∧tP K cx m fc vs σ Q

def Call (Γ:Nat→Option FnC)(cx:Cx):iI:=fun m f vs σ Q =>
 ∀ K:iI,(∀ m f vs σ Q,uW Γ K cx m f vs σ Q→K m f vs σ Q)→K m f vs σ Q

end
end Go.Dn

/- From the loaded program's code to the small language: a closed computation, asked of the kernel function by function. -/
namespace Go.Dn

def oN (P:Program)(t:TypeId):Bool :=
 match P.underlying t with
 | some (.struct _)=>true
 | some (.array _ _)=>true
 | _=>false

def okT (P:Program)(t:TypeId):Bool:=(P.underlying t).isSome

def yV (P:Program)(t:TypeId):Bool :=
 match P.underlying t with
 | some (.interface _)=>false
 | none=>false
 | _=>true

def aA3:Value→Option D
 | .int k n=>some (.int k n)
 | .bool b=>some (.bool b)
 | .string s=>some (.str s.data.toList)
 | .pointer none=>some .nilp
 | .slice none 0 0=>some .nils
 | .map none=>some .nilm
 | .nilFunc=>some .nilf
 | .nilIface=>some .nili
 | _=>none

def pN:List Value→Option (List D)
 | []=>some []
 | v::r=>match aA3 v,pN r with
  | some d,some l=>some (d::l)
  | _,_=>none

def aBz:Value→Option Opd
 | .agg cs=>match pN cs.toList with
  | some l=>some (.ca l)
  | none=>none
 | v=>match aA3 v with
  | some d=>some (.c d)
  | none=>none

def kN (P:Program)(t:TypeId):Option (List D) :=
 match P.info? t with
 | some i=>match i.zero with
  | some z=>pN z.cells.toList
  | none=>none
 | none=>none

def aAB (P:Program)(t:TypeId):Option Opd :=
 match P.info? t with
 | some i=>match i.zero with
  | some z=>aBz z
  | none=>none
 | none=>none

def iF:Operand→Option Opd
 | .tmp t=>if t<GB then some (.t t) else none
 | .const v=>aBz v
 | .func f=>some (.f f)
 | .global g=>some (.t (GB+g))

def iT:List Operand→Option (List Opd)
 | []=>some []
 | x::r=>match iF x,iT r with
  | some a,some l=>some (a::l)
  | _,_=>none

def rP (P : Program) (f : TypeId → Option (List Lf)) : Nat → List Field → Option (List Lf)
  | _, [] => some []
  | off, x :: r => match f x.type with
    | some l => if x.name ≠ "_" ∧ x.offset = off ∧ P.cellsOf x.type = l.length then
        (match rP P f (off + l.length) r with
         | some b => some (l ++ b)
         | none => none) else none
    | none => none

def kW (P:Program):Nat→TypeId→Option (List Lf)
 | 0,_=>none
 | n+1,t=>match P.underlying t with
  | some (.int k)=>some [.int k]
  | some .bool=>some [.bool]
  | some .string=>some [.str]
  | some (.array len e)=>match kW P n e with
   | some l=>if P.cellsOf e=l.length∧P.cellsOf t=len*l.length then some ((aD len l).flatten) else none
   | none=>none
  | some (.struct fs)=>match rP P (kW P n) 0 fs.toList with
   | some l=>if P.cellsOf t=l.length then some l else none
   | none=>none
  | _=>none

def tL (P:Program)(t:TypeId):Option (Ty×List Lf) :=
 match kW P 12 t with
 | some ks=>if P.keyTypeAt 12 t && !P.eqGuardType P.depth t then some (.flat,ks) else none
 | none=>none

def compKey (P:Program)(t:TypeId):Option (Bool×List Lf) :=
 match P.underlying t with
 | some (.int k)=>some (false,[.int k])
 | some .bool=>some (false,[.bool])
 | some .string=>some (false,[.str])
 | some (.array ..)=>wide
 | some (.struct _)=>wide
 | _=>none
where
 wide:Option (Bool×List Lf):=match kW P (P.types.size+1) t with
  | some ks=>if P.keyTypeAt (P.types.size+1) t&&P.tiled (P.types.size+1) t&&decide (P.types.size+2≤10000)&&P.cellsOf t==ks.length then some (true,ks) else none
  | none=>none

def qA (P:Program)(t:TypeId):Option (Bool×List Lf) :=
 match P.underlying t with
 | some (.map k _)=>compKey P k
 | _=>none

def tH (P:Program)(t:TypeId):Option (Ty×List Lf) :=
 match P.underlying t with
 | some (.int _)=>some (.int,[])
 | some .bool=>some (.bool,[])
 | some .string=>some (.str,[])
 | some (.pointer _)=>some (.ptr,[])
 | some (.slice _)=>some (.slice,[])
 | some (.map _ _)=>some (.map,[])
 | some (.func ..)=>some (.func,[])
 | some (.interface _)=>some (.iface,[])
 | some (.array ..)=>tL P t
 | some (.struct _)=>tL P t
 | _=>none

def sH (P:Program)(t:TypeId)(i:Nat):Option (Nat×TypeId) :=
 match P.underlying t with
 | some (.struct fs)=>match fs[i]? with
  | some f=>if P.cellsOf f.type=0∨okT P f.type=false then none else some (f.offset,f.type)
  | none=>none
 | _=>none

def yU (P:Program)(src dst:TypeId):Option Conv :=
 match P.underlying src,P.underlying dst with
 | some (.int _),some (.int k)=>some (.int k)
 | some .string,some .string=>some .same
 | some .string,some (.slice e)=>match P.underlying e with | some (.int .u8)=>some (.strBytes e) | _=>none
 | some (.slice e),some .string=>match P.underlying e with | some (.int .u8)=>some .bytesStr | _=>none
 | _,_=>none

def rV:Option Operand→Option (Option Opd)
 | none=>some none
 | some x=>match iF x with | some a=>some (some a) | none=>none

def sS:List (Nat×Operand)→Option (List (Nat×Opd))
 | []=>some []
 | (i,x)::r=>match iF x,sS r with
  | some a,some l=>some ((i,a)::l)
  | _,_=>none

def nH (P:Program)(t:TypeId):Bool:=(P.info? t).isSome

def sU (P:Program)(t:TypeId)(i:Nat):Option (Nat×Nat) :=
 match P.underlying t with
 | some (.struct fs)=>if fs.toList.all (fun f=>nH P f.type) then(match fs[i]? with | some f=>some (f.offset,P.cellsOf f.type) | none=>none) else none
 | some (.array _ e)=>if nH P e then some (i*P.cellsOf e,P.cellsOf e) else none
 | _=>none

def qC (P:Program)(t:TypeId):List (Nat×Operand)→Option (List (Nat×Nat×Opd))
 | []=>some []
 | (i,x)::r=>match sU P t i,iF x,qC P t r with
  | some (o,n),some a,some l=>some ((o,n,a)::l)
  | _,_,_=>none

def lV (P:Program)(e:TypeId):Bool :=
 match kN P e with
 | some z=>P.cellsOf e != 0&&z.length==P.cellsOf e
 | none=>false

def jL (P:Program)(dst:Option Nat)(c:Go.Call)(b:Builtin):Option Ins :=
 match b with
 | .len=>match c.argTypes[0]?,iT c.args.toList with
  | some t,some [x]=>match P.underlying t with
   | some (.array n _)=>some (.p dst (.lenArr n))
   | some .string=>some (.p dst (.len .str x))
   | some (.slice _)=>some (.p dst (.len .slice x))
   | some (.map _ _)=>some (.p dst (.len .map x))
   | _=>none
  | _,_=>none
 | .append=>match c.argTypes[0]?,c.argTypes[1]?,iT c.args.toList with
  | some s,some x,some [a,b]=>match P.underlying s with
   | some (.slice e)=>match P.underlying x with
    | some (.slice _)=>if lV P e then some (.e dst (.append e (P.cellsOf e) (P.bytesOf e) a b)) else none
    | some .string=>if lV P e∧P.cellsOf e=1∧P.bytesOf e=1 then some (.e dst (.appendStr e a b)) else none
    | some (.int _)=>match kN P e with
     | some z=>if lV P e=false then none else some (.e dst (.appendZero e (P.cellsOf e) (P.bytesOf e) z a b))
     | none=>none
    | _=>none
   | _=>none
  | _,_,_=>none
 | .copy=>match c.argTypes[0]?,c.argTypes[1]?,iT c.args.toList with
  | some s,some x,some [a,b]=>match P.underlying s,P.underlying x with
   | some (.slice e),some (.slice _)=>if P.cellsOf e=0 then none else some (.e dst (.copy (P.cellsOf e) a b))
   | _,_=>none
  | _,_,_=>none
 | .clear=>match c.argTypes[0]?,iT c.args.toList with
  | some s,some [a]=>match P.underlying s with
   | some (.slice e)=>match kN P e with
    | some z=>if P.cellsOf e=0∨z.length≠P.cellsOf e then none else some (.e dst (.clear (P.cellsOf e) z a))
    | none=>none
   | _=>none
  | _,_=>none
 | .min=>match iT c.args.toList with | some l=>some (.p dst (.min l)) | none=>none
 | .max=>match iT c.args.toList with | some l=>some (.p dst (.max l)) | none=>none
 | .delete=>match c.argTypes[0]?,iT c.args.toList with
  | some t,some [m,k]=>match qA P t with
   | some (ka,ks)=>some (.e dst (.mapDelete ka ks m k))
   | none=>none
  | _,_=>none
 | .cap=>match c.argTypes[0]?,iT c.args.toList with
  | some t,some [x]=>match P.underlying t with
   | some (.slice _)=>some (.p dst (.cap x))
   | _=>none
  | _,_=>none
 | _=>none

def aEw (fn : Func) : Bool := fn.name == "maps.clone" && fn.body.isNone && (Extern.findNext fn).isNone

def jZ (P:Program)(dst:Option Nat)(ty:TypeId)(c:Go.Call):Option Ins :=
 match c.callee with
 | .value (.func f)=>match iT c.args.toList with
  | some l=>match P.funcs[f]? with
   | some fn => if fn.body.isSome ∧ fn.name ≠ "runtime.NumGoroutine" then some (.call dst f l) else (match l with
    | [x]=>if aEw fn then some (.e dst (.cloneMap x)) else none
    | _=>none)
   | none=>none
  | none=>none
 | .value (.tmp t)=>match iT c.args.toList with | some l=>if t<GB then some (.callv dst (.t t) l) else none | none=>none
 | .builtin b=>jL P dst c b
 | _=>none

def jV (P:Program)(o:Oper):Option Ins :=
 let p (x:Option POp):Option Ins:=match x with | some op=>some (.p o.dst op) | none=>none
 let un (x:Operand) (f:Opd→Option POp):Option Ins:=match iF x with | some a=>p (f a) | none=>none
 let bi (x y:Operand) (f:Opd→Opd→Option POp):Option Ins:=match iF x,iF y with | some a,some b=>p (f a b) | _,_=>none
 match o.op with
 | .move x=>un x fun a=>some (.move a)
 | .assign x=>un x fun a=>some (.move a)
 | .pick c a b=>match iF c with
  | some c=>bi a b fun a b=>some (.pick c a b)
  | none=>none
 | .binOp op t x y _=>match tH P t with
  | some (ty,ks)=>bi x y fun a b=>some (.bin op ty ks a b)
  | none=>none
 | .unOp op _ x=>un x fun a=>some (.una op a)
 | .convert s d x=>match yU P s d with
  | some k=>un x fun a=>some (.conv k a)
  | none=>none
 | .load t a=>if okT P t then un a fun a=>some (.load (oN P t) (P.cellsOf t) a) else none
 | .nilCheck x=>un x fun a=>some (.nilCheck a)
 | .fieldAddr s x f=>match sH P s f with
  | some (off,_)=>un x fun a=>some (.faddr off a)
  | none=>none
 | .field s x f=>match sH P s f with
  | some (off,t)=>un x fun a=>some (.field (oN P t) off (P.cellsOf t) a)
  | none=>none
 | .indexAddr t x i=>match P.underlying t with
  | some (.slice e)=>if P.cellsOf e=0 then none else bi x i fun a b=>some (.iaddr (P.cellsOf e) a b)
  | some (.array n e)=>if P.cellsOf e=0 then none else bi x i fun a b=>some (.iaddrArr n (P.cellsOf e) a b)
  | _=>none
 | .index t x i=>match P.underlying t with
  | some .string=>bi x i fun a b=>some (.indexStr a b)
  | some (.array n e)=>if P.cellsOf e=0∨okT P e=false then none else bi x i fun a b=>some (.index (oN P e) n (P.cellsOf e) a b)
  | _=>none
 | .slice t x lo hi mx=>match P.underlying t,rV lo,rV hi,rV mx with
  | some .string,some l,some h,some none=>un x fun a=>some (.sliceStr a l h)
  | some (.slice e),some l,some h,some m=>if P.cellsOf e=0 then none else un x fun a=>some (.slice (P.cellsOf e) a l h m)
  | some (.array n e),some l,some h,some none=>if P.cellsOf e=0 then none else un x fun a=>some (.sliceArr n (P.cellsOf e) a l h)
  | _,_,_,_=>none
 | .buildSlice t len parts=>match P.underlying t with
  | some (.slice e)=>match kN P e,sS parts.toList with
   | some z,some l=>if P.cellsOf e=0∨len*P.cellsOf e>2 ^ 24∨z.length≠P.cellsOf e then none else p (some (.bslice e len (P.cellsOf e) z l))
   | _,_=>none
  | _=>none
 | .build t parts=>match kN P t,qC P t parts.toList with
  | some z,some l=>if (match P.underlying t with | some (.struct fs)=>fs.toList.all (fun f=>nH P f.type) | some (.array _ e)=>nH P e | _=>false) then p (some (.build z l)) else none
  | _,_=>none
 | .makeInterface t x=>if yV P t then un x fun a=>some (.mkif t a) else none
 | .typeAssert x _ t ok=>match aAB P t with
  | some z=>if yV P t then un x fun a=>some (.assert t z ok a) else none
  | none=>none
 | .extract x i=>un x fun a=>some (.extract a i)
 | .makeFunc fn first caps=>match iT first.toList,iT caps.toList with
  | some a,some b=>p (some (.mkfn fn a b))
  | _,_=>none
 | .lookup t x k ok=>match P.underlying t with
  | some (.map kt e)=>match compKey P kt,aAB P e with
   | some (ka,ks),some z=>bi x k fun a b=>some (.lookup ka ks z ok a b)
   | _,_=>none
  | _=>none
 | .alloc t=>match kN P t with
  | some z=>some (.e o.dst (.alloc (z.map .d)))
  | none=>none
 | .box _ x=>match iF x with | some a=>some (.e o.dst (.box a)) | none=>none
 | .store t a x=>match iF a,iF x with
  | some a,some x=>if nH P t then some (.e o.dst (.store (P.cellsOf t) a x)) else none
  | _,_=>none
 | .makeSlice t l c=>match P.underlying t with
  | some (.slice e)=>match kN P e,iF l,iF c with
   | some z,some a,some b=>if lV P e=false then none else some (.e o.dst (.makeSlice e (P.cellsOf e) (P.bytesOf e) z a b))
   | _,_,_=>none
  | _=>none
 | .makeMap _ none=>some (.e o.dst .makeMap)
 | .mapUpdate t m k x=>match qA P t,iT [m,k,x] with
  | some (ka,ks),some [m,k,x]=>some (.e o.dst (.mapUpdate ka ks m k x))
  | _,_=>none
 | .range t x=>match P.underlying t,iF x with
  | some (.map _ _),some a=>some (.e o.dst (.range a))
  | _,_=>none
 | .next x str=>match iF x with
  | some a=>if str then none else some (.next o.dst a)
  | none=>none
 | .entry x=>match iF x with
  | some a=>some (.e o.dst (.entry a))
  | none=>none
 | .call c=>jZ P o.dst o.type c
 | .panic _=>some (.p o.dst (.extract (.c .nilp) 0))
 | _=>none

def Ins.dst:Ins→Option Nat
 | .p d _=>d
 | .e d _=>d
 | .call d _ _=>d
 | .callv d _ _=>d
 | .next d _=>d
 | .when .. => none

def qL (P:Program)(n:Nat)(ops:Array Oper)(o:Oper):Option (Option (Nat×Bool)×Ins) :=
 match jV P o with
 | none=>none
 | some i =>
  if o.dst.all (· < n) then
   match o.guard with
   | none=>some (none,i)
   | some (j,w)=>match (ops[j]?).bind (·.dst) with
    | some s=>some (some (s,w),i)
    | none=>none
  else none

def mL (P:Program)(n:Nat)(ops:Array Oper):List Oper→Option (List (Option (Nat×Bool)×Ins))
 | []=>some []
 | o::r=>match qL P n ops o,mL P n ops r with
  | some x,some l=>some (x::l)
  | _,_=>none

def uD:List (Option (Nat×Bool)×Ins)→List Ins
 | []=>[]
 | (none,i)::r=>i::uD r
 | (some (s,w),i)::r=>match uD r with
  | .when s' w' body::r'=>if s=s'∧w=w'∧i.dst≠some s then .when s w (i::body)::r' else .when s w [i] :: .when s' w' body::r'
  | l=>.when s w [i]::l

def Ins.lays:Ins→Bool
 | .e _ (.alloc _) | .e _ (.box _) | .e _ .makeMap | .e _ (.range _) | .e _ (.cloneMap _) | .e _ (.makeSlice ..) | .e _ (.append ..) | .e _ (.appendStr ..) | .e _ (.appendZero ..)=>true
 | _=>false

def aBq (o:Oper):List Nat:=(o.after.toList.filter fun e=>Region.binds .any e).map (·.on)

def nR (P:Program)(n:Nat)(ops:Array Oper):Nat→List Oper→Option (List DOp×Nat)
 | k,[]=>some ([],k)
 | k,o::r=>match qL P n ops o with
  | some (g,i)=>match nR P n ops (if i.lays then k+1 else k) r with
   | some (l,m)=>some (⟨g,i,aBq o,k⟩::l,m)
   | none=>none
  | none=>none

def C.plain:C→Bool
 | .seq a b=>a.plain&&b.plain
 | .cond _ a b=>a.plain&&b.plain
 | .block _ c=>c.plain
 | .loop _ c=>c.plain
 | .rangeF .. => false
 | _=>true

def comp (P:Program)(n:Nat):Code→Option C
 | .skip=>some .skip
 | .region _ ops false=>match mL P n ops ops.toList with
  | some l=>some (.ops [] (uD l))
  | none=>none
 | .region _ ops true=>match nR P n ops 0 ops.toList with
  | some (l,m)=>some (.drw [] m l)
  | none=>none
 | .seq a b=>match comp P n a,comp P n b with
  | some x,some y=>some (.seq x y)
  | _,_=>none
 | .cond c a b=>match iF c,comp P n a,comp P n b with
  | some c,some x,some y=>some (.cond c x y)
  | _,_,_=>none
 | .block id c=>match comp P n c with | some x=>some (.block id x) | none=>none
 | .loop c=>match comp P n c with | some x=>some (.loop [] x) | none=>none
 | .exit id=>some (.exit id)
 | .ret=>some .ret
 | .rangeFunc f ps a b=>match iF f,comp P n a,comp P n b with
  | some f,some x,some y=>if x.plain&&y.plain&&ps.toList.all (· < n) then some (.rangeF [] f ps.toList x y) else none
  | _,_,_=>none
 | _=>none

def jU:C→C
 | .ops _ l=>.ops [] l
 | .drw _ m l=>.drw [] m l
 | .seq a b=>.seq (jU a) (jU b)
 | .cond c a b=>.cond c (jU a) (jU b)
 | .block id c=>.block id (jU c)
 | .loop _ c=>.loop [] (jU c)
 | .rangeF _ f ps a b=>.rangeF [] f ps (jU a) (jU b)
 | c=>c

theorem lL : ∀ c:C,(jU c).plain=c.plain
 | .skip | .ops .. | .drw .. | .exit _ | .ret | .rangeF .. => rfl
 | .seq a b=>by simp only [jU,C.plain,lL a,lL b]
 | .cond _ a b=>by simp only [jU,C.plain,lL a,lL b]
 | .block _ c=>by simp only [jU,C.plain,lL c]
 | .loop _ c=>by simp only [jU,C.plain,lL c]

def pD (P:Program):List ResultVar→Option (List Res)
 | []=>some []
 | .tmp s::r=>match pD P r with
  | some l=>if s<GB then some (.tmp s::l) else none
  | none=>none
 | .cell a t::r=>match pD P r with
  | some l=>if okT P t∧a<GB then some (.cell a (oN P t) (P.cellsOf t)::l) else none
  | none=>none

end Go.Dn

/- What abstract values mean in the model's world. -/
namespace Go.Dn

structure Tok where
 b:Nat
 o:Nat
 s0:Nat
 sz:Nat
 lim:Nat

structure Gh where
 has:Nat→Prop
 obj:Nat→Nat×Nat
 len:Nat→Nat
 lim:Nat→Nat
 tok:Nat→Tok
 frz:Nat→Nat→Prop
 prog:Program

def iE:Value→Bool
 | .agg _ | .tuple _=>false
 | _=>true

inductive DR (frz:Nat→Nat→Prop) (w:World):D→Value→Prop
 | int (k:IntKind) (n:Int):DR frz w (.int k n) (.int k n)
 | bool (b:Bool):DR frz w (.bool b) (.bool b)
 | str (l:List UInt8):DR frz w (.str l) (.string ⟨l.toArray⟩)
 | nilp:DR frz w .nilp (.pointer none)
 | nils:DR frz w .nils (.slice none 0 0)
 | nilm:DR frz w .nilm (.map none)
 | nilf:DR frz w .nilf .nilFunc
 | nili:DR frz w .nili .nilIface
 | iface (t:Nat) (d:D) (v:Value) (h:DR frz w d v):DR frz w (.iface t d) (.iface t v)
 | list (rows:List (List D)) (b o cap sz:Nat) (cv:Nat→Value) (hcap:rows.length≤cap)
   (hsz : ∀ (i:Nat) (row:List D),rows[i]?=some row→row.length=sz)
   (hf : ∀ k,k<rows.length*sz→frz b (o+k))
   (hc : ∀ k,k<rows.length*sz→w.cell? ⟨b,o+k,none⟩=some (cv k))
   (h1 : ∀ k,k<rows.length*sz→iE (cv k)=true)
   (hd : ∀ (i:Nat) (row:List D) (j:Nat) (d:D),rows[i]?=some row→row[j]?=some d→DR frz w d (cv (i*sz+j))) :
   DR frz w (.list rows) (.slice (some ⟨b,o,none⟩) rows.length cap)
 | list0 (a:Addr) (cap:Nat):DR frz w (.list []) (.slice (some a) 0 cap)
 | agg (cs:List D) (vs:Array Value) (hl:cs.length=vs.size) (h1 : ∀ (i:Nat) (v:Value),vs[i]?=some v→iE v=true) (h : ∀ (i:Nat) (d:D) (v:Value),cs[i]?=some d→vs[i]?=some v→DR frz w d v):DR frz w (.agg cs) (.agg vs)

theorem DR.asList {f:Nat→Nat→Prop}{w:World}{rows:List (List D)}{b o n cap:Nat}(h:DR f w (.list rows) (.slice (some ⟨b,o,none⟩) n cap)):n=rows.length∧∃ (sz:Nat) (cv:Nat→Value),rows.length≤cap ∧
  (∀ (i:Nat) (row:List D),rows[i]?=some row→row.length=sz)∧(∀ k,k<rows.length*sz→f b (o+k))∧(∀ k,k<rows.length*sz→w.cell? ⟨b,o+k,none⟩=some (cv k)) ∧
  (∀ k,k<rows.length*sz→iE (cv k)=true)∧(∀ (i:Nat) (row:List D) (j:Nat) (d:D),rows[i]?=some row→row[j]?=some d→DR f w d (cv (i*sz+j))):=by
 cases h with
 | list _ _ _ _ sz cv hcap hsz hf hc h1 hd=>exact⟨rfl,sz,cv,hcap,hsz,hf,hc,h1,hd⟩
 | list0 _ _=>exact⟨rfl,0,fun _=>undef,Nat.zero_le _,fun i row h=>by simp at h,fun k hk=>by simp at hk,fun k hk=>by simp at hk,fun k hk=>by simp at hk,fun i row j d h=>by simp at h⟩

structure Stay (f f':Nat→Nat→Prop)(w w':World):Prop where
 frz : ∀ b o,f b o→f' b o
 cell : ∀ b o,f b o→w'.cell? ⟨b,o,none⟩=w.cell? ⟨b,o,none⟩

theorem DR.mono {f f':Nat→Nat→Prop}{w w':World}(hs:Stay f f' w w'){d:D}{v:Value}(h:DR f w d v):DR f' w' d v:=by
 induction h with
 | int k n=>exact .int k n
 | bool b=>exact .bool b
 | str l=>exact .str l
 | nilp=>exact .nilp
 | nils=>exact .nils
 | nilm=>exact .nilm
 | nilf=>exact .nilf
 | nili=>exact .nili
 | iface t d v _ ih=>exact .iface t d v ih
 | list rows b o cap sz cv hcap hsz hf hc h1 _ ih =>
  exact .list rows b o cap sz cv hcap hsz (fun k hk=>hs.frz _ _ (hf k hk)) (fun k hk=>by rw [hs.cell _ _ (hf k hk)]; exact hc k hk) h1 ih
 | list0 a cap=>exact .list0 a cap
 | agg cs vs hl h1 _ ih=>exact .agg cs vs hl h1 ih

theorem Stay.refl (f:Nat→Nat→Prop)(w:World):Stay f f w w:=⟨fun _ _ h=>h,fun _ _ _=>rfl⟩
theorem Stay.trans {f f' f'':Nat→Nat→Prop}{w w' w'':World}(h:Stay f f' w w')(h':Stay f' f'' w' w''):Stay f f'' w w'' :=
 ⟨fun b o x=>h'.frz b o (h.frz b o x),fun b o x=>(h'.cell b o (h.frz b o x)).trans (h.cell b o x)⟩

inductive VR (g:Gh) (tk:List Nat) (w:World):V→Value→Prop
 | d (x:D) (v:Value) (h:DR g.frz w x v) (h1:iE v=true):VR g tk w (.d x) v
 | da (cs:List D) (vs:Array Value) (h:DR g.frz w (.agg cs) (.agg vs)):VR g tk w (.da cs) (.agg vs)
 | agg (cs:List V) (vs:Array Value) (hl:cs.length=vs.size) (h1 : ∀ (i:Nat) (v:Value),vs[i]?=some v→iE v=true) (h : ∀ (i:Nat) (c:V) (v:Value),cs[i]?=some c→vs[i]?=some v→VR g tk w c v):VR g tk w (.agg cs) (.agg vs)
 | tup (cs:List V) (vs:Array Value) (hl:cs.length=vs.size) (h : ∀ (i:Nat) (c:V) (v:Value),cs[i]?=some c→vs[i]?=some v→VR g tk w c v):VR g tk w (.tup cs) (.tuple vs)
 | ref (r off:Nat) (h:g.has r):VR g tk w (.ref r off) (.pointer (some ⟨(g.obj r).1,(g.obj r).2+off,none⟩))
 | ro (cs:List D) (b o:Nat) (cv:Nat→Value)
   (hf : ∀ k,k<cs.length→g.frz b (o+k)) (hc : ∀ k,k<cs.length→w.cell? ⟨b,o+k,none⟩=some (cv k)) (h1 : ∀ k,k<cs.length→iE (cv k)=true)
   (hd : ∀ (k:Nat) (d:D),cs[k]?=some d→DR g.frz w d (cv k)):VR g tk w (.ro cs) (.pointer (some ⟨b,o,none⟩))
 | sl (r off len sz cap:Nat) (a:Addr) (h:g.has r) (hcap:len≤cap) (hsz:0<sz) (hin:off+len*sz≤g.len r) (hout:g.len r≤off+cap*sz)
   (ha:off<g.len r→a=⟨(g.obj r).1,(g.obj r).2+off,none⟩) (hsp:a.spot=none) (hlim:off+cap*sz≤g.lim r):VR g tk w (.sl r off len sz) (.slice (some a) len cap)
 | fl (rows:List (List D)) (a:Addr) (h:DR g.frz w (.list rows) (.slice (some a) rows.length rows.length)):VR g tk w (.fl rows) (.slice (some a) rows.length rows.length)
 | tl (rows:List (List D)) (t st sz k:Nat) (a:Addr) (cap:Nat) (hd:DR g.frz w (.list rows) (.slice (some a) rows.length cap)) (ht:tk[t]?=some k) (hle:st+rows.length≤k)
   (hh : ∀ row∈rows,row.length=sz) (hsz:(g.tok t).sz=sz)
   (ha:st+rows.length=k→rows.length<cap→(g.tok t).s0≤st∧a=⟨(g.tok t).b,(g.tok t).o+(st-(g.tok t).s0)*(g.tok t).sz,none⟩∧st+cap≤(g.tok t).lim):VR g tk w (.tl rows t st sz) (.slice (some a) rows.length cap)
 | map (r:Nat) (h:g.has r):VR g tk w (.map r) (.map (some (g.obj r).1))
 | yld (r:Nat) (h:g.has r):VR g tk w (.yld r) (.func (.yield (g.obj r).1) #[] #[])
 | iter (r:Nat) (h:g.has r):VR g tk w (.iter r) (.pointer (some ⟨(g.obj r).1,0,none⟩))
 | fn (f:Fn) (first caps:List V) (first' caps':Array Value) (hl:first.length=first'.size) (hl':caps.length=caps'.size)
   (h : ∀ (i:Nat) (c:V) (v:Value),first[i]?=some c→first'[i]?=some v→VR g tk w c v) (h' : ∀ (i:Nat) (c:V) (v:Value),caps[i]?=some c→caps'[i]?=some v→VR g tk w c v) :
   VR g tk w (.fn f first caps) (.func f first' caps')
 | ifc (t:Nat) (v:V) (x:Value) (h:VR g tk w v x):VR g tk w (.ifc t v) (.iface t x)
 | gone:VR g tk w .gone undef
 | any (v:Value):VR g tk w .any v

structure Later (g:Gh)(tk:List Nat)(w:World)(g':Gh)(tk':List Nat)(w':World):Prop where
 stay:Stay g.frz g'.frz w w'
 has : ∀ r,g.has r→g'.has r∧g'.obj r=g.obj r∧g'.len r=g.len r
 tok : ∀ t k,tk[t]?=some k→∃ k',tk'[t]?=some k'∧k≤k'∧(k=k'→g'.tok t=g.tok t)∧(g'.tok t).sz=(g.tok t).sz
 prog:g'.prog=g.prog
 lim : ∀ r,g.has r→g'.lim r=g.lim r

theorem VR.later {g g':Gh}{tk tk':List Nat}{w w':World}(hl:Later g tk w g' tk' w'){v:V}{x:Value}(h:VR g tk w v x):VR g' tk' w' v x:=by
 induction h with
 | d x v h h1=>exact .d x v (h.mono hl.stay) h1
 | da cs vs h=>exact .da cs vs (h.mono hl.stay)
 | agg cs vs hs h1 _ ih=>exact .agg cs vs hs h1 ih
 | tup cs vs hs _ ih=>exact .tup cs vs hs ih
 | ref r off h=>obtain⟨h1,h2,h3⟩:=hl.has r h; rw [← h2]; exact .ref r off h1
 | ro cs b o cv hf hc h1 hd =>
  exact .ro cs b o cv (fun k hk=>hl.stay.frz _ _ (hf k hk)) (fun k hk=>by rw [hl.stay.cell _ _ (hf k hk)]; exact hc k hk) h1 (fun k d hk=>(hd k d hk).mono hl.stay)
 | sl r off len sz cap a h hcap hsz hin hout ha hsp hlim =>
  obtain⟨h1,h2,h3⟩:=hl.has r h
  exact .sl r off len sz cap a h1 hcap hsz (by rw [h3]; exact hin) (by rw [h3]; exact hout) (by rw [h3,h2]; exact ha) hsp (by rw [hl.lim r h]; exact hlim)
 | fl rows a h=>exact .fl rows a (h.mono hl.stay)
 | tl rows t st sz k a cap hd ht hle hh hsz ha =>
  obtain⟨k',h1,h2,h3,h4⟩:=hl.tok t k ht
  refine .tl rows t st sz k' a cap (hd.mono hl.stay) h1 (Nat.le_trans hle h2) hh (by rw [h4]; exact hsz) (fun e hc=>?_)
  have hk:k=k':=by omega
  rw [h3 hk]
  exact ha (by omega) hc
 | map r h=>obtain⟨h1,h2,h3⟩:=hl.has r h; rw [← h2]; exact .map r h1
 | yld r h=>obtain⟨h1,h2,h3⟩:=hl.has r h; rw [← h2]; exact .yld r h1
 | iter r h=>obtain⟨h1,h2,h3⟩:=hl.has r h; rw [← h2]; exact .iter r h1
 | fn f first caps first' caps' h1 h2 _ _ ih ih'=>exact .fn f first caps first' caps' h1 h2 ih ih'
 | ifc t v x _ ih=>exact .ifc t v x ih
 | gone=>exact .gone
 | any v=>exact .any v

theorem Later.refl (g:Gh)(tk:List Nat)(w:World):Later g tk w g tk w :=
 ⟨Stay.refl _ _,fun r h=>⟨h,rfl,rfl⟩,fun t k h=>⟨k,h,bB _,fun _=>rfl,rfl⟩,rfl,fun _ _=>rfl⟩
theorem Later.trans {g g' g'':Gh}{tk tk' tk'':List Nat}{w w' w'':World}(h:Later g tk w g' tk' w')(h':Later g' tk' w' g'' tk'' w''):Later g tk w g'' tk'' w'':=by
 refine⟨h.stay.trans h'.stay,fun r hr=>?_,fun t k ht=>?_,h'.prog.trans h.prog,fun r hr=>(h'.lim r (h.has r hr).1).trans (h.lim r hr)⟩
 ·obtain⟨a,b,c⟩:=h.has r hr
  obtain⟨a',b',c'⟩:=h'.has r a
  exact⟨a',b'.trans b,c'.trans c⟩
 ·obtain⟨k',a,b,c,d⟩:=h.tok t k ht
  obtain⟨k'',a',b',c',d'⟩:=h'.tok t k' a
  refine⟨k'',a',Nat.le_trans b b',fun e=>?_,d'.trans d⟩
  have e1:k=k':=by omega
  have e2:k'=k'':=by omega
  exact(c' e2).trans (c e1)

def sC (tmps:Array Value)(s:Nat):Value:=if s<GB then tmps.getD s undef else .pointer (some ⟨s-GB,0,none⟩)

def EnvR (g:Gh)(tk:List Nat)(w:World)(n:Nat)(e:Env)(tmps:Array Value):Prop :=
 (tmps.size=n∧n≤GB)∧∀ s,VR g tk w (e.get s) (sC tmps s)

theorem EnvR.later {g g':Gh}{tk tk':List Nat}{w w':World}{n:Nat}{e:Env}{tmps:Array Value}(hl:Later g tk w g' tk' w')(h:EnvR g tk w n e tmps):EnvR g' tk' w' n e tmps :=
 ⟨h.1,fun s=>(h.2 s).later hl⟩

def aGH:Ex→Option Code
 | .normal=>none
 | .exit id=>some (.exit id)
 | .ret=>some .ret

def LSt.is:LSt→Loop→Prop
 | .ready,l=>l.state = .ready∧l.pending=none
 | .busy,l=>l.state = .busy
 | .done x,l=>x ≠ .normal∧l.state = .done∧l.pending=aGH x

def OthR (g:Gh)(tk:List Nat)(w:World):Obj→Go.Obj→Prop
 | .map es clock,.map es' clock'=>clock=clock'∧es.length=es'.size∧(es.map fun x=>x.2.1).Nodup∧∀ (i b:Nat) (k v:V),es[i]?=some (b,k,v)→∃ x,es'[i]?=some x∧x.born=b∧VR g tk w k x.key∧VR g tk w v x.val∧v.cells.isSome=true
 | .iter m since seen last,.mapIter m' since' seen' last'=>m'=m.map (fun r=>(g.obj r).1)∧(∀ r,m=some r→g.has r)∧since'=since∧seen'.toList=seen∧last'=last
 | .loop e ps a b st,.loop l=>l.params.toList=ps∧st.is l∧a.plain=true∧b.plain=true∧∃ n,(∀ p∈ps,p<n)∧comp g.prog n l.assign=some (jU a)∧comp g.prog n l.body=some (jU b)∧EnvR g tk w n e l.tmps
 | _,_=>False

def Obj.isOth:Obj→Prop
 | .map .. => True
 | .iter .. => True
 | .loop .. => True
 | _=>False

theorem OthR.later {g g':Gh}{tk tk':List Nat}{w w':World}(hl:Later g tk w g' tk' w'){o:Obj}{ho:Go.Obj}(h:OthR g tk w o ho):OthR g' tk' w' o ho:=by
 cases o <;> cases ho <;> try exact h.elim
 case map es clock es' clock' =>
  obtain⟨h1,h2,h4,h3⟩:=h
  refine⟨h1,h2,h4,fun i b k v hi=>?_⟩
  obtain⟨x,a1,a2,a3,a4,a5⟩:=h3 i b k v hi
  exact⟨x,a1,a2,a3.later hl,a4.later hl,a5⟩
 case iter m since seen last m' since' seen' last' =>
  obtain⟨h1,h2,h3⟩:=h
  refine⟨?_,fun r hr=>(hl.has r (h2 r hr)).1,h3⟩
  rw [h1]
  cases m with
  | none=>rfl
  | some r=>simp [(hl.has r (h2 r rfl)).2.1]
 case loop e ps a b st l =>
  obtain⟨h1,h2,h3,h4,n,h5,h6,h7,h8⟩:=h
  exact⟨h1,h2,h3,h4,n,h5,by rw [hl.prog]; exact h6,by rw [hl.prog]; exact h7,h8.later hl⟩

def aGn (c:Array Value)(fz:Nat×Nat):Prop:=∀ o,o<c.size→¬ (fz.1≤o∧o<fz.2)

def Obj.live:Obj→Prop
 | .dead=>False
 | .free=>False
 | _=>True

def rE (g:Gh) (σ:St)(b:Nat):Prop :=
 (∃ (r:Nat) (o:Obj),σ.objs[r]?=some o∧o.live∧(g.obj r).1=b)∨(∃ (t k:Nat),σ.toks[t]?=some k∧(g.tok t).b=b)

structure Sim (g:Gh) (σ:St)(w:World):Prop where
 has : ∀ (r:Nat) (o:Obj),σ.objs[r]?=some o→o.live→g.has r
 bound : ∀ r,g.has r→r<σ.objs.length
 free : ∀ r,σ.objs[r]?=some .free→¬ g.has r
 cells : ∀ (r:Nat) (cs:List V),σ.objs[r]?=some (.cells cs)→cs.length=g.len r ∧
  ∃ c e fz,w.heap[(g.obj r).1]?=some (.cells c e fz)∧aGn c fz∧∀ (j:Nat) (v:V),cs[j]?=some v→∃ cv,c[(g.obj r).2+j]?=some cv∧iE cv=true∧VR g σ.toks w v cv
 oth : ∀ (r:Nat) (o:Obj),σ.objs[r]?=some o→o.isOth→∃ ho,w.heap[(g.obj r).1]?=some ho∧OthR g σ.toks w o ho
 dist : ∀ (r r':Nat) (o o':Obj),σ.objs[r]?=some o→o.live→σ.objs[r']?=some o'→o'.live→r≠r'→(g.obj r).1≠(g.obj r').1
 nofrz : ∀ (r:Nat) (o:Obj),σ.objs[r]?=some o→o.live→∀ q,¬ g.frz (g.obj r).1 q
 tok : ∀ (t k:Nat),σ.toks[t]?=some k→(0<(g.tok t).sz∧(g.tok t).s0≤k)∧∃ c e fz,w.heap[(g.tok t).b]?=some (.cells c e fz)∧aGn c fz ∧
  (g.tok t).o+((g.tok t).lim-(g.tok t).s0)*(g.tok t).sz≤c.size∧∀ q,(g.tok t).o+(k-(g.tok t).s0)*(g.tok t).sz≤q→¬ g.frz (g.tok t).b q
 tdist : ∀ (t t' k k':Nat),σ.toks[t]?=some k→σ.toks[t']?=some k'→t≠t'→(g.tok t).b≠(g.tok t').b
 tobj : ∀ (t k r:Nat) (o:Obj),σ.toks[t]?=some k→σ.objs[r]?=some o→o.live→(g.tok t).b≠(g.obj r).1
 frzb : ∀ b q,g.frz b q→∃ v,w.cell? ⟨b,q,none⟩=some v
 lims : ∀ (r:Nat) (cs:List V),σ.objs[r]?=some (.cells cs)→g.len r≤g.lim r∧∀ c e fz,w.heap[(g.obj r).1]?=some (.cells c e fz)→(g.obj r).2+g.lim r≤c.size

structure Ev (g:Gh) (σ:St)(w:World)(g':Gh) (σ':St)(w':World):Prop where
 later:Later g σ.toks w g' σ'.toks w'
 size:w.heap.size≤w'.heap.size
 os:w'.os=w.os
 tape:w'.tape=w.tape
 output:w'.output=w.output
 frame : ∀ b,b<w.heap.size→¬ rE g σ b→w'.heap[b]?=w.heap[b]?
 mine : ∀ b,rE g' σ' b→rE g σ b∨w.heap.size≤b
 newf : ∀ b q,g'.frz b q→g.frz b q∨rE g σ b∨w.heap.size≤b

theorem Ev.refl (g:Gh) (σ:St)(w:World):Ev g σ w g σ w :=
 ⟨Later.refl _ _ _,bB _,rfl,rfl,rfl,fun _ _ _=>rfl,fun _ h=>.inl h,fun _ _ h=>.inl h⟩

theorem Ev.trans {g g' g'':Gh} {σ σ' σ'':St}{w w' w'':World}(h:Ev g σ w g' σ' w')(h':Ev g' σ' w' g'' σ'' w''):Ev g σ w g'' σ'' w'':=by
 refine⟨h.later.trans h'.later,Nat.le_trans h.size h'.size,h'.os.trans h.os,h'.tape.trans h.tape,h'.output.trans h.output,fun b hb hm=>?_,fun b hb=>?_,fun b q hq=>?_⟩
 ·rw [h'.frame b (Nat.lt_of_lt_of_le hb h.size) (fun hm'=>?_),h.frame b hb hm]
  rcases h.mine b hm' with h1 | h1
  ·exact hm h1
  ·omega
 ·rcases h'.mine b hb with h1 | h1
  ·exact h.mine b h1
  ·exact .inr (Nat.le_trans h.size h1)
 ·rcases h'.newf b q hq with h1 | h1 | h1
  ·exact h.newf b q h1
  ·rcases h.mine b h1 with h2 | h2
   ·exact .inr (.inl h2)
   ·exact .inr (.inr h2)
  ·exact .inr (.inr (Nat.le_trans h.size h1))

theorem Env.get_set (e:Env)(s t:Nat)(v:V):(e.set s v).get t=if s=t then v else e.get t:=by
 induction e with
 | nil=>simp [Env.set,Env.get]
 | cons p r ih =>
  obtain⟨q,u⟩:=p
  by_cases h:q=s
  ·subst h
   by_cases h2:q=t <;> simp [Env.set,Env.get,h2]
  ·by_cases h2:q=t
   ·subst h2
    have hn : ¬ s=q:=fun e=>h e.symm
    simp [Env.set,Env.get,h,hn]
   ·simp only [Env.set,h,if_false,Env.get,h2]
    exact ih

theorem Env.get_pick (e:Env)(ks:List Nat)(t:Nat):(e.pick ks).get t=if t∈ks then e.get t else .any:=by
 induction ks with
 | nil=>simp [Env.pick,Env.get]
 | cons k ks ih =>
  simp only [Env.pick,aI,Env.get] at ih ⊢
  by_cases h:k=t
  ·subst h; simp
  ·have hn : ¬ t=k:=fun e=>h e.symm
   simp [h,hn,ih]

theorem Sim.blk {g:Gh} {σ:St}{w:World}(hs:Sim g σ w){r:Nat}{o:Obj}(h:σ.objs[r]?=some o)(hl:o.live):(g.obj r).1<w.heap.size:=by
 have key : ∀ {b:Nat} {o:Go.Obj},w.heap[b]?=some o→b<w.heap.size:=fun h=>(bW.1 h).1
 cases o with
 | cells cs=>obtain⟨_,c,e,fz,h2,_⟩:=hs.cells r cs h; exact key h2
 | map es c=>obtain⟨ho,h1,_⟩:=hs.oth r _ h trivial; exact key h1
 | iter m s t l=>obtain⟨ho,h1,_⟩:=hs.oth r _ h trivial; exact key h1
 | loop e p a b s=>obtain⟨ho,h1,_⟩:=hs.oth r _ h trivial; exact key h1
 | dead=>exact hl.elim
 | free=>exact hl.elim
theorem Obj.isOth.live {o:Obj}(h:o.isOth):o.live:=by cases o <;> first | exact h.elim | trivial

theorem EnvR.set {g:Gh}{tk:List Nat}{w:World}{n:Nat}{e:Env}{tmps:Array Value}(h:EnvR g tk w n e tmps){s:Nat}(hs:s<n){v:V}{x:Value}(hv:VR g tk w v x) :
  EnvR g tk w n (e.set s v) (tmps.setIfInBounds s x):=by
 refine⟨by simp [h.1.1,h.1.2],fun t=>?_⟩
 rw [Env.get_set]
 by_cases hst:s=t
 ·subst hst
  have h1:s<tmps.size:=by rw [h.1.1]; exact hs
  have h2:s<GB:=Nat.lt_of_lt_of_le hs h.1.2
  simpa [sC,h2,Array.getD_eq_getD_getElem?,h1] using hv
 ·simp only [hst,if_false]
  have:=h.2 t
  unfold sC at this ⊢
  rw [Array.getD_eq_getD_getElem?,Array.getElem?_setIfInBounds_ne hst,← Array.getD_eq_getD_getElem?]
  exact this

theorem EnvR.at {g:Gh}{tk:List Nat}{w:World}{n:Nat}{e:Env}{tmps:Array Value}(h:EnvR g tk w n e tmps){s:Nat}(hs:s<GB):VR g tk w (e.get s) (tmps.getD s undef):=by
 have:=h.2 s
 rwa [sC,if_pos hs] at this

theorem EnvR.pick {g:Gh}{tk:List Nat}{w:World}{n:Nat}{e:Env}{tmps:Array Value}(h:EnvR g tk w n e tmps)(ks:List Nat):EnvR g tk w n (e.pick ks) tmps:=by
 refine⟨h.1,fun t=>?_⟩
 rw [Env.get_pick]
 split
 ·exact h.2 t
 ·exact .any _

end Go.Dn

/- Each operation that leaves the store alone does in the world what it does in the abstract. -/
namespace Go.Dn

variable {P:Program} {g:Gh} {tk:List Nat} {w:World}

theorem VR.inv_d {x:D}{v:Value}(h:VR g tk w (.d x) v):DR g.frz w x v:=by cases h; assumption
theorem DR.inv_int {f:Nat→Nat→Prop}{k:IntKind}{n:Int}{v:Value}(h:DR f w (.int k n) v):v = .int k n:=by cases h; rfl
theorem DR.inv_bool {f:Nat→Nat→Prop}{b:Bool}{v:Value}(h:DR f w (.bool b) v):v = .bool b:=by cases h; rfl
theorem DR.inv_str {f:Nat→Nat→Prop}{l:List UInt8}{v:Value}(h:DR f w (.str l) v):v = .string ⟨l.toArray⟩:=by cases h; rfl
theorem VR.inv_int {k:IntKind}{n:Int}{v:Value}(h:VR g tk w (.d (.int k n)) v):v = .int k n:=h.inv_d.inv_int
theorem VR.inv_bool {b:Bool}{v:Value}(h:VR g tk w (.d (.bool b)) v):v = .bool b:=h.inv_d.inv_bool
theorem VR.inv_str {l:List UInt8}{v:Value}(h:VR g tk w (.d (.str l)) v):v = .string ⟨l.toArray⟩:=h.inv_d.inv_str
theorem VR.int (k:IntKind)(n:Int):VR g tk w (.d (.int k n)) (.int k n):=.d _ _ (.int k n) rfl
theorem VR.bool (b:Bool):VR g tk w (.d (.bool b)) (.bool b):=.d _ _ (.bool b) rfl
theorem VR.str (l:List UInt8):VR g tk w (.d (.str l)) (.string ⟨l.toArray⟩):=.d _ _ (.str l) rfl

theorem aA5 {v:Value}{d:D}(h:aA3 v=some d)(f:Nat→Nat→Prop)(w:World):DR f w d v:=by
 unfold aA3 at h
 split at h
 case h_3 s=>cases h; exact .str s.data.toList
 all_goals first | (cases h; constructor) | cases h

theorem aA4 {v:Value}{d:D}(h:aA3 v=some d):iE v=true:=by
 unfold aA3 at h
 split at h <;> first | rfl | cases h

theorem qR : ∀ {vs:List Value} {ds:List D},pN vs=some ds→∀ (i:Nat) (v:Value),vs[i]?=some v→iE v=true
 | [],ds,_,i,v,hv=>by simp at hv
 | x::r,ds,h,i,v,hv=>by
  unfold pN at h
  split at h
  ·rename_i d l hd hl
   cases i with
   | zero=>simp at hv; subst hv; exact aA4 hd
   | succ i=>simp at hv; exact qR hl i v hv
  ·cases h

theorem qS : ∀ {vs:List Value} {ds:List D},pN vs=some ds→ds.length=vs.length∧∀ (f:Nat→Nat→Prop) (w:World) (i:Nat) (d:D) (v:Value),ds[i]?=some d→vs[i]?=some v→DR f w d v
 | [],ds,h=>by
  simp [pN] at h; subst h
  exact⟨rfl,fun f w i d v hd=>by simp at hd⟩
 | v::r,ds,h=>by
  unfold pN at h
  split at h
  ·rename_i d l hd hl
   cases h
   obtain⟨h1,h2⟩:=qS hl
   refine⟨by simp [h1],fun f w i d' v' hd' hv'=>?_⟩
   cases i with
   | zero=>simp at hd' hv'; subst hd' hv'; exact aA5 hd f w
   | succ i=>simp at hd' hv'; exact h2 f w i d' v' hd' hv'
  ·cases h

theorem tI {v:Value}{x:Opd}(h:aBz v=some x)(e:Env):VR g tk w (x.ev e) v:=by
 unfold aBz at h
 split at h
 ·rename_i cs
  split at h
  ·rename_i l hl
   cases h
   obtain⟨h1,h2⟩:=qS hl
   exact .da l cs (.agg l cs (by simpa using h1) (fun i v hv=>qR hl i v (by simpa using hv)) (fun i d v hd hv=>h2 _ w i d v hd (by simpa using hv)))
  ·cases h
 ·split at h
  ·rename_i d hd
   cases h
   exact .d _ _ (aA5 hd _ _) (aA4 hd)
  ·cases h

theorem nK {x:Operand}{x':Opd}(hx:iF x=some x'){n:Nat}{e:Env}{a:Act}(he:EnvR g tk w n e a.tmps):VR g tk w (x'.ev e) (a.eval x):=by
 unfold iF at hx
 split at hx
 ·split at hx
  ·rename_i hlt
   cases hx
   exact he.at hlt
  ·cases hx
 ·exact tI hx e
 ·cases hx; exact .fn _ _ _ _ _ rfl rfl (fun i c v hc=>by simp at hc) (fun i c v hc=>by simp at hc)
 ·rename_i gl
  cases hx
  have:=he.2 (GB+gl)
  rw [sC,if_neg (by omega),Nat.add_sub_cancel_left] at this
  exact this

theorem aDY {op : BinOp} {k : IntKind} {a b : Int} {v : V} (hop : op ≠ .shl ∧ op ≠ .shr) (h : eO op k a b = some v) (t : TypeId) :
    ∃ cv, (Go.binOp op t (.int k a) (.int k b)).run P w = .ok cv w ∧ VR g tk w v cv := by
  cases op <;> simp only [eO] at h <;> try (cases h; done)
  case add => cases h; exact ⟨_, by simp [Go.binOp, Op.intArith], .int _ _⟩
  case sub => cases h; exact ⟨_, by simp [Go.binOp, Op.intArith], .int _ _⟩
  case mul => cases h; exact ⟨_, by simp [Go.binOp, Op.intArith], .int _ _⟩
  case quo => split at h; · cases h
              · rename_i hb; cases h; exact ⟨_, by simp [Go.binOp, Op.intDiv, hb], .int _ _⟩
  case rem => split at h; · cases h
              · rename_i hb; cases h; exact ⟨_, by simp [Go.binOp, Op.intDiv, hb], .int _ _⟩
  case and => cases h; exact ⟨_, by simp only [Go.binOp, ne_eq, not_true_eq_false, if_false, intBits_and, Sem.run_pure], .int _ _⟩
  case or => cases h; exact ⟨_, by simp only [Go.binOp, ne_eq, not_true_eq_false, if_false, intBits_or, Sem.run_pure], .int _ _⟩
  case xor => cases h; exact ⟨_, by simp only [Go.binOp, ne_eq, not_true_eq_false, if_false, intBits_xor, Sem.run_pure], .int _ _⟩
  case andNot => cases h; exact ⟨_, by simp only [Go.binOp, ne_eq, not_true_eq_false, if_false, intBits_andNot, Sem.run_pure], .int _ _⟩
  case eql => cases h; exact ⟨_, by simp [Go.binOp, Op.intCmp]; rfl, .bool _⟩
  case neq => cases h; exact ⟨_, by simp [Go.binOp, Op.intCmp, bne]; rfl, .bool _⟩
  case lss => cases h; exact ⟨_, by simp [Go.binOp, Op.intCmp], .bool _⟩
  case leq => cases h; exact ⟨_, by simp [Go.binOp, Op.intCmp], .bool _⟩
  case gtr => cases h; exact ⟨_, by simp [Go.binOp, Op.intCmp], .bool _⟩
  case geq => cases h; exact ⟨_, by simp [Go.binOp, Op.intCmp], .bool _⟩

theorem uP {op:BinOp}{k k':IntKind}{a b:Int}{v:V}(hop:op = .shl∨op = .shr)(h:iM op k a b=some v)(t:TypeId) :
  ∃ cv,(Go.binOp op t (.int k a) (.int k' b)).run P w = .ok cv w∧VR g tk w v cv:=by
 unfold iM at h
 split at h
 ·cases h
 ·rename_i hb
  rcases hop with rfl | rfl
  ·cases h; exact⟨_,by simp [Go.binOp,Op.shift,hb],.int _ _⟩
  ·cases h
   refine⟨.int k (a / 2 ^ (min b.toNat k.bits)),?_,.int _ _⟩
   have hp:(0:Int)≤2 ^ (min b.toNat k.bits):=Int.pow_nonneg (by decide)
   simp [Go.binOp,Op.shift,hb,Int.fdiv_eq_ediv_of_nonneg _ hp]

theorem lQ (l:List UInt8):(⟨l.toArray⟩:ByteArray).toList=l:=by simp

theorem kS (l:List UInt8):(⟨l.toArray⟩:ByteArray).size=l.length:=by simp [ByteArray.size]

theorem aBv (a b:List UInt8):(⟨a.toArray⟩++⟨b.toArray⟩:ByteArray)=⟨(a++b).toArray⟩:=by
 apply ByteArray.ext
 simp

theorem aDZ {op:BinOp}{a b:List UInt8}{v:V}(h:aD9 op a b=some v)(t:TypeId) :
  ∃ cv,(Go.binOp op t (.string ⟨a.toArray⟩) (.string ⟨b.toArray⟩)).run P w = .ok cv w∧VR g tk w v cv:=by
 have hb : ∀ x y:List UInt8,(x==y)=decide (x=y):=fun x y=>by by_cases e:x=y <;> simp [e]
 cases op <;> simp only [aD9] at h <;> try (cases h; done)
 case add =>
  split at h
  ·rename_i hl
   cases h
   refine⟨.string ⟨(a++b).toArray⟩,?_,.str _⟩
   have hn : ¬ ((a.length:Int)+b.length>9223372036854775807):=by omega
   simp only [Go.binOp,Op.stringOp,kS,aBv,IntKind.max]
   simp only [IntKind.bits,IntKind.signed]
   rw [if_neg (by simpa using hn)]
   rfl
  ·cases h
 case eql=>cases h; exact⟨_,by simp only [Go.binOp,Op.stringOp,lQ,hb]; rfl,.bool _⟩
 case neq=>cases h; exact⟨_,by simp only [Go.binOp,Op.stringOp,lQ,hb]; rfl,.bool _⟩
 case lss=>cases h; exact⟨_,by simp only [Go.binOp,Op.stringOp,lQ,hb]; rfl,.bool _⟩
 case leq=>cases h; exact⟨_,by simp only [Go.binOp,Op.stringOp,lQ,hb]; rfl,.bool _⟩
 case gtr=>cases h; exact⟨_,by simp only [Go.binOp,Op.stringOp,lQ,hb]; rfl,.bool _⟩
 case geq=>cases h; exact⟨_,by simp only [Go.binOp,Op.stringOp,lQ,hb]; rfl,.bool _⟩

def iK:Ty→Value
 | .ptr=>.pointer none
 | .slice=>.slice none 0 0
 | .map=>.map none
 | .func=>.nilFunc
 | _=>.nilIface

theorem qQ {ty:Ty}{x:V}{v:Value}(h:V.isNil ty x=some true)(hx:VR g tk w x v):v=iK ty:=by
 unfold V.isNil at h
 split at h <;> first | (cases h; done) | skip
 all_goals (have hd:=hx.inv_d; clear hx; cases hd; rfl)

def yH:Ty→Value→Prop
 | .ptr,v=>∃ a,v = .pointer (some a)
 | .slice,v=>∃ a n c,v = .slice (some a) n c
 | .map,v=>∃ a,v = .map (some a)
 | .func,v=>∃ f a b,v = .func f a b
 | _,v=>∃ t x,v = .iface t x

theorem wV {ty:Ty}{x:V}{v:Value}(h:V.isNil ty x=some false)(hx:VR g tk w x v):yH ty v:=by
 unfold V.isNil at h
 split at h <;> first | (cases h; done) | skip
 all_goals first | (have hd:=hx.inv_d; clear hx; cases hd <;> first | exact⟨_,rfl⟩ | exact⟨_,_,rfl⟩ | exact⟨_,_,_,rfl⟩) | (cases hx; first | exact⟨_,rfl⟩ | exact⟨_,_,rfl⟩ | exact⟨_,_,_,rfl⟩)

def aK4 (P:Program)(t:TypeId):Ty→Prop
 | .ptr=>∃ e,P.underlying t=some (.pointer e)
 | .slice=>∃ e,P.underlying t=some (.slice e)
 | .map=>∃ k e,P.underlying t=some (.map k e)
 | .func=>∃ a b c,P.underlying t=some (.func a b c)
 | .iface=>∃ ms,P.underlying t=some (.interface ms)
 | .bool=>P.underlying t=some .bool
 | _=>True

theorem sG {t:TypeId}{ty:Ty}{ks:List Lf}(h:tH P t=some (ty,ks)):aK4 P t ty:=by
 unfold tH at h
 split at h <;> first | (cases h; first | exact⟨_,by assumption⟩ | exact⟨_,_,by assumption⟩ | exact⟨_,_,_,by assumption⟩ | assumption | trivial) | skip
 ·unfold tL at h; split at h
  ·split at h
   ·cases h; trivial
   ·cases h
  ·cases h
 ·unfold tL at h; split at h
  ·split at h
   ·cases h; trivial
   ·cases h
  ·cases h
 ·cases h

theorem pO {t:TypeId}{ty:Ty}(ht:aK4 P t ty){x y:Value}(hx:x=iK ty∨yH ty x)(hy:y=iK ty∨yH ty y)
  (hno:x=iK ty∨y=iK ty) (hty:ty = .ptr∨ty = .slice∨ty = .map∨ty = .func∨ty = .iface) :
  ∃ b,(Op.equal t x y).run P w = .ok b w∧(b=true↔(x=iK ty∧y=iK ty)):=by
 show ∃ b,(Op.equalIn (9999+1) t x y).run P w = .ok b w∧_
 generalize 9999=n
 rcases hty with rfl | rfl | rfl | rfl | rfl
 ·obtain⟨e,he⟩:=ht
  rcases hx with rfl | ⟨a,rfl⟩ <;> rcases hy with rfl | ⟨b,rfl⟩
  ·exact⟨true,by simp [Op.equalIn,run_underlying he,iK],by simp⟩
  ·exact⟨false,by simp [Op.equalIn,run_underlying he,iK],by simp [iK]⟩
  ·exact⟨false,by simp [Op.equalIn,run_underlying he,iK],by simp [iK]⟩
  ·rcases hno with h | h <;> simp [iK] at h
 ·obtain⟨e,he⟩:=ht
  rcases hx with rfl | ⟨a,n,c,rfl⟩ <;> rcases hy with rfl | ⟨b,m,d,rfl⟩
  ·exact⟨true,by simp [Op.equalIn,run_underlying he,iK],by simp⟩
  ·exact⟨false,by simp [Op.equalIn,run_underlying he,iK],by simp [iK]⟩
  ·exact⟨false,by simp [Op.equalIn,run_underlying he,iK],by simp [iK]⟩
  ·rcases hno with h | h <;> simp [iK] at h
 ·obtain⟨k,e,he⟩:=ht
  rcases hx with rfl | ⟨a,rfl⟩ <;> rcases hy with rfl | ⟨b,rfl⟩
  ·exact⟨true,by simp [Op.equalIn,run_underlying he,iK],by simp⟩
  ·exact⟨false,by simp [Op.equalIn,run_underlying he,iK],by simp [iK]⟩
  ·exact⟨false,by simp [Op.equalIn,run_underlying he,iK],by simp [iK]⟩
  ·rcases hno with h | h <;> simp [iK] at h
 ·obtain⟨k,e,m,he⟩:=ht
  rcases hx with rfl | ⟨a,n,c,rfl⟩ <;> rcases hy with rfl | ⟨b,m,d,rfl⟩
  ·exact⟨true,by simp [Op.equalIn,run_underlying he,iK],by simp⟩
  ·exact⟨false,by simp [Op.equalIn,run_underlying he,iK],by simp [iK]⟩
  ·exact⟨false,by simp [Op.equalIn,run_underlying he,iK],by simp [iK]⟩
  ·rcases hno with h | h <;> simp [iK] at h
 ·obtain⟨ms,he⟩:=ht
  rcases hx with rfl | ⟨a,n,rfl⟩ <;> rcases hy with rfl | ⟨b,m,rfl⟩
  ·exact⟨true,by simp [Op.equalIn,run_underlying he,iK],by simp⟩
  ·exact⟨false,by simp [Op.equalIn,run_underlying he,iK],by simp [iK]⟩
  ·exact⟨false,by simp [Op.equalIn,run_underlying he,iK],by simp [iK]⟩
  ·rcases hno with h | h <;> simp [iK] at h

def oB:D→Lit
 | .int k n=>.int k n
 | .bool b=>.bool b
 | .str s=>.string s
 | _=>.bool false

def DRs (f:Nat→Nat→Prop)(w:World):List D→List Value→Prop
 | [],[]=>True
 | d::ds,v::vs=>DR f w d v∧DRs f w ds vs
 | _,_=>False

theorem DRs.length {f:Nat→Nat→Prop} : ∀ {ds:List D} {vs:List Value},DRs f w ds vs→ds.length=vs.length
 | [],[],_=>rfl
 | _::_,_::_,h=>by simp [DRs.length h.2]
 | [],_::_,h=>h.elim
 | _::_,[],h=>h.elim

theorem DRs.of_get {f:Nat→Nat→Prop} : ∀ {ds:List D} {vs:List Value},ds.length=vs.length→(∀ (i:Nat) (d:D) (v:Value),ds[i]?=some d→vs[i]?=some v→DR f w d v)→DRs f w ds vs
 | [],[],_,_=>trivial
 | d::ds,v::vs,hl,h=>⟨h 0 d v rfl rfl,DRs.of_get (by simpa using hl) (fun i d' v' h1 h2=>h (i+1) d' v' (by simpa using h1) (by simpa using h2))⟩
 | [],_::_,hl,_=>by simp at hl
 | _::_,[],hl,_=>by simp at hl

theorem DRs.get {f:Nat→Nat→Prop} : ∀ {ds:List D} {vs:List Value},DRs f w ds vs→∀ (i:Nat) (d:D) (v:Value),ds[i]?=some d→vs[i]?=some v→DR f w d v
 | [],[],_,i,d,v,h,_=>by simp at h
 | d::ds,v::vs,h,i,d',v',h1,h2=>by
  cases i with
  | zero=>simp at h1 h2; subst h1 h2; exact h.1
  | succ i=>exact DRs.get h.2 i d' v' (by simpa using h1) (by simpa using h2)
 | [],_::_,h,_,_,_,_,_=>h.elim
 | _::_,[],h,_,_,_,_,_=>h.elim

theorem DRs.append_inv {f:Nat→Nat→Prop} : ∀ {as bs:List D} {vs:List Value},DRs f w (as++bs) vs→∃ xs ys,vs=xs++ys∧DRs f w as xs∧DRs f w bs ys
 | [],bs,vs,h=>⟨[],vs,rfl,trivial,h⟩
 | a::as,bs,[],h=>h.elim
 | a::as,bs,v::vs,h=>by
  obtain⟨xs,ys,rfl,h1,h2⟩:=DRs.append_inv (as:=as) h.2
  exact⟨v::xs,ys,rfl,⟨h.1,h1⟩,h2⟩

theorem iY : ∀ {ks:List Lf} {ds:List D},fI ks ds=true→ks.length=ds.length
 | [],[],_=>rfl
 | _::_,_::_,h=>by simp [fI] at h; simp [iY h.2]
 | [],_::_,h=>by simp [fI] at h
 | _::_,[],h=>by simp [fI] at h

theorem oQ : ∀ {ks ks':List Lf} {ds:List D},fI (ks++ks') ds=true→∃ a b,ds=a++b∧fI ks a=true∧fI ks' b=true
 | [],ks',ds,h=>⟨[],ds,rfl,rfl,h⟩
 | k::ks,ks',[],h=>by simp [fI] at h
 | k::ks,ks',d::ds,h=>by
  simp [fI] at h
  obtain⟨a,b,rfl,h1,h2⟩:=oQ h.2
  exact⟨d::a,b,rfl,by simp [fI,h.1,h1],h2⟩

theorem aBK {n:Nat}{t:TypeId}{k:Lf}{d:D}{v:Value}(hu:P.underlying t=some (match k with | .int q=>.int q | .bool=>.bool | .str=>.string))(hf:k.fits d=true){f:Nat→Nat→Prop}(hd:DR f w d v) :
  P.keyLits (n+1) t [v]=some [oB d]:=by
 cases k with
 | int q =>
  cases d <;> simp [Lf.fits] at hf
  obtain⟨⟨rfl,h1⟩,h2⟩:=hf
  cases hd
  simp [Program.keyLits,hu,Lit.wf,h1,h2,oB]
 | bool =>
  cases d <;> simp [Lf.fits] at hf
  cases hd
  simp [Program.keyLits,hu,oB]
 | str =>
  cases d <;> simp [Lf.fits] at hf
  rename_i s
  cases hd
  have:(⟨s.toArray⟩:ByteArray).size≤maxLen:=by rw [kS]; simp only [maxLen]; omega
  simp [Program.keyLits,hu,oB,this]

theorem tB {F:Nat→Nat→Prop}{m:Nat}{e:TypeId}{l:List Lf}(hc:P.cellsOf e=l.length)(ih : ∀ (ds:List D)(xs:List Value),fI l ds=true→DRs F w ds xs→P.keyLits m e xs=some (ds.map oB)) :
  ∀ (k:Nat) (pre xs:List Value) (ds:List D) (j:Nat),pre.length=j*l.length→fI ((aD k l).flatten) ds=true→DRs F w ds xs →
   ∃ r,((List.range k).map (j + ·)).mapM (fun i=>P.keyLits m e (((pre++xs).drop (i*P.cellsOf e)).take (P.cellsOf e)))=some r∧r.flatten=ds.map oB
 | 0,pre,xs,ds,j,hp,hf,hd=>by
  have:ds=[]:=bP (by have:=iY hf; simp at this; exact this.symm)
  subst this
  exact⟨[],by simp,rfl⟩
 | k+1,pre,xs,ds,j,hp,hf,hd=>by
  simp only [List.replicate_succ,List.flatten_cons] at hf
  obtain⟨a,b,rfl,h1,h2⟩:=oQ hf
  obtain⟨us,vs,rfl,d1,d2⟩:=hd.append_inv
  have hul:us.length=l.length:=by rw [← d1.length,iY h1]
  obtain⟨r,hr,hfl⟩:=tB hc ih k (pre++us) vs b (j+1) (by simp [hp,hul,bJ]) h2 d2
  have e1:((pre++(us++vs)).drop (j*P.cellsOf e)).take (P.cellsOf e)=us:=by
   rw [hc,← hp,List.drop_left,← hul,List.take_left]
  refine⟨a.map oB::r,?_,by simp [hfl]⟩
  rw [List.range_succ_eq_map,aI,List.mapM_cons,Nat.add_zero,e1,ih a us h1 d1]
  simp only [List.map_map]
  have e2:(List.range k).map ((fun x=>j+x) ∘ Nat.succ)=(List.range k).map (j+1 + ·):=by
   apply List.map_congr_left; intro x _; simp; omega
  rw [e2]
  rw [← bV,hr]
  rfl

theorem rM {F:Nat→Nat→Prop}{m:Nat}{lv:TypeId→Option (List Lf)}(ih : ∀ (t:TypeId)(ks:List Lf),lv t=some ks→∀ (ds:List D)(xs:List Value),fI ks ds=true→DRs F w ds xs→P.keyLits m t xs=some (ds.map oB)) :
  ∀ (fs:List Field) (off:Nat) (ks:List Lf) (pre xs:List Value) (ds:List D),rP P lv off fs=some ks→pre.length=off→fI ks ds=true→DRs F w ds xs →
   (∀ f ∈ fs, f.name ≠ "_") ∧ ∃ r, fs.mapM (fun f => P.keyLits m f.type (((pre ++ xs).drop f.offset).take (P.cellsOf f.type))) = some r ∧ r.flatten = ds.map oB
 | [],off,ks,pre,xs,ds,h,hp,hf,hd=>by
  simp [rP] at h; subst h
  have:ds=[]:=bP (by have:=iY hf; simp at this; exact this.symm)
  subst this
  exact⟨by simp,[],rfl,rfl⟩
 | x::fs,off,ks,pre,xs,ds,h,hp,hf,hd=>by
  unfold rP at h
  split at h
  ·rename_i l hl
   split at h
   ·rename_i hc
    obtain⟨hn,ho,hcell⟩:=hc
    split at h
    ·rename_i b hb
     cases h
     obtain⟨a,c,rfl,h1,h2⟩:=oQ hf
     obtain⟨us,vs,rfl,d1,d2⟩:=hd.append_inv
     have hul:us.length=l.length:=by rw [← d1.length,iY h1]
     obtain⟨hnn,r,hr,hfl⟩:=rM ih fs (off+l.length) b (pre++us) vs c hb (by simp [hp,hul]) h2 d2
     have e1:((pre++(us++vs)).drop x.offset).take (P.cellsOf x.type)=us:=by
      rw [ho,hcell,← hp,List.drop_left,← hul,List.take_left]
     refine⟨fun f hfm=>?_,a.map oB::r,?_,by simp [hfl]⟩
     ·rcases bU.1 hfm with rfl | hm
      ·exact hn
      ·exact hnn f hm
     ·rw [List.mapM_cons,e1,ih x.type l hl a us h1 d1,← bV,hr]
      rfl
    ·cases h
   ·cases h
  ·cases h

theorem lO {F:Nat→Nat→Prop} : ∀ (n:Nat) (t:TypeId) (ks:List Lf),kW P n t=some ks→∀ (ds:List D) (xs:List Value),fI ks ds=true→DRs F w ds xs→P.keyLits n t xs=some (ds.map oB)
 | 0,t,ks,h,ds,xs,hf,hd=>by simp [kW] at h
 | n+1,t,ks,h,ds,xs,hf,hd=>by
  have one : ∀ (k:Lf),ks=[k]→P.underlying t=some (match k with | .int q=>.int q | .bool=>.bool | .str=>.string)→P.keyLits (n+1) t xs=some (ds.map oB):=by
   rintro k rfl hu
   match ds,xs,hf,hd with
   | [d],[v],hf,hd=>simp [fI] at hf; exact aBK hu hf hd.1
   | [],_,hf,_=>simp [fI] at hf
   | _::_::_,_,hf,_=>simp [fI] at hf
   | [_],[],_,hd=>exact hd.elim
   | [_],_::_::_,_,hd=>exact hd.2.elim
  unfold kW at h
  split at h
  ·cases h; exact one _ rfl (by assumption)
  ·cases h; exact one _ rfl (by assumption)
  ·cases h; exact one _ rfl (by assumption)
  ·rename_i len e hu
   split at h
   ·rename_i l hl
    split at h
    ·rename_i hc
     cases h
     obtain⟨hc1,hc2⟩:=hc
     obtain⟨r,hr,hfl⟩:=tB (F:=F) hc1 (fun ds xs=>lO n e l hl ds xs) len [] xs ds 0 (by simp) hf hd
     have hxl:xs.length=P.cellsOf t:=by rw [← hd.length,← iY hf,hc2]; simp [List.length_flatten]
     unfold Program.keyLits
     simp only [hu,hxl,if_true]
     simp only [Nat.zero_add,List.map_id',aH] at hr
     rw [hr]
     simp [hfl]
    ·cases h
   ·cases h
  ·rename_i fs hu
   split at h
   ·rename_i l hl
    split at h
    ·rename_i hc
     cases h
     obtain⟨hnn,r,hr,hfl⟩:=rM (F:=F) (fun t ks hlv ds xs=>lO n t ks hlv ds xs) fs.toList 0 ks [] xs ds hl rfl hf hd
     have hxl:xs.length=P.cellsOf t:=by rw [← hd.length,← iY hf,hc]
     unfold Program.keyLits
     have hall : fs.all (·.name != "_") = true := by
      rw [Array.all_eq_true_iff_forall_mem]
      intro f hfm
      simpa using hnn f (Array.mem_toList_iff.2 hfm)
     simp only [hu,hxl,hall,and_self,if_true]
     simp only [aH] at hr
     rw [hr]
     simp [hfl]
    ·cases h
   ·cases h
  ·cases h

theorem aA8 : ∀ {ks:List Lf} {a b:List D},fI ks a=true→fI ks b=true→(a.map oB=b.map oB↔a=b)
 | [],[],[],_,_=>by simp
 | k::ks,x::a,y::b,h1,h2=>by
  simp only [fI,aS] at h1 h2
  have:=aA8 h1.2 h2.2
  simp only [aI,List.cons.injEq,this]
  refine and_congr_left fun _=>?_
  cases k <;> cases x <;> simp [Lf.fits] at h1 <;> cases y <;> simp [Lf.fits] at h2 <;> simp [oB]
 | [],_::_,_,h,_=>by simp [fI] at h
 | [],[],_::_,_,h=>by simp [fI] at h
 | _::_,[],_,h,_=>by simp [fI] at h
 | _::_,_::_,[],_,h=>by simp [fI] at h

theorem aDN {t:TypeId}{ty:Ty}{ks:List Lf}(h:tL P t=some (ty,ks)):ty = .flat∧kW P 12 t=some ks∧P.keyTypeAt 12 t=true∧P.eqGuardType P.depth t=false:=by
 unfold tL at h
 split at h
 ·rename_i ks' hk
  split at h
  ·rename_i hc; cases h; simp at hc; exact⟨rfl,hk,hc.1,hc.2⟩
  ·cases h
 ·cases h

theorem aAj {t:TypeId}{ks:List Lf}(hl:kW P 12 t=some ks)(hk:P.keyTypeAt 12 t=true)(hagg:oN P t=true){F:Nat→Nat→Prop}{a b:List D}{xs ys:Array Value}
  (fa:fI ks a=true) (fb:fI ks b=true) (da:DRs F w a xs.toList) (db:DRs F w b ys.toList) :
  ∃ r,(Op.equal t (.agg xs) (.agg ys)).run P w = .ok r w∧(r=true↔a=b):=by
 have ha:=lO 12 t ks hl a xs.toList fa da
 have hb:=lO 12 t ks hl b ys.toList fb db
 have hcell:P.cellsOf t=ks.length:=by
  unfold kW at hl
  unfold oN at hagg
  split at hl
  ·rename_i hu; simp [hu] at hagg
  ·rename_i hu; simp [hu] at hagg
  ·rename_i hu; simp [hu] at hagg
  ·split at hl
   ·split at hl
    ·rename_i hc; cases hl; rw [hc.2]; simp [List.length_flatten]
    ·cases hl
   ·cases hl
  ·split at hl
   ·split at hl
    ·rename_i hc; cases hl; exact hc
    ·cases hl
   ·cases hl
  ·cases hl
 have form : ∀ (zs:Array Value) (c:List D),fI ks c=true→DRs F w c zs.toList→(Value.agg zs).formed P t=true:=by
  intro zs c fc dc
  have hz:zs.size=P.cellsOf t:=by rw [hcell,iY fc,dc.length]; simp
  unfold oN at hagg
  unfold Value.formed
  split at hagg <;> simp_all
 obtain⟨r,hr,hiff⟩:=run_equalIn_deep (P:=P) 9988 12 t hk w 12 12 (.agg xs) (.agg ys) _ _ (form xs a fa da) (form ys b fb db) (by simpa [Value.cells] using ha) (by simpa [Value.cells] using hb)
 exact⟨r,hr,hiff.trans (aA8 fa fb)⟩

end Go.Dn

/- Each operation that leaves the store alone does in the world what it does in the abstract: one theorem. -/
namespace Go.Dn

variable {P:Program} {g:Gh} {σ:St} {tk:List Nat} {w:World}

theorem jI {op:BinOp}(t:TypeId)(x y:Operand){a b:Value}(h : ¬ (a = .nilIface∧b = .nilIface))(h' : ∀ p q,¬ (a = .agg p∧b = .agg q)):(eqGuard op t x y a b).run P w = .ok () w:=by
 unfold eqGuard
 cases op <;> simp <;> (split <;> first | rfl | exact absurd ⟨rfl,rfl⟩ h | exact absurd ⟨rfl,rfl⟩ (h' _ _))

theorem rA {op:BinOp}(t:TypeId){x y:Operand}(h:(∃ v,x = .const v)∨(∃ v,y = .const v)):(eqGuard op t x y .nilIface .nilIface).run P w = .ok () w:=by
 unfold eqGuard
 rcases h with⟨v,rfl⟩ | ⟨v,rfl⟩
 ·cases op <;> simp
 ·cases op <;> simp

theorem vU {op:BinOp}(t:TypeId)(x y:Operand){a b:Array Value}(h:P.eqGuardType P.depth t=false):(eqGuard op t x y (.agg a) (.agg b)).run P w = .ok () w:=by
 have hp:(program:Sem Program).run P w = .ok P w:=rfl
 unfold eqGuard
 cases op <;> simp [hp,h]

theorem aAG (t:TypeId){x y:Value}(hi : ∀ k n k' n',¬ (x = .int k n∧y = .int k' n'))(hs : ∀ a b,¬ (x = .string a∧y = .string b))(hf : ∀ k n k' n',¬ (x = .float k n∧y = .float k' n'))(hc : ∀ k n m k' n' m',¬ (x = .complex k n m∧y = .complex k' n' m')) :
  (Go.binOp .eql t x y).run P w=((Op.equal t x y).run P w).andThen fun b w'=>.ok (.bool b) w':=by
 unfold Go.binOp
 split <;> first | exact absurd ⟨rfl,rfl⟩ (hi _ _ _ _) | exact absurd ⟨rfl,rfl⟩ (hs _ _) | exact absurd ⟨rfl,rfl⟩ (hf _ _ _ _) | exact absurd ⟨rfl,rfl⟩ (hc _ _ _ _ _ _) | simp_all

theorem aAH (t:TypeId){x y:Value}(hi : ∀ k n k' n',¬ (x = .int k n∧y = .int k' n'))(hs : ∀ a b,¬ (x = .string a∧y = .string b))(hf : ∀ k n k' n',¬ (x = .float k n∧y = .float k' n'))(hc : ∀ k n m k' n' m',¬ (x = .complex k n m∧y = .complex k' n' m')) :
  (Go.binOp .neq t x y).run P w=((Op.equal t x y).run P w).andThen fun b w'=>.ok (.bool !b) w':=by
 unfold Go.binOp
 split <;> first | exact absurd ⟨rfl,rfl⟩ (hi _ _ _ _) | exact absurd ⟨rfl,rfl⟩ (hs _ _) | exact absurd ⟨rfl,rfl⟩ (hf _ _ _ _) | exact absurd ⟨rfl,rfl⟩ (hc _ _ _ _ _ _) | simp_all

theorem zI {ty:Ty}{x:V}{b:Bool}(h:V.isNil ty x=some b):ty = .ptr∨ty = .slice∨ty = .map∨ty = .func∨ty = .iface:=by
 cases ty <;> first | (simp; done) | (exfalso; cases x <;> first | (simp [V.isNil] at h; done) | (rename_i d; cases d <;> simp [V.isNil] at h))

theorem sP {ty:Ty}{v:Value}(hty:ty = .ptr∨ty = .slice∨ty = .map∨ty = .func∨ty = .iface)(h:yH ty v):v≠iK ty:=by
 rcases hty with rfl | rfl | rfl | rfl | rfl
 ·obtain⟨a,rfl⟩:=h; simp [iK]
 ·obtain⟨a,n,c,rfl⟩:=h; simp [iK]
 ·obtain⟨a,rfl⟩:=h; simp [iK]
 ·obtain⟨f,a,b,rfl⟩:=h; simp [iK]
 ·obtain⟨t,x,rfl⟩:=h; simp [iK]

theorem nU {ty:Ty}{v:Value}(hty:ty = .ptr∨ty = .slice∨ty = .map∨ty = .func∨ty = .iface)(h:v=iK ty∨yH ty v) :
  (∀ k n,v ≠ .int k n)∧(∀ s,v ≠ .string s)∧(∀ k n,v ≠ .float k n)∧(∀ k n m,v ≠ .complex k n m)∧(∀ p,v ≠ .agg p)∧(v = .nilIface→ty = .iface):=by
 rcases hty with rfl | rfl | rfl | rfl | rfl
 ·rcases h with rfl | ⟨a,rfl⟩ <;> simp [iK]
 ·rcases h with rfl | ⟨a,n,c,rfl⟩ <;> simp [iK]
 ·rcases h with rfl | ⟨a,rfl⟩ <;> simp [iK]
 ·rcases h with rfl | ⟨f,a,b,rfl⟩ <;> simp [iK]
 ·rcases h with rfl | ⟨t,x,rfl⟩ <;> simp [iK]

theorem aA0 {x:Operand}{x':Opd}(hx:iF x=some x')(h:x'.isC=true) : ∃ v,x = .const v:=by
 unfold iF at hx
 split at hx
 ·split at hx
  ·cases hx; simp [Opd.isC] at h
  ·cases hx
 ·exact⟨_,rfl⟩
 ·cases hx; simp [Opd.isC] at h
 ·cases hx; simp [Opd.isC] at h

theorem aEB {t:TypeId}{ty:Ty}{ks:List Lf}(ht:tH P t=some (ty,ks)){x y:V}{cx cy:Value}{ox oy:Operand}{ox' oy':Opd}(hox:iF ox=some ox')(hoy:iF oy=some oy')
  (hx:VR g tk w x cx) (hy:VR g tk w y cy) {b:Bool} (h:eqV ty ks x y ox'.isC oy'.isC=some b) (op:BinOp) (hop:op = .eql∨op = .neq) :
  (do eqGuard op t ox oy cx cy; Go.binOp op t cx cy:Sem Value).run P w = .ok (.bool (if op = .eql then b else !b)) w:=by
 have fin : ∀ {r:Bool},(Op.equal t cx cy).run P w = .ok r w→r=b→(∀ k n k' n',¬ (cx = .int k n∧cy = .int k' n'))→(∀ a b,¬ (cx = .string a∧cy = .string b))→(∀ k n k' n',¬ (cx = .float k n∧cy = .float k' n'))→(∀ k n m k' n' m',¬ (cx = .complex k n m∧cy = .complex k' n' m')) →
   (eqGuard op t ox oy cx cy).run P w = .ok () w→(do eqGuard op t ox oy cx cy; Go.binOp op t cx cy:Sem Value).run P w = .ok (.bool (if op = .eql then b else !b)) w:=by
  intro r hr hb h1 h2 h3 h4 hg
  subst hb
  rcases hop with rfl | rfl
  ·simp [hg,aAG t h1 h2 h3 h4,hr]
  ·simp [hg,aAH t h1 h2 h3 h4,hr]
 unfold eqV at h
 cases hty:ty
 case bool =>
  subst hty
  simp only at h
  split at h
  ·cases h
   have e1:=hx.inv_bool; have e2:=hy.inv_bool
   subst e1 e2
   have hu:P.underlying t=some .bool:=sG ht
   exact fin (run_equal_bool w t _ _ hu) rfl (by simp) (by simp) (by simp) (by simp) (jI t ox oy (by simp) (by simp))
  ·cases h
 case flat =>
  subst hty
  simp only at h
  split at h
  ·rename_i l m
   split at h
   ·rename_i hf
    simp only [aS] at hf
    cases h
    cases hx with
    | da _ xs dx =>
    cases hy with
    | da _ ys dy =>
    cases dx with
    | agg _ _ hl1 _ h1 =>
     cases dy with
     | agg _ _ hl2 _ h2 =>
      have hfl : ∃ ks',ks'=ks∧tL P t=some (Ty.flat,ks'):=by
       unfold tH at ht
       split at ht <;> first | (cases ht; done) | exact⟨_,rfl,ht⟩
      obtain⟨_,rfl,hfl⟩:=hfl
      obtain⟨_,hlv,hkt,hgd⟩:=aDN hfl
      have hagg:oN P t=true:=by
       unfold tH at ht
       unfold oN
       split at ht <;> first | (cases ht; done) | simp_all
      obtain⟨r,hr,hiff⟩:=aAj (w:=w) hlv hkt hagg hf.1 hf.2 (DRs.of_get (by simpa using hl1) (fun i d v hd hv=>h1 i d v hd (by simpa using hv))) (DRs.of_get (by simpa using hl2) (fun i d v hd hv=>h2 i d v hd (by simpa using hv)))
      refine fin hr ?_ (by simp) (by simp) (by simp) (by simp) (vU t ox oy hgd)
      by_cases e:l=m
      ·simp [e,hiff.2 e]
      ·have:r=false:=by cases r; rfl; exact absurd (hiff.1 rfl) e
       simp [e,this]
   ·cases h
  ·cases h
 all_goals
  rw [hty] at h
  simp only at h
  split at h
  ·rename_i hx' hy'
   have hn:=zI hx'
   have e1:=qQ hx' hx
   have e2:=qQ hy' hy
   have hb:b=true∧(ty = .iface→ox'.isC=true∨oy'.isC=true):=by
    rw [hty]
    simp at h
    first | exact⟨by simpa using h.symm,by simp⟩ | (obtain⟨h1,h2⟩:=h; exact⟨by simpa using h2.symm,fun _=>by simpa using h1⟩)
   obtain⟨r,hr,hiff⟩:=pO (w:=w) (sG ht) (.inl (hty▸e1)) (.inl (hty▸e2)) (.inl (hty▸e1)) (hty▸hn)
   have hr1:r=true:=hiff.2 ⟨hty▸e1,hty▸e2⟩
   obtain⟨a1,a2,a3,a4,a5,a6⟩:=nU hn (.inl e1)
   refine fin hr (by rw [hr1,hb.1]) (fun k n k' n' h=>a1 _ _ h.1) (fun a b h=>a2 _ h.1) (fun k n k' n' h=>a3 _ _ h.1) (fun k n m k' n' m' h=>a4 _ _ _ h.1) ?_
   by_cases hi:cx = .nilIface∧cy = .nilIface
   ·obtain⟨rfl,rfl⟩:=hi
    have:=a6 rfl
    rcases hb.2 (hty.trans this) with hc | hc
    ·exact rA t (.inl (aA0 hox hc))
    ·exact rA t (.inr (aA0 hoy hc))
   ·exact jI t ox oy hi (fun p q h=>a5 _ h.1)
  ·rename_i hx' hy'
   have hn:=zI hx'
   have e1:=qQ hx' hx
   have e2:=wV hy' hy
   cases h
   obtain⟨r,hr,hiff⟩:=pO (w:=w) (sG ht) (.inl (hty▸e1)) (.inr (hty▸e2)) (.inl (hty▸e1)) (hty▸hn)
   have hr1:r=false:=by
    cases r
    ·rfl
    ·exact absurd (hiff.1 rfl).2 (hty▸sP hn e2)
   obtain⟨a1,a2,a3,a4,a5,a6⟩:=nU hn (.inl e1)
   exact fin hr hr1 (fun k n k' n' h=>a1 _ _ h.1) (fun a b h=>a2 _ h.1) (fun k n k' n' h=>a3 _ _ h.1) (fun k n m k' n' m' h=>a4 _ _ _ h.1)
    (jI t ox oy (fun h=>by
     have hi:=(nU hn (.inr e2)).2.2.2.2.2 h.2
     have:=sP hn e2
     rw [h.2,hi] at this
     exact this rfl) (fun p q h=>a5 _ h.1))
  ·rename_i hx' hy'
   have hn:=zI hy'
   have e1:=wV hx' hx
   have e2:=qQ hy' hy
   cases h
   obtain⟨r,hr,hiff⟩:=pO (w:=w) (sG ht) (.inr (hty▸e1)) (.inl (hty▸e2)) (.inr (hty▸e2)) (hty▸hn)
   have hr1:r=false:=by
    cases r
    ·rfl
    ·exact absurd (hiff.1 rfl).1 (hty▸sP hn e1)
   obtain⟨a1,a2,a3,a4,a5,a6⟩:=nU hn (.inr e1)
   exact fin hr hr1 (fun k n k' n' h=>a1 _ _ h.1) (fun a b h=>a2 _ h.1) (fun k n k' n' h=>a3 _ _ h.1) (fun k n m k' n' m' h=>a4 _ _ _ h.1)
    (jI t ox oy (fun h=>by
     have hi:=(nU hn (.inr e1)).2.2.2.2.2 h.1
     have:=sP hn e1
     rw [h.1,hi] at this
     exact this rfl) (fun p q h=>a5 _ h.1))
  ·cases h

theorem aCA {t:TypeId}{ty:Ty}{ks:List Lf}(ht:tH P t=some (ty,ks)){x y:V}{cx cy:Value}{ox oy:Operand}{ox' oy':Opd}(hox:iF ox=some ox')(hoy:iF oy=some oy')
  (hx:VR g tk w x cx) (hy:VR g tk w y cy) {op:BinOp} {v:V} (h:cB op ty ks x y ox'.isC oy'.isC=some v) :
  ∃ cv,(do eqGuard op t ox oy cx cy; Go.binOp op t cx cy:Sem Value).run P w = .ok cv w∧VR g tk w v cv:=by
 have pre : ∀ {r:Value},(eqGuard op t ox oy cx cy).run P w = .ok () w→(Go.binOp op t cx cy).run P w = .ok r w→(do eqGuard op t ox oy cx cy; Go.binOp op t cx cy:Sem Value).run P w = .ok r w:=by
  intro r h1 h2
  simp [h1,h2]
 unfold cB at h
 split at h
 ·rename_i k a k' b
  have e1:=hx.inv_int; have e2:=hy.inv_int
  subst e1 e2
  have hg:=jI (P:=P) (w:=w) (op:=op) t ox oy (a:=.int k a) (b:=.int k' b) (by simp) (by simp)
  split at h
  ·obtain⟨cv,h1,h2⟩:=uP (P:=P) (g:=g) (tk:=tk) (w:=w) (k':=k') (.inl rfl) h t
   exact⟨cv,pre hg h1,h2⟩
  ·obtain⟨cv,h1,h2⟩:=uP (P:=P) (g:=g) (tk:=tk) (w:=w) (k':=k') (.inr rfl) h t
   exact⟨cv,pre hg h1,h2⟩
  ·split at h
   ·rename_i h1 h2 hk
    subst hk
    obtain⟨cv,h1,h2⟩:=aDY (P:=P) (g:=g) (tk:=tk) (w:=w) ⟨fun e=>h1 e,fun e=>h2 e⟩ h t
    exact⟨cv,pre hg h1,h2⟩
   ·cases h
 ·have e1:=hx.inv_str; have e2:=hy.inv_str
  subst e1 e2
  obtain⟨cv,h1,h2⟩:=aDZ (P:=P) (g:=g) (tk:=tk) (w:=w) h t
  exact⟨cv,pre (jI t ox oy (by simp) (by simp)) h1,h2⟩
 ·split at h
  ·simp only [Option.map_eq_some_iff] at h
   obtain⟨b,hb,rfl⟩:=h
   exact⟨_,aEB ht hox hoy hx hy hb .eql (.inl rfl),.bool _⟩
  ·simp only [Option.map_eq_some_iff] at h
   obtain⟨b,hb,rfl⟩:=h
   exact⟨_,aEB ht hox hoy hx hy hb .neq (.inr rfl),.bool _⟩
  ·cases h

theorem aDM {op:UnOp}{x v:V}{cx:Value}(hx:VR g tk w x cx)(h:eQ op x=some v) : ∃ cv,(Op.unary op cx).run P w = .ok cv w∧VR g tk w v cv:=by
 unfold eQ at h
 split at h
 ·cases h; have e:=hx.inv_bool; subst e; exact⟨_,by simp [Op.unary],.bool _⟩
 ·cases h; have e:=hx.inv_int; subst e; exact⟨_,by simp [Op.unary,Op.intArith],.int _ _⟩
 ·cases h; have e:=hx.inv_int; subst e; exact⟨_,by simp only [Op.unary,intBits_xor,Sem.run_pure],.int _ _⟩
 ·cases h

end Go.Dn

/- Loads, fields, elements. -/
namespace Go.Dn

variable {P:Program} {g:Gh} {σ:St} {tk:List Nat} {w:World}

theorem lX : ∀ {cs:List V} {l:List D},ofD cs=some l→cs=l.map .d
 | [],l,h=>by simp [ofD] at h; subst h; rfl
 | c::r,l,h=>by
  cases c <;> simp only [ofD] at h <;> try (cases h; done)
  split at h
  ·rename_i x m hm
   cases h
   simp [lX hm]
  ·cases h

theorem yA (l:List D):ofD (l.map .d)=some l:=by
 induction l with
 | nil=>rfl
 | cons a r ih=>simp [ofD,ih]

def VRs (g:Gh)(tk:List Nat)(w:World):List V→List Value→Prop
 | [],[]=>True
 | c::cs,v::vs=>VR g tk w c v∧VRs g tk w cs vs
 | _,_=>False

theorem VRs.length : ∀ {cs:List V} {vs:List Value},VRs g tk w cs vs→cs.length=vs.length
 | [],[],_=>rfl
 | _::_,_::_,h=>by simp [VRs.length h.2]
 | [],_::_,h=>h.elim
 | _::_,[],h=>h.elim

theorem VRs.of_get : ∀ {cs:List V} {vs:List Value},cs.length=vs.length→(∀ (i:Nat) (c:V) (v:Value),cs[i]?=some c→vs[i]?=some v→VR g tk w c v)→VRs g tk w cs vs
 | [],[],_,_=>trivial
 | d::ds,v::vs,hl,h=>⟨h 0 d v rfl rfl,VRs.of_get (by simpa using hl) (fun i d' v' h1 h2=>h (i+1) d' v' (by simpa using h1) (by simpa using h2))⟩
 | [],_::_,hl,_=>by simp at hl
 | _::_,[],hl,_=>by simp at hl

theorem VRs.get : ∀ {cs:List V} {vs:List Value},VRs g tk w cs vs→∀ (i:Nat) (c:V) (v:Value),cs[i]?=some c→vs[i]?=some v→VR g tk w c v
 | [],[],_,i,d,v,h,_=>by simp at h
 | d::ds,v::vs,h,i,d',v',h1,h2=>by
  cases i with
  | zero=>simp at h1 h2; subst h1 h2; exact h.1
  | succ i=>exact VRs.get h.2 i d' v' (by simpa using h1) (by simpa using h2)
 | [],_::_,h,_,_,_,_,_=>h.elim
 | _::_,[],h,_,_,_,_,_=>h.elim

theorem VRs.later {g':Gh}{tk':List Nat}{w':World}(hl:Later g tk w g' tk' w') : ∀ {cs:List V} {vs:List Value},VRs g tk w cs vs→VRs g' tk' w' cs vs
 | [],[],_=>trivial
 | _::_,_::_,h=>⟨h.1.later hl,VRs.later hl h.2⟩
 | [],_::_,h=>h.elim
 | _::_,[],h=>h.elim

theorem VRs.append : ∀ {as bs:List V} {xs ys:List Value},VRs g tk w as xs→VRs g tk w bs ys→VRs g tk w (as++bs) (xs++ys)
 | [],_,[],_,_,h=>h
 | _::_,_,_::_,_,h,h'=>⟨h.1,VRs.append h.2 h'⟩
 | [],_,_::_,_,h,_=>h.elim
 | _::_,_,[],_,h,_=>h.elim

theorem VRs.take : ∀ {cs:List V} {vs:List Value} (n:Nat),VRs g tk w cs vs→VRs g tk w (cs.take n) (vs.take n)
 | [],[],n,_=>by simp [VRs]
 | c::cs,v::vs,0,_=>by simp [VRs]
 | c::cs,v::vs,n+1,h=>⟨h.1,VRs.take n h.2⟩
 | [],_::_,_,h=>h.elim
 | _::_,[],_,h=>h.elim

theorem VRs.drop : ∀ {cs:List V} {vs:List Value} (n:Nat),VRs g tk w cs vs→VRs g tk w (cs.drop n) (vs.drop n)
 | [],[],n,_=>by simp [VRs]
 | c::cs,v::vs,0,h=>h
 | c::cs,v::vs,n+1,h=>by simpa using VRs.drop n h.2
 | [],_::_,_,h=>h.elim
 | _::_,[],_,h=>h.elim

theorem VRs.of_d : ∀ {ds:List D} {vs:List Value},VRs g tk w (ds.map .d) vs→DRs g.frz w ds vs
 | [],[],_=>trivial
 | _::_,_::_,h=>⟨h.1.inv_d,VRs.of_d h.2⟩
 | [],_::_,h=>h.elim
 | _::_,[],h=>h.elim

theorem VR.agg_of {cs:List V}{vs:Array Value}(h1 : ∀ v∈vs.toList,iE v=true)(h:VRs g tk w cs vs.toList):VR g tk w (.agg cs) (.agg vs) :=
 .agg cs vs (by simpa using h.length) (fun i v hv=>h1 v (aL (by simpa using hv))) (fun i c v hc hv=>h.get i c v hc (by simpa using hv))

theorem DR.agg_of {f:Nat→Nat→Prop}{ds:List D}{vs:Array Value}(h1 : ∀ v∈vs.toList,iE v=true)(h:DRs f w ds vs.toList):DR f w (.agg ds) (.agg vs) :=
 .agg ds vs (by simpa using h.length) (fun i v hv=>h1 v (aL (by simpa using hv))) (fun i c v hc hv=>h.get i c v hc (by simpa using hv))

theorem VR.mkAgg_of {cs:List V}{vs:Array Value}(h1 : ∀ v∈vs.toList,iE v=true)(h:VRs g tk w cs vs.toList):VR g tk w (bZ cs) (.agg vs):=by
 unfold bZ
 split
 ·rename_i l hl
  have:=lX hl
  subst this
  exact .da _ _ (DR.agg_of h1 h.of_d)
 ·exact VR.agg_of h1 h

theorem VR.inv_agg {cs:List V}{v:Value}(h:VR g tk w (.agg cs) v) : ∃ vs,v = .agg vs∧(∀ v∈vs.toList,iE v=true)∧VRs g tk w cs vs.toList:=by
 cases h with
 | agg _ vs hl h1 h =>
  refine⟨vs,rfl,fun v hv=>?_,VRs.of_get (by simpa using hl) (fun i c v hc hv=>h i c v hc (by simpa using hv))⟩
  obtain⟨i,hi⟩:=bQ hv
  exact h1 i v (by simpa using hi)

theorem DR.inv_agg {f:Nat→Nat→Prop}{ds:List D}{vs:Array Value}(h:DR f w (.agg ds) (.agg vs)):(∀ v∈vs.toList,iE v=true)∧DRs f w ds vs.toList:=by
 cases h with
 | agg _ _ hl h1 h' =>
  refine⟨fun v hv=>?_,DRs.of_get (by simpa using hl) (fun i c v hc hv=>h' i c v hc (by simpa using hv))⟩
  obtain⟨i,hi⟩:=bQ hv
  exact h1 i v (by simpa using hi)

theorem VR.inv_da {ds:List D}{v:Value}(h:VR g tk w (.da ds) v) : ∃ vs,v = .agg vs∧(∀ v∈vs.toList,iE v=true)∧DRs g.frz w ds vs.toList:=by
 cases h with
 | da _ vs h=>exact⟨vs,rfl,h.inv_agg⟩

theorem DRs.to_v : ∀ {ds:List D} {vs:List Value},(∀ v∈vs,iE v=true)→DRs g.frz w ds vs→VRs g tk w (ds.map .d) vs
 | [],[],_,_=>trivial
 | _::_,_::_,h1,h=>⟨.d _ _ h.1 (h1 _ (by simp)),DRs.to_v (fun v hv=>h1 v (by simp [hv])) h.2⟩
 | [],_::_,_,h=>h.elim
 | _::_,[],_,h=>h.elim

theorem VR.cells {v:V}{x:Value}{l:List V}(h:VR g tk w v x)(hl:v.cells=some l):VRs g tk w l x.cells.toList∧(∀ u∈x.cells.toList,iE u=true):=by
 have one : ∀ {v:V} {x:Value},VR g tk w v x→VRs g tk w [v] [x]:=fun h=>⟨h,trivial⟩
 cases h with
 | d y _ h h1 =>
  simp only [V.cells] at hl
  cases hl
  have:x.cells = #[x]:=by cases x <;> simp [iE] at h1 <;> rfl
  rw [this]
  exact⟨one (.d _ _ h h1),by simpa using h1⟩
 | da cs vs h =>
  simp only [V.cells] at hl
  cases hl
  obtain⟨h1,h2⟩:=h.inv_agg
  exact⟨DRs.to_v h1 h2,h1⟩
 | agg cs vs hl' h1 h =>
  simp only [V.cells] at hl
  cases hl
  obtain⟨vs',e,h2,h3⟩:=(VR.agg _ vs hl' h1 h:VR g tk w _ _).inv_agg
  cases e
  exact⟨h3,h2⟩
 | any v=>simp [V.cells] at hl
 | gone=>simp [V.cells] at hl
 | tup cs vs hl' h=>simp [V.cells] at hl
 | ref r off h=>simp only [V.cells] at hl; cases hl; exact⟨one (.ref _ _ h),by simp [Value.cells,iE]⟩
 | yld r h=>simp only [V.cells] at hl; cases hl; exact⟨one (.yld _ h),by simp [Value.cells,iE]⟩
 | iter r h=>simp only [V.cells] at hl; cases hl; exact⟨one (.iter _ h),by simp [Value.cells,iE]⟩
 | ro cs b o cv hf hc h1 hd=>simp only [V.cells] at hl; cases hl; exact⟨one (.ro _ _ _ _ hf hc h1 hd),by simp [Value.cells,iE]⟩
 | sl r off len sz cap a h hcap hsz hin hout ha hsp hlim=>simp only [V.cells] at hl; cases hl; exact⟨one (.sl _ _ _ _ _ _ h hcap hsz hin hout ha hsp hlim),by simp [Value.cells,iE]⟩
 | fl rows a h=>simp only [V.cells] at hl; cases hl; exact⟨one (.fl _ _ h),by simp [Value.cells,iE]⟩
 | tl rows t st sz k a cap hd ht hle hh hsz ha=>simp only [V.cells] at hl; cases hl; exact⟨one (.tl _ _ _ _ _ _ _ hd ht hle hh hsz ha),by simp [Value.cells,iE]⟩
 | map r h=>simp only [V.cells] at hl; cases hl; exact⟨one (.map _ h),by simp [Value.cells,iE]⟩
 | fn f a b a' b' h1 h2 h3 h4=>simp only [V.cells] at hl; cases hl; exact⟨one (.fn _ _ _ _ _ h1 h2 h3 h4),by simp [Value.cells,iE]⟩
 | ifc t v x h=>simp only [V.cells] at hl; cases hl; exact⟨one (.ifc _ _ _ h),by simp [Value.cells,iE]⟩

theorem iS {b:Nat}{c:Array Value}{e:TypeId}{fz:Nat×Nat}(h:w.heap[b]?=some (.cells c e fz))(o:Nat):w.cell? ⟨b,o,none⟩=c[o]?:=by
 simp [World.cell?,h]

theorem iJ (b o n:Nat):(⟨b,o,none⟩:Addr).add n=⟨b,o+n,none⟩:=by
 unfold Addr.add
 split <;> simp_all

theorem aCW {t:TypeId}(h:okT P t=true) : ∃ d,P.underlying t=some d:=Option.isSome_iff_exists.1 h

theorem sV {t:TypeId}(h:okT P t=true):(isAgg t).run P w = .ok (oN P t) w:=by
 obtain⟨d,hd⟩:=aCW h
 unfold isAgg oN
 simp only [Sem.run_bind,run_underlying hd,aV,hd]
 cases d <;> rfl

theorem pI {t:TypeId}(h:okT P t=true):(sizeOf t).run P w = .ok (P.cellsOf t) w:=by
 obtain⟨d,hd⟩:=aCW h
 obtain⟨i,hi⟩:=info_of_underlying hd
 exact run_sizeOf w hi

theorem aEp {t:TypeId}(h:oN P t=true):okT P t=true:=by
 unfold oN at h
 unfold okT
 split at h <;> simp_all

theorem rC {t:TypeId}(ha:oN P t=true){b o:Nat}{vs:List Value}(hl:vs.length=P.cellsOf t)(hc : ∀ k,k<vs.length→w.cell? ⟨b,o+k,none⟩=vs[k]?) :
  (loadVar t ⟨b,o,none⟩).run P w = .ok (.agg vs.toArray) w:=by
 have hok:=aEp ha
 unfold loadVar
 simp only [Sem.run_bind,sV hok,aV,ha,if_true,pI hok]
 rw [← hl,run_loadCells_list w ⟨b,o,none⟩ vs (fun j v hv=>by
  have hj:j<vs.length:=by
   rcases bR j vs.length with h | h
   ·exact h
   ·simp [aR h] at hv
  rw [iJ,hc j hj]; exact hv)]
 rfl

theorem rD {t:TypeId}(hok:okT P t=true)(ha:oN P t=false){a:Addr}{v:Value}(hc:w.cell? a=some v):(loadVar t a).run P w = .ok v w:=by
 unfold loadVar
 simp only [Sem.run_bind,sV hok,aV,ha,aP,if_false]
 simp [load,Sem.run,hc]

theorem Sim.cell (hs:Sim g σ w){r:Nat}{cs:List V}(h:σ.objs[r]?=some (.cells cs)){j:Nat}{v:V}(hj:cs[j]?=some v) :
  ∃ cv,w.cell? ⟨(g.obj r).1,(g.obj r).2+j,none⟩=some cv∧iE cv=true∧VR g σ.toks w v cv:=by
 obtain⟨_,c,e,fz,hb,_,hc⟩:=hs.cells r cs h
 obtain⟨cv,h1,h2,h3⟩:=hc j v hj
 exact⟨cv,by rw [iS hb,h1],h2,h3⟩

theorem Sim.stretch (hs:Sim g σ w){r:Nat}{cs:List V}(h:σ.objs[r]?=some (.cells cs))(off n:Nat)(hn:off+n≤cs.length) :
  ∃ vs:List Value,vs.length=n∧(∀ k,k<n→w.cell? ⟨(g.obj r).1,(g.obj r).2+off+k,none⟩=vs[k]?)∧(∀ v∈vs,iE v=true)∧VRs g σ.toks w ((cs.drop off).take n) vs:=by
 induction n with
 | zero=>exact⟨[],rfl,fun k hk=>by omega,by simp,by simp [VRs]⟩
 | succ n ih =>
  obtain⟨vs,h1,h2,h4,h3⟩:=ih (by omega)
  obtain⟨v,hv⟩ : ∃ v,cs[off+n]?=some v:=⟨cs[off+n],by simp [bO (show off+n<cs.length by omega)]⟩
  obtain⟨cv,hc,ho,hr⟩:=hs.cell h hv
  refine⟨vs++[cv],by simp [h1],fun k hk=>?_,fun v hv=>?_,?_⟩
  ·by_cases hkn:k<n
   ·rw [h2 k hkn,aC (by omega)]
   ·have:k=n:=by omega
    subst this
    rw [show(g.obj r).2+off+k=(g.obj r).2+(off+k) by omega,hc,bH (by omega),h1]
    simp
  ·rcases aW.1 hv with h | h
   ·exact h4 v h
   ·simp at h; subst h; exact ho
  ·have e:(cs.drop off).take (n+1)=(cs.drop off).take n++[v]:=by
    rw [List.take_add_one,List.getElem?_drop,hv]
    rfl
   rw [e]
   exact h3.append ⟨hr,trivial⟩

theorem zQ (hs:Sim g σ w){t:TypeId}(hok:okT P t=true){x v:V}{cx:Value}(hx:VR g σ.toks w x cx)(h:loadAt σ (oN P t) (P.cellsOf t) x=some v) :
  ∃ cv,(Instr.loadAt t cx).run P w = .ok cv w∧VR g σ.toks w v cv:=by
 unfold loadAt at h
 split at h
 ·rename_i r off
  split at h
  ·rename_i cs hr
   cases hx with
   | ref _ _ hh =>
    split at h
    ·rename_i ha
     split at h
     ·rename_i hn
      cases h
      obtain⟨vs,h1,h2,h4,h3⟩:=hs.stretch hr off (P.cellsOf t) hn
      exact⟨.agg vs.toArray,by
       simp only [Instr.loadAt,Instr.sureAddr,Sem.run_bind,Sem.run_pure,aV]
       exact rC ha h1 (fun k hk=>h2 k (by omega)),VR.mkAgg_of (by simpa using h4) (by simpa using h3)⟩
     ·cases h
    ·rename_i ha
     obtain⟨cv,hc,_,hv⟩:=hs.cell hr h
     exact⟨cv,by
      simp only [Instr.loadAt,Instr.sureAddr,Sem.run_bind,Sem.run_pure,aV]
      exact rD hok (by simpa using ha) hc,hv⟩
  ·cases h
 ·rename_i cs
  cases hx with
  | ro _ b o cv hf hc h1 hd =>
   split at h
   ·rename_i ha
    split at h
    ·rename_i hn
     cases h
     refine⟨.agg ((List.range (P.cellsOf t)).map cv).toArray,?_,.da _ _ (DR.agg_of (fun v hv=>?_) ?_)⟩
     ·simp only [Instr.loadAt,Instr.sureAddr,Sem.run_bind,Sem.run_pure,aV]
      refine rC ha (by simp) (fun k hk=>?_)
      simp at hk
      rw [hc k (by omega)]
      simp [hk]
     ·simp at hv
      obtain⟨k,hk,rfl⟩:=hv
      exact h1 k (by omega)
     ·refine DRs.of_get (by simp; omega) (fun i d v hi hv=>?_)
      rw [List.getElem?_take] at hi
      split at hi
      ·rename_i hlt
       simp [hlt] at hv
       subst hv
       exact hd i d hi
      ·cases hi
    ·cases h
   ·rename_i ha
    split at h
    ·rename_i c r
     cases h
     refine⟨cv 0,?_,.d _ _ (hd 0 c rfl) (h1 0 (by simp))⟩
     simp only [Instr.loadAt,Instr.sureAddr,Sem.run_bind,Sem.run_pure,aV]
     exact rD hok (by simpa using ha) (by simpa using hc 0 (by simp))
    ·cases h
 ·cases h

theorem uN {t:TypeId}(ha:oN P t=true){cs:Array Value}(off:Nat):(part t cs off).run P w = .ok (.agg (cs.extract off (off+P.cellsOf t))) w:=by
 have hok:=aEp ha
 unfold part
 simp only [Sem.run_bind,sV hok,aV,ha,if_true,pI hok,Sem.run_pure]

theorem uO {t:TypeId}(hok:okT P t=true)(ha:oN P t=false){cs:Array Value}{off:Nat}{v:Value}(h:cs[off]?=some v):(part t cs off).run P w = .ok v w:=by
 unfold part
 simp only [Sem.run_bind,sV hok,aV,ha,aP,if_false,h,Sem.run_pure]

theorem xD {vs:Array Value}(h : ∀ v∈vs.toList,iE v=true)(a b:Nat) : ∀ v∈(vs.extract a b).toList,iE v=true:=fun v hv=>by
 rw [Array.toList_extract] at hv
 simp only [List.extract] at hv
 exact h v (List.mem_of_mem_drop (List.mem_of_mem_take hv))

theorem aAa {t:TypeId}(hok:okT P t=true){off:Nat}{x v:V}{cx:Value}(hx:VR g tk w x cx)(h:dL (oN P t) off (P.cellsOf t) x=some v) :
  ∃ cs cv,cx = .agg cs∧(part t cs off).run P w = .ok cv w∧VR g tk w v cv:=by
 unfold dL at h
 split at h
 ·rename_i l
  obtain⟨vs,rfl,h1,hd⟩:=hx.inv_da
  split at h
  ·rename_i ha
   split at h
   ·cases h
    refine⟨vs,_,rfl,uN ha off,.da _ _ (DR.agg_of (xD h1 _ _) ?_)⟩
    have:=VRs.of_d (g:=g) (tk:=tk) (w:=w) (ds:=(l.drop off).take (P.cellsOf t)) (vs:=(vs.toList.drop off).take (P.cellsOf t)) (by
     rw [List.map_take,List.map_drop]
     exact(VRs.drop off (DRs.to_v h1 hd)).take _)
    rw [Array.toList_extract]
    simpa [List.extract] using this
   ·cases h
  ·rename_i ha
   split at h
   ·rename_i c hc
    cases h
    obtain⟨u,hu⟩ : ∃ u,vs[off]?=some u:=by
     have hlt:off<l.length:=by
      rcases bR off l.length with h | h
      ·exact h
      ·simp [aR h] at hc
     have:off<vs.size:=by have:=hd.length; simp at this; omega
     exact⟨vs[off],by simp [this]⟩
    exact⟨vs,u,rfl,uO hok (by simpa using ha) hu,.d _ _ (hd.get off c u hc (by simpa using hu)) (h1 u (aL (by simpa using hu)))⟩
   ·cases h
 ·rename_i l
  obtain⟨vs,rfl,h1,hd⟩:=hx.inv_agg
  split at h
  ·rename_i ha
   split at h
   ·cases h
    refine⟨vs,_,rfl,uN ha off,VR.mkAgg_of (xD h1 _ _) ?_⟩
    rw [Array.toList_extract]
    simpa [List.extract] using (hd.drop off).take (P.cellsOf t)
   ·cases h
  ·rename_i ha
   obtain⟨u,hu⟩ : ∃ u,vs[off]?=some u:=by
    have hlt:off<l.length:=by
     rcases bR off l.length with h' | h'
     ·exact h'
     ·simp [aR h'] at h
    have:off<vs.size:=by have:=hd.length; simp at this; omega
    exact⟨vs[off],by simp [this]⟩
   exact⟨vs,u,rfl,uO hok (by simpa using ha) hu,hd.get off v u h (by simpa using hu)⟩
 ·cases h

end Go.Dn

/- Slices, indexes, conversions, composite literals; every operation that leaves the store alone. -/
namespace Go.Dn

variable {P:Program} {g:Gh} {σ:St} {tk:List Nat} {w:World}

theorem lC (sz n:Nat)(l:List D):(gJ sz n l).length=n:=by
 induction n generalizing l with
 | zero=>rfl
 | succ n ih=>simp [gJ,ih]

theorem mC (sz n:Nat)(l:List D)(i:Nat):(gJ sz n l)[i]?=if i<n then some ((l.drop (i*sz)).take sz) else none:=by
 induction n generalizing l i with
 | zero=>simp [gJ]
 | succ n ih =>
  cases i with
  | zero=>simp [gJ]
  | succ i =>
   simp only [gJ,List.getElem?_cons_succ,ih,List.drop_drop,Nat.add_lt_add_iff_right]
   rw [show sz+i*sz=(i+1)*sz by rw [bJ]; omega]

structure aGo (f:Nat→Nat→Prop)(w:World)(rows:List (List D))(sz:Nat)(a:Addr)(cv:Nat→Value):Prop where
 hsz : ∀ (i:Nat) (row:List D),rows[i]?=some row→row.length=sz
 hc : ∀ k,k<rows.length*sz→w.cell? (a.add k)=some (cv k)
 h1 : ∀ k,k<rows.length*sz→iE (cv k)=true
 hd : ∀ (i:Nat) (row:List D) (j:Nat) (d:D),rows[i]?=some row→row[j]?=some d→DR f w d (cv (i*sz+j))

def aCi (f:Nat→Nat→Prop)(w:World)(rows:List (List D))(cx:Value):Prop :=
 (cx = .slice none 0 0∧rows=[])∨∃ a cap sz cv,cx = .slice (some a) rows.length cap∧rows.length≤cap∧aGo f w rows sz a cv

theorem DR.rows {f:Nat→Nat→Prop}{rows:List (List D)}{v:Value}(h:DR f w (.list rows) v) : ∃ a cap sz cv,v = .slice (some a) rows.length cap∧rows.length≤cap∧aGo f w rows sz a cv:=by
 cases h with
 | list _ b o cap sz cv hcap hsz hf hc h1 hd =>
  exact⟨_,cap,sz,cv,rfl,hcap,hsz,fun k hk=>by rw [iJ]; exact hc k hk,h1,hd⟩
 | list0 a cap =>
  exact⟨a,cap,0,fun _=>undef,rfl,Nat.zero_le _,fun i row h=>by simp at h,fun k hk=>by simp at hk,fun k hk=>by simp at hk,fun i row j d h=>by simp at h⟩

theorem oW (hs:Sim g σ w){x:V}{cx:Value}(hx:VR g σ.toks w x cx){rows:List (List D)}(h:V.rows σ x=some rows):aCi g.frz w rows cx:=by
 unfold V.rows at h
 split at h
 ·cases h
  have:=hx.inv_d
  cases this
  exact .inl ⟨rfl,rfl⟩
 ·cases h; exact .inr hx.inv_d.rows
 ·cases h; cases hx with
  | fl _ a h=>exact .inr (by simpa using h.rows)
 ·cases h; cases hx with
  | tl _ t st sz k a cap hd ht hle hh hsz ha=>exact .inr hd.rows
 ·rename_i r off len sz
  split at h
  ·rename_i cs hr
   split at h
   ·rename_i l hl
    cases h
    cases hx with
    | sl _ _ _ _ cap a hh hcap hsz hin hout ha =>
     have hlen:cs.length=g.len r:=(hs.cells r cs hr).1
     obtain⟨vs,v1,v2,v3,v4⟩:=hs.stretch hr off (len*sz) (by omega)
     rw [lX hl] at v4
     have hds:=v4.of_d
     have hll:l.length=len*sz:=by rw [hds.length,v1]
     refine .inr ⟨a,cap,sz,fun k=>vs.getD k undef,by rw [lC],by rw [lC]; exact hcap,?_,?_,?_,?_⟩
     ·intro i row hrow
      rw [mC] at hrow
      split at hrow
      ·rename_i hi
       cases hrow
       have:i*sz+sz≤len*sz:=by
        have:=bE sz (show i+1≤len from hi)
        rw [bJ] at this; omega
       simp [hll]; omega
      ·cases hrow
     ·intro k hk
      rw [lC] at hk
      rw [ha (by omega),iJ,v2 k hk]
      simp [bO (show k<vs.length by omega)]
     ·intro k hk
      rw [lC] at hk
      have hlt:k<vs.length:=by omega
      refine v3 _ ?_
      simp [bA,bO hlt]
     ·intro i row j d hrow hd
      rw [mC] at hrow
      split at hrow
      ·rename_i hi
       cases hrow
       rw [List.getElem?_take] at hd
       split at hd
       ·rename_i hj
        rw [List.getElem?_drop] at hd
        have hlt:i*sz+j<vs.length:=by
         have:=bE sz (show i+1≤len from hi)
         rw [bJ] at this; omega
        have:=hds.get (i*sz+j) d vs[i*sz+j] hd (by simp [bO hlt])
        simpa [bA,bO hlt] using this
       ·cases hd
      ·cases hrow
   ·cases h
  ·cases h
 ·cases h

theorem pS {x:V}{cx:Value}(hx:VR g tk w x cx){n:Int}(h:jX x=some n) : ∃ k,cx = .int k n:=by
 unfold jX at h
 split at h
 ·cases h; exact⟨_,hx.inv_int⟩
 ·cases h

theorem iP {e:TypeId}(hc:P.cellsOf e≠0):(sizeOf e).run P w = .ok (P.cellsOf e) w:=by
 unfold Program.cellsOf at hc
 cases hi:P.info? e with
 | none=>simp [hi] at hc
 | some i=>exact run_sizeOf w hi

theorem aH3 (a:Addr)(m n:Nat):(a.add m).add n=a.add (m+n):=by
 unfold Addr.add
 by_cases h1:m=0 <;> by_cases h2:n=0 <;> simp [h1,h2] <;> omega

end Go.Dn

/- New blocks that stay as they are. -/
namespace Go.Dn

variable {P:Program} {g:Gh} {σ:St} {tk:List Nat} {w:World}

theorem hO {b:Nat}{o:Go.Obj}(h:w.heap[b]?=some o):b<w.heap.size:=(bW.1 h).1

theorem nG {b o:Nat}{v:Value}(h:w.cell? ⟨b,o,none⟩=some v):b<w.heap.size:=by
 unfold World.cell? at h
 split at h
 ·rename_i hb; exact hO hb
 ·cases h

structure Grown1 (w:World)(o:Go.Obj)(w':World):Prop where
 heap:w'.heap=w.heap.push o
 os:w'.os=w.os
 tape:w'.tape=w.tape
 output:w'.output=w.output

theorem Grown1.old {o:Go.Obj}{w':World}(h:Grown1 w o w'){b:Nat}(hb:b<w.heap.size):w'.heap[b]?=w.heap[b]?:=by
 rw [h.heap,Array.getElem?_push]
 split
 ·omega
 ·rfl

theorem Grown1.new {o:Go.Obj}{w':World}(h:Grown1 w o w'):w'.heap[w.heap.size]?=some o:=by
 rw [h.heap]; simp

theorem Grown1.cell {o:Go.Obj}{w':World}(h:Grown1 w o w'){b:Nat}(hb:b<w.heap.size)(q:Nat):w'.cell? ⟨b,q,none⟩=w.cell? ⟨b,q,none⟩:=by
 unfold World.cell?
 rw [h.old hb]

theorem Grown1.size {o:Go.Obj}{w':World}(h:Grown1 w o w'):w'.heap.size=w.heap.size+1:=by
 rw [h.heap]; simp

def Gh.freeze (g:Gh)(b n:Nat):Gh:={ g with frz:=fun b' q=>g.frz b' q∨(b'=b∧q<n) }

theorem aIt (hs:Sim g σ w){b:Nat}(h:rE g σ b):b<w.heap.size:=by
 rcases h with⟨r,o,ho,hl,rfl⟩ | ⟨t,k,ht,rfl⟩
 ·exact hs.blk ho hl
 ·obtain⟨_,c,e,fz,hb,_⟩:=hs.tok t k ht
  exact hO hb

theorem Sim.push_frz (hs:Sim g σ w){c:Array Value}{e:TypeId}{fz:Nat×Nat}{w':World}(h:Grown1 w (.cells c e fz) w') :
  Sim (g.freeze w.heap.size c.size) σ w'∧Ev g σ w (g.freeze w.heap.size c.size) σ w':=by
 have hcell : ∀ b q,g.frz b q→w'.cell? ⟨b,q,none⟩=w.cell? ⟨b,q,none⟩:=fun b q hf=>by
  obtain⟨v,hv⟩:=hs.frzb b q hf
  exact h.cell (nG hv) q
 have hl:Later g σ.toks w (g.freeze w.heap.size c.size) σ.toks w' :=
  ⟨⟨fun b q hf=>.inl hf,hcell⟩,fun r hr=>⟨hr,rfl,rfl⟩,fun t k ht=>⟨k,ht,bB _,fun _=>rfl,rfl⟩,rfl,fun _ _=>rfl⟩
 refine⟨⟨hs.has,hs.bound,hs.free,fun r cs hr=>?_,fun r o hr ho=>?_,hs.dist,fun r o ho hlv q=>?_,fun t k ht=>?_,hs.tdist,hs.tobj,fun b q hf=>?_,fun r cs hr=>⟨(hs.lims r cs hr).1,fun c' e' fz' hb=>(hs.lims r cs hr).2 c' e' fz' (by rw [← h.old (hs.blk hr trivial)]; exact hb)⟩⟩,⟨hl,by rw [h.size]; omega,h.os,h.tape,h.output,fun b hb _=>h.old hb,fun b hb=>.inl hb,fun b q hf=>?_⟩⟩
 ·obtain⟨h1,c',e',fz',hb,hn,hc⟩:=hs.cells r cs hr
  refine⟨h1,c',e',fz',by rw [show((g.freeze w.heap.size c.size).obj r)=g.obj r from rfl,h.old (hO hb)]; exact hb,hn,fun j v hj=>?_⟩
  obtain⟨cv,h1,h2,h3⟩:=hc j v hj
  exact⟨cv,h1,h2,h3.later hl⟩
 ·obtain⟨x,h1,h2⟩:=hs.oth r o hr ho
  exact⟨x,by rw [show((g.freeze w.heap.size c.size).obj r)=g.obj r from rfl,h.old (hO h1)]; exact h1,h2.later hl⟩
 ·rintro (hf | ⟨hb,_⟩)
  ·exact hs.nofrz r o ho hlv q hf
  ·have:=hs.blk ho hlv
   have hb2:(g.obj r).1=w.heap.size:=hb
   omega
 ·obtain⟨h0,c',e',fz',hb,hn,hsz,hf⟩:=hs.tok t k ht
  refine⟨h0,c',e',fz',by rw [show((g.freeze w.heap.size c.size).tok t)=g.tok t from rfl,h.old (hO hb)]; exact hb,hn,hsz,fun q hq=>?_⟩
  rintro (hf' | ⟨hb',_⟩)
  ·exact hf q hq hf'
  ·have:=hO hb
   have hb2:(g.tok t).b=w.heap.size:=hb'
   omega
 ·rcases hf with hf | ⟨rfl,hq⟩
  ·obtain⟨v,hv⟩:=hs.frzb b q hf
   exact⟨v,by rw [hcell b q hf]; exact hv⟩
  ·exact⟨c[q],by rw [iS h.new]; simp [hq]⟩
 ·rcases hf with hf | ⟨rfl,hq⟩
  ·exact .inl hf
  ·exact .inr (.inr (bB _))

theorem aCO {f:Nat→Nat→Prop}{b:Nat}{c:Array Value}{e:TypeId}{fz:Nat×Nat}(hb:w.heap[b]?=some (.cells c e fz)){rows:List (List D)}{sz cap:Nat}(hcap:rows.length≤cap)
  (hsz : ∀ (i:Nat) (row:List D),rows[i]?=some row→row.length=sz) (hf : ∀ k,k<rows.length*sz→f b k) (hn:rows.length*sz≤c.size) (h1 : ∀ k,k<rows.length*sz→iE (c.getD k undef)=true)
  (hd : ∀ (i:Nat) (row:List D) (j:Nat) (d:D),rows[i]?=some row→row[j]?=some d→DR f w d (c.getD (i*sz+j) undef)) :
  DR f w (.list rows) (.slice (some ⟨b,0,none⟩) rows.length cap):=by
 refine .list rows b 0 cap sz (fun k=>c.getD k undef) hcap hsz (fun k hk=>by rw [Nat.zero_add]; exact hf k hk) (fun k hk=>?_) h1 hd
 rw [Nat.zero_add,iS hb]
 simp [show k<c.size by omega]

theorem kC {α:Type}(cs:List α)(off:Nat)(xs:List α)(h:off+xs.length≤cs.length):(splice cs off xs).length=cs.length:=by
 simp [splice]; omega

theorem kB {α:Type}(cs:List α)(off:Nat)(xs:List α)(h:off+xs.length≤cs.length)(k:Nat) :
  (splice cs off xs)[k]?=if off≤k∧k<off+xs.length then xs[k-off]? else cs[k]?:=by
 unfold splice
 by_cases h1:k<off
 ·rw [bV,aC (by simp; omega),List.getElem?_take]
  simp [h1,show ¬ off≤k by omega]
 ·by_cases h2:k<off+xs.length
  ·rw [bV,bH (by simp; omega),aC (by simp; omega)]
   simp only [List.length_take,show off≤k by omega,h2,and_self,if_true]
   congr 1
   omega
  ·rw [bH (by simp; omega),List.getElem?_drop]
   simp only [aX,List.length_take,show ¬ (k<off+xs.length) from h2,and_false,if_false]
   congr 1
   omega

theorem VRs.splice {cs:List V}{vs:List Value}{xs:List V}{us:List Value}(off:Nat)(h:VRs g tk w cs vs)(h':VRs g tk w xs us):VRs g tk w (Dn.splice cs off xs) (Dn.splice vs off us):=by
 unfold Dn.splice
 rw [h'.length]
 exact((h.take off).append h').append (h.drop _)

theorem aFo (l:List Value)(off:Nat) : ∀ (i:Nat) (cs:Array Value),off+i+l.length≤cs.size →
  ((l.zipIdx i).foldl (fun cs (p:Value×Nat)=>cs.setIfInBounds (off+p.2) p.1) cs).toList=splice cs.toList (off+i) l:=by
 induction l with
 | nil=>intro i cs h; simp [splice]
 | cons x l ih =>
  intro i cs h
  simp only [List.zipIdx_cons,List.foldl_cons]
  rw [ih (i+1) _ (by simp; simp at h; omega)]
  apply List.ext_getElem?
  intro k
  have e1:off+i+1+l.length≤(cs.setIfInBounds (off+i) x).toList.length:=by simp at h ⊢; omega
  rw [show off+(i+1)=off+i+1 by omega,kB _ _ _ (by simpa using e1),kB _ _ _ (by simpa using h)]
  simp only [List.length_cons,Array.toList_setIfInBounds]
  by_cases hk:off+i+1≤k∧k<off+i+1+l.length
  ·rw [if_pos hk,if_pos ⟨by omega,by omega⟩,show k-(off+i)=(k-(off+i+1))+1 by omega,List.getElem?_cons_succ]
  ·rw [if_neg hk]
   by_cases hk2:k=off+i
   ·subst hk2
    rw [if_pos ⟨by omega,by omega⟩]
    simp only [Nat.sub_self,List.getElem?_cons_zero]
    rw [aO (by simp at h ⊢; omega)]
   ·rw [if_neg (by omega),aF (fun e=>hk2 e.symm)]

end Go.Dn

/- The single operations, one lemma each. -/
namespace Go.Dn
open Go.Lib

variable {P:Program} {g:Gh} {σ:St} {tk:List Nat} {w:World}

def PStep (P:Program)(g:Gh) (σ:St)(w:World)(s:Sem Value)(v:V):Prop :=
 ∃ cv w' g',s.run P w = .ok cv w'∧Sim g' σ w'∧VR g' σ.toks w' v cv∧Ev g σ w g' σ w'

theorem PStep.still (hs:Sim g σ w){s:Sem Value}{v:V}{cv:Value}(h:s.run P w = .ok cv w)(hv:VR g σ.toks w v cv):PStep P g σ w s v :=
 ⟨cv,w,g,h,hs,hv,Ev.refl _ _ _⟩

theorem uK : ∀ {rows:List (List D)} {l:List UInt8},rX rows=some l→(∀ (i:Nat) (row:List D),rows[i]?=some row→∃ n:Int,row=[.int .u8 n]) ∧
  ∃ ns:List Int,rows=ns.map (fun n=>[D.int .u8 n])∧l=ns.map (fun n=>UInt8.ofNat n.toNat)
 | [],l,h=>by simp [rX] at h; subst h; exact⟨fun i row hr=>by simp at hr,[],rfl,rfl⟩
 | r::rs,l,h=>by
  unfold rX at h
  split at h
  ·rename_i heq; cases heq
  ·rename_i n rest heq
   cases heq
   split at h
   ·rename_i m hm
    cases h
    obtain⟨h1,ns,h2,h3⟩:=uK hm
    refine⟨fun i row hr=>?_,n::ns,by simp [h2],by simp [h3]⟩
    cases i with
    | zero=>simp at hr; exact⟨n,hr.symm⟩
    | succ i=>simp at hr; exact h1 i row hr
   ·cases h
  ·cases h

theorem aFC (ns:List Int)(s:ByteArray):ns.foldl (fun r n=>r.push (UInt8.ofNat n.toNat)) s=⟨(s.data.toList++ns.map (fun n=>UInt8.ofNat n.toNat)).toArray⟩:=by
 induction ns generalizing s with
 | nil=>simp
 | cons n ns ih =>
  simp only [List.foldl_cons,ih]
  apply ByteArray.ext
  simp [ByteArray.push]

theorem aGF (hs:Sim g σ w){src dst:TypeId}{k:Conv}(hk:yU P src dst=some k){x v:V}{cx:Value}(hx:VR g σ.toks w x cx)(h:cF σ k x=some v):PStep P g σ w (Go.convert src dst cx) v:=by
 unfold yU at hk
 split at hk
 ·rename_i k' hu1 hu2
  cases hk
  simp only [cF] at h
  split at h
  ·cases h
   have e:=hx.inv_int
   subst e
   exact PStep.still hs (by simp [Go.convert,run_underlying hu1,run_underlying hu2,Conv.intToInt]) (.int _ _)
  ·cases h
 ·rename_i hu1 hu2
  cases hk
  simp only [cF] at h
  split at h
  ·cases h
   have ec:=hx.inv_str
   subst ec
   exact PStep.still hs (by simp [Go.convert,run_underlying hu1,run_underlying hu2]) (.str _)
  ·cases h
 ·rename_i e hu1 hu2
  split at hk
  ·rename_i hu3
   cases hk
   simp only [cF] at h
   split at h
   ·rename_i s
    cases h
    have ec:=hx.inv_str
    subst ec
    have hrun:=Lib.run_convert_string_bytes (P:=P) w src dst e ⟨s.toArray⟩ hu1 hu2 hu3
    have hnew:=bytesWorld_at_new w e ⟨s.toArray⟩
    have hgr:Grown1 w (.cells (bytesCells w e ⟨s.toArray⟩) e ((bytesCells w e ⟨s.toArray⟩).size,(bytesCells w e ⟨s.toArray⟩).size+1)) (bytesWorld w e ⟨s.toArray⟩):=by
     refine⟨?_,rfl,rfl,rfl⟩
     apply Array.ext_getElem?
     intro i
     rcases Nat.lt_trichotomy i w.heap.size with h | h | h
     ·rw [bytesWorld_at_old w e _ i h,Array.getElem?_push]
      simp [show i≠w.heap.size by omega]
     ·subst h; rw [hnew]; simp
     ·rw [Array.getElem?_eq_none (by rw [bytesWorld_size]; omega),Array.getElem?_eq_none (by simp; omega)]
    obtain⟨h1,h2⟩:=hs.push_frz hgr
    have hsz:(bytesCells w e ⟨s.toArray⟩).size=s.length+(grownCap w s.length 0 e-s.length):=by
     simp [bytesCells,kS]
    have hget : ∀ k,k<s.length→(bytesCells w e ⟨s.toArray⟩).getD k undef = .int .u8 ((s.getD k 0).toNat):=by
     intro k hk
     simp [bytesCells,Array.getD_eq_getD_getElem?,Array.getElem?_append,hk,bA]
    refine⟨_,_,_,hrun,h1,.d _ _ ?_ rfl,h2⟩
    have hl:(cC s).length=s.length:=by simp [cC]
    rw [kS,← hl]
    have hgc:=grownCap_ge w s.length 0 e
    refine aCO (sz:=1) hnew (by rw [hl]; exact hgc) (fun i row hr=>?_) (fun k hk=>?_) ?_ (fun k hk=>?_) (fun i row j d hr hd=>?_)
    ·simp only [cC,bG,Option.map_eq_some_iff] at hr
     obtain⟨b,_,rfl⟩:=hr
     rfl
    ·rw [hl] at hk
     exact .inr ⟨rfl,by rw [hsz]; omega⟩
    ·rw [hl,hsz]; omega
    ·rw [hl] at hk
     rw [hget k (by omega)]
     rfl
    ·simp only [cC,bG,Option.map_eq_some_iff] at hr
     obtain⟨b,hb,rfl⟩:=hr
     have hi:i<s.length:=by
      rcases bR i s.length with h | h
      ·exact h
      ·simp [aR h] at hb
     have hj:j=0:=by
      rcases Nat.eq_zero_or_pos j with h | h
      ·exact h
      ·rw [aR (by simp; omega)] at hd; cases hd
     subst hj
     simp at hd
     subst hd
     rw [Nat.mul_one,Nat.add_zero,hget i hi,bA,hb]
     exact .int _ _
   ·cases h
  ·cases hk
 ·rename_i e hu1 hu2
  split at hk
  ·rename_i hu3
   cases hk
   simp only [cF] at h
   split at h
   ·rename_i rows hr
    split at h
    ·rename_i l hl
     cases h
     obtain⟨hone,ns,hns,rfl⟩:=uK hl
     rcases oW hs hx hr with⟨rfl,rfl⟩ | ⟨a,cap,sz,cv,rfl,hcap,hat⟩
     ·have:ns=[]:=by cases ns; rfl; simp at hns
      subst this
      refine PStep.still hs ?_ (.str [])
      rw [run_convert_bytes_string w src dst e none 0 0 hu1 hu3 hu2]
      simp [Conv.bytesToString]
      rfl
     ·refine PStep.still hs ?_ (.str _)
      have hlen:rows.length=ns.length:=by rw [hns]; simp
      rw [run_convert_bytes_string w src dst e (some a) _ cap hu1 hu3 hu2,run_bytesToString w a _ cap ns,aFC]
      ·rfl
      ·by_cases hz:rows.length=0
       ·rw [hz]
        have:ns=[]:=bP (by omega)
        subst this
        rfl
       ·have hsz1:sz=1:=by
         have h0:rows[0]?=some rows[0]:=by simp
         obtain⟨n,hn⟩:=hone 0 _ h0
         rw [← hat.hsz 0 _ h0,hn]
         rfl
        subst hsz1
        rw [hlen,← (show(ns.map (Value.int .u8)).length=ns.length by simp)]
        refine run_loadCells_list w a _ (fun j v hv=>?_)
        simp only [bG,Option.map_eq_some_iff] at hv
        obtain⟨n,hn,rfl⟩:=hv
        have hj:j<ns.length:=by
         rcases bR j ns.length with h | h
         ·exact h
         ·simp [aR h] at hn
        rw [hat.hc j (by omega)]
        have hrow:rows[j]?=some [D.int .u8 n]:=by rw [hns]; simp [hn]
        have:=hat.hd j _ 0 (.int .u8 n) hrow rfl
        rw [Nat.mul_one,Nat.add_zero] at this
        rw [this.inv_int]
    ·cases h
   ·cases h
  ·cases hk
 ·cases hk

end Go.Dn

/- Addresses, indexes, slices, lengths, least and greatest, interface values. -/
namespace Go.Dn
open Go.Lib

variable {P:Program} {g:Gh} {σ:St} {tk:List Nat} {w:World}

theorem wR {t:TypeId}{i off:Nat}{ft:TypeId}(h:sH P t i=some (off,ft)) : ∃ fs f,P.underlying t=some (.struct fs)∧fs[i]?=some f∧f.offset=off∧f.type=ft∧P.cellsOf ft≠0∧okT P ft=true:=by
 unfold sH at h
 split at h
 ·rename_i fs hu
  split at h
  ·rename_i f hf
   split at h
   ·cases h
   ·rename_i hc
    cases h
    simp only [not_or,Bool.not_eq_false] at hc
    exact⟨fs,f,hu,hf,rfl,rfl,hc.1,hc.2⟩
  ·cases h
 ·cases h

theorem VR.ro_drop {cs:List D}{b o:Nat}{cv:Nat→Value}(hf : ∀ k,k<cs.length→g.frz b (o+k))(hc : ∀ k,k<cs.length→w.cell? ⟨b,o+k,none⟩=some (cv k))(h1 : ∀ k,k<cs.length→iE (cv k)=true)
  (hd : ∀ (k:Nat) (d:D),cs[k]?=some d→DR g.frz w d (cv k)) (off:Nat):VR g tk w (.ro (cs.drop off)) (.pointer (some ⟨b,o+off,none⟩)):=by
 refine .ro _ b (o+off) (fun k=>cv (off+k)) (fun k hk=>?_) (fun k hk=>?_) (fun k hk=>?_) (fun k d hk=>?_)
 ·simp at hk; rw [Nat.add_assoc]; exact hf _ (by omega)
 ·simp at hk; rw [Nat.add_assoc]; exact hc _ (by omega)
 ·simp at hk; exact h1 _ (by omega)
 ·rw [List.getElem?_drop] at hk; exact hd _ d hk

theorem aFk (hs:Sim g σ w){t:TypeId}{i off:Nat}{ft:TypeId}(hf:sH P t i=some (off,ft)){x v:V}{cx:Value}(hx:VR g σ.toks w x cx)
  (h:cH off x=some v) :
  PStep P g σ w (Instr.fieldAt t cx i) v:=by
 obtain⟨fs,f,hu,hfi,rfl,rfl,hc,hok⟩:=wR hf
 have run : ∀ a:Addr,(Instr.fieldAt t (.pointer (some a)) i).run P w = .ok (.pointer (some (a.add f.offset))) w:=by
  intro a
  simp [Instr.fieldAt,run_underlying hu,hfi,Instr.sureAddr,fieldPlace,pI hok,hc]
 unfold cH at h
 split at h
 ·rename_i r o
  cases h
  cases hx with
  | ref _ _ hh =>
   refine PStep.still hs (run _) ?_
   rw [iJ,Nat.add_assoc]
   exact .ref _ _ hh
 ·rename_i cs
  split at h
  ·cases h
   cases hx with
   | ro _ b o cv hf' hc' h1 hd =>
    refine PStep.still hs (run _) ?_
    rw [iJ]
    exact VR.ro_drop hf' hc' h1 hd _
  ·cases h
 ·cases h

theorem aFl (hs:Sim g σ w){t:TypeId}{i off:Nat}{ft:TypeId}(hf:sH P t i=some (off,ft)){x v:V}{cx:Value}(hx:VR g σ.toks w x cx)(h:dL (oN P ft) off (P.cellsOf ft) x=some v) :
  PStep P g σ w (Instr.field t cx i) v:=by
 obtain⟨fs,f,hu,hfi,rfl,rfl,hc,hok⟩:=wR hf
 obtain⟨cs,cv,rfl,h1,h2⟩:=aAa hok hx h
 exact PStep.still hs (by simp [Instr.field,run_underlying hu,hfi,asAgg,h1]) h2

theorem aIJ {x:V}{cx:Value}(hx:VR g σ.toks w x cx)(hn : ∀ r off len sz,x ≠ .sl r off len sz){rows:List (List D)}(h:V.rows σ x=some rows):(cx = .slice none 0 0∧rows=[])∨DR g.frz w (.list rows) cx:=by
 unfold V.rows at h
 split at h
 ·cases h; have:=hx.inv_d; cases this; exact .inl ⟨rfl,rfl⟩
 ·cases h; exact .inr hx.inv_d
 ·cases h; cases hx with
  | fl _ a h=>exact .inr h
 ·cases h; cases hx with
  | tl _ t st sz k a cap hd ht hle hh hsz ha=>exact .inr hd
 ·exact absurd rfl (hn _ _ _ _)
 ·cases h

theorem aFr (hs:Sim g σ w){t e:TypeId}(hu:P.underlying t=some (.slice e))(hc:P.cellsOf e≠0){x i v:V}{cx ci:Value}(hx:VR g σ.toks w x cx)(hi:VR g σ.toks w i ci)
  (h:jA σ (P.cellsOf e) x i=some v):PStep P g σ w (Instr.indexAt t cx ci) v:=by
 have run : ∀ (a:Addr) (len cap:Nat) (k:IntKind) (j:Int),0≤j→j<len→(Instr.indexAt t (.slice (some a) len cap) (.int k j)).run P w = .ok (.pointer (some (a.add (j.toNat*P.cellsOf e)))) w:=by
  intro a len cap k j h0 h1
  simp [Instr.indexAt,asIntOf,run_underlying hu,h0,h1,iP hc]
 unfold jA at h
 split at h
 ·rename_i j hj
  obtain⟨k,rfl⟩:=pS hi hj
  split at h
  ·rename_i r off len s
   split at h
   ·rename_i hb
    obtain⟨rfl,h0,h1⟩:=hb
    cases h
    cases hx with
    | sl _ _ _ _ cap a hh hcap hsz hin hout ha =>
     refine PStep.still hs (run a len cap k j h0 h1) ?_
     have hjl:j.toNat+1≤len:=by omega
     have:=bE (P.cellsOf e) hjl
     rw [bJ] at this
     rw [ha (by omega),iJ,Nat.add_assoc]
     exact .ref _ _ hh
   ·cases h
  ·rename_i hn
   split at h
   ·rename_i rows hr
    split at h
    ·rename_i hb
     split at h
     ·rename_i row hrow
      split at h
      ·rename_i hlen
       cases h
       rcases aIJ hx (fun r off len sz e=>hn r off len sz e) hr with⟨rfl,rfl⟩ | hd
       ·simp at hrow
       ·cases hd with
        | list0 _ _=>simp at hrow
        | list _ b o cap sz cv hcap hsz hf hc' h1 hd =>
         have hs1:=hsz _ row hrow
         have hi:j.toNat<rows.length:=by omega
         have hm:=bE sz (show j.toNat+1≤rows.length from hi)
         rw [bJ] at hm
         refine PStep.still hs (run ⟨b,o,none⟩ rows.length cap k j hb.1 hb.2) ?_
         rw [iJ,← hlen,hs1]
         refine .ro row b (o+j.toNat*sz) (fun q=>cv (j.toNat*sz+q)) (fun q hq=>?_) (fun q hq=>?_) (fun q hq=>?_) (fun q d hq=>hd _ row q d hrow hq)
         ·rw [Nat.add_assoc]; exact hf _ (by omega)
         ·rw [Nat.add_assoc]; exact hc' _ (by omega)
         ·exact h1 _ (by omega)
      ·cases h
     ·cases h
    ·cases h
   ·cases h
 ·cases h

theorem aBE (hs:Sim g σ w){t e:TypeId}{n:Nat}(hu:P.underlying t=some (.array n e))(hc:P.cellsOf e≠0){x i v:V}{cx ci:Value}(hx:VR g σ.toks w x cx)(hi:VR g σ.toks w i ci)
  (h:kZ n (P.cellsOf e) x i=some v):PStep P g σ w (Instr.indexAt t cx ci) v:=by
 have run : ∀ (a:Addr) (k:IntKind) (j:Int),0≤j→j<n→(Instr.indexAt t (.pointer (some a)) (.int k j)).run P w = .ok (.pointer (some (a.add (j.toNat*P.cellsOf e)))) w:=by
  intro a k j h0 h1
  simp [Instr.indexAt,asIntOf,run_underlying hu,h0,h1,Instr.sureAddr,iP hc]
 unfold kZ at h
 split at h
 ·rename_i j hj
  obtain⟨k,rfl⟩:=pS hi hj
  split at h
  ·rename_i hb
   split at h
   ·cases h
    cases hx with
    | ref _ _ hh =>
     refine PStep.still hs (run _ k j hb.1 hb.2) ?_
     rw [iJ,Nat.add_assoc]
     exact .ref _ _ hh
   ·split at h
    ·cases h
     cases hx with
     | ro _ b o cv hf' hc' h1 hd =>
      refine PStep.still hs (run _ k j hb.1 hb.2) ?_
      rw [iJ]
      exact VR.ro_drop hf' hc' h1 hd _
    ·cases h
   ·cases h
  ·cases h
 ·cases h

theorem aFs (hs:Sim g σ w){t e:TypeId}{n:Nat}(hu:P.underlying t=some (.array n e))(hok:okT P e=true){x i v:V}{cx ci:Value}(hx:VR g σ.toks w x cx)(hi:VR g σ.toks w i ci)
  (h:zH (oN P e) n (P.cellsOf e) x i=some v):PStep P g σ w (Instr.index t cx ci) v:=by
 unfold zH at h
 split at h
 ·rename_i j hj
  obtain⟨k,rfl⟩:=pS hi hj
  split at h
  ·rename_i hb
   obtain⟨cs,cv,rfl,h1,h2⟩:=aAa hok hx h
   exact PStep.still hs (by simp [Instr.index,asIntOf,run_underlying hu,hb.1,hb.2,pI hok,h1]) h2
  ·cases h
 ·cases h

theorem aBH (hs:Sim g σ w){t:TypeId}(hu:P.underlying t=some .string){x i v:V}{cx ci:Value}(hx:VR g σ.toks w x cx)(hi:VR g σ.toks w i ci)
  (h:pX x i=some v):PStep P g σ w (Instr.index t cx ci) v:=by
 unfold pX at h
 split at h
 ·rename_i s j hj
  obtain⟨k,rfl⟩:=pS hi hj
  have:=hx.inv_str
  subst this
  split at h
  ·rename_i h0
   split at h
   ·rename_i b hb
    cases h
    refine PStep.still hs ?_ (.int _ _)
    have hlt:j.toNat<s.length:=by
     rcases bR j.toNat s.length with h | h
     ·exact h
     ·simp [aR h] at hb
    have hg:(⟨s.toArray⟩:ByteArray)[j.toNat]?=some b:=by
     have hsz:j.toNat<(⟨s.toArray⟩:ByteArray).size:=by rw [kS]; exact hlt
     rw [getElem?_pos (⟨s.toArray⟩:ByteArray) j.toNat hsz]
     have:(⟨s.toArray⟩:ByteArray)[j.toNat]=s[j.toNat]:=rfl
     rw [this]
     simpa [bO hlt] using hb
    simp [Instr.index,asIntOf,run_underlying hu,h0,hg]
   ·cases h
  ·cases h
 ·cases h

theorem kK {x:V}{cx:Value}(hx:VR g tk w x cx){i:Int}(h:jX x=some i){y:Nat}(h0:0≤i)(h1:i≤y)(code:BoundsCode):(Instr.sliceBound cx y code).run P w = .ok i.toNat w:=by
 obtain⟨k,rfl⟩:=pS hx h
 simp [Instr.sliceBound,asIntOf,h0,h1]

def xP (g:Gh)(tk:List Nat)(w:World)(x:Option V)(c:Option Value):Prop :=
 match x,c with
 | none,none=>True
 | some v,some cv=>VR g tk w v cv
 | _,_=>False

theorem iU {lo hi:Option V}{clo chi:Option Value}(hlo:xP g tk w lo clo)(hhi:xP g tk w hi chi){len cap:Nat}{l h:Int}(isSlice:Bool)
  (hl:jN 0 lo=some l) (hh:jN len hi=some h) (h0:0≤l) (h1:l≤h) (h2:h≤cap) :
  (Instr.sliceBounds isSlice len cap clo chi none).run P w = .ok (l.toNat,h.toNat,cap) w:=by
 unfold Instr.sliceBounds
 cases hi with
 | none =>
  cases chi with
  | none =>
   simp [jN] at hh
   subst hh
   cases lo with
   | none =>
    cases clo with
    | none=>simp [jN] at hl; subst hl; simp
    | some c=>exact hlo.elim
   | some x =>
    cases clo with
    | none=>exact hlo.elim
    | some c =>
     simp only [Sem.run_bind,Sem.run_pure,aV,kK (P:=P) hlo hl h0 h1,Option.isSome_none,aP,if_false]
     simp
  | some c=>exact hhi.elim
 | some y =>
  cases chi with
  | none=>exact hhi.elim
  | some c =>
   have hb:=fun code=>kK (P:=P) (y:=cap) hhi hh (by omega) h2 code
   cases lo with
   | none =>
    cases clo with
    | none=>simp [jN] at hl; subst hl; simp [hb]
    | some c=>exact hlo.elim
   | some x =>
    cases clo with
    | none=>exact hlo.elim
    | some c' =>
     have hb2:=fun code=>kK (P:=P) (y:=h.toNat) hlo hl h0 (by omega) code
     simp [hb,hb2]

theorem vV {lo hi:Option V}{clo chi:Option Value}(hlo:xP g tk w lo clo)(hhi:xP g tk w hi chi){m:V}{cm:Value}(hm:VR g tk w m cm){len cap:Nat}{l h k:Int}(isSlice:Bool)
  (hl:jN 0 lo=some l) {y:V} (hy:hi=some y) (hh:jX y=some h) (hk:jX m=some k) (h0:0≤l) (h1:l≤h) (h2:h≤k) (h3:k≤cap) :
  (Instr.sliceBounds isSlice len cap clo chi (some cm)).run P w = .ok (l.toNat,h.toNat,k.toNat) w:=by
 unfold Instr.sliceBounds
 subst hy
 cases chi with
 | none=>exact hhi.elim
 | some c =>
  have hbm:=fun code=>kK (P:=P) (y:=cap) hm hk (by omega) h3 code
  have hbh:=fun code=>kK (P:=P) (y:=k.toNat) hhi hh (by omega) (by omega) code
  cases lo with
  | none =>
   cases clo with
   | none=>simp [jN] at hl; subst hl; simp [hbm,hbh]
   | some c=>exact hlo.elim
  | some x =>
   cases clo with
   | none=>exact hlo.elim
   | some c' =>
    have hbl:=fun code=>kK (P:=P) (y:=h.toNat) hlo hl h0 (by omega) code
    simp [hbm,hbh,hbl]

end Go.Dn
