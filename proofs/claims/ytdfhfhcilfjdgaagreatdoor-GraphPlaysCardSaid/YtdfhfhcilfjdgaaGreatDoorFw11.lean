import Derived.CallsIn
import Derived.Laws.Entries
import GoSem.ClaimKeys
import Derived.DeepKeys2
import Derived.WalkKit
import Derived.DeepKeys
import Derived.Lib.ConvBytes
import Derived.Laws.BytesString
set_option linter.unusedVariables false
set_option linter.unusedSimpArgs false
open List renaming reduceReplicate → aA,getElem?_eq_some_iff → aB,getElem?_append_left → aC,replicate → aD,getElem?_set_ne → aE,cons_append → aF,append_nil → aG,map_cons → aH,nil_append → aI,take_of_length_le → aK,mem_of_getElem? → aL,map_nil → aM,getElem?_set_self → aO,mem_map → aQ,getElem?_eq_none → aR,length_map → aS,mem_append → aU,mem_filter → aX,length_append → aY,take_append_getElem → aZ,getD_eq_getElem?_getD → bA,take_length → bC,mem_singleton → bD,getElem?_map → bG,getElem?_append_right → bH,drop_zero → bJ,getElem?_eq_getElem → bO,eq_nil_of_length_eq_zero → bP,take_append_of_le_length → bQ,getElem?_of_mem → bR,drop_of_length_le → bS,append_assoc → bU,mem_cons → bV,map_append → bX,map_map → bY,mem_append_right → bZ
open Go.IntKind renaming i64 → aJ,u64 → bL
open Option renaming some → aN
open Bool renaming false_eq_true → aP,and_eq_true → aT
open Go.Builtin renaming zeroCells → aV,append_ → bE,firstCells → bM
open Go.Result renaming andThen_ok → aW
open Nat renaming le_refl → bB,mul_le_mul_right → bF,add_mul → bI,lt_or_ge → bT
open Array renaming getElem?_eq_some_iff → bW
/- Abstract data, abstract store, the small compiled language, and its meaning (no proof about the machine here). -/
namespace Go.Dn

inductive D where
 | int (k:IntKind) (n:Int)
 | bool (b:Bool)
 | str (s:List UInt8)
 | nilp | nils | nilm | nilf | nili
 | iface (t:Nat) (d:D)
 | list (rows:List (List D))
 | agg (cs:List D)
 deriving Inhabited

inductive V where
 | d (x:D)
 | da (cs:List D)
 | agg (cs:List V)
 | tup (vs:List V)
 | ref (r off:Nat)
 | ro (cs:List D)
 | sl (r off len sz:Nat)
 | fl (rows:List (List D))
 | tl (rows:List (List D)) (t st sz:Nat)
 | map (r:Nat)
 | yld (r:Nat)
 | iter (r:Nat)
 | fn (f:Fn) (first caps:List V)
 | ifc (t:Nat) (v:V)
 | gone
 | any
 deriving Inhabited

abbrev Env:=List (Nat×V)

def Env.get:Env→Nat→V
 | [],_=>.any
 | (s,v)::r,t=>if s=t then v else Env.get r t

def Env.set:Env→Nat→V→Env
 | [],t,x=>[(t,x)]
 | (s,v)::r,t,x=>if s=t then(t,x)::r else(s,v)::Env.set r t x

def Env.pick (e:Env)(ks:List Nat):Env:=ks.map fun k=>(k,e.get k)

inductive Opd where
 | t (n:Nat)
 | c (x:D)
 | ca (l:List D)
 | f (k:Nat)
 deriving Inhabited

def Opd.ev (e:Env):Opd→V
 | .t n=>e.get n
 | .c x=>.d x
 | .ca l=>.da l
 | .f k=>.fn (.func k) [] []

inductive Ty where
 | int | bool | str | ptr | slice | map | func | iface | flat
 deriving Inhabited,DecidableEq

inductive Lf where
 | int (k:IntKind) | bool | str
 deriving Inhabited,DecidableEq

inductive Conv where
 | int (k:IntKind)
 | strBytes (e:Nat)
 | bytesStr
 | same
 deriving Inhabited,DecidableEq

inductive POp where
 | move (x:Opd)
 | pick (c a b:Opd)
 | bin (op:BinOp) (ty:Ty) (ks:List Lf) (x y:Opd)
 | una (op:UnOp) (x:Opd)
 | conv (k:Conv) (x:Opd)
 | load (agg:Bool) (n:Nat) (x:Opd)
 | nilCheck (x:Opd)
 | faddr (off:Nat) (x:Opd)
 | field (agg:Bool) (off n:Nat) (x:Opd)
 | iaddr (sz:Nat) (x i:Opd)
 | iaddrArr (len sz:Nat) (x i:Opd)
 | index (agg:Bool) (len sz:Nat) (x i:Opd)
 | indexStr (x i:Opd)
 | slice (sz:Nat) (x:Opd) (lo hi mx:Option Opd)
 | sliceStr (x:Opd) (lo hi:Option Opd)
 | sliceArr (n sz:Nat) (x:Opd) (lo hi:Option Opd)
 | bslice (e len sz:Nat) (zero:List D) (parts:List (Nat×Opd))
 | build (zero:List D) (parts:List (Nat×Nat×Opd))
 | len (ty:Ty) (x:Opd)
 | lenArr (n:Nat)
 | cap (x:Opd)
 | min (xs:List Opd)
 | max (xs:List Opd)
 | mkif (t:Nat) (x:Opd)
 | assert (t:Nat) (zero:Opd) (ok:Bool) (x:Opd)
 | extract (x:Opd) (i:Nat)
 | mkfn (f:Fn) (first caps:List Opd)
 | lookup (ka:Bool) (ks:List Lf) (zero:Opd) (ok:Bool) (x k:Opd)
 | mkfl (sz bytes:Nat) (zero:List D) (len cap:Opd)
 deriving Inhabited

inductive EOp where
 | alloc (zero:List V)
 | box (x:Opd)
 | store (n:Nat) (a x:Opd)
 | append (e sz bytes:Nat) (s x:Opd)
 | appendStr (e:Nat) (s x:Opd)
 | appendZero (e sz bytes:Nat) (zero:List D) (s n:Opd)
 | copy (sz:Nat) (s x:Opd)
 | clear (sz:Nat) (zero:List D) (s:Opd)
 | makeSlice (e sz bytes:Nat) (zero:List D) (len cap:Opd)
 | makeMap
 | mapUpdate (ka:Bool) (ks:List Lf) (m k x:Opd)
 | mapDelete (ka:Bool) (ks:List Lf) (m k:Opd)
 | range (x:Opd)
 | entry (x:Opd)
 | cloneMap (x:Opd)
 deriving Inhabited

inductive Mode where
 | val | raw | rd | rnd
 deriving Inhabited,DecidableEq

inductive Ins where
 | p (dst:Option Nat) (op:POp)
 | e (dst:Option Nat) (op:EOp)
 | call (dst:Option Nat) (f:Nat) (args:List Opd)
 | callv (dst:Option Nat) (f:Opd) (args:List Opd)
 | next (dst:Option Nat) (it:Opd)
 | when (s:Nat) (want:Bool) (body:List Ins)
 deriving Inhabited

structure DOp where
 guard:Option (Nat×Bool)
 ins:Ins
 after:List Nat
 al:Nat
 deriving Inhabited

inductive C where
 | skip
 | ops (ks:List Nat) (l:List Ins)
 | drw (ks:List Nat) (na:Nat) (l:List DOp)
 | seq (a b:C)
 | cond (c:Opd) (thn els:C)
 | block (id:Nat) (body:C)
 | loop (ks:List Nat) (body:C)
 | exit (id:Nat)
 | ret
 | rangeF (ks:List Nat) (f:Opd) (ps:List Nat) (a b:C)
 deriving Inhabited

inductive Ex where
 | normal | exit (id:Nat) | ret
 deriving Inhabited

inductive LSt where
 | ready | busy | done (x:Ex)
 deriving Inhabited

inductive Obj where
 | cells (cs:List V)
 | map (es:List (Nat×V×V)) (clock:Nat)
 | iter (m:Option Nat) (since:Nat) (seen:List Nat) (last:Nat)
 | loop (e:Env) (ps:List Nat) (a b:C) (st:LSt)
 | dead
 | free
 deriving Inhabited

structure St where
 objs:List Obj
 toks:List Nat

def St.empty:St:=⟨[],[]⟩

def V.isD:V→Bool
 | .d _=>true
 | _=>false

def ofD:List V→Option (List D)
 | []=>some []
 | .d x::r=>match ofD r with
  | some l=>some (x::l)
  | none=>none
 | _::_=>none

def cC (cs:List V):V :=
 match ofD cs with
 | some l=>.da l
 | none=>.agg cs

def V.cells:V→Option (List V)
 | .da l=>some (l.map .d)
 | .agg l=>some l
 | .tup _ | .any | .gone=>none
 | v=>some [v]

def gL (sz:Nat):Nat→List D→List (List D)
 | 0,_=>[]
 | n+1,l=>l.take sz::gL sz n (l.drop sz)

def V.rows (σ:St):V→Option (List (List D))
 | .d .nils=>some []
 | .d (.list rows)=>some rows
 | .fl rows=>some rows
 | .tl rows _ _ _=>some rows
 | .sl r off len sz=>match σ.objs[r]? with
  | some (.cells cs)=>match ofD ((cs.drop off).take (len*sz)) with
   | some l=>some (gL sz len l)
   | none=>none
  | _=>none
 | _=>none

def V.byVal1 (σ:St):V→Option D
 | .d x=>some x
 | .fl rows=>some (.list rows)
 | .tl rows _ _ _=>some (.list rows)
 | .sl r off len sz=>match V.rows σ (.sl r off len sz) with
  | some rows=>some (.list rows)
  | none=>none
 | _=>none
def kA (σ:St):List V→Option (List D)
 | []=>some []
 | v::r=>match v.byVal1 σ,kA σ r with
  | some x,some l=>some (x::l)
  | _,_=>none

def V.byVal (σ:St):V→Option V
 | .d x=>some (.d x)
 | .da l=>some (.da l)
 | .fl rows=>some (.d (.list rows))
 | .tl rows _ _ _=>some (.d (.list rows))
 | .sl r off len sz=>match V.rows σ (.sl r off len sz) with
  | some rows=>some (.d (.list rows))
  | none=>none
 | .agg cs=>match kA σ cs with
  | some l=>some (.da l)
  | none=>none
 | _=>none

def V.fromLo (lo:Nat):V→Bool
 | .sl r _ _ _=>decide (lo≤r)
 | _=>true

def V.byValN (lo:Nat) (σ:St):V→Option V
 | .sl r off len sz=>if lo≤r then V.byVal σ (.sl r off len sz) else none
 | .agg cs=>if cs.all (V.fromLo lo)=true then V.byVal σ (.agg cs) else none
 | v=>V.byVal σ v

def V.borrow1:V→Bool
 | .sl .. => true
 | _=>false
def V.borrows:V→Bool
 | .sl .. => true
 | .agg cs=>cs.any V.borrow1
 | _=>false

def V.flatv:V→Bool
 | .d _ | .da _=>true
 | _=>false

def V.pure:V→Bool
 | .d _ | .da _=>true
 | .tup vs=>vs.all V.flatv
 | _=>false

def D.scalar:D→Bool
 | .int .. | .bool _ | .str _ | .nilp | .nils | .nilm | .nilf | .nili=>true
 | .iface _ (.int ..)=>true
 | _=>false

def V.scalar:V→Bool
 | .d x=>x.scalar
 | .da l=>l.all D.scalar
 | _=>false

def V.scalars:V→Bool
 | .tup vs=>vs.all V.scalar
 | v=>v.scalar

end Go.Dn

/- The meaning of the small language: a weakest precondition aGY pure data. Nothing about the machine yet. -/
namespace Go.Dn

noncomputable section
open Classical

def Lf.fits:Lf→D→Bool
 | .int k,.int k' n=>k==k'&&decide (k.min≤n)&&decide (n≤k.max)
 | .bool,.bool _=>true
 | .str,.str s=>decide (s.length≤9223372036854775807)
 | _,_=>false

def fK:List Lf→List D→Bool
 | [],[]=>true
 | k::ks,d::ds=>k.fits d&&fK ks ds
 | _,_=>false

def eS (op:BinOp)(k:IntKind)(a b:Int):Option V :=
 match op with
 | .add=>some (.d (.int k (k.wrap (a+b))))
 | .sub=>some (.d (.int k (k.wrap (a-b))))
 | .mul=>some (.d (.int k (k.wrap (a*b))))
 | .quo=>if b=0 then none else some (.d (.int k (k.wrap (a.tdiv b))))
 | .rem=>if b=0 then none else some (.d (.int k (a.tmod b)))
 | .and=>some (.d (.int k (bits .and k a b)))
 | .or=>some (.d (.int k (bits .or k a b)))
 | .xor=>some (.d (.int k (bits .xor k a b)))
 | .andNot=>some (.d (.int k (bits .andNot k a b)))
 | .eql=>some (.d (.bool (decide (a=b))))
 | .neq=>some (.d (.bool (!decide (a=b))))
 | .lss=>some (.d (.bool (decide (a<b))))
 | .leq=>some (.d (.bool (decide (a≤b))))
 | .gtr=>some (.d (.bool (decide (b<a))))
 | .geq=>some (.d (.bool (decide (b≤a))))
 | _=>none

def iN (op:BinOp)(k:IntKind)(a b:Int):Option V :=
 if b<0 then none else
 match op with
 | .shl=>some (.d (.int k (k.wrap (a*2 ^ (min b.toNat k.bits)))))
 | .shr=>some (.d (.int k (a / 2 ^ (min b.toNat k.bits))))
 | _=>none

def aD9 (op:BinOp)(a b:List UInt8):Option V :=
 match op with
 | .add=>if ((a.length+b.length:Nat):Int)≤9223372036854775807 then some (.d (.str (a++b))) else none
 | .eql=>some (.d (.bool (decide (a=b))))
 | .neq=>some (.d (.bool (!decide (a=b))))
 | .lss=>some (.d (.bool (Op.bytesLess a b)))
 | .leq=>some (.d (.bool (Op.bytesLess a b||decide (a=b))))
 | .gtr=>some (.d (.bool (!(Op.bytesLess a b||decide (a=b)))))
 | .geq=>some (.d (.bool (!Op.bytesLess a b)))
 | _=>none

def V.isNil:Ty→V→Option Bool
 | .ptr,.d .nilp=>some true
 | .ptr,.ref _ _=>some false
 | .ptr,.ro _=>some false
 | .slice,.d .nils=>some true
 | .slice,.d (.list _)=>some false
 | .slice,.fl _=>some false
 | .slice,.tl _ _ _ _=>some false
 | .slice,.sl .. => some false
 | .map,.d .nilm=>some true
 | .map,.map _=>some false
 | .func,.d .nilf=>some true
 | .func,.fn .. => some false
 | .iface,.d .nili=>some true
 | .iface,.d (.iface ..)=>some false
 | .iface,.ifc .. => some false
 | _,_=>none

def eqV (ty:Ty)(ks:List Lf)(x y:V)(xc yc:Bool):Option Bool :=
 match ty with
 | .bool=>match x,y with
  | .d (.bool a),.d (.bool b)=>some (a==b)
  | _,_=>none
 | .flat=>match x,y with
  | .da a,.da b=>if fK ks a&&fK ks b then some (decide (a=b)) else none
  | _,_=>none
 | t=>match V.isNil t x,V.isNil t y with
  | some true,some true=>if t = .iface then(if xc||yc then some true else none) else some true
  | some true,some false=>some false
  | some false,some true=>some false
  | _,_=>none

def Opd.isC:Opd→Bool
 | .c _=>true
 | .ca _=>true
 | _=>false

def cE (op:BinOp)(ty:Ty)(ks:List Lf)(x y:V)(xc yc:Bool):Option V :=
 match x,y with
 | .d (.int k a),.d (.int k' b) =>
  match op with
  | .shl | .shr=>iN op k a b
  | op=>if k=k' then eS op k a b else none
 | .d (.str a),.d (.str b)=>aD9 op a b
 | x,y=>match op with
  | .eql=>(eqV ty ks x y xc yc).map fun b=>.d (.bool b)
  | .neq=>(eqV ty ks x y xc yc).map fun b=>.d (.bool !b)
  | _=>none

def eU (op:UnOp)(x:V):Option V :=
 match op,x with
 | .not,.d (.bool b)=>some (.d (.bool !b))
 | .neg,.d (.int k n)=>some (.d (.int k (k.wrap (0-n))))
 | .xor,.d (.int k n)=>some (.d (.int k (bits .xor k (if k.signed then -1 else k.max) n)))
 | _,_=>none

def cF (s:List UInt8):List (List D):=s.map fun b=>[D.int .u8 b.toNat]

def rZ:List (List D)→Option (List UInt8)
 | []=>some []
 | [.int .u8 n]::r=>match rZ r with
  | some l=>some (UInt8.ofNat n.toNat::l)
  | none=>none
 | _::_=>none

def cI (σ:St)(k:Conv)(x:V):Option V :=
 match k with
 | .int k=>match x with
  | .d (.int _ n)=>some (.d (.int k (k.wrap n)))
  | _=>none
 | .strBytes _=>match x with
  | .d (.str s)=>some (.d (.list (cF s)))
  | _=>none
 | .bytesStr=>match V.rows σ x with
  | some rows=>match rZ rows with
   | some l=>some (.d (.str l))
   | none=>none
  | none=>none
 | .same=>match x with
  | .d (.str s)=>some (.d (.str s))
  | _=>none

def splice {α:Type}(cs:List α)(off:Nat)(xs:List α):List α:=cs.take off++xs++cs.drop (off+xs.length)

def loadAt (σ:St)(agg:Bool)(n:Nat)(x:V):Option V :=
 match x with
 | .ref r off=>match σ.objs[r]? with
  | some (.cells cs) =>
   if agg then(if off+n≤cs.length then some (cC ((cs.drop off).take n)) else none)
   else cs[off]?
  | _=>none
 | .ro cs =>
  if agg then(if n≤cs.length then some (.da (cs.take n)) else none)
  else match cs with
   | c::_=>some (.d c)
   | []=>none
 | _=>none

def dO (agg:Bool)(off n:Nat)(x:V):Option V :=
 match x with
 | .da l =>
  if agg then(if off+n≤l.length then some (.da ((l.drop off).take n)) else none)
  else match l[off]? with
   | some c=>some (.d c)
   | none=>none
 | .agg l =>
  if agg then(if off+n≤l.length then some (cC ((l.drop off).take n)) else none)
  else l[off]?
 | _=>none

def jZ:V→Option Int
 | .d (.int _ n)=>some n
 | _=>none

def jQ (dflt:Nat):Option V→Option Int
 | none=>some dflt
 | some x=>jZ x

def kS (sz:Nat)(rows:List (List D)):Bool:=rows.all fun r=>r.length==sz

def jY (sz:Nat)(x:V)(lo hi:Nat)(mx:Option Nat):Option V :=
 match x,mx with
 | .d .nils,none=>if hi=0 then some (.d .nils) else none
 | .d .nils,some m=>if m=0 then some (.d .nils) else none
 | .d (.list rows),none=>if kS sz rows=true∧hi≤rows.length then some (.d (.list ((rows.drop lo).take (hi-lo)))) else none
 | .fl rows,none=>if kS sz rows=false then none else if hi=rows.length then some (.fl (rows.drop lo)) else if hi≤rows.length then some (.d (.list ((rows.drop lo).take (hi-lo)))) else none
 | .tl rows t st s,none=>if kS sz rows=false∨s≠sz then none else if hi=rows.length then some (.tl (rows.drop lo) t (st+lo) s) else if hi≤rows.length then some (.d (.list ((rows.drop lo).take (hi-lo)))) else none
 | .sl r off len s,none=>if s=sz∧hi≤len then some (.sl r (off+lo*sz) (hi-lo) sz) else none
 | .d (.list rows),some m=>if kS sz rows=true∧m=hi∧hi≤rows.length then some (.fl ((rows.drop lo).take (hi-lo))) else none
 | .fl rows,some m=>if kS sz rows=true∧m=hi∧hi≤rows.length then some (.fl ((rows.drop lo).take (hi-lo))) else none
 | .tl rows _ _ _,some m=>if kS sz rows=true∧m=hi∧hi≤rows.length then some (.fl ((rows.drop lo).take (hi-lo))) else none
 | .sl _ _ _ s,some m=>if s=sz∧hi=0∧m=0 then some (.fl []) else none
 | _,_=>none

def lenV (σ:St)(x:V):Option Nat :=
 match x with
 | .d .nils=>some 0
 | .d (.list rows)=>some rows.length
 | .fl rows=>some rows.length
 | .tl rows _ _ _=>some rows.length
 | .sl _ _ len _=>some len
 | _=>none

def gZ (σ:St)(ty:Ty)(x:V):Option Nat :=
 match ty with
 | .slice=>lenV σ x
 | .str=>match x with
  | .d (.str s)=>some s.length
  | _=>none
 | .map=>match x with
  | .d .nilm=>some 0
  | .map r=>match σ.objs[r]? with
   | some (.map es _)=>some es.length
   | _=>none
  | _=>none
 | _=>none

def fI (cs:List V):List (Nat×Nat×V)→Option (List V)
 | []=>some cs
 | (off,size,v)::r =>
  match v.cells with
  | some vs=>if vs.length=size∧off+size≤cs.length then fI (splice cs off vs) r else none
  | none=>none

def pG:Int→List V→IntKind→Option Int
 | m,[],_=>some m
 | m,.d (.int k n)::r,k0=>if k=k0 then pG (if n<m then n else m) r k0 else none
 | _,_,_=>none

def uK:Int→List V→IntKind→Option Int
 | m,[],_=>some m
 | m,.d (.int k n)::r,k0=>if k=k0 then uK (if m<n then n else m) r k0 else none
 | _,_,_=>none

def vK:List V→Option V
 | .d (.int k n)::r=>match pG n r k with | some m=>some (.d (.int k m)) | none=>none
 | _=>none

def aDR:List V→Option V
 | .d (.int k n)::r=>match uK n r k with | some m=>some (.d (.int k m)) | none=>none
 | _=>none

def oR:V→V
 | .fl r=>.d (.list r)
 | .tl r _ _ _=>.d (.list r)
 | v=>v

def iM (n:Nat)(zero:List D):List V :=
 match n with
 | 0=>[]
 | n+1=>zero.map .d++iM n zero

def jD (ka:Bool)(ks:List Lf):V→Bool
 | .d d=>!ka&&fK ks [d]
 | .da l=>ka&&fK ks l
 | _=>false

def zG (ka:Bool)(ks:List Lf)(es:List (Nat×V×V)):Prop:=∀ x∈es,jD ka ks x.2.1=true

def uF (k:V):List (Nat×V×V)→Option V
 | []=>none
 | (_,k',v)::r=>if k'=k then some v else uF k r

def aAE (k v:V):List (Nat×V×V)→List (Nat×V×V)
 | []=>[]
 | (b,k',v')::r=>if k'=k then(b,k,v)::r else(b,k',v')::aAE k v r

def uB (k:V):List (Nat×V×V)→List (Nat×V×V)
 | []=>[]
 | (b,k',v')::r=>if k'=k then r else(b,k',v')::uB k r

def rV (σ:St)(ka:Bool)(ks:List Lf)(x k:V):Option (Option V) :=
 if jD ka ks k=false then none else
 match x with
 | .d .nilm=>some none
 | .map r=>match σ.objs[r]? with
  | some (.map es _)=>if zG ka ks es then some (uF k es) else none
  | _=>none
 | _=>none

def jK (σ:St)(ka:Bool)(ks:List Lf)(zero:V)(ok:Bool)(x k:V):Option V :=
 match rV σ ka ks x k with
 | some (some v)=>some (if ok then .tup [v,.d (.bool true)] else v)
 | some none=>some (if ok then .tup [zero,.d (.bool false)] else zero)
 | none=>none

def gR:V→Option V
 | .ref r off=>some (.ref r off)
 | .ro cs=>some (.ro cs)
 | .fn (.func f) first caps=>some (.fn (.func f) first caps)
 | _=>none

def cJ (off:Nat):V→Option V
 | .ref r o=>some (.ref r (o+off))
 | .ro cs=>if off≤cs.length then some (.ro (cs.drop off)) else none
 | _=>none

def jC (σ:St)(sz:Nat)(x i:V):Option V :=
 match jZ i with
 | some j=>match x with
  | .sl r off len s=>if s=sz∧0≤j∧j<len then some (.ref r (off+j.toNat*sz)) else none
  | y=>match V.rows σ y with
   | some rows=>if 0≤j∧j<rows.length then(match rows[j.toNat]? with | some row=>if row.length=sz then some (.ro row) else none | none=>none) else none
   | none=>none
 | none=>none

def lC (len sz:Nat)(x i:V):Option V :=
 match jZ i with
 | some j=>if 0≤j∧j<len then(match x with
  | .ref r o=>some (.ref r (o+j.toNat*sz))
  | .ro cs=>if j.toNat*sz≤cs.length then some (.ro (cs.drop (j.toNat*sz))) else none
  | _=>none) else none
 | none=>none

def zC (agg:Bool)(len sz:Nat)(x i:V):Option V :=
 match jZ i with
 | some j=>if 0≤j∧j<len then dO agg (j.toNat*sz) sz x else none
 | none=>none

def pX (x i:V):Option V :=
 match x,jZ i with
 | .d (.str s),some j=>if 0≤j then(match s[j.toNat]? with | some b=>some (.d (.int .u8 b.toNat)) | none=>none) else none
 | _,_=>none

def mA (σ : St) (sz : Nat) (x : V) (lo hi mx : Option V) : Option V :=
  match lenV σ x with
  | some len => match jQ 0 lo, jQ len hi with
    | some l, some h => if 0 ≤ l ∧ l ≤ h then
        (match mx with
         | none => jY sz x l.toNat h.toNat none
         | some m => match jZ m with
           | some k => if hi.isSome ∧ h ≤ k then jY sz x l.toNat h.toNat (some k.toNat) else none
           | none => none)
      else none
    | _, _ => none
  | none => none

def vY (x:V)(lo hi:Option V):Option V :=
 match x with
 | .d (.str s)=>match jQ 0 lo,jQ s.length hi with
  | some l,some h=>if 0≤l∧l≤h∧h≤s.length then some (.d (.str ((s.drop l.toNat).take (h.toNat-l.toNat)))) else none
  | _,_=>none
 | _=>none

def lH (σ : St) (n sz : Nat) (x : V) (lo hi : Option V) : Option V :=
  match jQ 0 lo, jQ n hi with
  | some l, some h => if 0 ≤ l ∧ l ≤ h ∧ h ≤ n then
      (match x with
       | .ref r o => match σ.objs[r]? with
         | some (.cells cs) => if o + n * sz = cs.length then some (.sl r (o + l.toNat * sz) (h.toNat - l.toNat) sz) else none
         | _ => none
       | .ro cs => if n * sz ≤ cs.length then some (.d (.list (gL sz (h.toNat - l.toNat) (cs.drop (l.toNat * sz))))) else none
       | _ => none)
    else none
  | _, _ => none

def rW (t:Nat):V→Option V
 | .d y=>some (.d (.iface t y))
 | .da l=>some (.d (.iface t (.agg l)))
 | .any=>none
 | .gone=>none
 | .tup _=>none
 | y=>some (.ifc t y)

def yB:D→V
 | .agg l=>.da l
 | y=>.d y

def xR (t:Nat)(zero:V)(ok:Bool):V→Option V
 | .d (.iface t' y) =>
  if t'=t then some (if ok then .tup [yB y,.d (.bool true)] else yB y)
  else if ok then some (.tup [zero,.d (.bool false)]) else none
 | .d .nili=>if ok then some (.tup [zero,.d (.bool false)]) else none
 | .ifc t' y =>
  if t'=t then some (if ok then .tup [y,.d (.bool true)] else y)
  else if ok then some (.tup [zero,.d (.bool false)]) else none
 | _=>none

def cK (x:V)(i:Nat):Option V :=
 match x with
 | .tup vs=>vs[i]?
 | _=>none

def rA (n:Nat)(z:List D):List D:=match n with
 | 0=>[]
 | n+1=>z++rA n z

def dE (op:POp)(e:Env) (σ:St):Option V :=
 match op with
 | .move x=>some (x.ev e)
 | .pick c a b=>match c.ev e with
  | .d (.bool t)=>some (if t then a.ev e else b.ev e)
  | _=>none
 | .bin op ty ks x y=>cE op ty ks (x.ev e) (y.ev e) x.isC y.isC
 | .una op x=>eU op (x.ev e)
 | .conv k x=>cI σ k (x.ev e)
 | .load agg n x=>loadAt σ agg n (x.ev e)
 | .nilCheck x=>gR (x.ev e)
 | .faddr off x=>cJ off (x.ev e)
 | .field agg off n x=>dO agg off n (x.ev e)
 | .iaddr sz x i=>jC σ sz (x.ev e) (i.ev e)
 | .iaddrArr len sz x i=>lC len sz (x.ev e) (i.ev e)
 | .index agg len sz x i=>zC agg len sz (x.ev e) (i.ev e)
 | .indexStr x i=>pX (x.ev e) (i.ev e)
 | .slice sz x lo hi mx=>mA σ sz (x.ev e) (lo.map (Opd.ev e)) (hi.map (Opd.ev e)) (mx.map (Opd.ev e))
 | .sliceStr x lo hi=>vY (x.ev e) (lo.map (Opd.ev e)) (hi.map (Opd.ev e))
 | .sliceArr n sz x lo hi=>lH σ n sz (x.ev e) (lo.map (Opd.ev e)) (hi.map (Opd.ev e))
 | .bslice t len sz zero parts =>
  match fI (iM len zero) (parts.map fun(i,x)=>(i*sz,sz,x.ev e)) with
  | some cs=>match ofD (cs.map oR) with
   | some l=>some (.fl (gL sz len l))
   | none=>none
  | none=>none
 | .build zero parts=>match fI (zero.map .d) (parts.map fun(o,n,x)=>(o,n,x.ev e)) with
  | some cs=>some (cC cs)
  | none=>none
 | .len ty x=>match gZ σ ty (x.ev e) with
  | some n=>some (.d (.int .i64 n))
  | none=>none
 | .lenArr n=>some (.d (.int .i64 n))
 | .cap x=>match x.ev e with
  | .d .nils=>some (.d (.int .i64 0))
  | _=>none
 | .min xs=>vK (xs.map (Opd.ev e))
 | .max xs=>aDR (xs.map (Opd.ev e))
 | .mkif t x=>rW t (x.ev e)
 | .assert t zero ok x=>xR t (zero.ev []) ok (x.ev e)
 | .extract x i=>cK (x.ev e) i
 | .mkfn f first caps=>some (.fn f (first.map (Opd.ev e)) (caps.map (Opd.ev e)))
 | .lookup ka ks zero ok x k=>jK σ ka ks (zero.ev []) ok (x.ev e) (k.ev e)
 | .mkfl sz bytes zero len cap=>match len.ev e,cap.ev e with
  | .d (.int k l),.d (.int k' c)=>if k = .i64∧k' = .i64∧0≤l∧l=c∧c*bytes≤140737488355328∧c≤9223372036854775807 then some (.fl (gL sz l.toNat (rA l.toNat zero))) else none
  | _,_=>none

def St.setObj (σ:St)(r:Nat)(o:Obj):St:={ σ with objs:=σ.objs.set r o }
def St.push (σ:St)(o:Obj):St:={ σ with objs:=σ.objs++[o] }
def St.pushTok (σ:St)(k:Nat):St:={ σ with toks:=σ.toks++[k] }
def St.spot (σ:St)(tg:Option Nat):Nat:=match tg with | some r=>r | none=>σ.objs.length
def St.place (σ:St)(tg:Option Nat)(o:Obj):Option St :=
 match tg with
 | none=>some (σ.push o)
 | some r=>match σ.objs[r]? with
  | some .free=>some (σ.setObj r o)
  | _=>none
def St.setTok (σ:St)(t k:Nat):St:={ σ with toks:=σ.toks.set t k }

def jG (σ:St)(tg:Option Nat)(sz bytes:Nat)(s:V)(ys:List (List D)):Option (V×St) :=
 if kS sz ys=false then none else
 match s with
 | .sl r off len s' =>
  if s'=sz∧0<sz then
   match σ.objs[r]? with
   | some (.cells cs) =>
    if off+(len+ys.length)*sz≤cs.length then
     some (.sl r off (len+ys.length) sz,σ.setObj r (.cells (splice cs (off+len*sz) (ys.flatten.map .d))))
    else none
   | _=>none
  else none
 | s =>
  if ys=[] then(if (V.rows σ s).isSome then some (s,σ) else none) else
  match s with
  | .d .nils=>if 0<sz∧ys.length*bytes≤140737488355328∧ys.length≤9223372036854775807 then some (.tl ys σ.toks.length 0 sz,σ.pushTok ys.length) else none
  | .fl rows=>if 0<sz∧kS sz rows=true∧(rows.length+ys.length)*bytes≤140737488355328∧rows.length+ys.length≤9223372036854775807 then some (.tl (rows++ys) σ.toks.length 0 sz,σ.pushTok (rows.length+ys.length)) else none
  | .tl rows t st s' =>
   if s'=sz∧kS sz rows=true∧σ.toks[t]?=some (st+rows.length)∧(rows.length+ys.length)*bytes≤140737488355328∧rows.length+ys.length≤9223372036854775807 then
    some (.tl (rows++ys) t st sz,σ.setTok t (st+rows.length+ys.length))
   else none
  | _=>none

def newObj (σ:St)(tg:Option Nat)(o:Obj)(v:Nat→V):Option (V×St) :=
 match σ.place tg o with
 | some σ'=>some (v (σ.spot tg),σ')
 | none=>none

def aEA (σ:St)(sz:Nat)(s:V)(ys:List (List D)):Option (V×St) :=
 if kS sz ys=false then none else
 match s with
 | .sl r off len s' =>
  if s'=sz∧0<sz then
   match σ.objs[r]? with
   | some (.cells cs) =>
    if off+len*sz≤cs.length then
     some (.d (.int .i64 (min ys.length len:Nat)),σ.setObj r (.cells (splice cs off ((ys.take len).flatten.map .d))))
    else none
   | _=>none
  else none
 | s=>if lenV σ s=some 0 then some (.d (.int .i64 0),σ) else none

def aDE (σ:St)(sz:Nat)(zero:List D)(s:V):Option (V×St) :=
 match s with
 | .sl r off len s' =>
  if s'=sz∧0<sz then
   match σ.objs[r]? with
   | some (.cells cs) =>
    if off+len*sz≤cs.length then some (.tup [],σ.setObj r (.cells (splice cs off (iM len zero)))) else none
   | _=>none
  else none
 | s=>if lenV σ s=some 0 then some (.tup [],σ) else none

def kU (σ : St) (tg : Option Nat) (sz bytes : Nat) (s : V) (ys : List (List D)) : Option (V × St) :=
  if kS sz ys = false ∨ ys = [] then none else
  match s with
  | .d .nils => if 0 < sz ∧ ys.length * bytes ≤ 140737488355328 ∧ ys.length ≤ 9223372036854775807 then
      newObj σ tg (.cells (ys.flatten.map .d)) fun r => .sl r 0 ys.length sz else none
  | .fl rows => if 0 < sz ∧ kS sz rows = true ∧ (rows.length + ys.length) * bytes ≤ 140737488355328 ∧ rows.length + ys.length ≤ 9223372036854775807 then
      newObj σ tg (.cells ((rows ++ ys).flatten.map .d)) fun r => .sl r 0 (rows.length + ys.length) sz else none
  | .sl r off len s' => if s' = sz ∧ 0 < sz ∧ (len + ys.length) * bytes ≤ 140737488355328 ∧ len + ys.length ≤ 9223372036854775807 then
      (match σ.objs[r]? with
       | some (.cells cs) => if off + len * sz ≤ cs.length ∧ off < cs.length then
           newObj (σ.setObj r .dead) tg (.cells ((cs.drop off).take (len * sz) ++ ys.flatten.map .d)) fun r => .sl r 0 (len + ys.length) sz else none
       | _ => none) else none
  | _ => none

def aBt (σ : St) (tg : Option Nat) (sz bytes : Nat) (s x : V) : Option (V × St) :=
  match x with
  | .sl rx ox lx sx => match σ.objs[rx]? with
    | some (.cells cx) => if sx = sz ∧ 0 < sz ∧ 0 < lx ∧ ox + lx * sz ≤ cx.length then
        (match s with
        | .d .nils => if lx * bytes ≤ 140737488355328 ∧ lx ≤ 9223372036854775807 then newObj σ tg (.cells ((cx.drop ox).take (lx * sz))) fun r => .sl r 0 lx sz else none
        | .sl r off len s' => if s' = sz ∧ (len + lx) * bytes ≤ 140737488355328 ∧ len + lx ≤ 9223372036854775807 then
            (match σ.objs[r]? with
             | some (.cells cs) => if off + len * sz ≤ cs.length ∧ off < cs.length then
                 newObj (σ.setObj r .dead) tg (.cells ((cs.drop off).take (len * sz) ++ (cx.drop ox).take (lx * sz))) fun r => .sl r 0 (len + lx) sz else none
             | _ => none) else none
        | _ => none) else none
    | _ => none
  | _ => none

def mE (σ:St)(ka:Bool)(ks:List Lf)(m k x:V):Option (V×St) :=
 match m with
 | .map r=>match σ.objs[r]? with
  | some (.map es clock)=>if jD ka ks k=true∧zG ka ks es∧x.cells.isSome=true then
    some (.gone,σ.setObj r (match uF k es with
     | some _=>.map (aAE k x es) clock
     | none=>.map (es++[(clock,k,x)]) (clock+1)))
   else none
  | _=>none
 | _=>none

def pD (σ:St)(ka:Bool)(ks:List Lf)(m k:V):Option (V×St) :=
 if jD ka ks k=false then none else
 match m with
 | .d .nilm=>some (.tup [],σ)
 | .map r=>match σ.objs[r]? with
  | some (.map es clock)=>if zG ka ks es then some (.tup [],σ.setObj r (.map (uB k es) clock)) else none
  | _=>none
 | _=>none

def qW (σ:St)(tg:Option Nat)(x:V):Option (V×St) :=
 match x with
 | .d .nilm=>newObj σ tg (.iter none 0 [] 0) .iter
 | .map r=>match σ.objs[r]? with
  | some (.map es clock)=>newObj σ tg (.iter (some r) clock [] clock) .iter
  | _=>none
 | _=>none

def eO (σ:St)(x:V):Option V :=
 match x with
 | .iter r=>match σ.objs[r]? with
  | some (.iter (some m) _ seen last)=>match seen.getLast?,σ.objs[m]? with
   | some b,some (.map es clock)=>if clock=last then(match es.find? (fun e=>e.1==b) with
    | some e=>some (.tup [e.2.1,e.2.2])
    | none=>none) else none
   | _,_=>none
  | _=>none
 | _=>none

def eT (σ:St)(tg:Option Nat)(x:V):Option (V×St) :=
 match x with
 | .ifc t (.map r)=>match σ.objs[r]? with
  | some (.map es clock)=>newObj σ tg (.map es clock) fun q=>.ifc t (.map q)
  | _=>none
 | _=>none

def dN (op:EOp)(e:Env) (σ:St)(tg:Option Nat):Option (V×St) :=
 match op with
 | .alloc zero=>newObj σ tg (.cells zero) fun r=>.ref r 0
 | .box x=>match (x.ev e).cells with
  | some l=>newObj σ tg (.cells l) fun r=>.ref r 0
  | none=>none
 | .store n a x=>match a.ev e with
  | .ref r off=>match σ.objs[r]? with
   | some (.cells cs) =>
    match (x.ev e).cells with
    | some l=>if l.length=n∧off+n≤cs.length then some (.gone,σ.setObj r (.cells (splice cs off l))) else none
    | none=>none
   | _=>none
  | _=>none
 | .append t sz bytes s x=>match V.rows σ (x.ev e) with
  | some ys=>jG σ tg sz bytes (s.ev e) ys
  | none=>none
 | .appendStr t s x=>match x.ev e with
  | .d (.str l)=>jG σ tg 1 1 (s.ev e) (cF l)
  | _=>none
 | .appendZero t sz bytes zero s n=>match s.ev e,n.ev e with
  | .d .nils,.d (.int k l)=>if k = .i64∧0<l∧l*bytes≤140737488355328∧l≤9223372036854775807∧0<sz then
    newObj σ tg (.cells (iM l.toNat zero)) fun r=>.sl r 0 l.toNat sz
   else none
  | _,_=>none
 | .copy sz s x=>match V.rows σ (x.ev e) with
  | some ys=>aEA σ sz (s.ev e) ys
  | none=>none
 | .clear sz zero s=>aDE σ sz zero (s.ev e)
 | .makeSlice t sz bytes zero len cap=>match len.ev e,cap.ev e with
  | .d (.int k l),.d (.int k' c)=>if k = .i64∧k' = .i64∧0≤l∧l≤c∧c*bytes≤140737488355328∧c≤9223372036854775807∧0<sz then
    newObj σ tg (.cells (iM c.toNat zero)) fun r=>.sl r 0 l.toNat sz
   else none
  | _,_=>none
 | .makeMap=>newObj σ tg (.map [] 0) .map
 | .mapUpdate ka ks m k x=>mE σ ka ks (m.ev e) (k.ev e) (x.ev e)
 | .mapDelete ka ks m k=>pD σ ka ks (m.ev e) (k.ev e)
 | .range x=>qW σ tg (x.ev e)
 | .entry x=>match eO σ (x.ev e) with
  | some v=>some (v,σ)
  | none=>none
 | .cloneMap x=>eT σ tg (x.ev e)

def iD (op:EOp)(e:Env) (σ:St)(tg:Option Nat):Option (V×St) :=
 match op with
 | .append t sz bytes s x=>match V.rows σ (x.ev e) with
  | some ys=>kU σ tg sz bytes (s.ev e) ys
  | none=>aBt σ tg sz bytes (s.ev e) (x.ev e)
 | .appendStr t s x=>match x.ev e with
  | .d (.str l)=>kU σ tg 1 1 (s.ev e) (cF l)
  | _=>none
 | .makeSlice t sz bytes zero len cap=>match len.ev e,cap.ev e with
  | .d (.int k l),.d (.int k' c)=>if k = .i64∧k' = .i64∧0≤l∧l=c∧c*bytes≤140737488355328∧c≤9223372036854775807 then
    some (.fl (gL sz l.toNat (rA l.toNat zero)),σ)
   else none
  | _,_=>none
 | .appendZero t sz bytes zero s n=>match n.ev e with
  | .d (.int k l)=>if k = .i64∧0≤l∧(lenV σ (s.ev e)).isSome=true then
    (if l=0 then some (s.ev e,σ) else kU σ tg sz bytes (s.ev e) (aD l.toNat zero))
   else none
  | _=>none
 | _=>none

def gT (σ:St):List (Nat×Nat×V)→Option (List (Nat×Nat×V)×St)
 | []=>some ([],σ)
 | (o,n,v)::l=>match v with
  | .sl r off len sz=>match V.rows σ (.sl r off len sz) with
   | some rows=>match gT (σ.setObj r .dead) l with
    | some (l',s)=>some ((o,n,.d (.list rows))::l',s)
    | none=>none
   | none=>none
  | v=>match gT σ l with
   | some (l',s)=>some ((o,n,v)::l',s)
   | none=>none

def fQ (op:POp)(e:Env) (σ:St):Option (V×St) :=
 match op with
 | .bslice t len sz zero parts=>match gT σ (parts.map fun(i,x)=>(i*sz,sz,x.ev e)) with
  | some (l,s)=>match fI (iM len zero) l with
   | some cs=>match ofD (cs.map oR) with
    | some ds=>some (.fl (gL sz len ds),s)
    | none=>none
   | none=>none
  | none=>none
 | _=>none

abbrev jF:=V→St→Prop
abbrev iJ:=Mode→Nat→List V→St→jF→Prop

structure Cx where
 mode:Nat→Mode
 /-- Slots that name no object where a region's operations look at them. -/
 dry:List Nat:=[]
 /-- Package-level variables that stay as they are, and what they hold. -/
 globs:List (Nat×List D):=[]
 /-- Slots (of operations in the order of the text) for which a list of values is an object that may be written. -/
 obj:List Nat:=[]
 /-- The same, of a slot and a type of elements. -/
 objs:List (Nat×Nat):=[]

def GB:Nat:=1000000

def dD (σ:St):List V→Option (List V)
 | []=>some []
 | v::r=>match v.byVal σ,dD σ r with
  | some x,some l=>some (x::l)
  | _,_=>none

def wG (K:iJ)(m:Mode)(f:Nat)(vs:List V) (σ:St)(Q:jF):Prop :=
 match m with
 | .raw=>∃ Q',K .raw f vs σ Q'∧∀ v s,Q' v s→Q v s
 | .rd=>∃ Q',K .rd f vs σ Q'∧∀ v s,Q' v s→Q v σ
 | .rnd=>False
 | .val=>match dD σ vs with
  | some ds=>∃ Q',K .val f ds St.empty Q'∧∀ v s,Q' v s→v.pure=true∧(vs.any V.borrows=true→v.scalars=true)∧Q v σ
  | none=>False

def tJ (K:iJ)(cx:Cx)(f:Nat)(vs:List V) (σ:St)(Q:jF):Prop:=∃ m,wG K m f vs σ Q
def xH (σ:St):List V→Option (List V×St)
 | []=>some ([],σ)
 | v::l=>match v with
  | .sl r off len sz=>match V.rows σ (.sl r off len sz) with
   | some rows=>match xH (σ.setObj r .dead) l with
    | some (l',s)=>some (.d (.list rows)::l',s)
    | none=>none
   | none=>none
  | v=>match xH σ l with
   | some (l',s)=>some (v::l',s)
   | none=>none
def callK (K:iJ)(cx:Cx)(f:Nat)(vs:List V) (σ:St)(Q:jF):Prop:=tJ K cx f vs σ Q∨∃ vs' σ',xH σ vs=some (vs',σ')∧tJ K cx f vs' σ' Q

def eM (e:Env)(dst:Option Nat)(v:V):Env :=
 match dst with
 | some s=>e.set s v
 | none=>e

def uL (it:V) (σ:St)(Q:jF):Prop :=
 match it with
 | .iter r=>match σ.objs[r]? with
  | some (.iter none _ _ _)=>Q (.tup [.d (.bool false)]) σ
  | some (.iter (some m) since seen last)=>match σ.objs[m]? with
   | some (.map es clock)=>clock=since∧last=since∧(∀ x∈es,x.1<since) ∧
     (∀ x∈es,seen.contains x.1=false→Q (.tup [.d (.bool true),x.2.1,x.2.2]) (σ.setObj r (.iter (some m) since (seen++[x.1]) clock))) ∧
     ((∀ x∈es,seen.contains x.1=true)→Q (.tup [.d (.bool false)]) σ)
   | _=>False
  | _=>False
 | _=>False

def fU (cx:Cx)(dst:Option Nat)(op:POp):Bool:=match op with
 | .bslice t _ _ _ _=>match dst with
  | some s=>cx.obj.contains s||cx.objs.contains (s,t)
  | none=>false
 | _=>false
def fP (op:POp)(e:Env) (σ:St):Option (V×St):=match op with
 | .bslice t len sz zero parts=>match fI (iM len zero) (parts.map fun(i,x)=>(i*sz,sz,x.ev e)) with
  | some cs=>newObj σ none (.cells cs) fun r=>.sl r 0 len sz
  | none=>none
 | _=>none

mutual
def iF (K:iJ)(cx:Cx):List Ins→Env→St→(Env→St→Prop)→Prop
 | [],e,σ,Q=>Q e σ
 | i::r,e,σ,Q=>jI K cx i e σ fun e' σ'=>iF K cx r e' σ' Q
def jI (K:iJ)(cx:Cx):Ins→Env→St→(Env→St→Prop)→Prop
 | .p dst op,e,σ,Q=>if fU cx dst op=true then(match fP op e σ with
   | some (v,s)=>Q (eM e dst v) s
   | none=>False)
  else match dE op e σ with
  | some v=>Q (eM e dst v) σ
  | none=>match fQ op e σ with
   | some (v,s)=>Q (eM e dst v) s
   | none=>False
 | .e dst op,e,σ,Q=>(match dN op e σ none with
  | some (v,σ')=>Q (eM e dst v) σ'
  | none=>False)∨(match iD op e σ none with
  | some (v,σ')=>Q (eM e dst v) σ'
  | none=>False)
 | .call dst f args,e,σ,Q=>callK K cx f (args.map (Opd.ev e)) σ fun v σ'=>Q (eM e dst v) σ'
 | .callv dst f args,e,σ,Q=>match f.ev e with
  | .fn (.func g) first caps=>callK K cx g (first++args.map (Opd.ev e)++caps) σ fun v σ'=>Q (eM e dst v) σ'
  | .yld r=>∃ Q',K .rnd r (args.map (Opd.ev e)) σ Q'∧∀ v σ',Q' v σ'→Q (eM e dst v) σ'
  | _=>False
 | .next dst it,e,σ,Q=>uL (it.ev e) σ fun v σ'=>Q (eM e dst v) σ'
 | .when s want body,e,σ,Q=>match e.get s with
  | .d (.bool b)=>if b=want then iF K cx body e σ Q else Q (dG body e) σ
  | .gone=>Q (dG body e) σ
  | _=>False
def dG:List Ins→Env→Env
 | [],e=>e
 | i::r,e=>dG r (dK i e)
def dK:Ins→Env→Env
 | .p dst _,e=>eM e dst .gone
 | .e dst _,e=>eM e dst .gone
 | .call dst _ _,e=>eM e dst .gone
 | .callv dst _ _,e=>eM e dst .gone
 | .next dst _,e=>eM e dst .gone
 | .when _ _ body,e=>dG body e
end

def aF9 (K:iJ)(cx:Cx)(n0:Nat)(o:DOp)(e:Env) (σ:St)(Q:Env→St→Prop):Prop :=
 let go:Prop:=match o.ins with
  | .e dst op=>(match dN op e σ (some (n0+o.al)) with
   | some (v,σ')=>Q (eM e dst v) σ'
   | none=>False)∨(match iD op e σ (some (n0+o.al)) with
   | some (v,σ')=>Q (eM e dst v) σ'
   | none=>False)
  | .p dst op=>(match dE op e σ with
   | some v=>Q (eM e dst v) σ
   | none=>False)
  | i=>jI K cx i e σ Q
 match o.guard with
 | none=>go
 | some (s,want)=>match e.get s with
  | .d (.bool b)=>if b=want then go else Q (dK o.ins e) σ
  | .gone=>Q (dK o.ins e) σ
  | _=>False

def qX (l:List DOp)(listed:List Nat):List Nat :=
 (List.range l.length).filter fun i=>!listed.contains i&&((l[i]?).map fun o=>o.after.all fun j=>listed.contains j).getD false

def aEe (K:iJ)(cx:Cx)(n0:Nat)(l:List DOp):Nat→List Nat→Env→St→(Env→St→Prop)→Prop
 | 0,listed,e,σ,Q=>qX l listed=[]∧Q e σ
 | f+1,listed,e,σ,Q=>(qX l listed=[]→Q e σ) ∧
   ∀ i∈qX l listed,∃ o,l[i]?=some o∧aF9 K cx n0 o e σ fun e' σ'=>aEe K cx n0 l f (i::listed) e' σ' Q

def aCB:V→List Nat
 | .sl r _ _ _=>[r]
 | _=>[]
def jS:V→List Nat
 | .ref r _=>[r]
 | .sl r _ _ _=>[r]
 | .map r=>[r]
 | .yld r=>[r]
 | .iter r=>[r]
 | .agg cs=>cs.flatMap aCB
 | _=>[]

def aK5 (e:Env) (σ:St):Prop:=∀ s,∀ r∈jS (e.get s),r<σ.objs.length

def St.room (σ:St)(n:Nat):St:={ σ with objs:=σ.objs++aD n .free }

abbrev gX:=Ex→Env→St→Prop

def aK4 (T:Env→St→gX→Prop)(ks:List Nat)(e:Env) (σ:St)(Q:gX):Prop :=
 ∀ I:Env→St→Prop,(∀ e σ,T e σ (fun ex e' σ'=>match ex with | .normal=>I (e'.pick ks) σ' | x=>Q x e' σ')→I e σ)→I (e.pick ks) σ

def gJ (K:iJ)(cx:Cx):C→Env→St→gX→Prop
 | .skip,e,σ,Q=>Q .normal e σ
 | .ops ks l,e,σ,Q=>iF K cx l e σ fun e' σ'=>Q .normal (e'.pick ks) σ'
 | .drw ks na l,e,σ,Q=>aK5 e σ→aEe K cx σ.objs.length l l.length [] e (σ.room na) fun e' σ'=>Q .normal (e'.pick ks) σ'
 | .seq a b,e,σ,Q=>gJ K cx a e σ fun ex e' σ'=>match ex with
  | .normal=>gJ K cx b e' σ' Q
  | x=>Q x e' σ'
 | .cond c a b,e,σ,Q=>match c.ev e with
  | .d (.bool t)=>if t=true then gJ K cx a e σ Q else gJ K cx b e σ Q
  | _=>False
 | .block id c,e,σ,Q=>gJ K cx c e σ fun ex e' σ'=>match ex with
  | .exit j=>if j=id then Q .normal e' σ' else Q (.exit j) e' σ'
  | x=>Q x e' σ'
 | .loop ks c,e,σ,Q=>aK4 (fun e σ Q=>gJ K cx c e σ Q) ks e σ Q
 | .exit id,e,σ,Q=>Q (.exit id) e σ
 | .ret,e,σ,Q=>Q .ret e σ
 | .rangeF ks f ps a b,e,σ,Q=>match f.ev e with
  | .fn (.func g) first caps=>wG K .raw g (first++[.yld σ.objs.length]++caps) (σ.push (.loop (e.pick ks) ps a b .ready)) fun _ s=>match s.objs[σ.objs.length]? with
   | some (.loop _ _ _ _ .ready)=>Q .normal (e.pick ks) (s.setObj σ.objs.length .dead)
   | some (.loop _ _ _ _ (.done x))=>Q x (e.pick ks) (s.setObj σ.objs.length .dead)
   | _=>False
  | _=>False

inductive Res where
 | tmp (s:Nat)
 | cell (s:Nat) (agg:Bool) (n:Nat)
 deriving Inhabited

structure FnC where
 nparams:Nat
 ntmps:Nat
 res:List Res
 body:C
 globs:List (Nat×List D):=[]
 deriving Inhabited

def Res.ev (e:Env) (σ:St):Res→Option V
 | .tmp s=>some (e.get s)
 | .cell s agg n=>loadAt σ agg n (e.get s)

def eN (e:Env) (σ:St):List Res→Option (List V)
 | []=>some []
 | r::l=>match r.ev e σ,eN e σ l with
  | some v,some vs=>some (v::vs)
  | _,_=>none

def fO:List V→V
 | [v]=>v
 | vs=>.tup vs

def dL (lo:Nat) (σ:St):List V→Option (List V)
 | []=>some []
 | v::r=>match v.byValN lo σ,dL lo σ r with
  | some x,some l=>some (x::l)
  | _,_=>none

def lN (σ s:St):Prop:=(∀ i,i<σ.objs.length→s.objs[i]?=σ.objs[i]?)∧∀ (t k:Nat),σ.toks[t]?=some k→s.toks[t]?=some k

def gS (mode:Mode)(lo:Nat)(e:Env) (σ:St)(rs:List Res):Option V :=
 match eN e σ rs with
 | some vs=>match mode with
  | .raw=>some (fO vs)
  | .val=>match dD σ vs with
   | some ds=>some (fO ds)
   | none=>none
  | .rd=>match dL lo σ vs with
   | some ds=>some (fO ds)
   | none=>none
  | .rnd=>none
 | none=>none

def dI:Nat→List V→Env
 | _,[]=>[]
 | i,v::r=>(i,v)::dI (i+1) r

def dJ (l:List (Nat×List D)):Env:=l.map fun x=>(GB+x.1,.ro x.2)

def tT (K:iJ)(cx:Cx)(mode:Mode)(fc:FnC)(vs:List V) (σ:St)(Q:jF):Prop :=
 vs.length=fc.nparams∧gJ K cx fc.body (dI 0 vs++dJ fc.globs) σ fun ex e s=>match ex with
  | .exit _=>False
  | _=>∃ v,gS mode σ.objs.length e s fc.res=some v∧(mode = .rd→lN σ s)∧Q v s

def eQ:Env→List Nat→List V→Env
 | e,p::ps,v::vs=>eQ (e.set p v) ps vs
 | e,_,_=>e

def aAd (K:iJ)(cx:Cx)(r:Nat)(vs:List V) (σ:St)(Q:jF):Prop :=
 ∃ e ps a b,σ.objs[r]?=some (.loop e ps a b .ready)∧vs.length=ps.length∧gJ K cx a (eQ e ps vs) σ fun ex e1 s1=>match ex with
  | .normal=>s1.objs[r]?=some (.loop e ps a b .ready)∧gJ K cx b e1 (s1.setObj r (.loop e ps a b .busy)) fun ex e2 s2=>s2.objs[r]?=some (.loop e ps a b .busy)∧match ex with
   | .normal=>Q (.d (.bool true)) (s2.setObj r (.loop e ps a b .ready))
   | x=>Q (.d (.bool false)) (s2.setObj r (.loop e ps a b (.done x)))
  | _=>False

def uX (Γ:Nat→Option FnC)(K:iJ)(cx:Cx):iJ:=fun m f vs σ Q =>
 match m with
 | .rnd=>aAd K cx f vs σ Q
 | m=>∃ fc,Γ f=some fc∧tT K cx m fc vs σ Q

def Call (Γ:Nat→Option FnC)(cx:Cx):iJ:=fun m f vs σ Q =>
 ∀ K:iJ,(∀ m f vs σ Q,uX Γ K cx m f vs σ Q→K m f vs σ Q)→K m f vs σ Q

end
end Go.Dn

/- From the loaded program's code to the small language: a closed computation, asked of the kernel function by function. -/
namespace Go.Dn

def pN (P:Program)(t:TypeId):Bool :=
 match P.underlying t with
 | some (.struct _)=>true
 | some (.array _ _)=>true
 | _=>false

def okT (P:Program)(t:TypeId):Bool:=(P.underlying t).isSome

def yO (P:Program)(t:TypeId):Bool :=
 match P.underlying t with
 | some (.interface _)=>false
 | none=>false
 | _=>true

def aA1:Value→Option D
 | .int k n=>some (.int k n)
 | .bool b=>some (.bool b)
 | .string s=>some (.str s.data.toList)
 | .pointer none=>some .nilp
 | .slice none 0 0=>some .nils
 | .map none=>some .nilm
 | .nilFunc=>some .nilf
 | .nilIface=>some .nili
 | _=>none

def pP:List Value→Option (List D)
 | []=>some []
 | v::r=>match aA1 v,pP r with
  | some d,some l=>some (d::l)
  | _,_=>none

def aBA:Value→Option Opd
 | .agg cs=>match pP cs.toList with
  | some l=>some (.ca l)
  | none=>none
 | v=>match aA1 v with
  | some d=>some (.c d)
  | none=>none

def kR (P:Program)(t:TypeId):Option (List D) :=
 match P.info? t with
 | some i=>match i.zero with
  | some z=>pP z.cells.toList
  | none=>none
 | none=>none

def aAz (P:Program)(t:TypeId):Option Opd :=
 match P.info? t with
 | some i=>match i.zero with
  | some z=>aBA z
  | none=>none
 | none=>none

def iH:Operand→Option Opd
 | .tmp t=>if t<GB then some (.t t) else none
 | .const v=>aBA v
 | .func f=>some (.f f)
 | .global g=>some (.t (GB+g))

def iV:List Operand→Option (List Opd)
 | []=>some []
 | x::r=>match iH x,iV r with
  | some a,some l=>some (a::l)
  | _,_=>none

def rS (P : Program) (f : TypeId → Option (List Lf)) : Nat → List Field → Option (List Lf)
  | _, [] => some []
  | off, x :: r => match f x.type with
    | some l => if x.name ≠ "_" ∧ x.offset = off ∧ P.cellsOf x.type = l.length then
        (match rS P f (off + l.length) r with
         | some b => some (l ++ b)
         | none => none) else none
    | none => none

def lB (P:Program):Nat→TypeId→Option (List Lf)
 | 0,_=>none
 | n+1,t=>match P.underlying t with
  | some (.int k)=>some [.int k]
  | some .bool=>some [.bool]
  | some .string=>some [.str]
  | some (.array len e)=>match lB P n e with
   | some l=>if P.cellsOf e=l.length∧P.cellsOf t=len*l.length then some ((aD len l).flatten) else none
   | none=>none
  | some (.struct fs)=>match rS P (lB P n) 0 fs.toList with
   | some l=>if P.cellsOf t=l.length then some l else none
   | none=>none
  | _=>none

def tP (P:Program)(t:TypeId):Option (Ty×List Lf) :=
 match lB P 12 t with
 | some ks=>if P.keyTypeAt 12 t && !P.eqGuardType P.depth t then some (.flat,ks) else none
 | none=>none

def compKey (P:Program)(t:TypeId):Option (Bool×List Lf) :=
 match P.underlying t with
 | some (.int k)=>some (false,[.int k])
 | some .bool=>some (false,[.bool])
 | some .string=>some (false,[.str])
 | some (.array ..)=>wide
 | some (.struct _)=>wide
 | _=>none
where
 wide:Option (Bool×List Lf):=match lB P (P.types.size+1) t with
  | some ks=>if P.keyTypeAt (P.types.size+1) t&&P.tiled (P.types.size+1) t&&decide (P.types.size+2≤10000)&&P.cellsOf t==ks.length then some (true,ks) else none
  | none=>none

def qA (P:Program)(t:TypeId):Option (Bool×List Lf) :=
 match P.underlying t with
 | some (.map k _)=>compKey P k
 | _=>none

def tL (P:Program)(t:TypeId):Option (Ty×List Lf) :=
 match P.underlying t with
 | some (.int _)=>some (.int,[])
 | some .bool=>some (.bool,[])
 | some .string=>some (.str,[])
 | some (.pointer _)=>some (.ptr,[])
 | some (.slice _)=>some (.slice,[])
 | some (.map _ _)=>some (.map,[])
 | some (.func ..)=>some (.func,[])
 | some (.interface _)=>some (.iface,[])
 | some (.array ..)=>tP P t
 | some (.struct _)=>tP P t
 | _=>none

def sI (P:Program)(t:TypeId)(i:Nat):Option (Nat×TypeId) :=
 match P.underlying t with
 | some (.struct fs)=>match fs[i]? with
  | some f=>if P.cellsOf f.type=0∨okT P f.type=false then none else some (f.offset,f.type)
  | none=>none
 | _=>none

def yM (P:Program)(src dst:TypeId):Option Conv :=
 match P.underlying src,P.underlying dst with
 | some (.int _),some (.int k)=>some (.int k)
 | some .string,some .string=>some .same
 | some .string,some (.slice e)=>match P.underlying e with | some (.int .u8)=>some (.strBytes e) | _=>none
 | some (.slice e),some .string=>match P.underlying e with | some (.int .u8)=>some .bytesStr | _=>none
 | _,_=>none

def rY:Option Operand→Option (Option Opd)
 | none=>some none
 | some x=>match iH x with | some a=>some (some a) | none=>none

def sU:List (Nat×Operand)→Option (List (Nat×Opd))
 | []=>some []
 | (i,x)::r=>match iH x,sU r with
  | some a,some l=>some ((i,a)::l)
  | _,_=>none

def nJ (P:Program)(t:TypeId):Bool:=(P.info? t).isSome

def sW (P:Program)(t:TypeId)(i:Nat):Option (Nat×Nat) :=
 match P.underlying t with
 | some (.struct fs)=>if fs.toList.all (fun f=>nJ P f.type) then(match fs[i]? with | some f=>some (f.offset,P.cellsOf f.type) | none=>none) else none
 | some (.array _ e)=>if nJ P e then some (i*P.cellsOf e,P.cellsOf e) else none
 | _=>none

def qC (P:Program)(t:TypeId):List (Nat×Operand)→Option (List (Nat×Nat×Opd))
 | []=>some []
 | (i,x)::r=>match sW P t i,iH x,qC P t r with
  | some (o,n),some a,some l=>some ((o,n,a)::l)
  | _,_,_=>none

def lZ (P:Program)(e:TypeId):Bool :=
 match kR P e with
 | some z=>P.cellsOf e != 0&&z.length==P.cellsOf e
 | none=>false

def jO (P:Program)(dst:Option Nat)(c:Go.Call)(b:Builtin):Option Ins :=
 match b with
 | .len=>match c.argTypes[0]?,iV c.args.toList with
  | some t,some [x]=>match P.underlying t with
   | some (.array n _)=>some (.p dst (.lenArr n))
   | some .string=>some (.p dst (.len .str x))
   | some (.slice _)=>some (.p dst (.len .slice x))
   | some (.map _ _)=>some (.p dst (.len .map x))
   | _=>none
  | _,_=>none
 | .append=>match c.argTypes[0]?,c.argTypes[1]?,iV c.args.toList with
  | some s,some x,some [a,b]=>match P.underlying s with
   | some (.slice e)=>match P.underlying x with
    | some (.slice _)=>if lZ P e then some (.e dst (.append e (P.cellsOf e) (P.bytesOf e) a b)) else none
    | some .string=>if lZ P e∧P.cellsOf e=1∧P.bytesOf e=1 then some (.e dst (.appendStr e a b)) else none
    | some (.int _)=>match kR P e with
     | some z=>if lZ P e=false then none else some (.e dst (.appendZero e (P.cellsOf e) (P.bytesOf e) z a b))
     | none=>none
    | _=>none
   | _=>none
  | _,_,_=>none
 | .copy=>match c.argTypes[0]?,c.argTypes[1]?,iV c.args.toList with
  | some s,some x,some [a,b]=>match P.underlying s,P.underlying x with
   | some (.slice e),some (.slice _)=>if P.cellsOf e=0 then none else some (.e dst (.copy (P.cellsOf e) a b))
   | _,_=>none
  | _,_,_=>none
 | .clear=>match c.argTypes[0]?,iV c.args.toList with
  | some s,some [a]=>match P.underlying s with
   | some (.slice e)=>match kR P e with
    | some z=>if P.cellsOf e=0∨z.length≠P.cellsOf e then none else some (.e dst (.clear (P.cellsOf e) z a))
    | none=>none
   | _=>none
  | _,_=>none
 | .min=>match iV c.args.toList with | some l=>some (.p dst (.min l)) | none=>none
 | .max=>match iV c.args.toList with | some l=>some (.p dst (.max l)) | none=>none
 | .delete=>match c.argTypes[0]?,iV c.args.toList with
  | some t,some [m,k]=>match qA P t with
   | some (ka,ks)=>some (.e dst (.mapDelete ka ks m k))
   | none=>none
  | _,_=>none
 | .cap=>match c.argTypes[0]?,iV c.args.toList with
  | some t,some [x]=>match P.underlying t with
   | some (.slice _)=>some (.p dst (.cap x))
   | _=>none
  | _,_=>none
 | _=>none

def aEx (fn : Func) : Bool := fn.name == "maps.clone" && fn.body.isNone && (Extern.findNext fn).isNone

def kB (P:Program)(dst:Option Nat)(ty:TypeId)(c:Go.Call):Option Ins :=
 match c.callee with
 | .value (.func f)=>match iV c.args.toList with
  | some l=>match P.funcs[f]? with
   | some fn => if fn.body.isSome ∧ fn.name ≠ "runtime.NumGoroutine" then some (.call dst f l) else (match l with
    | [x]=>if aEx fn then some (.e dst (.cloneMap x)) else none
    | _=>none)
   | none=>none
  | none=>none
 | .value (.tmp t)=>match iV c.args.toList with | some l=>if t<GB then some (.callv dst (.t t) l) else none | none=>none
 | .builtin b=>jO P dst c b
 | _=>none

def jX (P:Program)(o:Oper):Option Ins :=
 let p (x:Option POp):Option Ins:=match x with | some op=>some (.p o.dst op) | none=>none
 let un (x:Operand) (f:Opd→Option POp):Option Ins:=match iH x with | some a=>p (f a) | none=>none
 let bi (x y:Operand) (f:Opd→Opd→Option POp):Option Ins:=match iH x,iH y with | some a,some b=>p (f a b) | _,_=>none
 match o.op with
 | .move x=>un x fun a=>some (.move a)
 | .assign x=>un x fun a=>some (.move a)
 | .pick c a b=>match iH c with
  | some c=>bi a b fun a b=>some (.pick c a b)
  | none=>none
 | .binOp op t x y _=>match tL P t with
  | some (ty,ks)=>bi x y fun a b=>some (.bin op ty ks a b)
  | none=>none
 | .unOp op _ x=>un x fun a=>some (.una op a)
 | .convert s d x=>match yM P s d with
  | some k=>un x fun a=>some (.conv k a)
  | none=>none
 | .load t a=>if okT P t then un a fun a=>some (.load (pN P t) (P.cellsOf t) a) else none
 | .nilCheck x=>un x fun a=>some (.nilCheck a)
 | .fieldAddr s x f=>match sI P s f with
  | some (off,_)=>un x fun a=>some (.faddr off a)
  | none=>none
 | .field s x f=>match sI P s f with
  | some (off,t)=>un x fun a=>some (.field (pN P t) off (P.cellsOf t) a)
  | none=>none
 | .indexAddr t x i=>match P.underlying t with
  | some (.slice e)=>if P.cellsOf e=0 then none else bi x i fun a b=>some (.iaddr (P.cellsOf e) a b)
  | some (.array n e)=>if P.cellsOf e=0 then none else bi x i fun a b=>some (.iaddrArr n (P.cellsOf e) a b)
  | _=>none
 | .index t x i=>match P.underlying t with
  | some .string=>bi x i fun a b=>some (.indexStr a b)
  | some (.array n e)=>if P.cellsOf e=0∨okT P e=false then none else bi x i fun a b=>some (.index (pN P e) n (P.cellsOf e) a b)
  | _=>none
 | .slice t x lo hi mx=>match P.underlying t,rY lo,rY hi,rY mx with
  | some .string,some l,some h,some none=>un x fun a=>some (.sliceStr a l h)
  | some (.slice e),some l,some h,some m=>if P.cellsOf e=0 then none else un x fun a=>some (.slice (P.cellsOf e) a l h m)
  | some (.array n e),some l,some h,some none=>if P.cellsOf e=0 then none else un x fun a=>some (.sliceArr n (P.cellsOf e) a l h)
  | _,_,_,_=>none
 | .buildSlice t len parts=>match P.underlying t with
  | some (.slice e)=>match kR P e,sU parts.toList with
   | some z,some l=>if P.cellsOf e=0∨len*P.cellsOf e>2 ^ 24∨z.length≠P.cellsOf e then none else p (some (.bslice e len (P.cellsOf e) z l))
   | _,_=>none
  | _=>none
 | .build t parts=>match kR P t,qC P t parts.toList with
  | some z,some l=>if (match P.underlying t with | some (.struct fs)=>fs.toList.all (fun f=>nJ P f.type) | some (.array _ e)=>nJ P e | _=>false) then p (some (.build z l)) else none
  | _,_=>none
 | .makeInterface t x=>if yO P t then un x fun a=>some (.mkif t a) else none
 | .typeAssert x _ t ok=>match aAz P t with
  | some z=>if yO P t then un x fun a=>some (.assert t z ok a) else none
  | none=>none
 | .extract x i=>un x fun a=>some (.extract a i)
 | .makeFunc fn first caps=>match iV first.toList,iV caps.toList with
  | some a,some b=>p (some (.mkfn fn a b))
  | _,_=>none
 | .lookup t x k ok=>match P.underlying t with
  | some (.map kt e)=>match compKey P kt,aAz P e with
   | some (ka,ks),some z=>bi x k fun a b=>some (.lookup ka ks z ok a b)
   | _,_=>none
  | _=>none
 | .alloc t=>match kR P t with
  | some z=>some (.e o.dst (.alloc (z.map .d)))
  | none=>none
 | .box _ x=>match iH x with | some a=>some (.e o.dst (.box a)) | none=>none
 | .store t a x=>match iH a,iH x with
  | some a,some x=>if nJ P t then some (.e o.dst (.store (P.cellsOf t) a x)) else none
  | _,_=>none
 | .makeSlice t l c=>match P.underlying t with
  | some (.slice e)=>match kR P e,iH l,iH c with
   | some z,some a,some b=>if lZ P e=false then none else some (.e o.dst (.makeSlice e (P.cellsOf e) (P.bytesOf e) z a b))
   | _,_,_=>none
  | _=>none
 | .makeMap _ none=>some (.e o.dst .makeMap)
 | .mapUpdate t m k x=>match qA P t,iV [m,k,x] with
  | some (ka,ks),some [m,k,x]=>some (.e o.dst (.mapUpdate ka ks m k x))
  | _,_=>none
 | .range t x=>match P.underlying t,iH x with
  | some (.map _ _),some a=>some (.e o.dst (.range a))
  | _,_=>none
 | .next x str=>match iH x with
  | some a=>if str then none else some (.next o.dst a)
  | none=>none
 | .entry x=>match iH x with
  | some a=>some (.e o.dst (.entry a))
  | none=>none
 | .call c=>kB P o.dst o.type c
 | .panic _=>some (.p o.dst (.extract (.c .nilp) 0))
 | _=>none

def Ins.dst:Ins→Option Nat
 | .p d _=>d
 | .e d _=>d
 | .call d _ _=>d
 | .callv d _ _=>d
 | .next d _=>d
 | .when .. => none

def qL (P:Program)(n:Nat)(ops:Array Oper)(o:Oper):Option (Option (Nat×Bool)×Ins) :=
 match jX P o with
 | none=>none
 | some i =>
  if o.dst.all (· < n) then
   match o.guard with
   | none=>some (none,i)
   | some (j,w)=>match (ops[j]?).bind (·.dst) with
    | some s=>some (some (s,w),i)
    | none=>none
  else none

def mO (P:Program)(n:Nat)(ops:Array Oper):List Oper→Option (List (Option (Nat×Bool)×Ins))
 | []=>some []
 | o::r=>match qL P n ops o,mO P n ops r with
  | some x,some l=>some (x::l)
  | _,_=>none

def uH:List (Option (Nat×Bool)×Ins)→List Ins
 | []=>[]
 | (none,i)::r=>i::uH r
 | (some (s,w),i)::r=>match uH r with
  | .when s' w' body::r'=>if s=s'∧w=w'∧i.dst≠some s then .when s w (i::body)::r' else .when s w [i] :: .when s' w' body::r'
  | l=>.when s w [i]::l

def Ins.lays:Ins→Bool
 | .e _ (.alloc _) | .e _ (.box _) | .e _ .makeMap | .e _ (.range _) | .e _ (.cloneMap _) | .e _ (.makeSlice ..) | .e _ (.append ..) | .e _ (.appendStr ..) | .e _ (.appendZero ..)=>true
 | _=>false

def aBq (o:Oper):List Nat:=(o.after.toList.filter fun e=>Region.binds .any e).map (·.on)

def nS (P:Program)(n:Nat)(ops:Array Oper):Nat→List Oper→Option (List DOp×Nat)
 | k,[]=>some ([],k)
 | k,o::r=>match qL P n ops o with
  | some (g,i)=>match nS P n ops (if i.lays then k+1 else k) r with
   | some (l,m)=>some (⟨g,i,aBq o,k⟩::l,m)
   | none=>none
  | none=>none

def C.plain:C→Bool
 | .seq a b=>a.plain&&b.plain
 | .cond _ a b=>a.plain&&b.plain
 | .block _ c=>c.plain
 | .loop _ c=>c.plain
 | .rangeF .. => false
 | _=>true

def comp (P:Program)(n:Nat):Code→Option C
 | .skip=>some .skip
 | .region _ ops false=>match mO P n ops ops.toList with
  | some l=>some (.ops [] (uH l))
  | none=>none
 | .region _ ops true=>match nS P n ops 0 ops.toList with
  | some (l,m)=>some (.drw [] m l)
  | none=>none
 | .seq a b=>match comp P n a,comp P n b with
  | some x,some y=>some (.seq x y)
  | _,_=>none
 | .cond c a b=>match iH c,comp P n a,comp P n b with
  | some c,some x,some y=>some (.cond c x y)
  | _,_,_=>none
 | .block id c=>match comp P n c with | some x=>some (.block id x) | none=>none
 | .loop c=>match comp P n c with | some x=>some (.loop [] x) | none=>none
 | .exit id=>some (.exit id)
 | .ret=>some .ret
 | .rangeFunc f ps a b=>match iH f,comp P n a,comp P n b with
  | some f,some x,some y=>if x.plain&&y.plain&&ps.toList.all (· < n) then some (.rangeF [] f ps.toList x y) else none
  | _,_,_=>none
 | _=>none

def jW:C→C
 | .ops _ l=>.ops [] l
 | .drw _ m l=>.drw [] m l
 | .seq a b=>.seq (jW a) (jW b)
 | .cond c a b=>.cond c (jW a) (jW b)
 | .block id c=>.block id (jW c)
 | .loop _ c=>.loop [] (jW c)
 | .rangeF _ f ps a b=>.rangeF [] f ps (jW a) (jW b)
 | c=>c

theorem lP : ∀ c:C,(jW c).plain=c.plain
 | .skip | .ops .. | .drw .. | .exit _ | .ret | .rangeF .. => rfl
 | .seq a b=>by simp only [jW,C.plain,lP a,lP b]
 | .cond _ a b=>by simp only [jW,C.plain,lP a,lP b]
 | .block _ c=>by simp only [jW,C.plain,lP c]
 | .loop _ c=>by simp only [jW,C.plain,lP c]

def pC (P:Program):List ResultVar→Option (List Res)
 | []=>some []
 | .tmp s::r=>match pC P r with
  | some l=>if s<GB then some (.tmp s::l) else none
  | none=>none
 | .cell a t::r=>match pC P r with
  | some l=>if okT P t∧a<GB then some (.cell a (pN P t) (P.cellsOf t)::l) else none
  | none=>none

end Go.Dn

/- What abstract values mean in the model's world. -/
namespace Go.Dn

structure Tok where
 b:Nat
 o:Nat
 s0:Nat
 sz:Nat
 lim:Nat

structure Gh where
 has:Nat→Prop
 obj:Nat→Nat×Nat
 len:Nat→Nat
 lim:Nat→Nat
 tok:Nat→Tok
 frz:Nat→Nat→Prop
 prog:Program

def iG:Value→Bool
 | .agg _ | .tuple _=>false
 | _=>true

inductive DR (frz:Nat→Nat→Prop) (w:World):D→Value→Prop
 | int (k:IntKind) (n:Int):DR frz w (.int k n) (.int k n)
 | bool (b:Bool):DR frz w (.bool b) (.bool b)
 | str (l:List UInt8):DR frz w (.str l) (.string ⟨l.toArray⟩)
 | nilp:DR frz w .nilp (.pointer none)
 | nils:DR frz w .nils (.slice none 0 0)
 | nilm:DR frz w .nilm (.map none)
 | nilf:DR frz w .nilf .nilFunc
 | nili:DR frz w .nili .nilIface
 | iface (t:Nat) (d:D) (v:Value) (h:DR frz w d v):DR frz w (.iface t d) (.iface t v)
 | list (rows:List (List D)) (b o cap sz:Nat) (cv:Nat→Value) (hcap:rows.length≤cap)
   (hsz : ∀ (i:Nat) (row:List D),rows[i]?=some row→row.length=sz)
   (hf : ∀ k,k<rows.length*sz→frz b (o+k))
   (hc : ∀ k,k<rows.length*sz→w.cell? ⟨b,o+k,none⟩=some (cv k))
   (h1 : ∀ k,k<rows.length*sz→iG (cv k)=true)
   (hd : ∀ (i:Nat) (row:List D) (j:Nat) (d:D),rows[i]?=some row→row[j]?=some d→DR frz w d (cv (i*sz+j))) :
   DR frz w (.list rows) (.slice (some ⟨b,o,none⟩) rows.length cap)
 | list0 (a:Addr) (cap:Nat):DR frz w (.list []) (.slice (some a) 0 cap)
 | agg (cs:List D) (vs:Array Value) (hl:cs.length=vs.size) (h1 : ∀ (i:Nat) (v:Value),vs[i]?=some v→iG v=true) (h : ∀ (i:Nat) (d:D) (v:Value),cs[i]?=some d→vs[i]?=some v→DR frz w d v):DR frz w (.agg cs) (.agg vs)

theorem DR.asList {f:Nat→Nat→Prop}{w:World}{rows:List (List D)}{b o n cap:Nat}(h:DR f w (.list rows) (.slice (some ⟨b,o,none⟩) n cap)):n=rows.length∧∃ (sz:Nat) (cv:Nat→Value),rows.length≤cap ∧
  (∀ (i:Nat) (row:List D),rows[i]?=some row→row.length=sz)∧(∀ k,k<rows.length*sz→f b (o+k))∧(∀ k,k<rows.length*sz→w.cell? ⟨b,o+k,none⟩=some (cv k)) ∧
  (∀ k,k<rows.length*sz→iG (cv k)=true)∧(∀ (i:Nat) (row:List D) (j:Nat) (d:D),rows[i]?=some row→row[j]?=some d→DR f w d (cv (i*sz+j))):=by
 cases h with
 | list _ _ _ _ sz cv hcap hsz hf hc h1 hd=>exact⟨rfl,sz,cv,hcap,hsz,hf,hc,h1,hd⟩
 | list0 _ _=>exact⟨rfl,0,fun _=>undef,Nat.zero_le _,fun i row h=>by simp at h,fun k hk=>by simp at hk,fun k hk=>by simp at hk,fun k hk=>by simp at hk,fun i row j d h=>by simp at h⟩

structure Stay (f f':Nat→Nat→Prop)(w w':World):Prop where
 frz : ∀ b o,f b o→f' b o
 cell : ∀ b o,f b o→w'.cell? ⟨b,o,none⟩=w.cell? ⟨b,o,none⟩

theorem DR.mono {f f':Nat→Nat→Prop}{w w':World}(hs:Stay f f' w w'){d:D}{v:Value}(h:DR f w d v):DR f' w' d v:=by
 induction h with
 | int k n=>exact .int k n
 | bool b=>exact .bool b
 | str l=>exact .str l
 | nilp=>exact .nilp
 | nils=>exact .nils
 | nilm=>exact .nilm
 | nilf=>exact .nilf
 | nili=>exact .nili
 | iface t d v _ ih=>exact .iface t d v ih
 | list rows b o cap sz cv hcap hsz hf hc h1 _ ih =>
  exact .list rows b o cap sz cv hcap hsz (fun k hk=>hs.frz _ _ (hf k hk)) (fun k hk=>by rw [hs.cell _ _ (hf k hk)]; exact hc k hk) h1 ih
 | list0 a cap=>exact .list0 a cap
 | agg cs vs hl h1 _ ih=>exact .agg cs vs hl h1 ih

theorem Stay.refl (f:Nat→Nat→Prop)(w:World):Stay f f w w:=⟨fun _ _ h=>h,fun _ _ _=>rfl⟩
theorem Stay.trans {f f' f'':Nat→Nat→Prop}{w w' w'':World}(h:Stay f f' w w')(h':Stay f' f'' w' w''):Stay f f'' w w'' :=
 ⟨fun b o x=>h'.frz b o (h.frz b o x),fun b o x=>(h'.cell b o (h.frz b o x)).trans (h.cell b o x)⟩

inductive VR (g:Gh) (tk:List Nat) (w:World):V→Value→Prop
 | d (x:D) (v:Value) (h:DR g.frz w x v) (h1:iG v=true):VR g tk w (.d x) v
 | da (cs:List D) (vs:Array Value) (h:DR g.frz w (.agg cs) (.agg vs)):VR g tk w (.da cs) (.agg vs)
 | agg (cs:List V) (vs:Array Value) (hl:cs.length=vs.size) (h1 : ∀ (i:Nat) (v:Value),vs[i]?=some v→iG v=true) (h : ∀ (i:Nat) (c:V) (v:Value),cs[i]?=some c→vs[i]?=some v→VR g tk w c v):VR g tk w (.agg cs) (.agg vs)
 | tup (cs:List V) (vs:Array Value) (hl:cs.length=vs.size) (h : ∀ (i:Nat) (c:V) (v:Value),cs[i]?=some c→vs[i]?=some v→VR g tk w c v):VR g tk w (.tup cs) (.tuple vs)
 | ref (r off:Nat) (h:g.has r):VR g tk w (.ref r off) (.pointer (some ⟨(g.obj r).1,(g.obj r).2+off,none⟩))
 | ro (cs:List D) (b o:Nat) (cv:Nat→Value)
   (hf : ∀ k,k<cs.length→g.frz b (o+k)) (hc : ∀ k,k<cs.length→w.cell? ⟨b,o+k,none⟩=some (cv k)) (h1 : ∀ k,k<cs.length→iG (cv k)=true)
   (hd : ∀ (k:Nat) (d:D),cs[k]?=some d→DR g.frz w d (cv k)):VR g tk w (.ro cs) (.pointer (some ⟨b,o,none⟩))
 | sl (r off len sz cap:Nat) (a:Addr) (h:g.has r) (hcap:len≤cap) (hsz:0<sz) (hin:off+len*sz≤g.len r) (hout:g.len r≤off+cap*sz)
   (ha:off<g.len r→a=⟨(g.obj r).1,(g.obj r).2+off,none⟩) (hsp:a.spot=none) (hlim:off+cap*sz≤g.lim r):VR g tk w (.sl r off len sz) (.slice (some a) len cap)
 | fl (rows:List (List D)) (a:Addr) (h:DR g.frz w (.list rows) (.slice (some a) rows.length rows.length)):VR g tk w (.fl rows) (.slice (some a) rows.length rows.length)
 | tl (rows:List (List D)) (t st sz k:Nat) (a:Addr) (cap:Nat) (hd:DR g.frz w (.list rows) (.slice (some a) rows.length cap)) (ht:tk[t]?=some k) (hle:st+rows.length≤k)
   (hh : ∀ row∈rows,row.length=sz) (hsz:(g.tok t).sz=sz)
   (ha:st+rows.length=k→rows.length<cap→(g.tok t).s0≤st∧a=⟨(g.tok t).b,(g.tok t).o+(st-(g.tok t).s0)*(g.tok t).sz,none⟩∧st+cap≤(g.tok t).lim):VR g tk w (.tl rows t st sz) (.slice (some a) rows.length cap)
 | map (r:Nat) (h:g.has r):VR g tk w (.map r) (.map (some (g.obj r).1))
 | yld (r:Nat) (h:g.has r):VR g tk w (.yld r) (.func (.yield (g.obj r).1) #[] #[])
 | iter (r:Nat) (h:g.has r):VR g tk w (.iter r) (.pointer (some ⟨(g.obj r).1,0,none⟩))
 | fn (f:Fn) (first caps:List V) (first' caps':Array Value) (hl:first.length=first'.size) (hl':caps.length=caps'.size)
   (h : ∀ (i:Nat) (c:V) (v:Value),first[i]?=some c→first'[i]?=some v→VR g tk w c v) (h' : ∀ (i:Nat) (c:V) (v:Value),caps[i]?=some c→caps'[i]?=some v→VR g tk w c v) :
   VR g tk w (.fn f first caps) (.func f first' caps')
 | ifc (t:Nat) (v:V) (x:Value) (h:VR g tk w v x):VR g tk w (.ifc t v) (.iface t x)
 | gone:VR g tk w .gone undef
 | any (v:Value):VR g tk w .any v

structure Later (g:Gh)(tk:List Nat)(w:World)(g':Gh)(tk':List Nat)(w':World):Prop where
 stay:Stay g.frz g'.frz w w'
 has : ∀ r,g.has r→g'.has r∧g'.obj r=g.obj r∧g'.len r=g.len r
 tok : ∀ t k,tk[t]?=some k→∃ k',tk'[t]?=some k'∧k≤k'∧(k=k'→g'.tok t=g.tok t)∧(g'.tok t).sz=(g.tok t).sz
 prog:g'.prog=g.prog
 lim : ∀ r,g.has r→g'.lim r=g.lim r

theorem VR.later {g g':Gh}{tk tk':List Nat}{w w':World}(hl:Later g tk w g' tk' w'){v:V}{x:Value}(h:VR g tk w v x):VR g' tk' w' v x:=by
 induction h with
 | d x v h h1=>exact .d x v (h.mono hl.stay) h1
 | da cs vs h=>exact .da cs vs (h.mono hl.stay)
 | agg cs vs hs h1 _ ih=>exact .agg cs vs hs h1 ih
 | tup cs vs hs _ ih=>exact .tup cs vs hs ih
 | ref r off h=>obtain⟨h1,h2,h3⟩:=hl.has r h; rw [← h2]; exact .ref r off h1
 | ro cs b o cv hf hc h1 hd =>
  exact .ro cs b o cv (fun k hk=>hl.stay.frz _ _ (hf k hk)) (fun k hk=>by rw [hl.stay.cell _ _ (hf k hk)]; exact hc k hk) h1 (fun k d hk=>(hd k d hk).mono hl.stay)
 | sl r off len sz cap a h hcap hsz hin hout ha hsp hlim =>
  obtain⟨h1,h2,h3⟩:=hl.has r h
  exact .sl r off len sz cap a h1 hcap hsz (by rw [h3]; exact hin) (by rw [h3]; exact hout) (by rw [h3,h2]; exact ha) hsp (by rw [hl.lim r h]; exact hlim)
 | fl rows a h=>exact .fl rows a (h.mono hl.stay)
 | tl rows t st sz k a cap hd ht hle hh hsz ha =>
  obtain⟨k',h1,h2,h3,h4⟩:=hl.tok t k ht
  refine .tl rows t st sz k' a cap (hd.mono hl.stay) h1 (Nat.le_trans hle h2) hh (by rw [h4]; exact hsz) (fun e hc=>?_)
  have hk:k=k':=by omega
  rw [h3 hk]
  exact ha (by omega) hc
 | map r h=>obtain⟨h1,h2,h3⟩:=hl.has r h; rw [← h2]; exact .map r h1
 | yld r h=>obtain⟨h1,h2,h3⟩:=hl.has r h; rw [← h2]; exact .yld r h1
 | iter r h=>obtain⟨h1,h2,h3⟩:=hl.has r h; rw [← h2]; exact .iter r h1
 | fn f first caps first' caps' h1 h2 _ _ ih ih'=>exact .fn f first caps first' caps' h1 h2 ih ih'
 | ifc t v x _ ih=>exact .ifc t v x ih
 | gone=>exact .gone
 | any v=>exact .any v

theorem Later.refl (g:Gh)(tk:List Nat)(w:World):Later g tk w g tk w :=
 ⟨Stay.refl _ _,fun r h=>⟨h,rfl,rfl⟩,fun t k h=>⟨k,h,bB _,fun _=>rfl,rfl⟩,rfl,fun _ _=>rfl⟩
theorem Later.trans {g g' g'':Gh}{tk tk' tk'':List Nat}{w w' w'':World}(h:Later g tk w g' tk' w')(h':Later g' tk' w' g'' tk'' w''):Later g tk w g'' tk'' w'':=by
 refine⟨h.stay.trans h'.stay,fun r hr=>?_,fun t k ht=>?_,h'.prog.trans h.prog,fun r hr=>(h'.lim r (h.has r hr).1).trans (h.lim r hr)⟩
 ·obtain⟨a,b,c⟩:=h.has r hr
  obtain⟨a',b',c'⟩:=h'.has r a
  exact⟨a',b'.trans b,c'.trans c⟩
 ·obtain⟨k',a,b,c,d⟩:=h.tok t k ht
  obtain⟨k'',a',b',c',d'⟩:=h'.tok t k' a
  refine⟨k'',a',Nat.le_trans b b',fun e=>?_,d'.trans d⟩
  have e1:k=k':=by omega
  have e2:k'=k'':=by omega
  exact(c' e2).trans (c e1)

def sE (tmps:Array Value)(s:Nat):Value:=if s<GB then tmps.getD s undef else .pointer (some ⟨s-GB,0,none⟩)

def EnvR (g:Gh)(tk:List Nat)(w:World)(n:Nat)(e:Env)(tmps:Array Value):Prop :=
 (tmps.size=n∧n≤GB)∧∀ s,VR g tk w (e.get s) (sE tmps s)

theorem EnvR.later {g g':Gh}{tk tk':List Nat}{w w':World}{n:Nat}{e:Env}{tmps:Array Value}(hl:Later g tk w g' tk' w')(h:EnvR g tk w n e tmps):EnvR g' tk' w' n e tmps :=
 ⟨h.1,fun s=>(h.2 s).later hl⟩

def aGG:Ex→Option Code
 | .normal=>none
 | .exit id=>some (.exit id)
 | .ret=>some .ret

def LSt.is:LSt→Loop→Prop
 | .ready,l=>l.state = .ready∧l.pending=none
 | .busy,l=>l.state = .busy
 | .done x,l=>x ≠ .normal∧l.state = .done∧l.pending=aGG x

def OthR (g:Gh)(tk:List Nat)(w:World):Obj→Go.Obj→Prop
 | .map es clock,.map es' clock'=>clock=clock'∧es.length=es'.size∧(es.map fun x=>x.2.1).Nodup∧∀ (i b:Nat) (k v:V),es[i]?=some (b,k,v)→∃ x,es'[i]?=some x∧x.born=b∧VR g tk w k x.key∧VR g tk w v x.val∧v.cells.isSome=true
 | .iter m since seen last,.mapIter m' since' seen' last'=>m'=m.map (fun r=>(g.obj r).1)∧(∀ r,m=some r→g.has r)∧since'=since∧seen'.toList=seen∧last'=last
 | .loop e ps a b st,.loop l=>l.params.toList=ps∧st.is l∧a.plain=true∧b.plain=true∧∃ n,(∀ p∈ps,p<n)∧comp g.prog n l.assign=some (jW a)∧comp g.prog n l.body=some (jW b)∧EnvR g tk w n e l.tmps
 | _,_=>False

def Obj.isOth:Obj→Prop
 | .map .. => True
 | .iter .. => True
 | .loop .. => True
 | _=>False

theorem OthR.later {g g':Gh}{tk tk':List Nat}{w w':World}(hl:Later g tk w g' tk' w'){o:Obj}{ho:Go.Obj}(h:OthR g tk w o ho):OthR g' tk' w' o ho:=by
 cases o <;> cases ho <;> try exact h.elim
 case map es clock es' clock' =>
  obtain⟨h1,h2,h4,h3⟩:=h
  refine⟨h1,h2,h4,fun i b k v hi=>?_⟩
  obtain⟨x,a1,a2,a3,a4,a5⟩:=h3 i b k v hi
  exact⟨x,a1,a2,a3.later hl,a4.later hl,a5⟩
 case iter m since seen last m' since' seen' last' =>
  obtain⟨h1,h2,h3⟩:=h
  refine⟨?_,fun r hr=>(hl.has r (h2 r hr)).1,h3⟩
  rw [h1]
  cases m with
  | none=>rfl
  | some r=>simp [(hl.has r (h2 r rfl)).2.1]
 case loop e ps a b st l =>
  obtain⟨h1,h2,h3,h4,n,h5,h6,h7,h8⟩:=h
  exact⟨h1,h2,h3,h4,n,h5,by rw [hl.prog]; exact h6,by rw [hl.prog]; exact h7,h8.later hl⟩

def aGp (c:Array Value)(fz:Nat×Nat):Prop:=∀ o,o<c.size→¬ (fz.1≤o∧o<fz.2)

def Obj.live:Obj→Prop
 | .dead=>False
 | .free=>False
 | _=>True

def rG (g:Gh) (σ:St)(b:Nat):Prop :=
 (∃ (r:Nat) (o:Obj),σ.objs[r]?=some o∧o.live∧(g.obj r).1=b)∨(∃ (t k:Nat),σ.toks[t]?=some k∧(g.tok t).b=b)

structure Sim (g:Gh) (σ:St)(w:World):Prop where
 has : ∀ (r:Nat) (o:Obj),σ.objs[r]?=some o→o.live→g.has r
 bound : ∀ r,g.has r→r<σ.objs.length
 free : ∀ r,σ.objs[r]?=some .free→¬ g.has r
 cells : ∀ (r:Nat) (cs:List V),σ.objs[r]?=some (.cells cs)→cs.length=g.len r ∧
  ∃ c e fz,w.heap[(g.obj r).1]?=some (.cells c e fz)∧aGp c fz∧∀ (j:Nat) (v:V),cs[j]?=some v→∃ cv,c[(g.obj r).2+j]?=some cv∧iG cv=true∧VR g σ.toks w v cv
 oth : ∀ (r:Nat) (o:Obj),σ.objs[r]?=some o→o.isOth→∃ ho,w.heap[(g.obj r).1]?=some ho∧OthR g σ.toks w o ho
 dist : ∀ (r r':Nat) (o o':Obj),σ.objs[r]?=some o→o.live→σ.objs[r']?=some o'→o'.live→r≠r'→(g.obj r).1≠(g.obj r').1
 nofrz : ∀ (r:Nat) (o:Obj),σ.objs[r]?=some o→o.live→∀ q,¬ g.frz (g.obj r).1 q
 tok : ∀ (t k:Nat),σ.toks[t]?=some k→(0<(g.tok t).sz∧(g.tok t).s0≤k)∧∃ c e fz,w.heap[(g.tok t).b]?=some (.cells c e fz)∧aGp c fz ∧
  (g.tok t).o+((g.tok t).lim-(g.tok t).s0)*(g.tok t).sz≤c.size∧∀ q,(g.tok t).o+(k-(g.tok t).s0)*(g.tok t).sz≤q→¬ g.frz (g.tok t).b q
 tdist : ∀ (t t' k k':Nat),σ.toks[t]?=some k→σ.toks[t']?=some k'→t≠t'→(g.tok t).b≠(g.tok t').b
 tobj : ∀ (t k r:Nat) (o:Obj),σ.toks[t]?=some k→σ.objs[r]?=some o→o.live→(g.tok t).b≠(g.obj r).1
 frzb : ∀ b q,g.frz b q→∃ v,w.cell? ⟨b,q,none⟩=some v
 lims : ∀ (r:Nat) (cs:List V),σ.objs[r]?=some (.cells cs)→g.len r≤g.lim r∧∀ c e fz,w.heap[(g.obj r).1]?=some (.cells c e fz)→(g.obj r).2+g.lim r≤c.size

structure Ev (g:Gh) (σ:St)(w:World)(g':Gh) (σ':St)(w':World):Prop where
 later:Later g σ.toks w g' σ'.toks w'
 size:w.heap.size≤w'.heap.size
 os:w'.os=w.os
 tape:w'.tape=w.tape
 output:w'.output=w.output
 frame : ∀ b,b<w.heap.size→¬ rG g σ b→w'.heap[b]?=w.heap[b]?
 mine : ∀ b,rG g' σ' b→rG g σ b∨w.heap.size≤b
 newf : ∀ b q,g'.frz b q→g.frz b q∨rG g σ b∨w.heap.size≤b

theorem Ev.refl (g:Gh) (σ:St)(w:World):Ev g σ w g σ w :=
 ⟨Later.refl _ _ _,bB _,rfl,rfl,rfl,fun _ _ _=>rfl,fun _ h=>.inl h,fun _ _ h=>.inl h⟩

theorem Ev.trans {g g' g'':Gh} {σ σ' σ'':St}{w w' w'':World}(h:Ev g σ w g' σ' w')(h':Ev g' σ' w' g'' σ'' w''):Ev g σ w g'' σ'' w'':=by
 refine⟨h.later.trans h'.later,Nat.le_trans h.size h'.size,h'.os.trans h.os,h'.tape.trans h.tape,h'.output.trans h.output,fun b hb hm=>?_,fun b hb=>?_,fun b q hq=>?_⟩
 ·rw [h'.frame b (Nat.lt_of_lt_of_le hb h.size) (fun hm'=>?_),h.frame b hb hm]
  rcases h.mine b hm' with h1 | h1
  ·exact hm h1
  ·omega
 ·rcases h'.mine b hb with h1 | h1
  ·exact h.mine b h1
  ·exact .inr (Nat.le_trans h.size h1)
 ·rcases h'.newf b q hq with h1 | h1 | h1
  ·exact h.newf b q h1
  ·rcases h.mine b h1 with h2 | h2
   ·exact .inr (.inl h2)
   ·exact .inr (.inr h2)
  ·exact .inr (.inr (Nat.le_trans h.size h1))

theorem Env.get_set (e:Env)(s t:Nat)(v:V):(e.set s v).get t=if s=t then v else e.get t:=by
 induction e with
 | nil=>simp [Env.set,Env.get]
 | cons p r ih =>
  obtain⟨q,u⟩:=p
  by_cases h:q=s
  ·subst h
   by_cases h2:q=t <;> simp [Env.set,Env.get,h2]
  ·by_cases h2:q=t
   ·subst h2
    have hn : ¬ s=q:=fun e=>h e.symm
    simp [Env.set,Env.get,h,hn]
   ·simp only [Env.set,h,if_false,Env.get,h2]
    exact ih

theorem Env.get_pick (e:Env)(ks:List Nat)(t:Nat):(e.pick ks).get t=if t∈ks then e.get t else .any:=by
 induction ks with
 | nil=>simp [Env.pick,Env.get]
 | cons k ks ih =>
  simp only [Env.pick,aH,Env.get] at ih ⊢
  by_cases h:k=t
  ·subst h; simp
  ·have hn : ¬ t=k:=fun e=>h e.symm
   simp [h,hn,ih]

theorem Sim.blk {g:Gh} {σ:St}{w:World}(hs:Sim g σ w){r:Nat}{o:Obj}(h:σ.objs[r]?=some o)(hl:o.live):(g.obj r).1<w.heap.size:=by
 have key : ∀ {b:Nat} {o:Go.Obj},w.heap[b]?=some o→b<w.heap.size:=fun h=>(bW.1 h).1
 cases o with
 | cells cs=>obtain⟨_,c,e,fz,h2,_⟩:=hs.cells r cs h; exact key h2
 | map es c=>obtain⟨ho,h1,_⟩:=hs.oth r _ h trivial; exact key h1
 | iter m s t l=>obtain⟨ho,h1,_⟩:=hs.oth r _ h trivial; exact key h1
 | loop e p a b s=>obtain⟨ho,h1,_⟩:=hs.oth r _ h trivial; exact key h1
 | dead=>exact hl.elim
 | free=>exact hl.elim
theorem Obj.isOth.live {o:Obj}(h:o.isOth):o.live:=by cases o <;> first | exact h.elim | trivial

theorem EnvR.set {g:Gh}{tk:List Nat}{w:World}{n:Nat}{e:Env}{tmps:Array Value}(h:EnvR g tk w n e tmps){s:Nat}(hs:s<n){v:V}{x:Value}(hv:VR g tk w v x) :
  EnvR g tk w n (e.set s v) (tmps.setIfInBounds s x):=by
 refine⟨by simp [h.1.1,h.1.2],fun t=>?_⟩
 rw [Env.get_set]
 by_cases hst:s=t
 ·subst hst
  have h1:s<tmps.size:=by rw [h.1.1]; exact hs
  have h2:s<GB:=Nat.lt_of_lt_of_le hs h.1.2
  simpa [sE,h2,Array.getD_eq_getD_getElem?,h1] using hv
 ·simp only [hst,if_false]
  have:=h.2 t
  unfold sE at this ⊢
  rw [Array.getD_eq_getD_getElem?,Array.getElem?_setIfInBounds_ne hst,← Array.getD_eq_getD_getElem?]
  exact this

theorem EnvR.at {g:Gh}{tk:List Nat}{w:World}{n:Nat}{e:Env}{tmps:Array Value}(h:EnvR g tk w n e tmps){s:Nat}(hs:s<GB):VR g tk w (e.get s) (tmps.getD s undef):=by
 have:=h.2 s
 rwa [sE,if_pos hs] at this

theorem EnvR.pick {g:Gh}{tk:List Nat}{w:World}{n:Nat}{e:Env}{tmps:Array Value}(h:EnvR g tk w n e tmps)(ks:List Nat):EnvR g tk w n (e.pick ks) tmps:=by
 refine⟨h.1,fun t=>?_⟩
 rw [Env.get_pick]
 split
 ·exact h.2 t
 ·exact .any _

end Go.Dn

/- Each operation that leaves the store alone does in the world what it does in the abstract. -/
namespace Go.Dn

variable {P:Program} {g:Gh} {tk:List Nat} {w:World}

theorem VR.inv_d {x:D}{v:Value}(h:VR g tk w (.d x) v):DR g.frz w x v:=by cases h; assumption
theorem DR.inv_int {f:Nat→Nat→Prop}{k:IntKind}{n:Int}{v:Value}(h:DR f w (.int k n) v):v = .int k n:=by cases h; rfl
theorem DR.inv_bool {f:Nat→Nat→Prop}{b:Bool}{v:Value}(h:DR f w (.bool b) v):v = .bool b:=by cases h; rfl
theorem DR.inv_str {f:Nat→Nat→Prop}{l:List UInt8}{v:Value}(h:DR f w (.str l) v):v = .string ⟨l.toArray⟩:=by cases h; rfl
theorem VR.inv_int {k:IntKind}{n:Int}{v:Value}(h:VR g tk w (.d (.int k n)) v):v = .int k n:=h.inv_d.inv_int
theorem VR.inv_bool {b:Bool}{v:Value}(h:VR g tk w (.d (.bool b)) v):v = .bool b:=h.inv_d.inv_bool
theorem VR.inv_str {l:List UInt8}{v:Value}(h:VR g tk w (.d (.str l)) v):v = .string ⟨l.toArray⟩:=h.inv_d.inv_str
theorem VR.int (k:IntKind)(n:Int):VR g tk w (.d (.int k n)) (.int k n):=.d _ _ (.int k n) rfl
theorem VR.bool (b:Bool):VR g tk w (.d (.bool b)) (.bool b):=.d _ _ (.bool b) rfl
theorem VR.str (l:List UInt8):VR g tk w (.d (.str l)) (.string ⟨l.toArray⟩):=.d _ _ (.str l) rfl

theorem aA3 {v:Value}{d:D}(h:aA1 v=some d)(f:Nat→Nat→Prop)(w:World):DR f w d v:=by
 unfold aA1 at h
 split at h
 case h_3 s=>cases h; exact .str s.data.toList
 all_goals first | (cases h; constructor) | cases h

theorem aA2 {v:Value}{d:D}(h:aA1 v=some d):iG v=true:=by
 unfold aA1 at h
 split at h <;> first | rfl | cases h

theorem qR : ∀ {vs:List Value} {ds:List D},pP vs=some ds→∀ (i:Nat) (v:Value),vs[i]?=some v→iG v=true
 | [],ds,_,i,v,hv=>by simp at hv
 | x::r,ds,h,i,v,hv=>by
  unfold pP at h
  split at h
  ·rename_i d l hd hl
   cases i with
   | zero=>simp at hv; subst hv; exact aA2 hd
   | succ i=>simp at hv; exact qR hl i v hv
  ·cases h

theorem qS : ∀ {vs:List Value} {ds:List D},pP vs=some ds→ds.length=vs.length∧∀ (f:Nat→Nat→Prop) (w:World) (i:Nat) (d:D) (v:Value),ds[i]?=some d→vs[i]?=some v→DR f w d v
 | [],ds,h=>by
  simp [pP] at h; subst h
  exact⟨rfl,fun f w i d v hd=>by simp at hd⟩
 | v::r,ds,h=>by
  unfold pP at h
  split at h
  ·rename_i d l hd hl
   cases h
   obtain⟨h1,h2⟩:=qS hl
   refine⟨by simp [h1],fun f w i d' v' hd' hv'=>?_⟩
   cases i with
   | zero=>simp at hd' hv'; subst hd' hv'; exact aA3 hd f w
   | succ i=>simp at hd' hv'; exact h2 f w i d' v' hd' hv'
  ·cases h

theorem tM {v:Value}{x:Opd}(h:aBA v=some x)(e:Env):VR g tk w (x.ev e) v:=by
 unfold aBA at h
 split at h
 ·rename_i cs
  split at h
  ·rename_i l hl
   cases h
   obtain⟨h1,h2⟩:=qS hl
   exact .da l cs (.agg l cs (by simpa using h1) (fun i v hv=>qR hl i v (by simpa using hv)) (fun i d v hd hv=>h2 _ w i d v hd (by simpa using hv)))
  ·cases h
 ·split at h
  ·rename_i d hd
   cases h
   exact .d _ _ (aA3 hd _ _) (aA2 hd)
  ·cases h

theorem nM {x:Operand}{x':Opd}(hx:iH x=some x'){n:Nat}{e:Env}{a:Act}(he:EnvR g tk w n e a.tmps):VR g tk w (x'.ev e) (a.eval x):=by
 unfold iH at hx
 split at hx
 ·split at hx
  ·rename_i hlt
   cases hx
   exact he.at hlt
  ·cases hx
 ·exact tM hx e
 ·cases hx; exact .fn _ _ _ _ _ rfl rfl (fun i c v hc=>by simp at hc) (fun i c v hc=>by simp at hc)
 ·rename_i gl
  cases hx
  have:=he.2 (GB+gl)
  rw [sE,if_neg (by omega),Nat.add_sub_cancel_left] at this
  exact this

theorem aDV {op : BinOp} {k : IntKind} {a b : Int} {v : V} (hop : op ≠ .shl ∧ op ≠ .shr) (h : eS op k a b = some v) (t : TypeId) :
    ∃ cv, (Go.binOp op t (.int k a) (.int k b)).run P w = .ok cv w ∧ VR g tk w v cv := by
  cases op <;> simp only [eS] at h <;> try (cases h; done)
  case add => cases h; exact ⟨_, by simp [Go.binOp, Op.intArith], .int _ _⟩
  case sub => cases h; exact ⟨_, by simp [Go.binOp, Op.intArith], .int _ _⟩
  case mul => cases h; exact ⟨_, by simp [Go.binOp, Op.intArith], .int _ _⟩
  case quo => split at h; · cases h
              · rename_i hb; cases h; exact ⟨_, by simp [Go.binOp, Op.intDiv, hb], .int _ _⟩
  case rem => split at h; · cases h
              · rename_i hb; cases h; exact ⟨_, by simp [Go.binOp, Op.intDiv, hb], .int _ _⟩
  case and => cases h; exact ⟨_, by simp only [Go.binOp, ne_eq, not_true_eq_false, if_false, intBits_and, Sem.run_pure], .int _ _⟩
  case or => cases h; exact ⟨_, by simp only [Go.binOp, ne_eq, not_true_eq_false, if_false, intBits_or, Sem.run_pure], .int _ _⟩
  case xor => cases h; exact ⟨_, by simp only [Go.binOp, ne_eq, not_true_eq_false, if_false, intBits_xor, Sem.run_pure], .int _ _⟩
  case andNot => cases h; exact ⟨_, by simp only [Go.binOp, ne_eq, not_true_eq_false, if_false, intBits_andNot, Sem.run_pure], .int _ _⟩
  case eql => cases h; exact ⟨_, by simp [Go.binOp, Op.intCmp]; rfl, .bool _⟩
  case neq => cases h; exact ⟨_, by simp [Go.binOp, Op.intCmp, bne]; rfl, .bool _⟩
  case lss => cases h; exact ⟨_, by simp [Go.binOp, Op.intCmp], .bool _⟩
  case leq => cases h; exact ⟨_, by simp [Go.binOp, Op.intCmp], .bool _⟩
  case gtr => cases h; exact ⟨_, by simp [Go.binOp, Op.intCmp], .bool _⟩
  case geq => cases h; exact ⟨_, by simp [Go.binOp, Op.intCmp], .bool _⟩

theorem uU {op:BinOp}{k k':IntKind}{a b:Int}{v:V}(hop:op = .shl∨op = .shr)(h:iN op k a b=some v)(t:TypeId) :
  ∃ cv,(Go.binOp op t (.int k a) (.int k' b)).run P w = .ok cv w∧VR g tk w v cv:=by
 unfold iN at h
 split at h
 ·cases h
 ·rename_i hb
  rcases hop with rfl | rfl
  ·cases h; exact⟨_,by simp [Go.binOp,Op.shift,hb],.int _ _⟩
  ·cases h
   refine⟨.int k (a / 2 ^ (min b.toNat k.bits)),?_,.int _ _⟩
   have hp:(0:Int)≤2 ^ (min b.toNat k.bits):=Int.pow_nonneg (by decide)
   simp [Go.binOp,Op.shift,hb,Int.fdiv_eq_ediv_of_nonneg _ hp]

theorem lU (l:List UInt8):(⟨l.toArray⟩:ByteArray).toList=l:=by simp

theorem kW (l:List UInt8):(⟨l.toArray⟩:ByteArray).size=l.length:=by simp [ByteArray.size]

theorem aBw (a b:List UInt8):(⟨a.toArray⟩++⟨b.toArray⟩:ByteArray)=⟨(a++b).toArray⟩:=by
 apply ByteArray.ext
 simp

theorem aDW {op:BinOp}{a b:List UInt8}{v:V}(h:aD9 op a b=some v)(t:TypeId) :
  ∃ cv,(Go.binOp op t (.string ⟨a.toArray⟩) (.string ⟨b.toArray⟩)).run P w = .ok cv w∧VR g tk w v cv:=by
 have hb : ∀ x y:List UInt8,(x==y)=decide (x=y):=fun x y=>by by_cases e:x=y <;> simp [e]
 cases op <;> simp only [aD9] at h <;> try (cases h; done)
 case add =>
  split at h
  ·rename_i hl
   cases h
   refine⟨.string ⟨(a++b).toArray⟩,?_,.str _⟩
   have hn : ¬ ((a.length:Int)+b.length>9223372036854775807):=by omega
   simp only [Go.binOp,Op.stringOp,kW,aBw,IntKind.max]
   simp only [IntKind.bits,IntKind.signed]
   rw [if_neg (by simpa using hn)]
   rfl
  ·cases h
 case eql=>cases h; exact⟨_,by simp only [Go.binOp,Op.stringOp,lU,hb]; rfl,.bool _⟩
 case neq=>cases h; exact⟨_,by simp only [Go.binOp,Op.stringOp,lU,hb]; rfl,.bool _⟩
 case lss=>cases h; exact⟨_,by simp only [Go.binOp,Op.stringOp,lU,hb]; rfl,.bool _⟩
 case leq=>cases h; exact⟨_,by simp only [Go.binOp,Op.stringOp,lU,hb]; rfl,.bool _⟩
 case gtr=>cases h; exact⟨_,by simp only [Go.binOp,Op.stringOp,lU,hb]; rfl,.bool _⟩
 case geq=>cases h; exact⟨_,by simp only [Go.binOp,Op.stringOp,lU,hb]; rfl,.bool _⟩

def iL:Ty→Value
 | .ptr=>.pointer none
 | .slice=>.slice none 0 0
 | .map=>.map none
 | .func=>.nilFunc
 | _=>.nilIface

theorem qQ {ty:Ty}{x:V}{v:Value}(h:V.isNil ty x=some true)(hx:VR g tk w x v):v=iL ty:=by
 unfold V.isNil at h
 split at h <;> first | (cases h; done) | skip
 all_goals (have hd:=hx.inv_d; clear hx; cases hd; rfl)

def yC:Ty→Value→Prop
 | .ptr,v=>∃ a,v = .pointer (some a)
 | .slice,v=>∃ a n c,v = .slice (some a) n c
 | .map,v=>∃ a,v = .map (some a)
 | .func,v=>∃ f a b,v = .func f a b
 | _,v=>∃ t x,v = .iface t x

theorem wS {ty:Ty}{x:V}{v:Value}(h:V.isNil ty x=some false)(hx:VR g tk w x v):yC ty v:=by
 unfold V.isNil at h
 split at h <;> first | (cases h; done) | skip
 all_goals first | (have hd:=hx.inv_d; clear hx; cases hd <;> first | exact⟨_,rfl⟩ | exact⟨_,_,rfl⟩ | exact⟨_,_,_,rfl⟩) | (cases hx; first | exact⟨_,rfl⟩ | exact⟨_,_,rfl⟩ | exact⟨_,_,_,rfl⟩)

def aK6 (P:Program)(t:TypeId):Ty→Prop
 | .ptr=>∃ e,P.underlying t=some (.pointer e)
 | .slice=>∃ e,P.underlying t=some (.slice e)
 | .map=>∃ k e,P.underlying t=some (.map k e)
 | .func=>∃ a b c,P.underlying t=some (.func a b c)
 | .iface=>∃ ms,P.underlying t=some (.interface ms)
 | .bool=>P.underlying t=some .bool
 | _=>True

theorem sH {t:TypeId}{ty:Ty}{ks:List Lf}(h:tL P t=some (ty,ks)):aK6 P t ty:=by
 unfold tL at h
 split at h <;> first | (cases h; first | exact⟨_,by assumption⟩ | exact⟨_,_,by assumption⟩ | exact⟨_,_,_,by assumption⟩ | assumption | trivial) | skip
 ·unfold tP at h; split at h
  ·split at h
   ·cases h; trivial
   ·cases h
  ·cases h
 ·unfold tP at h; split at h
  ·split at h
   ·cases h; trivial
   ·cases h
  ·cases h
 ·cases h

theorem pQ {t:TypeId}{ty:Ty}(ht:aK6 P t ty){x y:Value}(hx:x=iL ty∨yC ty x)(hy:y=iL ty∨yC ty y)
  (hno:x=iL ty∨y=iL ty) (hty:ty = .ptr∨ty = .slice∨ty = .map∨ty = .func∨ty = .iface) :
  ∃ b,(Op.equal t x y).run P w = .ok b w∧(b=true↔(x=iL ty∧y=iL ty)):=by
 show ∃ b,(Op.equalIn (9999+1) t x y).run P w = .ok b w∧_
 generalize 9999=n
 rcases hty with rfl | rfl | rfl | rfl | rfl
 ·obtain⟨e,he⟩:=ht
  rcases hx with rfl | ⟨a,rfl⟩ <;> rcases hy with rfl | ⟨b,rfl⟩
  ·exact⟨true,by simp [Op.equalIn,run_underlying he,iL],by simp⟩
  ·exact⟨false,by simp [Op.equalIn,run_underlying he,iL],by simp [iL]⟩
  ·exact⟨false,by simp [Op.equalIn,run_underlying he,iL],by simp [iL]⟩
  ·rcases hno with h | h <;> simp [iL] at h
 ·obtain⟨e,he⟩:=ht
  rcases hx with rfl | ⟨a,n,c,rfl⟩ <;> rcases hy with rfl | ⟨b,m,d,rfl⟩
  ·exact⟨true,by simp [Op.equalIn,run_underlying he,iL],by simp⟩
  ·exact⟨false,by simp [Op.equalIn,run_underlying he,iL],by simp [iL]⟩
  ·exact⟨false,by simp [Op.equalIn,run_underlying he,iL],by simp [iL]⟩
  ·rcases hno with h | h <;> simp [iL] at h
 ·obtain⟨k,e,he⟩:=ht
  rcases hx with rfl | ⟨a,rfl⟩ <;> rcases hy with rfl | ⟨b,rfl⟩
  ·exact⟨true,by simp [Op.equalIn,run_underlying he,iL],by simp⟩
  ·exact⟨false,by simp [Op.equalIn,run_underlying he,iL],by simp [iL]⟩
  ·exact⟨false,by simp [Op.equalIn,run_underlying he,iL],by simp [iL]⟩
  ·rcases hno with h | h <;> simp [iL] at h
 ·obtain⟨k,e,m,he⟩:=ht
  rcases hx with rfl | ⟨a,n,c,rfl⟩ <;> rcases hy with rfl | ⟨b,m,d,rfl⟩
  ·exact⟨true,by simp [Op.equalIn,run_underlying he,iL],by simp⟩
  ·exact⟨false,by simp [Op.equalIn,run_underlying he,iL],by simp [iL]⟩
  ·exact⟨false,by simp [Op.equalIn,run_underlying he,iL],by simp [iL]⟩
  ·rcases hno with h | h <;> simp [iL] at h
 ·obtain⟨ms,he⟩:=ht
  rcases hx with rfl | ⟨a,n,rfl⟩ <;> rcases hy with rfl | ⟨b,m,rfl⟩
  ·exact⟨true,by simp [Op.equalIn,run_underlying he,iL],by simp⟩
  ·exact⟨false,by simp [Op.equalIn,run_underlying he,iL],by simp [iL]⟩
  ·exact⟨false,by simp [Op.equalIn,run_underlying he,iL],by simp [iL]⟩
  ·rcases hno with h | h <;> simp [iL] at h

def oC:D→Lit
 | .int k n=>.int k n
 | .bool b=>.bool b
 | .str s=>.string s
 | _=>.bool false

def DRs (f:Nat→Nat→Prop)(w:World):List D→List Value→Prop
 | [],[]=>True
 | d::ds,v::vs=>DR f w d v∧DRs f w ds vs
 | _,_=>False

theorem DRs.length {f:Nat→Nat→Prop} : ∀ {ds:List D} {vs:List Value},DRs f w ds vs→ds.length=vs.length
 | [],[],_=>rfl
 | _::_,_::_,h=>by simp [DRs.length h.2]
 | [],_::_,h=>h.elim
 | _::_,[],h=>h.elim

theorem DRs.of_get {f:Nat→Nat→Prop} : ∀ {ds:List D} {vs:List Value},ds.length=vs.length→(∀ (i:Nat) (d:D) (v:Value),ds[i]?=some d→vs[i]?=some v→DR f w d v)→DRs f w ds vs
 | [],[],_,_=>trivial
 | d::ds,v::vs,hl,h=>⟨h 0 d v rfl rfl,DRs.of_get (by simpa using hl) (fun i d' v' h1 h2=>h (i+1) d' v' (by simpa using h1) (by simpa using h2))⟩
 | [],_::_,hl,_=>by simp at hl
 | _::_,[],hl,_=>by simp at hl

theorem DRs.get {f:Nat→Nat→Prop} : ∀ {ds:List D} {vs:List Value},DRs f w ds vs→∀ (i:Nat) (d:D) (v:Value),ds[i]?=some d→vs[i]?=some v→DR f w d v
 | [],[],_,i,d,v,h,_=>by simp at h
 | d::ds,v::vs,h,i,d',v',h1,h2=>by
  cases i with
  | zero=>simp at h1 h2; subst h1 h2; exact h.1
  | succ i=>exact DRs.get h.2 i d' v' (by simpa using h1) (by simpa using h2)
 | [],_::_,h,_,_,_,_,_=>h.elim
 | _::_,[],h,_,_,_,_,_=>h.elim

theorem DRs.append_inv {f:Nat→Nat→Prop} : ∀ {as bs:List D} {vs:List Value},DRs f w (as++bs) vs→∃ xs ys,vs=xs++ys∧DRs f w as xs∧DRs f w bs ys
 | [],bs,vs,h=>⟨[],vs,rfl,trivial,h⟩
 | a::as,bs,[],h=>h.elim
 | a::as,bs,v::vs,h=>by
  obtain⟨xs,ys,rfl,h1,h2⟩:=DRs.append_inv (as:=as) h.2
  exact⟨v::xs,ys,rfl,⟨h.1,h1⟩,h2⟩

theorem jA : ∀ {ks:List Lf} {ds:List D},fK ks ds=true→ks.length=ds.length
 | [],[],_=>rfl
 | _::_,_::_,h=>by simp [fK] at h; simp [jA h.2]
 | [],_::_,h=>by simp [fK] at h
 | _::_,[],h=>by simp [fK] at h

theorem oQ : ∀ {ks ks':List Lf} {ds:List D},fK (ks++ks') ds=true→∃ a b,ds=a++b∧fK ks a=true∧fK ks' b=true
 | [],ks',ds,h=>⟨[],ds,rfl,rfl,h⟩
 | k::ks,ks',[],h=>by simp [fK] at h
 | k::ks,ks',d::ds,h=>by
  simp [fK] at h
  obtain⟨a,b,rfl,h1,h2⟩:=oQ h.2
  exact⟨d::a,b,rfl,by simp [fK,h.1,h1],h2⟩

theorem aBM {n:Nat}{t:TypeId}{k:Lf}{d:D}{v:Value}(hu:P.underlying t=some (match k with | .int q=>.int q | .bool=>.bool | .str=>.string))(hf:k.fits d=true){f:Nat→Nat→Prop}(hd:DR f w d v) :
  P.keyLits (n+1) t [v]=some [oC d]:=by
 cases k with
 | int q =>
  cases d <;> simp [Lf.fits] at hf
  obtain⟨⟨rfl,h1⟩,h2⟩:=hf
  cases hd
  simp [Program.keyLits,hu,Lit.wf,h1,h2,oC]
 | bool =>
  cases d <;> simp [Lf.fits] at hf
  cases hd
  simp [Program.keyLits,hu,oC]
 | str =>
  cases d <;> simp [Lf.fits] at hf
  rename_i s
  cases hd
  have:(⟨s.toArray⟩:ByteArray).size≤maxLen:=by rw [kW]; simp only [maxLen]; omega
  simp [Program.keyLits,hu,oC,this]

theorem tE {F:Nat→Nat→Prop}{m:Nat}{e:TypeId}{l:List Lf}(hc:P.cellsOf e=l.length)(ih : ∀ (ds:List D)(xs:List Value),fK l ds=true→DRs F w ds xs→P.keyLits m e xs=some (ds.map oC)) :
  ∀ (k:Nat) (pre xs:List Value) (ds:List D) (j:Nat),pre.length=j*l.length→fK ((aD k l).flatten) ds=true→DRs F w ds xs →
   ∃ r,((List.range k).map (j + ·)).mapM (fun i=>P.keyLits m e (((pre++xs).drop (i*P.cellsOf e)).take (P.cellsOf e)))=some r∧r.flatten=ds.map oC
 | 0,pre,xs,ds,j,hp,hf,hd=>by
  have:ds=[]:=bP (by have:=jA hf; simp at this; exact this.symm)
  subst this
  exact⟨[],by simp,rfl⟩
 | k+1,pre,xs,ds,j,hp,hf,hd=>by
  simp only [List.replicate_succ,List.flatten_cons] at hf
  obtain⟨a,b,rfl,h1,h2⟩:=oQ hf
  obtain⟨us,vs,rfl,d1,d2⟩:=hd.append_inv
  have hul:us.length=l.length:=by rw [← d1.length,jA h1]
  obtain⟨r,hr,hfl⟩:=tE hc ih k (pre++us) vs b (j+1) (by simp [hp,hul,bI]) h2 d2
  have e1:((pre++(us++vs)).drop (j*P.cellsOf e)).take (P.cellsOf e)=us:=by
   rw [hc,← hp,List.drop_left,← hul,List.take_left]
  refine⟨a.map oC::r,?_,by simp [hfl]⟩
  rw [List.range_succ_eq_map,aH,List.mapM_cons,Nat.add_zero,e1,ih a us h1 d1]
  simp only [bY]
  have e2:(List.range k).map ((fun x=>j+x) ∘ Nat.succ)=(List.range k).map (j+1 + ·):=by
   apply List.map_congr_left; intro x _; simp; omega
  rw [e2]
  rw [← bU,hr]
  rfl

theorem rR {F:Nat→Nat→Prop}{m:Nat}{lv:TypeId→Option (List Lf)}(ih : ∀ (t:TypeId)(ks:List Lf),lv t=some ks→∀ (ds:List D)(xs:List Value),fK ks ds=true→DRs F w ds xs→P.keyLits m t xs=some (ds.map oC)) :
  ∀ (fs:List Field) (off:Nat) (ks:List Lf) (pre xs:List Value) (ds:List D),rS P lv off fs=some ks→pre.length=off→fK ks ds=true→DRs F w ds xs →
   (∀ f ∈ fs, f.name ≠ "_") ∧ ∃ r, fs.mapM (fun f => P.keyLits m f.type (((pre ++ xs).drop f.offset).take (P.cellsOf f.type))) = some r ∧ r.flatten = ds.map oC
 | [],off,ks,pre,xs,ds,h,hp,hf,hd=>by
  simp [rS] at h; subst h
  have:ds=[]:=bP (by have:=jA hf; simp at this; exact this.symm)
  subst this
  exact⟨by simp,[],rfl,rfl⟩
 | x::fs,off,ks,pre,xs,ds,h,hp,hf,hd=>by
  unfold rS at h
  split at h
  ·rename_i l hl
   split at h
   ·rename_i hc
    obtain⟨hn,ho,hcell⟩:=hc
    split at h
    ·rename_i b hb
     cases h
     obtain⟨a,c,rfl,h1,h2⟩:=oQ hf
     obtain⟨us,vs,rfl,d1,d2⟩:=hd.append_inv
     have hul:us.length=l.length:=by rw [← d1.length,jA h1]
     obtain⟨hnn,r,hr,hfl⟩:=rR ih fs (off+l.length) b (pre++us) vs c hb (by simp [hp,hul]) h2 d2
     have e1:((pre++(us++vs)).drop x.offset).take (P.cellsOf x.type)=us:=by
      rw [ho,hcell,← hp,List.drop_left,← hul,List.take_left]
     refine⟨fun f hfm=>?_,a.map oC::r,?_,by simp [hfl]⟩
     ·rcases bV.1 hfm with rfl | hm
      ·exact hn
      ·exact hnn f hm
     ·rw [List.mapM_cons,e1,ih x.type l hl a us h1 d1,← bU,hr]
      rfl
    ·cases h
   ·cases h
  ·cases h

theorem lS {F:Nat→Nat→Prop} : ∀ (n:Nat) (t:TypeId) (ks:List Lf),lB P n t=some ks→∀ (ds:List D) (xs:List Value),fK ks ds=true→DRs F w ds xs→P.keyLits n t xs=some (ds.map oC)
 | 0,t,ks,h,ds,xs,hf,hd=>by simp [lB] at h
 | n+1,t,ks,h,ds,xs,hf,hd=>by
  have one : ∀ (k:Lf),ks=[k]→P.underlying t=some (match k with | .int q=>.int q | .bool=>.bool | .str=>.string)→P.keyLits (n+1) t xs=some (ds.map oC):=by
   rintro k rfl hu
   match ds,xs,hf,hd with
   | [d],[v],hf,hd=>simp [fK] at hf; exact aBM hu hf hd.1
   | [],_,hf,_=>simp [fK] at hf
   | _::_::_,_,hf,_=>simp [fK] at hf
   | [_],[],_,hd=>exact hd.elim
   | [_],_::_::_,_,hd=>exact hd.2.elim
  unfold lB at h
  split at h
  ·cases h; exact one _ rfl (by assumption)
  ·cases h; exact one _ rfl (by assumption)
  ·cases h; exact one _ rfl (by assumption)
  ·rename_i len e hu
   split at h
   ·rename_i l hl
    split at h
    ·rename_i hc
     cases h
     obtain⟨hc1,hc2⟩:=hc
     obtain⟨r,hr,hfl⟩:=tE (F:=F) hc1 (fun ds xs=>lS n e l hl ds xs) len [] xs ds 0 (by simp) hf hd
     have hxl:xs.length=P.cellsOf t:=by rw [← hd.length,← jA hf,hc2]; simp [List.length_flatten]
     unfold Program.keyLits
     simp only [hu,hxl,if_true]
     simp only [Nat.zero_add,List.map_id',aI] at hr
     rw [hr]
     simp [hfl]
    ·cases h
   ·cases h
  ·rename_i fs hu
   split at h
   ·rename_i l hl
    split at h
    ·rename_i hc
     cases h
     obtain⟨hnn,r,hr,hfl⟩:=rR (F:=F) (fun t ks hlv ds xs=>lS n t ks hlv ds xs) fs.toList 0 ks [] xs ds hl rfl hf hd
     have hxl:xs.length=P.cellsOf t:=by rw [← hd.length,← jA hf,hc]
     unfold Program.keyLits
     have hall : fs.all (·.name != "_") = true := by
      rw [Array.all_eq_true_iff_forall_mem]
      intro f hfm
      simpa using hnn f (Array.mem_toList_iff.2 hfm)
     simp only [hu,hxl,hall,and_self,if_true]
     simp only [aI] at hr
     rw [hr]
     simp [hfl]
    ·cases h
   ·cases h
  ·cases h

theorem aA6 : ∀ {ks:List Lf} {a b:List D},fK ks a=true→fK ks b=true→(a.map oC=b.map oC↔a=b)
 | [],[],[],_,_=>by simp
 | k::ks,x::a,y::b,h1,h2=>by
  simp only [fK,aT] at h1 h2
  have:=aA6 h1.2 h2.2
  simp only [aH,List.cons.injEq,this]
  refine and_congr_left fun _=>?_
  cases k <;> cases x <;> simp [Lf.fits] at h1 <;> cases y <;> simp [Lf.fits] at h2 <;> simp [oC]
 | [],_::_,_,h,_=>by simp [fK] at h
 | [],[],_::_,_,h=>by simp [fK] at h
 | _::_,[],_,h,_=>by simp [fK] at h
 | _::_,_::_,[],_,h=>by simp [fK] at h

theorem aDL {t:TypeId}{ty:Ty}{ks:List Lf}(h:tP P t=some (ty,ks)):ty = .flat∧lB P 12 t=some ks∧P.keyTypeAt 12 t=true∧P.eqGuardType P.depth t=false:=by
 unfold tP at h
 split at h
 ·rename_i ks' hk
  split at h
  ·rename_i hc; cases h; simp at hc; exact⟨rfl,hk,hc.1,hc.2⟩
  ·cases h
 ·cases h

theorem aAg {t:TypeId}{ks:List Lf}(hl:lB P 12 t=some ks)(hk:P.keyTypeAt 12 t=true)(hagg:pN P t=true){F:Nat→Nat→Prop}{a b:List D}{xs ys:Array Value}
  (fa:fK ks a=true) (fb:fK ks b=true) (da:DRs F w a xs.toList) (db:DRs F w b ys.toList) :
  ∃ r,(Op.equal t (.agg xs) (.agg ys)).run P w = .ok r w∧(r=true↔a=b):=by
 have ha:=lS 12 t ks hl a xs.toList fa da
 have hb:=lS 12 t ks hl b ys.toList fb db
 have hcell:P.cellsOf t=ks.length:=by
  unfold lB at hl
  unfold pN at hagg
  split at hl
  ·rename_i hu; simp [hu] at hagg
  ·rename_i hu; simp [hu] at hagg
  ·rename_i hu; simp [hu] at hagg
  ·split at hl
   ·split at hl
    ·rename_i hc; cases hl; rw [hc.2]; simp [List.length_flatten]
    ·cases hl
   ·cases hl
  ·split at hl
   ·split at hl
    ·rename_i hc; cases hl; exact hc
    ·cases hl
   ·cases hl
  ·cases hl
 have form : ∀ (zs:Array Value) (c:List D),fK ks c=true→DRs F w c zs.toList→(Value.agg zs).formed P t=true:=by
  intro zs c fc dc
  have hz:zs.size=P.cellsOf t:=by rw [hcell,jA fc,dc.length]; simp
  unfold pN at hagg
  unfold Value.formed
  split at hagg <;> simp_all
 obtain⟨r,hr,hiff⟩:=run_equalIn_deep (P:=P) 9988 12 t hk w 12 12 (.agg xs) (.agg ys) _ _ (form xs a fa da) (form ys b fb db) (by simpa [Value.cells] using ha) (by simpa [Value.cells] using hb)
 exact⟨r,hr,hiff.trans (aA6 fa fb)⟩

end Go.Dn

/- Each operation that leaves the store alone does in the world what it does in the abstract: one theorem. -/
namespace Go.Dn

variable {P:Program} {g:Gh} {σ:St} {tk:List Nat} {w:World}

theorem jL {op:BinOp}(t:TypeId)(x y:Operand){a b:Value}(h : ¬ (a = .nilIface∧b = .nilIface))(h' : ∀ p q,¬ (a = .agg p∧b = .agg q)):(eqGuard op t x y a b).run P w = .ok () w:=by
 unfold eqGuard
 cases op <;> simp <;> (split <;> first | rfl | exact absurd ⟨rfl,rfl⟩ h | exact absurd ⟨rfl,rfl⟩ (h' _ _))

theorem rC {op:BinOp}(t:TypeId){x y:Operand}(h:(∃ v,x = .const v)∨(∃ v,y = .const v)):(eqGuard op t x y .nilIface .nilIface).run P w = .ok () w:=by
 unfold eqGuard
 rcases h with⟨v,rfl⟩ | ⟨v,rfl⟩
 ·cases op <;> simp
 ·cases op <;> simp

theorem vT {op:BinOp}(t:TypeId)(x y:Operand){a b:Array Value}(h:P.eqGuardType P.depth t=false):(eqGuard op t x y (.agg a) (.agg b)).run P w = .ok () w:=by
 have hp:(program:Sem Program).run P w = .ok P w:=rfl
 unfold eqGuard
 cases op <;> simp [hp,h]

theorem aAF (t:TypeId){x y:Value}(hi : ∀ k n k' n',¬ (x = .int k n∧y = .int k' n'))(hs : ∀ a b,¬ (x = .string a∧y = .string b))(hf : ∀ k n k' n',¬ (x = .float k n∧y = .float k' n'))(hc : ∀ k n m k' n' m',¬ (x = .complex k n m∧y = .complex k' n' m')) :
  (Go.binOp .eql t x y).run P w=((Op.equal t x y).run P w).andThen fun b w'=>.ok (.bool b) w':=by
 unfold Go.binOp
 split <;> first | exact absurd ⟨rfl,rfl⟩ (hi _ _ _ _) | exact absurd ⟨rfl,rfl⟩ (hs _ _) | exact absurd ⟨rfl,rfl⟩ (hf _ _ _ _) | exact absurd ⟨rfl,rfl⟩ (hc _ _ _ _ _ _) | simp_all

theorem aAG (t:TypeId){x y:Value}(hi : ∀ k n k' n',¬ (x = .int k n∧y = .int k' n'))(hs : ∀ a b,¬ (x = .string a∧y = .string b))(hf : ∀ k n k' n',¬ (x = .float k n∧y = .float k' n'))(hc : ∀ k n m k' n' m',¬ (x = .complex k n m∧y = .complex k' n' m')) :
  (Go.binOp .neq t x y).run P w=((Op.equal t x y).run P w).andThen fun b w'=>.ok (.bool !b) w':=by
 unfold Go.binOp
 split <;> first | exact absurd ⟨rfl,rfl⟩ (hi _ _ _ _) | exact absurd ⟨rfl,rfl⟩ (hs _ _) | exact absurd ⟨rfl,rfl⟩ (hf _ _ _ _) | exact absurd ⟨rfl,rfl⟩ (hc _ _ _ _ _ _) | simp_all

theorem zE {ty:Ty}{x:V}{b:Bool}(h:V.isNil ty x=some b):ty = .ptr∨ty = .slice∨ty = .map∨ty = .func∨ty = .iface:=by
 cases ty <;> first | (simp; done) | (exfalso; cases x <;> first | (simp [V.isNil] at h; done) | (rename_i d; cases d <;> simp [V.isNil] at h))

theorem sS {ty:Ty}{v:Value}(hty:ty = .ptr∨ty = .slice∨ty = .map∨ty = .func∨ty = .iface)(h:yC ty v):v≠iL ty:=by
 rcases hty with rfl | rfl | rfl | rfl | rfl
 ·obtain⟨a,rfl⟩:=h; simp [iL]
 ·obtain⟨a,n,c,rfl⟩:=h; simp [iL]
 ·obtain⟨a,rfl⟩:=h; simp [iL]
 ·obtain⟨f,a,b,rfl⟩:=h; simp [iL]
 ·obtain⟨t,x,rfl⟩:=h; simp [iL]

theorem nU {ty:Ty}{v:Value}(hty:ty = .ptr∨ty = .slice∨ty = .map∨ty = .func∨ty = .iface)(h:v=iL ty∨yC ty v) :
  (∀ k n,v ≠ .int k n)∧(∀ s,v ≠ .string s)∧(∀ k n,v ≠ .float k n)∧(∀ k n m,v ≠ .complex k n m)∧(∀ p,v ≠ .agg p)∧(v = .nilIface→ty = .iface):=by
 rcases hty with rfl | rfl | rfl | rfl | rfl
 ·rcases h with rfl | ⟨a,rfl⟩ <;> simp [iL]
 ·rcases h with rfl | ⟨a,n,c,rfl⟩ <;> simp [iL]
 ·rcases h with rfl | ⟨a,rfl⟩ <;> simp [iL]
 ·rcases h with rfl | ⟨f,a,b,rfl⟩ <;> simp [iL]
 ·rcases h with rfl | ⟨t,x,rfl⟩ <;> simp [iL]

theorem aAZ {x:Operand}{x':Opd}(hx:iH x=some x')(h:x'.isC=true) : ∃ v,x = .const v:=by
 unfold iH at hx
 split at hx
 ·split at hx
  ·cases hx; simp [Opd.isC] at h
  ·cases hx
 ·exact⟨_,rfl⟩
 ·cases hx; simp [Opd.isC] at h
 ·cases hx; simp [Opd.isC] at h

theorem aEC {t:TypeId}{ty:Ty}{ks:List Lf}(ht:tL P t=some (ty,ks)){x y:V}{cx cy:Value}{ox oy:Operand}{ox' oy':Opd}(hox:iH ox=some ox')(hoy:iH oy=some oy')
  (hx:VR g tk w x cx) (hy:VR g tk w y cy) {b:Bool} (h:eqV ty ks x y ox'.isC oy'.isC=some b) (op:BinOp) (hop:op = .eql∨op = .neq) :
  (do eqGuard op t ox oy cx cy; Go.binOp op t cx cy:Sem Value).run P w = .ok (.bool (if op = .eql then b else !b)) w:=by
 have fin : ∀ {r:Bool},(Op.equal t cx cy).run P w = .ok r w→r=b→(∀ k n k' n',¬ (cx = .int k n∧cy = .int k' n'))→(∀ a b,¬ (cx = .string a∧cy = .string b))→(∀ k n k' n',¬ (cx = .float k n∧cy = .float k' n'))→(∀ k n m k' n' m',¬ (cx = .complex k n m∧cy = .complex k' n' m')) →
   (eqGuard op t ox oy cx cy).run P w = .ok () w→(do eqGuard op t ox oy cx cy; Go.binOp op t cx cy:Sem Value).run P w = .ok (.bool (if op = .eql then b else !b)) w:=by
  intro r hr hb h1 h2 h3 h4 hg
  subst hb
  rcases hop with rfl | rfl
  ·simp [hg,aAF t h1 h2 h3 h4,hr]
  ·simp [hg,aAG t h1 h2 h3 h4,hr]
 unfold eqV at h
 cases hty:ty
 case bool =>
  subst hty
  simp only at h
  split at h
  ·cases h
   have e1:=hx.inv_bool; have e2:=hy.inv_bool
   subst e1 e2
   have hu:P.underlying t=some .bool:=sH ht
   exact fin (run_equal_bool w t _ _ hu) rfl (by simp) (by simp) (by simp) (by simp) (jL t ox oy (by simp) (by simp))
  ·cases h
 case flat =>
  subst hty
  simp only at h
  split at h
  ·rename_i l m
   split at h
   ·rename_i hf
    simp only [aT] at hf
    cases h
    cases hx with
    | da _ xs dx =>
    cases hy with
    | da _ ys dy =>
    cases dx with
    | agg _ _ hl1 _ h1 =>
     cases dy with
     | agg _ _ hl2 _ h2 =>
      have hfl : ∃ ks',ks'=ks∧tP P t=some (Ty.flat,ks'):=by
       unfold tL at ht
       split at ht <;> first | (cases ht; done) | exact⟨_,rfl,ht⟩
      obtain⟨_,rfl,hfl⟩:=hfl
      obtain⟨_,hlv,hkt,hgd⟩:=aDL hfl
      have hagg:pN P t=true:=by
       unfold tL at ht
       unfold pN
       split at ht <;> first | (cases ht; done) | simp_all
      obtain⟨r,hr,hiff⟩:=aAg (w:=w) hlv hkt hagg hf.1 hf.2 (DRs.of_get (by simpa using hl1) (fun i d v hd hv=>h1 i d v hd (by simpa using hv))) (DRs.of_get (by simpa using hl2) (fun i d v hd hv=>h2 i d v hd (by simpa using hv)))
      refine fin hr ?_ (by simp) (by simp) (by simp) (by simp) (vT t ox oy hgd)
      by_cases e:l=m
      ·simp [e,hiff.2 e]
      ·have:r=false:=by cases r; rfl; exact absurd (hiff.1 rfl) e
       simp [e,this]
   ·cases h
  ·cases h
 all_goals
  rw [hty] at h
  simp only at h
  split at h
  ·rename_i hx' hy'
   have hn:=zE hx'
   have e1:=qQ hx' hx
   have e2:=qQ hy' hy
   have hb:b=true∧(ty = .iface→ox'.isC=true∨oy'.isC=true):=by
    rw [hty]
    simp at h
    first | exact⟨by simpa using h.symm,by simp⟩ | (obtain⟨h1,h2⟩:=h; exact⟨by simpa using h2.symm,fun _=>by simpa using h1⟩)
   obtain⟨r,hr,hiff⟩:=pQ (w:=w) (sH ht) (.inl (hty▸e1)) (.inl (hty▸e2)) (.inl (hty▸e1)) (hty▸hn)
   have hr1:r=true:=hiff.2 ⟨hty▸e1,hty▸e2⟩
   obtain⟨a1,a2,a3,a4,a5,a6⟩:=nU hn (.inl e1)
   refine fin hr (by rw [hr1,hb.1]) (fun k n k' n' h=>a1 _ _ h.1) (fun a b h=>a2 _ h.1) (fun k n k' n' h=>a3 _ _ h.1) (fun k n m k' n' m' h=>a4 _ _ _ h.1) ?_
   by_cases hi:cx = .nilIface∧cy = .nilIface
   ·obtain⟨rfl,rfl⟩:=hi
    have:=a6 rfl
    rcases hb.2 (hty.trans this) with hc | hc
    ·exact rC t (.inl (aAZ hox hc))
    ·exact rC t (.inr (aAZ hoy hc))
   ·exact jL t ox oy hi (fun p q h=>a5 _ h.1)
  ·rename_i hx' hy'
   have hn:=zE hx'
   have e1:=qQ hx' hx
   have e2:=wS hy' hy
   cases h
   obtain⟨r,hr,hiff⟩:=pQ (w:=w) (sH ht) (.inl (hty▸e1)) (.inr (hty▸e2)) (.inl (hty▸e1)) (hty▸hn)
   have hr1:r=false:=by
    cases r
    ·rfl
    ·exact absurd (hiff.1 rfl).2 (hty▸sS hn e2)
   obtain⟨a1,a2,a3,a4,a5,a6⟩:=nU hn (.inl e1)
   exact fin hr hr1 (fun k n k' n' h=>a1 _ _ h.1) (fun a b h=>a2 _ h.1) (fun k n k' n' h=>a3 _ _ h.1) (fun k n m k' n' m' h=>a4 _ _ _ h.1)
    (jL t ox oy (fun h=>by
     have hi:=(nU hn (.inr e2)).2.2.2.2.2 h.2
     have:=sS hn e2
     rw [h.2,hi] at this
     exact this rfl) (fun p q h=>a5 _ h.1))
  ·rename_i hx' hy'
   have hn:=zE hy'
   have e1:=wS hx' hx
   have e2:=qQ hy' hy
   cases h
   obtain⟨r,hr,hiff⟩:=pQ (w:=w) (sH ht) (.inr (hty▸e1)) (.inl (hty▸e2)) (.inr (hty▸e2)) (hty▸hn)
   have hr1:r=false:=by
    cases r
    ·rfl
    ·exact absurd (hiff.1 rfl).1 (hty▸sS hn e1)
   obtain⟨a1,a2,a3,a4,a5,a6⟩:=nU hn (.inr e1)
   exact fin hr hr1 (fun k n k' n' h=>a1 _ _ h.1) (fun a b h=>a2 _ h.1) (fun k n k' n' h=>a3 _ _ h.1) (fun k n m k' n' m' h=>a4 _ _ _ h.1)
    (jL t ox oy (fun h=>by
     have hi:=(nU hn (.inr e1)).2.2.2.2.2 h.1
     have:=sS hn e1
     rw [h.1,hi] at this
     exact this rfl) (fun p q h=>a5 _ h.1))
  ·cases h

theorem aCD {t:TypeId}{ty:Ty}{ks:List Lf}(ht:tL P t=some (ty,ks)){x y:V}{cx cy:Value}{ox oy:Operand}{ox' oy':Opd}(hox:iH ox=some ox')(hoy:iH oy=some oy')
  (hx:VR g tk w x cx) (hy:VR g tk w y cy) {op:BinOp} {v:V} (h:cE op ty ks x y ox'.isC oy'.isC=some v) :
  ∃ cv,(do eqGuard op t ox oy cx cy; Go.binOp op t cx cy:Sem Value).run P w = .ok cv w∧VR g tk w v cv:=by
 have pre : ∀ {r:Value},(eqGuard op t ox oy cx cy).run P w = .ok () w→(Go.binOp op t cx cy).run P w = .ok r w→(do eqGuard op t ox oy cx cy; Go.binOp op t cx cy:Sem Value).run P w = .ok r w:=by
  intro r h1 h2
  simp [h1,h2]
 unfold cE at h
 split at h
 ·rename_i k a k' b
  have e1:=hx.inv_int; have e2:=hy.inv_int
  subst e1 e2
  have hg:=jL (P:=P) (w:=w) (op:=op) t ox oy (a:=.int k a) (b:=.int k' b) (by simp) (by simp)
  split at h
  ·obtain⟨cv,h1,h2⟩:=uU (P:=P) (g:=g) (tk:=tk) (w:=w) (k':=k') (.inl rfl) h t
   exact⟨cv,pre hg h1,h2⟩
  ·obtain⟨cv,h1,h2⟩:=uU (P:=P) (g:=g) (tk:=tk) (w:=w) (k':=k') (.inr rfl) h t
   exact⟨cv,pre hg h1,h2⟩
  ·split at h
   ·rename_i h1 h2 hk
    subst hk
    obtain⟨cv,h1,h2⟩:=aDV (P:=P) (g:=g) (tk:=tk) (w:=w) ⟨fun e=>h1 e,fun e=>h2 e⟩ h t
    exact⟨cv,pre hg h1,h2⟩
   ·cases h
 ·have e1:=hx.inv_str; have e2:=hy.inv_str
  subst e1 e2
  obtain⟨cv,h1,h2⟩:=aDW (P:=P) (g:=g) (tk:=tk) (w:=w) h t
  exact⟨cv,pre (jL t ox oy (by simp) (by simp)) h1,h2⟩
 ·split at h
  ·simp only [Option.map_eq_some_iff] at h
   obtain⟨b,hb,rfl⟩:=h
   exact⟨_,aEC ht hox hoy hx hy hb .eql (.inl rfl),.bool _⟩
  ·simp only [Option.map_eq_some_iff] at h
   obtain⟨b,hb,rfl⟩:=h
   exact⟨_,aEC ht hox hoy hx hy hb .neq (.inr rfl),.bool _⟩
  ·cases h

theorem aDK {op:UnOp}{x v:V}{cx:Value}(hx:VR g tk w x cx)(h:eU op x=some v) : ∃ cv,(Op.unary op cx).run P w = .ok cv w∧VR g tk w v cv:=by
 unfold eU at h
 split at h
 ·cases h; have e:=hx.inv_bool; subst e; exact⟨_,by simp [Op.unary],.bool _⟩
 ·cases h; have e:=hx.inv_int; subst e; exact⟨_,by simp [Op.unary,Op.intArith],.int _ _⟩
 ·cases h; have e:=hx.inv_int; subst e; exact⟨_,by simp only [Op.unary,intBits_xor,Sem.run_pure],.int _ _⟩
 ·cases h

end Go.Dn

/- Loads, fields, elements. -/
namespace Go.Dn

variable {P:Program} {g:Gh} {σ:St} {tk:List Nat} {w:World}

theorem mB : ∀ {cs:List V} {l:List D},ofD cs=some l→cs=l.map .d
 | [],l,h=>by simp [ofD] at h; subst h; rfl
 | c::r,l,h=>by
  cases c <;> simp only [ofD] at h <;> try (cases h; done)
  split at h
  ·rename_i x m hm
   cases h
   simp [mB hm]
  ·cases h

theorem xV (l:List D):ofD (l.map .d)=some l:=by
 induction l with
 | nil=>rfl
 | cons a r ih=>simp [ofD,ih]

def VRs (g:Gh)(tk:List Nat)(w:World):List V→List Value→Prop
 | [],[]=>True
 | c::cs,v::vs=>VR g tk w c v∧VRs g tk w cs vs
 | _,_=>False

theorem VRs.length : ∀ {cs:List V} {vs:List Value},VRs g tk w cs vs→cs.length=vs.length
 | [],[],_=>rfl
 | _::_,_::_,h=>by simp [VRs.length h.2]
 | [],_::_,h=>h.elim
 | _::_,[],h=>h.elim

theorem VRs.of_get : ∀ {cs:List V} {vs:List Value},cs.length=vs.length→(∀ (i:Nat) (c:V) (v:Value),cs[i]?=some c→vs[i]?=some v→VR g tk w c v)→VRs g tk w cs vs
 | [],[],_,_=>trivial
 | d::ds,v::vs,hl,h=>⟨h 0 d v rfl rfl,VRs.of_get (by simpa using hl) (fun i d' v' h1 h2=>h (i+1) d' v' (by simpa using h1) (by simpa using h2))⟩
 | [],_::_,hl,_=>by simp at hl
 | _::_,[],hl,_=>by simp at hl

theorem VRs.get : ∀ {cs:List V} {vs:List Value},VRs g tk w cs vs→∀ (i:Nat) (c:V) (v:Value),cs[i]?=some c→vs[i]?=some v→VR g tk w c v
 | [],[],_,i,d,v,h,_=>by simp at h
 | d::ds,v::vs,h,i,d',v',h1,h2=>by
  cases i with
  | zero=>simp at h1 h2; subst h1 h2; exact h.1
  | succ i=>exact VRs.get h.2 i d' v' (by simpa using h1) (by simpa using h2)
 | [],_::_,h,_,_,_,_,_=>h.elim
 | _::_,[],h,_,_,_,_,_=>h.elim

theorem VRs.later {g':Gh}{tk':List Nat}{w':World}(hl:Later g tk w g' tk' w') : ∀ {cs:List V} {vs:List Value},VRs g tk w cs vs→VRs g' tk' w' cs vs
 | [],[],_=>trivial
 | _::_,_::_,h=>⟨h.1.later hl,VRs.later hl h.2⟩
 | [],_::_,h=>h.elim
 | _::_,[],h=>h.elim

theorem VRs.append : ∀ {as bs:List V} {xs ys:List Value},VRs g tk w as xs→VRs g tk w bs ys→VRs g tk w (as++bs) (xs++ys)
 | [],_,[],_,_,h=>h
 | _::_,_,_::_,_,h,h'=>⟨h.1,VRs.append h.2 h'⟩
 | [],_,_::_,_,h,_=>h.elim
 | _::_,_,[],_,h,_=>h.elim

theorem VRs.take : ∀ {cs:List V} {vs:List Value} (n:Nat),VRs g tk w cs vs→VRs g tk w (cs.take n) (vs.take n)
 | [],[],n,_=>by simp [VRs]
 | c::cs,v::vs,0,_=>by simp [VRs]
 | c::cs,v::vs,n+1,h=>⟨h.1,VRs.take n h.2⟩
 | [],_::_,_,h=>h.elim
 | _::_,[],_,h=>h.elim

theorem VRs.drop : ∀ {cs:List V} {vs:List Value} (n:Nat),VRs g tk w cs vs→VRs g tk w (cs.drop n) (vs.drop n)
 | [],[],n,_=>by simp [VRs]
 | c::cs,v::vs,0,h=>h
 | c::cs,v::vs,n+1,h=>by simpa using VRs.drop n h.2
 | [],_::_,_,h=>h.elim
 | _::_,[],_,h=>h.elim

theorem VRs.of_d : ∀ {ds:List D} {vs:List Value},VRs g tk w (ds.map .d) vs→DRs g.frz w ds vs
 | [],[],_=>trivial
 | _::_,_::_,h=>⟨h.1.inv_d,VRs.of_d h.2⟩
 | [],_::_,h=>h.elim
 | _::_,[],h=>h.elim

theorem VR.agg_of {cs:List V}{vs:Array Value}(h1 : ∀ v∈vs.toList,iG v=true)(h:VRs g tk w cs vs.toList):VR g tk w (.agg cs) (.agg vs) :=
 .agg cs vs (by simpa using h.length) (fun i v hv=>h1 v (aL (by simpa using hv))) (fun i c v hc hv=>h.get i c v hc (by simpa using hv))

theorem DR.agg_of {f:Nat→Nat→Prop}{ds:List D}{vs:Array Value}(h1 : ∀ v∈vs.toList,iG v=true)(h:DRs f w ds vs.toList):DR f w (.agg ds) (.agg vs) :=
 .agg ds vs (by simpa using h.length) (fun i v hv=>h1 v (aL (by simpa using hv))) (fun i c v hc hv=>h.get i c v hc (by simpa using hv))

theorem VR.mkAgg_of {cs:List V}{vs:Array Value}(h1 : ∀ v∈vs.toList,iG v=true)(h:VRs g tk w cs vs.toList):VR g tk w (cC cs) (.agg vs):=by
 unfold cC
 split
 ·rename_i l hl
  have:=mB hl
  subst this
  exact .da _ _ (DR.agg_of h1 h.of_d)
 ·exact VR.agg_of h1 h

theorem VR.inv_agg {cs:List V}{v:Value}(h:VR g tk w (.agg cs) v) : ∃ vs,v = .agg vs∧(∀ v∈vs.toList,iG v=true)∧VRs g tk w cs vs.toList:=by
 cases h with
 | agg _ vs hl h1 h =>
  refine⟨vs,rfl,fun v hv=>?_,VRs.of_get (by simpa using hl) (fun i c v hc hv=>h i c v hc (by simpa using hv))⟩
  obtain⟨i,hi⟩:=bR hv
  exact h1 i v (by simpa using hi)

theorem DR.inv_agg {f:Nat→Nat→Prop}{ds:List D}{vs:Array Value}(h:DR f w (.agg ds) (.agg vs)):(∀ v∈vs.toList,iG v=true)∧DRs f w ds vs.toList:=by
 cases h with
 | agg _ _ hl h1 h' =>
  refine⟨fun v hv=>?_,DRs.of_get (by simpa using hl) (fun i c v hc hv=>h' i c v hc (by simpa using hv))⟩
  obtain⟨i,hi⟩:=bR hv
  exact h1 i v (by simpa using hi)

theorem VR.inv_da {ds:List D}{v:Value}(h:VR g tk w (.da ds) v) : ∃ vs,v = .agg vs∧(∀ v∈vs.toList,iG v=true)∧DRs g.frz w ds vs.toList:=by
 cases h with
 | da _ vs h=>exact⟨vs,rfl,h.inv_agg⟩

theorem DRs.to_v : ∀ {ds:List D} {vs:List Value},(∀ v∈vs,iG v=true)→DRs g.frz w ds vs→VRs g tk w (ds.map .d) vs
 | [],[],_,_=>trivial
 | _::_,_::_,h1,h=>⟨.d _ _ h.1 (h1 _ (by simp)),DRs.to_v (fun v hv=>h1 v (by simp [hv])) h.2⟩
 | [],_::_,_,h=>h.elim
 | _::_,[],_,h=>h.elim

theorem VR.cells {v:V}{x:Value}{l:List V}(h:VR g tk w v x)(hl:v.cells=some l):VRs g tk w l x.cells.toList∧(∀ u∈x.cells.toList,iG u=true):=by
 have one : ∀ {v:V} {x:Value},VR g tk w v x→VRs g tk w [v] [x]:=fun h=>⟨h,trivial⟩
 cases h with
 | d y _ h h1 =>
  simp only [V.cells] at hl
  cases hl
  have:x.cells = #[x]:=by cases x <;> simp [iG] at h1 <;> rfl
  rw [this]
  exact⟨one (.d _ _ h h1),by simpa using h1⟩
 | da cs vs h =>
  simp only [V.cells] at hl
  cases hl
  obtain⟨h1,h2⟩:=h.inv_agg
  exact⟨DRs.to_v h1 h2,h1⟩
 | agg cs vs hl' h1 h =>
  simp only [V.cells] at hl
  cases hl
  obtain⟨vs',e,h2,h3⟩:=(VR.agg _ vs hl' h1 h:VR g tk w _ _).inv_agg
  cases e
  exact⟨h3,h2⟩
 | any v=>simp [V.cells] at hl
 | gone=>simp [V.cells] at hl
 | tup cs vs hl' h=>simp [V.cells] at hl
 | ref r off h=>simp only [V.cells] at hl; cases hl; exact⟨one (.ref _ _ h),by simp [Value.cells,iG]⟩
 | yld r h=>simp only [V.cells] at hl; cases hl; exact⟨one (.yld _ h),by simp [Value.cells,iG]⟩
 | iter r h=>simp only [V.cells] at hl; cases hl; exact⟨one (.iter _ h),by simp [Value.cells,iG]⟩
 | ro cs b o cv hf hc h1 hd=>simp only [V.cells] at hl; cases hl; exact⟨one (.ro _ _ _ _ hf hc h1 hd),by simp [Value.cells,iG]⟩
 | sl r off len sz cap a h hcap hsz hin hout ha hsp hlim=>simp only [V.cells] at hl; cases hl; exact⟨one (.sl _ _ _ _ _ _ h hcap hsz hin hout ha hsp hlim),by simp [Value.cells,iG]⟩
 | fl rows a h=>simp only [V.cells] at hl; cases hl; exact⟨one (.fl _ _ h),by simp [Value.cells,iG]⟩
 | tl rows t st sz k a cap hd ht hle hh hsz ha=>simp only [V.cells] at hl; cases hl; exact⟨one (.tl _ _ _ _ _ _ _ hd ht hle hh hsz ha),by simp [Value.cells,iG]⟩
 | map r h=>simp only [V.cells] at hl; cases hl; exact⟨one (.map _ h),by simp [Value.cells,iG]⟩
 | fn f a b a' b' h1 h2 h3 h4=>simp only [V.cells] at hl; cases hl; exact⟨one (.fn _ _ _ _ _ h1 h2 h3 h4),by simp [Value.cells,iG]⟩
 | ifc t v x h=>simp only [V.cells] at hl; cases hl; exact⟨one (.ifc _ _ _ h),by simp [Value.cells,iG]⟩

theorem iU {b:Nat}{c:Array Value}{e:TypeId}{fz:Nat×Nat}(h:w.heap[b]?=some (.cells c e fz))(o:Nat):w.cell? ⟨b,o,none⟩=c[o]?:=by
 simp [World.cell?,h]

theorem iK (b o n:Nat):(⟨b,o,none⟩:Addr).add n=⟨b,o+n,none⟩:=by
 unfold Addr.add
 split <;> simp_all

theorem aCW {t:TypeId}(h:okT P t=true) : ∃ d,P.underlying t=some d:=Option.isSome_iff_exists.1 h

theorem sX {t:TypeId}(h:okT P t=true):(isAgg t).run P w = .ok (pN P t) w:=by
 obtain⟨d,hd⟩:=aCW h
 unfold isAgg pN
 simp only [Sem.run_bind,run_underlying hd,aW,hd]
 cases d <;> rfl

theorem pH {t:TypeId}(h:okT P t=true):(sizeOf t).run P w = .ok (P.cellsOf t) w:=by
 obtain⟨d,hd⟩:=aCW h
 obtain⟨i,hi⟩:=info_of_underlying hd
 exact run_sizeOf w hi

theorem aEq {t:TypeId}(h:pN P t=true):okT P t=true:=by
 unfold pN at h
 unfold okT
 split at h <;> simp_all

theorem rE {t:TypeId}(ha:pN P t=true){b o:Nat}{vs:List Value}(hl:vs.length=P.cellsOf t)(hc : ∀ k,k<vs.length→w.cell? ⟨b,o+k,none⟩=vs[k]?) :
  (loadVar t ⟨b,o,none⟩).run P w = .ok (.agg vs.toArray) w:=by
 have hok:=aEq ha
 unfold loadVar
 simp only [Sem.run_bind,sX hok,aW,ha,if_true,pH hok]
 rw [← hl,run_loadCells_list w ⟨b,o,none⟩ vs (fun j v hv=>by
  have hj:j<vs.length:=by
   rcases bT j vs.length with h | h
   ·exact h
   ·simp [aR h] at hv
  rw [iK,hc j hj]; exact hv)]
 rfl

theorem rF {t:TypeId}(hok:okT P t=true)(ha:pN P t=false){a:Addr}{v:Value}(hc:w.cell? a=some v):(loadVar t a).run P w = .ok v w:=by
 unfold loadVar
 simp only [Sem.run_bind,sX hok,aW,ha,aP,if_false]
 simp [load,Sem.run,hc]

theorem Sim.cell (hs:Sim g σ w){r:Nat}{cs:List V}(h:σ.objs[r]?=some (.cells cs)){j:Nat}{v:V}(hj:cs[j]?=some v) :
  ∃ cv,w.cell? ⟨(g.obj r).1,(g.obj r).2+j,none⟩=some cv∧iG cv=true∧VR g σ.toks w v cv:=by
 obtain⟨_,c,e,fz,hb,_,hc⟩:=hs.cells r cs h
 obtain⟨cv,h1,h2,h3⟩:=hc j v hj
 exact⟨cv,by rw [iU hb,h1],h2,h3⟩

theorem Sim.stretch (hs:Sim g σ w){r:Nat}{cs:List V}(h:σ.objs[r]?=some (.cells cs))(off n:Nat)(hn:off+n≤cs.length) :
  ∃ vs:List Value,vs.length=n∧(∀ k,k<n→w.cell? ⟨(g.obj r).1,(g.obj r).2+off+k,none⟩=vs[k]?)∧(∀ v∈vs,iG v=true)∧VRs g σ.toks w ((cs.drop off).take n) vs:=by
 induction n with
 | zero=>exact⟨[],rfl,fun k hk=>by omega,by simp,by simp [VRs]⟩
 | succ n ih =>
  obtain⟨vs,h1,h2,h4,h3⟩:=ih (by omega)
  obtain⟨v,hv⟩ : ∃ v,cs[off+n]?=some v:=⟨cs[off+n],by simp [bO (show off+n<cs.length by omega)]⟩
  obtain⟨cv,hc,ho,hr⟩:=hs.cell h hv
  refine⟨vs++[cv],by simp [h1],fun k hk=>?_,fun v hv=>?_,?_⟩
  ·by_cases hkn:k<n
   ·rw [h2 k hkn,aC (by omega)]
   ·have:k=n:=by omega
    subst this
    rw [show(g.obj r).2+off+k=(g.obj r).2+(off+k) by omega,hc,bH (by omega),h1]
    simp
  ·rcases aU.1 hv with h | h
   ·exact h4 v h
   ·simp at h; subst h; exact ho
  ·have e:(cs.drop off).take (n+1)=(cs.drop off).take n++[v]:=by
    rw [List.take_add_one,List.getElem?_drop,hv]
    rfl
   rw [e]
   exact h3.append ⟨hr,trivial⟩

theorem zM (hs:Sim g σ w){t:TypeId}(hok:okT P t=true){x v:V}{cx:Value}(hx:VR g σ.toks w x cx)(h:loadAt σ (pN P t) (P.cellsOf t) x=some v) :
  ∃ cv,(Instr.loadAt t cx).run P w = .ok cv w∧VR g σ.toks w v cv:=by
 unfold loadAt at h
 split at h
 ·rename_i r off
  split at h
  ·rename_i cs hr
   cases hx with
   | ref _ _ hh =>
    split at h
    ·rename_i ha
     split at h
     ·rename_i hn
      cases h
      obtain⟨vs,h1,h2,h4,h3⟩:=hs.stretch hr off (P.cellsOf t) hn
      exact⟨.agg vs.toArray,by
       simp only [Instr.loadAt,Instr.sureAddr,Sem.run_bind,Sem.run_pure,aW]
       exact rE ha h1 (fun k hk=>h2 k (by omega)),VR.mkAgg_of (by simpa using h4) (by simpa using h3)⟩
     ·cases h
    ·rename_i ha
     obtain⟨cv,hc,_,hv⟩:=hs.cell hr h
     exact⟨cv,by
      simp only [Instr.loadAt,Instr.sureAddr,Sem.run_bind,Sem.run_pure,aW]
      exact rF hok (by simpa using ha) hc,hv⟩
  ·cases h
 ·rename_i cs
  cases hx with
  | ro _ b o cv hf hc h1 hd =>
   split at h
   ·rename_i ha
    split at h
    ·rename_i hn
     cases h
     refine⟨.agg ((List.range (P.cellsOf t)).map cv).toArray,?_,.da _ _ (DR.agg_of (fun v hv=>?_) ?_)⟩
     ·simp only [Instr.loadAt,Instr.sureAddr,Sem.run_bind,Sem.run_pure,aW]
      refine rE ha (by simp) (fun k hk=>?_)
      simp at hk
      rw [hc k (by omega)]
      simp [hk]
     ·simp at hv
      obtain⟨k,hk,rfl⟩:=hv
      exact h1 k (by omega)
     ·refine DRs.of_get (by simp; omega) (fun i d v hi hv=>?_)
      rw [List.getElem?_take] at hi
      split at hi
      ·rename_i hlt
       simp [hlt] at hv
       subst hv
       exact hd i d hi
      ·cases hi
    ·cases h
   ·rename_i ha
    split at h
    ·rename_i c r
     cases h
     refine⟨cv 0,?_,.d _ _ (hd 0 c rfl) (h1 0 (by simp))⟩
     simp only [Instr.loadAt,Instr.sureAddr,Sem.run_bind,Sem.run_pure,aW]
     exact rF hok (by simpa using ha) (by simpa using hc 0 (by simp))
    ·cases h
 ·cases h

theorem uS {t:TypeId}(ha:pN P t=true){cs:Array Value}(off:Nat):(part t cs off).run P w = .ok (.agg (cs.extract off (off+P.cellsOf t))) w:=by
 have hok:=aEq ha
 unfold part
 simp only [Sem.run_bind,sX hok,aW,ha,if_true,pH hok,Sem.run_pure]

theorem uT {t:TypeId}(hok:okT P t=true)(ha:pN P t=false){cs:Array Value}{off:Nat}{v:Value}(h:cs[off]?=some v):(part t cs off).run P w = .ok v w:=by
 unfold part
 simp only [Sem.run_bind,sX hok,aW,ha,aP,if_false,h,Sem.run_pure]

theorem xA {vs:Array Value}(h : ∀ v∈vs.toList,iG v=true)(a b:Nat) : ∀ v∈(vs.extract a b).toList,iG v=true:=fun v hv=>by
 rw [Array.toList_extract] at hv
 simp only [List.extract] at hv
 exact h v (List.mem_of_mem_drop (List.mem_of_mem_take hv))

theorem zW {t:TypeId}(hok:okT P t=true){off:Nat}{x v:V}{cx:Value}(hx:VR g tk w x cx)(h:dO (pN P t) off (P.cellsOf t) x=some v) :
  ∃ cs cv,cx = .agg cs∧(part t cs off).run P w = .ok cv w∧VR g tk w v cv:=by
 unfold dO at h
 split at h
 ·rename_i l
  obtain⟨vs,rfl,h1,hd⟩:=hx.inv_da
  split at h
  ·rename_i ha
   split at h
   ·cases h
    refine⟨vs,_,rfl,uS ha off,.da _ _ (DR.agg_of (xA h1 _ _) ?_)⟩
    have:=VRs.of_d (g:=g) (tk:=tk) (w:=w) (ds:=(l.drop off).take (P.cellsOf t)) (vs:=(vs.toList.drop off).take (P.cellsOf t)) (by
     rw [List.map_take,List.map_drop]
     exact(VRs.drop off (DRs.to_v h1 hd)).take _)
    rw [Array.toList_extract]
    simpa [List.extract] using this
   ·cases h
  ·rename_i ha
   split at h
   ·rename_i c hc
    cases h
    obtain⟨u,hu⟩ : ∃ u,vs[off]?=some u:=by
     have hlt:off<l.length:=by
      rcases bT off l.length with h | h
      ·exact h
      ·simp [aR h] at hc
     have:off<vs.size:=by have:=hd.length; simp at this; omega
     exact⟨vs[off],by simp [this]⟩
    exact⟨vs,u,rfl,uT hok (by simpa using ha) hu,.d _ _ (hd.get off c u hc (by simpa using hu)) (h1 u (aL (by simpa using hu)))⟩
   ·cases h
 ·rename_i l
  obtain⟨vs,rfl,h1,hd⟩:=hx.inv_agg
  split at h
  ·rename_i ha
   split at h
   ·cases h
    refine⟨vs,_,rfl,uS ha off,VR.mkAgg_of (xA h1 _ _) ?_⟩
    rw [Array.toList_extract]
    simpa [List.extract] using (hd.drop off).take (P.cellsOf t)
   ·cases h
  ·rename_i ha
   obtain⟨u,hu⟩ : ∃ u,vs[off]?=some u:=by
    have hlt:off<l.length:=by
     rcases bT off l.length with h' | h'
     ·exact h'
     ·simp [aR h'] at h
    have:off<vs.size:=by have:=hd.length; simp at this; omega
    exact⟨vs[off],by simp [this]⟩
   exact⟨vs,u,rfl,uT hok (by simpa using ha) hu,hd.get off v u h (by simpa using hu)⟩
 ·cases h

end Go.Dn

/- Slices, indexes, conversions, composite literals; every operation that leaves the store alone. -/
namespace Go.Dn

variable {P:Program} {g:Gh} {σ:St} {tk:List Nat} {w:World}

theorem lG (sz n:Nat)(l:List D):(gL sz n l).length=n:=by
 induction n generalizing l with
 | zero=>rfl
 | succ n ih=>simp [gL,ih]

theorem mG (sz n:Nat)(l:List D)(i:Nat):(gL sz n l)[i]?=if i<n then some ((l.drop (i*sz)).take sz) else none:=by
 induction n generalizing l i with
 | zero=>simp [gL]
 | succ n ih =>
  cases i with
  | zero=>simp [gL]
  | succ i =>
   simp only [gL,List.getElem?_cons_succ,ih,List.drop_drop,Nat.add_lt_add_iff_right]
   rw [show sz+i*sz=(i+1)*sz by rw [bI]; omega]

structure aGq (f:Nat→Nat→Prop)(w:World)(rows:List (List D))(sz:Nat)(a:Addr)(cv:Nat→Value):Prop where
 hsz : ∀ (i:Nat) (row:List D),rows[i]?=some row→row.length=sz
 hc : ∀ k,k<rows.length*sz→w.cell? (a.add k)=some (cv k)
 h1 : ∀ k,k<rows.length*sz→iG (cv k)=true
 hd : ∀ (i:Nat) (row:List D) (j:Nat) (d:D),rows[i]?=some row→row[j]?=some d→DR f w d (cv (i*sz+j))

def aCm (f:Nat→Nat→Prop)(w:World)(rows:List (List D))(cx:Value):Prop :=
 (cx = .slice none 0 0∧rows=[])∨∃ a cap sz cv,cx = .slice (some a) rows.length cap∧rows.length≤cap∧aGq f w rows sz a cv

theorem DR.rows {f:Nat→Nat→Prop}{rows:List (List D)}{v:Value}(h:DR f w (.list rows) v) : ∃ a cap sz cv,v = .slice (some a) rows.length cap∧rows.length≤cap∧aGq f w rows sz a cv:=by
 cases h with
 | list _ b o cap sz cv hcap hsz hf hc h1 hd =>
  exact⟨_,cap,sz,cv,rfl,hcap,hsz,fun k hk=>by rw [iK]; exact hc k hk,h1,hd⟩
 | list0 a cap =>
  exact⟨a,cap,0,fun _=>undef,rfl,Nat.zero_le _,fun i row h=>by simp at h,fun k hk=>by simp at hk,fun k hk=>by simp at hk,fun i row j d h=>by simp at h⟩

theorem oW (hs:Sim g σ w){x:V}{cx:Value}(hx:VR g σ.toks w x cx){rows:List (List D)}(h:V.rows σ x=some rows):aCm g.frz w rows cx:=by
 unfold V.rows at h
 split at h
 ·cases h
  have:=hx.inv_d
  cases this
  exact .inl ⟨rfl,rfl⟩
 ·cases h; exact .inr hx.inv_d.rows
 ·cases h; cases hx with
  | fl _ a h=>exact .inr (by simpa using h.rows)
 ·cases h; cases hx with
  | tl _ t st sz k a cap hd ht hle hh hsz ha=>exact .inr hd.rows
 ·rename_i r off len sz
  split at h
  ·rename_i cs hr
   split at h
   ·rename_i l hl
    cases h
    cases hx with
    | sl _ _ _ _ cap a hh hcap hsz hin hout ha =>
     have hlen:cs.length=g.len r:=(hs.cells r cs hr).1
     obtain⟨vs,v1,v2,v3,v4⟩:=hs.stretch hr off (len*sz) (by omega)
     rw [mB hl] at v4
     have hds:=v4.of_d
     have hll:l.length=len*sz:=by rw [hds.length,v1]
     refine .inr ⟨a,cap,sz,fun k=>vs.getD k undef,by rw [lG],by rw [lG]; exact hcap,?_,?_,?_,?_⟩
     ·intro i row hrow
      rw [mG] at hrow
      split at hrow
      ·rename_i hi
       cases hrow
       have:i*sz+sz≤len*sz:=by
        have:=bF sz (show i+1≤len from hi)
        rw [bI] at this; omega
       simp [hll]; omega
      ·cases hrow
     ·intro k hk
      rw [lG] at hk
      rw [ha (by omega),iK,v2 k hk]
      simp [bO (show k<vs.length by omega)]
     ·intro k hk
      rw [lG] at hk
      have hlt:k<vs.length:=by omega
      refine v3 _ ?_
      simp [bA,bO hlt]
     ·intro i row j d hrow hd
      rw [mG] at hrow
      split at hrow
      ·rename_i hi
       cases hrow
       rw [List.getElem?_take] at hd
       split at hd
       ·rename_i hj
        rw [List.getElem?_drop] at hd
        have hlt:i*sz+j<vs.length:=by
         have:=bF sz (show i+1≤len from hi)
         rw [bI] at this; omega
        have:=hds.get (i*sz+j) d vs[i*sz+j] hd (by simp [bO hlt])
        simpa [bA,bO hlt] using this
       ·cases hd
      ·cases hrow
   ·cases h
  ·cases h
 ·cases h

theorem pU {x:V}{cx:Value}(hx:VR g tk w x cx){n:Int}(h:jZ x=some n) : ∃ k,cx = .int k n:=by
 unfold jZ at h
 split at h
 ·cases h; exact⟨_,hx.inv_int⟩
 ·cases h

theorem iR {e:TypeId}(hc:P.cellsOf e≠0):(sizeOf e).run P w = .ok (P.cellsOf e) w:=by
 unfold Program.cellsOf at hc
 cases hi:P.info? e with
 | none=>simp [hi] at hc
 | some i=>exact run_sizeOf w hi

theorem aH1 (a:Addr)(m n:Nat):(a.add m).add n=a.add (m+n):=by
 unfold Addr.add
 by_cases h1:m=0 <;> by_cases h2:n=0 <;> simp [h1,h2] <;> omega

end Go.Dn

/- New blocks that stay as they are. -/
namespace Go.Dn

variable {P:Program} {g:Gh} {σ:St} {tk:List Nat} {w:World}

theorem hY {b:Nat}{o:Go.Obj}(h:w.heap[b]?=some o):b<w.heap.size:=(bW.1 h).1

theorem nI {b o:Nat}{v:Value}(h:w.cell? ⟨b,o,none⟩=some v):b<w.heap.size:=by
 unfold World.cell? at h
 split at h
 ·rename_i hb; exact hY hb
 ·cases h

structure Grown1 (w:World)(o:Go.Obj)(w':World):Prop where
 heap:w'.heap=w.heap.push o
 os:w'.os=w.os
 tape:w'.tape=w.tape
 output:w'.output=w.output

theorem Grown1.old {o:Go.Obj}{w':World}(h:Grown1 w o w'){b:Nat}(hb:b<w.heap.size):w'.heap[b]?=w.heap[b]?:=by
 rw [h.heap,Array.getElem?_push]
 split
 ·omega
 ·rfl

theorem Grown1.new {o:Go.Obj}{w':World}(h:Grown1 w o w'):w'.heap[w.heap.size]?=some o:=by
 rw [h.heap]; simp

theorem Grown1.cell {o:Go.Obj}{w':World}(h:Grown1 w o w'){b:Nat}(hb:b<w.heap.size)(q:Nat):w'.cell? ⟨b,q,none⟩=w.cell? ⟨b,q,none⟩:=by
 unfold World.cell?
 rw [h.old hb]

theorem Grown1.size {o:Go.Obj}{w':World}(h:Grown1 w o w'):w'.heap.size=w.heap.size+1:=by
 rw [h.heap]; simp

def Gh.freeze (g:Gh)(b n:Nat):Gh:={ g with frz:=fun b' q=>g.frz b' q∨(b'=b∧q<n) }

theorem aIq (hs:Sim g σ w){b:Nat}(h:rG g σ b):b<w.heap.size:=by
 rcases h with⟨r,o,ho,hl,rfl⟩ | ⟨t,k,ht,rfl⟩
 ·exact hs.blk ho hl
 ·obtain⟨_,c,e,fz,hb,_⟩:=hs.tok t k ht
  exact hY hb

theorem Sim.push_frz (hs:Sim g σ w){c:Array Value}{e:TypeId}{fz:Nat×Nat}{w':World}(h:Grown1 w (.cells c e fz) w') :
  Sim (g.freeze w.heap.size c.size) σ w'∧Ev g σ w (g.freeze w.heap.size c.size) σ w':=by
 have hcell : ∀ b q,g.frz b q→w'.cell? ⟨b,q,none⟩=w.cell? ⟨b,q,none⟩:=fun b q hf=>by
  obtain⟨v,hv⟩:=hs.frzb b q hf
  exact h.cell (nI hv) q
 have hl:Later g σ.toks w (g.freeze w.heap.size c.size) σ.toks w' :=
  ⟨⟨fun b q hf=>.inl hf,hcell⟩,fun r hr=>⟨hr,rfl,rfl⟩,fun t k ht=>⟨k,ht,bB _,fun _=>rfl,rfl⟩,rfl,fun _ _=>rfl⟩
 refine⟨⟨hs.has,hs.bound,hs.free,fun r cs hr=>?_,fun r o hr ho=>?_,hs.dist,fun r o ho hlv q=>?_,fun t k ht=>?_,hs.tdist,hs.tobj,fun b q hf=>?_,fun r cs hr=>⟨(hs.lims r cs hr).1,fun c' e' fz' hb=>(hs.lims r cs hr).2 c' e' fz' (by rw [← h.old (hs.blk hr trivial)]; exact hb)⟩⟩,⟨hl,by rw [h.size]; omega,h.os,h.tape,h.output,fun b hb _=>h.old hb,fun b hb=>.inl hb,fun b q hf=>?_⟩⟩
 ·obtain⟨h1,c',e',fz',hb,hn,hc⟩:=hs.cells r cs hr
  refine⟨h1,c',e',fz',by rw [show((g.freeze w.heap.size c.size).obj r)=g.obj r from rfl,h.old (hY hb)]; exact hb,hn,fun j v hj=>?_⟩
  obtain⟨cv,h1,h2,h3⟩:=hc j v hj
  exact⟨cv,h1,h2,h3.later hl⟩
 ·obtain⟨x,h1,h2⟩:=hs.oth r o hr ho
  exact⟨x,by rw [show((g.freeze w.heap.size c.size).obj r)=g.obj r from rfl,h.old (hY h1)]; exact h1,h2.later hl⟩
 ·rintro (hf | ⟨hb,_⟩)
  ·exact hs.nofrz r o ho hlv q hf
  ·have:=hs.blk ho hlv
   have hb2:(g.obj r).1=w.heap.size:=hb
   omega
 ·obtain⟨h0,c',e',fz',hb,hn,hsz,hf⟩:=hs.tok t k ht
  refine⟨h0,c',e',fz',by rw [show((g.freeze w.heap.size c.size).tok t)=g.tok t from rfl,h.old (hY hb)]; exact hb,hn,hsz,fun q hq=>?_⟩
  rintro (hf' | ⟨hb',_⟩)
  ·exact hf q hq hf'
  ·have:=hY hb
   have hb2:(g.tok t).b=w.heap.size:=hb'
   omega
 ·rcases hf with hf | ⟨rfl,hq⟩
  ·obtain⟨v,hv⟩:=hs.frzb b q hf
   exact⟨v,by rw [hcell b q hf]; exact hv⟩
  ·exact⟨c[q],by rw [iU h.new]; simp [hq]⟩
 ·rcases hf with hf | ⟨rfl,hq⟩
  ·exact .inl hf
  ·exact .inr (.inr (bB _))

theorem aCP {f:Nat→Nat→Prop}{b:Nat}{c:Array Value}{e:TypeId}{fz:Nat×Nat}(hb:w.heap[b]?=some (.cells c e fz)){rows:List (List D)}{sz cap:Nat}(hcap:rows.length≤cap)
  (hsz : ∀ (i:Nat) (row:List D),rows[i]?=some row→row.length=sz) (hf : ∀ k,k<rows.length*sz→f b k) (hn:rows.length*sz≤c.size) (h1 : ∀ k,k<rows.length*sz→iG (c.getD k undef)=true)
  (hd : ∀ (i:Nat) (row:List D) (j:Nat) (d:D),rows[i]?=some row→row[j]?=some d→DR f w d (c.getD (i*sz+j) undef)) :
  DR f w (.list rows) (.slice (some ⟨b,0,none⟩) rows.length cap):=by
 refine .list rows b 0 cap sz (fun k=>c.getD k undef) hcap hsz (fun k hk=>by rw [Nat.zero_add]; exact hf k hk) (fun k hk=>?_) h1 hd
 rw [Nat.zero_add,iU hb]
 simp [show k<c.size by omega]

theorem kF {α:Type}(cs:List α)(off:Nat)(xs:List α)(h:off+xs.length≤cs.length):(splice cs off xs).length=cs.length:=by
 simp [splice]; omega

theorem kE {α:Type}(cs:List α)(off:Nat)(xs:List α)(h:off+xs.length≤cs.length)(k:Nat) :
  (splice cs off xs)[k]?=if off≤k∧k<off+xs.length then xs[k-off]? else cs[k]?:=by
 unfold splice
 by_cases h1:k<off
 ·rw [bU,aC (by simp; omega),List.getElem?_take]
  simp [h1,show ¬ off≤k by omega]
 ·by_cases h2:k<off+xs.length
  ·rw [bU,bH (by simp; omega),aC (by simp; omega)]
   simp only [List.length_take,show off≤k by omega,h2,and_self,if_true]
   congr 1
   omega
  ·rw [bH (by simp; omega),List.getElem?_drop]
   simp only [aY,List.length_take,show ¬ (k<off+xs.length) from h2,and_false,if_false]
   congr 1
   omega

theorem VRs.splice {cs:List V}{vs:List Value}{xs:List V}{us:List Value}(off:Nat)(h:VRs g tk w cs vs)(h':VRs g tk w xs us):VRs g tk w (Dn.splice cs off xs) (Dn.splice vs off us):=by
 unfold Dn.splice
 rw [h'.length]
 exact((h.take off).append h').append (h.drop _)

theorem aFp (l:List Value)(off:Nat) : ∀ (i:Nat) (cs:Array Value),off+i+l.length≤cs.size →
  ((l.zipIdx i).foldl (fun cs (p:Value×Nat)=>cs.setIfInBounds (off+p.2) p.1) cs).toList=splice cs.toList (off+i) l:=by
 induction l with
 | nil=>intro i cs h; simp [splice]
 | cons x l ih =>
  intro i cs h
  simp only [List.zipIdx_cons,List.foldl_cons]
  rw [ih (i+1) _ (by simp; simp at h; omega)]
  apply List.ext_getElem?
  intro k
  have e1:off+i+1+l.length≤(cs.setIfInBounds (off+i) x).toList.length:=by simp at h ⊢; omega
  rw [show off+(i+1)=off+i+1 by omega,kE _ _ _ (by simpa using e1),kE _ _ _ (by simpa using h)]
  simp only [List.length_cons,Array.toList_setIfInBounds]
  by_cases hk:off+i+1≤k∧k<off+i+1+l.length
  ·rw [if_pos hk,if_pos ⟨by omega,by omega⟩,show k-(off+i)=(k-(off+i+1))+1 by omega,List.getElem?_cons_succ]
  ·rw [if_neg hk]
   by_cases hk2:k=off+i
   ·subst hk2
    rw [if_pos ⟨by omega,by omega⟩]
    simp only [Nat.sub_self,List.getElem?_cons_zero]
    rw [aO (by simp at h ⊢; omega)]
   ·rw [if_neg (by omega),aE (fun e=>hk2 e.symm)]

end Go.Dn

/- The single operations, one lemma each. -/
namespace Go.Dn
open Go.Lib

variable {P:Program} {g:Gh} {σ:St} {tk:List Nat} {w:World}

def PStep (P:Program)(g:Gh) (σ:St)(w:World)(s:Sem Value)(v:V):Prop :=
 ∃ cv w' g',s.run P w = .ok cv w'∧Sim g' σ w'∧VR g' σ.toks w' v cv∧Ev g σ w g' σ w'

theorem PStep.still (hs:Sim g σ w){s:Sem Value}{v:V}{cv:Value}(h:s.run P w = .ok cv w)(hv:VR g σ.toks w v cv):PStep P g σ w s v :=
 ⟨cv,w,g,h,hs,hv,Ev.refl _ _ _⟩

theorem uP : ∀ {rows:List (List D)} {l:List UInt8},rZ rows=some l→(∀ (i:Nat) (row:List D),rows[i]?=some row→∃ n:Int,row=[.int .u8 n]) ∧
  ∃ ns:List Int,rows=ns.map (fun n=>[D.int .u8 n])∧l=ns.map (fun n=>UInt8.ofNat n.toNat)
 | [],l,h=>by simp [rZ] at h; subst h; exact⟨fun i row hr=>by simp at hr,[],rfl,rfl⟩
 | r::rs,l,h=>by
  unfold rZ at h
  split at h
  ·rename_i heq; cases heq
  ·rename_i n rest heq
   cases heq
   split at h
   ·rename_i m hm
    cases h
    obtain⟨h1,ns,h2,h3⟩:=uP hm
    refine⟨fun i row hr=>?_,n::ns,by simp [h2],by simp [h3]⟩
    cases i with
    | zero=>simp at hr; exact⟨n,hr.symm⟩
    | succ i=>simp at hr; exact h1 i row hr
   ·cases h
  ·cases h

theorem aFE (ns:List Int)(s:ByteArray):ns.foldl (fun r n=>r.push (UInt8.ofNat n.toNat)) s=⟨(s.data.toList++ns.map (fun n=>UInt8.ofNat n.toNat)).toArray⟩:=by
 induction ns generalizing s with
 | nil=>simp
 | cons n ns ih =>
  simp only [List.foldl_cons,ih]
  apply ByteArray.ext
  simp [ByteArray.push]

theorem aGE (hs:Sim g σ w){src dst:TypeId}{k:Conv}(hk:yM P src dst=some k){x v:V}{cx:Value}(hx:VR g σ.toks w x cx)(h:cI σ k x=some v):PStep P g σ w (Go.convert src dst cx) v:=by
 unfold yM at hk
 split at hk
 ·rename_i k' hu1 hu2
  cases hk
  simp only [cI] at h
  split at h
  ·cases h
   have e:=hx.inv_int
   subst e
   exact PStep.still hs (by simp [Go.convert,run_underlying hu1,run_underlying hu2,Conv.intToInt]) (.int _ _)
  ·cases h
 ·rename_i hu1 hu2
  cases hk
  simp only [cI] at h
  split at h
  ·cases h
   have ec:=hx.inv_str
   subst ec
   exact PStep.still hs (by simp [Go.convert,run_underlying hu1,run_underlying hu2]) (.str _)
  ·cases h
 ·rename_i e hu1 hu2
  split at hk
  ·rename_i hu3
   cases hk
   simp only [cI] at h
   split at h
   ·rename_i s
    cases h
    have ec:=hx.inv_str
    subst ec
    have hrun:=Lib.run_convert_string_bytes (P:=P) w src dst e ⟨s.toArray⟩ hu1 hu2 hu3
    have hnew:=bytesWorld_at_new w e ⟨s.toArray⟩
    have hgr:Grown1 w (.cells (bytesCells w e ⟨s.toArray⟩) e ((bytesCells w e ⟨s.toArray⟩).size,(bytesCells w e ⟨s.toArray⟩).size+1)) (bytesWorld w e ⟨s.toArray⟩):=by
     refine⟨?_,rfl,rfl,rfl⟩
     apply Array.ext_getElem?
     intro i
     rcases Nat.lt_trichotomy i w.heap.size with h | h | h
     ·rw [bytesWorld_at_old w e _ i h,Array.getElem?_push]
      simp [show i≠w.heap.size by omega]
     ·subst h; rw [hnew]; simp
     ·rw [Array.getElem?_eq_none (by rw [bytesWorld_size]; omega),Array.getElem?_eq_none (by simp; omega)]
    obtain⟨h1,h2⟩:=hs.push_frz hgr
    have hsz:(bytesCells w e ⟨s.toArray⟩).size=s.length+(grownCap w s.length 0 e-s.length):=by
     simp [bytesCells,kW]
    have hget : ∀ k,k<s.length→(bytesCells w e ⟨s.toArray⟩).getD k undef = .int .u8 ((s.getD k 0).toNat):=by
     intro k hk
     simp [bytesCells,Array.getD_eq_getD_getElem?,Array.getElem?_append,hk,bA]
    refine⟨_,_,_,hrun,h1,.d _ _ ?_ rfl,h2⟩
    have hl:(cF s).length=s.length:=by simp [cF]
    rw [kW,← hl]
    have hgc:=grownCap_ge w s.length 0 e
    refine aCP (sz:=1) hnew (by rw [hl]; exact hgc) (fun i row hr=>?_) (fun k hk=>?_) ?_ (fun k hk=>?_) (fun i row j d hr hd=>?_)
    ·simp only [cF,bG,Option.map_eq_some_iff] at hr
     obtain⟨b,_,rfl⟩:=hr
     rfl
    ·rw [hl] at hk
     exact .inr ⟨rfl,by rw [hsz]; omega⟩
    ·rw [hl,hsz]; omega
    ·rw [hl] at hk
     rw [hget k (by omega)]
     rfl
    ·simp only [cF,bG,Option.map_eq_some_iff] at hr
     obtain⟨b,hb,rfl⟩:=hr
     have hi:i<s.length:=by
      rcases bT i s.length with h | h
      ·exact h
      ·simp [aR h] at hb
     have hj:j=0:=by
      rcases Nat.eq_zero_or_pos j with h | h
      ·exact h
      ·rw [aR (by simp; omega)] at hd; cases hd
     subst hj
     simp at hd
     subst hd
     rw [Nat.mul_one,Nat.add_zero,hget i hi,bA,hb]
     exact .int _ _
   ·cases h
  ·cases hk
 ·rename_i e hu1 hu2
  split at hk
  ·rename_i hu3
   cases hk
   simp only [cI] at h
   split at h
   ·rename_i rows hr
    split at h
    ·rename_i l hl
     cases h
     obtain⟨hone,ns,hns,rfl⟩:=uP hl
     rcases oW hs hx hr with⟨rfl,rfl⟩ | ⟨a,cap,sz,cv,rfl,hcap,hat⟩
     ·have:ns=[]:=by cases ns; rfl; simp at hns
      subst this
      refine PStep.still hs ?_ (.str [])
      rw [run_convert_bytes_string w src dst e none 0 0 hu1 hu3 hu2]
      simp [Conv.bytesToString]
      rfl
     ·refine PStep.still hs ?_ (.str _)
      have hlen:rows.length=ns.length:=by rw [hns]; simp
      rw [run_convert_bytes_string w src dst e (some a) _ cap hu1 hu3 hu2,run_bytesToString w a _ cap ns,aFE]
      ·rfl
      ·by_cases hz:rows.length=0
       ·rw [hz]
        have:ns=[]:=bP (by omega)
        subst this
        rfl
       ·have hsz1:sz=1:=by
         have h0:rows[0]?=some rows[0]:=by simp
         obtain⟨n,hn⟩:=hone 0 _ h0
         rw [← hat.hsz 0 _ h0,hn]
         rfl
        subst hsz1
        rw [hlen,← (show(ns.map (Value.int .u8)).length=ns.length by simp)]
        refine run_loadCells_list w a _ (fun j v hv=>?_)
        simp only [bG,Option.map_eq_some_iff] at hv
        obtain⟨n,hn,rfl⟩:=hv
        have hj:j<ns.length:=by
         rcases bT j ns.length with h | h
         ·exact h
         ·simp [aR h] at hn
        rw [hat.hc j (by omega)]
        have hrow:rows[j]?=some [D.int .u8 n]:=by rw [hns]; simp [hn]
        have:=hat.hd j _ 0 (.int .u8 n) hrow rfl
        rw [Nat.mul_one,Nat.add_zero] at this
        rw [this.inv_int]
    ·cases h
   ·cases h
  ·cases hk
 ·cases hk

end Go.Dn

/- Addresses, indexes, slices, lengths, least and greatest, interface values. -/
namespace Go.Dn
open Go.Lib

variable {P:Program} {g:Gh} {σ:St} {tk:List Nat} {w:World}

theorem wO {t:TypeId}{i off:Nat}{ft:TypeId}(h:sI P t i=some (off,ft)) : ∃ fs f,P.underlying t=some (.struct fs)∧fs[i]?=some f∧f.offset=off∧f.type=ft∧P.cellsOf ft≠0∧okT P ft=true:=by
 unfold sI at h
 split at h
 ·rename_i fs hu
  split at h
  ·rename_i f hf
   split at h
   ·cases h
   ·rename_i hc
    cases h
    simp only [not_or,Bool.not_eq_false] at hc
    exact⟨fs,f,hu,hf,rfl,rfl,hc.1,hc.2⟩
  ·cases h
 ·cases h

theorem VR.ro_drop {cs:List D}{b o:Nat}{cv:Nat→Value}(hf : ∀ k,k<cs.length→g.frz b (o+k))(hc : ∀ k,k<cs.length→w.cell? ⟨b,o+k,none⟩=some (cv k))(h1 : ∀ k,k<cs.length→iG (cv k)=true)
  (hd : ∀ (k:Nat) (d:D),cs[k]?=some d→DR g.frz w d (cv k)) (off:Nat):VR g tk w (.ro (cs.drop off)) (.pointer (some ⟨b,o+off,none⟩)):=by
 refine .ro _ b (o+off) (fun k=>cv (off+k)) (fun k hk=>?_) (fun k hk=>?_) (fun k hk=>?_) (fun k d hk=>?_)
 ·simp at hk; rw [Nat.add_assoc]; exact hf _ (by omega)
 ·simp at hk; rw [Nat.add_assoc]; exact hc _ (by omega)
 ·simp at hk; exact h1 _ (by omega)
 ·rw [List.getElem?_drop] at hk; exact hd _ d hk

theorem aFl (hs:Sim g σ w){t:TypeId}{i off:Nat}{ft:TypeId}(hf:sI P t i=some (off,ft)){x v:V}{cx:Value}(hx:VR g σ.toks w x cx)
  (h:cJ off x=some v) :
  PStep P g σ w (Instr.fieldAt t cx i) v:=by
 obtain⟨fs,f,hu,hfi,rfl,rfl,hc,hok⟩:=wO hf
 have run : ∀ a:Addr,(Instr.fieldAt t (.pointer (some a)) i).run P w = .ok (.pointer (some (a.add f.offset))) w:=by
  intro a
  simp [Instr.fieldAt,run_underlying hu,hfi,Instr.sureAddr,fieldPlace,pH hok,hc]
 unfold cJ at h
 split at h
 ·rename_i r o
  cases h
  cases hx with
  | ref _ _ hh =>
   refine PStep.still hs (run _) ?_
   rw [iK,Nat.add_assoc]
   exact .ref _ _ hh
 ·rename_i cs
  split at h
  ·cases h
   cases hx with
   | ro _ b o cv hf' hc' h1 hd =>
    refine PStep.still hs (run _) ?_
    rw [iK]
    exact VR.ro_drop hf' hc' h1 hd _
  ·cases h
 ·cases h

theorem aFm (hs:Sim g σ w){t:TypeId}{i off:Nat}{ft:TypeId}(hf:sI P t i=some (off,ft)){x v:V}{cx:Value}(hx:VR g σ.toks w x cx)(h:dO (pN P ft) off (P.cellsOf ft) x=some v) :
  PStep P g σ w (Instr.field t cx i) v:=by
 obtain⟨fs,f,hu,hfi,rfl,rfl,hc,hok⟩:=wO hf
 obtain⟨cs,cv,rfl,h1,h2⟩:=zW hok hx h
 exact PStep.still hs (by simp [Instr.field,run_underlying hu,hfi,asAgg,h1]) h2

theorem aIH {x:V}{cx:Value}(hx:VR g σ.toks w x cx)(hn : ∀ r off len sz,x ≠ .sl r off len sz){rows:List (List D)}(h:V.rows σ x=some rows):(cx = .slice none 0 0∧rows=[])∨DR g.frz w (.list rows) cx:=by
 unfold V.rows at h
 split at h
 ·cases h; have:=hx.inv_d; cases this; exact .inl ⟨rfl,rfl⟩
 ·cases h; exact .inr hx.inv_d
 ·cases h; cases hx with
  | fl _ a h=>exact .inr h
 ·cases h; cases hx with
  | tl _ t st sz k a cap hd ht hle hh hsz ha=>exact .inr hd
 ·exact absurd rfl (hn _ _ _ _)
 ·cases h

theorem aFs (hs:Sim g σ w){t e:TypeId}(hu:P.underlying t=some (.slice e))(hc:P.cellsOf e≠0){x i v:V}{cx ci:Value}(hx:VR g σ.toks w x cx)(hi:VR g σ.toks w i ci)
  (h:jC σ (P.cellsOf e) x i=some v):PStep P g σ w (Instr.indexAt t cx ci) v:=by
 have run : ∀ (a:Addr) (len cap:Nat) (k:IntKind) (j:Int),0≤j→j<len→(Instr.indexAt t (.slice (some a) len cap) (.int k j)).run P w = .ok (.pointer (some (a.add (j.toNat*P.cellsOf e)))) w:=by
  intro a len cap k j h0 h1
  simp [Instr.indexAt,asIntOf,run_underlying hu,h0,h1,iR hc]
 unfold jC at h
 split at h
 ·rename_i j hj
  obtain⟨k,rfl⟩:=pU hi hj
  split at h
  ·rename_i r off len s
   split at h
   ·rename_i hb
    obtain⟨rfl,h0,h1⟩:=hb
    cases h
    cases hx with
    | sl _ _ _ _ cap a hh hcap hsz hin hout ha =>
     refine PStep.still hs (run a len cap k j h0 h1) ?_
     have hjl:j.toNat+1≤len:=by omega
     have:=bF (P.cellsOf e) hjl
     rw [bI] at this
     rw [ha (by omega),iK,Nat.add_assoc]
     exact .ref _ _ hh
   ·cases h
  ·rename_i hn
   split at h
   ·rename_i rows hr
    split at h
    ·rename_i hb
     split at h
     ·rename_i row hrow
      split at h
      ·rename_i hlen
       cases h
       rcases aIH hx (fun r off len sz e=>hn r off len sz e) hr with⟨rfl,rfl⟩ | hd
       ·simp at hrow
       ·cases hd with
        | list0 _ _=>simp at hrow
        | list _ b o cap sz cv hcap hsz hf hc' h1 hd =>
         have hs1:=hsz _ row hrow
         have hi:j.toNat<rows.length:=by omega
         have hm:=bF sz (show j.toNat+1≤rows.length from hi)
         rw [bI] at hm
         refine PStep.still hs (run ⟨b,o,none⟩ rows.length cap k j hb.1 hb.2) ?_
         rw [iK,← hlen,hs1]
         refine .ro row b (o+j.toNat*sz) (fun q=>cv (j.toNat*sz+q)) (fun q hq=>?_) (fun q hq=>?_) (fun q hq=>?_) (fun q d hq=>hd _ row q d hrow hq)
         ·rw [Nat.add_assoc]; exact hf _ (by omega)
         ·rw [Nat.add_assoc]; exact hc' _ (by omega)
         ·exact h1 _ (by omega)
      ·cases h
     ·cases h
    ·cases h
   ·cases h
 ·cases h

theorem aBF (hs:Sim g σ w){t e:TypeId}{n:Nat}(hu:P.underlying t=some (.array n e))(hc:P.cellsOf e≠0){x i v:V}{cx ci:Value}(hx:VR g σ.toks w x cx)(hi:VR g σ.toks w i ci)
  (h:lC n (P.cellsOf e) x i=some v):PStep P g σ w (Instr.indexAt t cx ci) v:=by
 have run : ∀ (a:Addr) (k:IntKind) (j:Int),0≤j→j<n→(Instr.indexAt t (.pointer (some a)) (.int k j)).run P w = .ok (.pointer (some (a.add (j.toNat*P.cellsOf e)))) w:=by
  intro a k j h0 h1
  simp [Instr.indexAt,asIntOf,run_underlying hu,h0,h1,Instr.sureAddr,iR hc]
 unfold lC at h
 split at h
 ·rename_i j hj
  obtain⟨k,rfl⟩:=pU hi hj
  split at h
  ·rename_i hb
   split at h
   ·cases h
    cases hx with
    | ref _ _ hh =>
     refine PStep.still hs (run _ k j hb.1 hb.2) ?_
     rw [iK,Nat.add_assoc]
     exact .ref _ _ hh
   ·split at h
    ·cases h
     cases hx with
     | ro _ b o cv hf' hc' h1 hd =>
      refine PStep.still hs (run _ k j hb.1 hb.2) ?_
      rw [iK]
      exact VR.ro_drop hf' hc' h1 hd _
    ·cases h
   ·cases h
  ·cases h
 ·cases h

theorem aFt (hs:Sim g σ w){t e:TypeId}{n:Nat}(hu:P.underlying t=some (.array n e))(hok:okT P e=true){x i v:V}{cx ci:Value}(hx:VR g σ.toks w x cx)(hi:VR g σ.toks w i ci)
  (h:zC (pN P e) n (P.cellsOf e) x i=some v):PStep P g σ w (Instr.index t cx ci) v:=by
 unfold zC at h
 split at h
 ·rename_i j hj
  obtain⟨k,rfl⟩:=pU hi hj
  split at h
  ·rename_i hb
   obtain⟨cs,cv,rfl,h1,h2⟩:=zW hok hx h
   exact PStep.still hs (by simp [Instr.index,asIntOf,run_underlying hu,hb.1,hb.2,pH hok,h1]) h2
  ·cases h
 ·cases h

theorem aBJ (hs:Sim g σ w){t:TypeId}(hu:P.underlying t=some .string){x i v:V}{cx ci:Value}(hx:VR g σ.toks w x cx)(hi:VR g σ.toks w i ci)
  (h:pX x i=some v):PStep P g σ w (Instr.index t cx ci) v:=by
 unfold pX at h
 split at h
 ·rename_i s j hj
  obtain⟨k,rfl⟩:=pU hi hj
  have:=hx.inv_str
  subst this
  split at h
  ·rename_i h0
   split at h
   ·rename_i b hb
    cases h
    refine PStep.still hs ?_ (.int _ _)
    have hlt:j.toNat<s.length:=by
     rcases bT j.toNat s.length with h | h
     ·exact h
     ·simp [aR h] at hb
    have hg:(⟨s.toArray⟩:ByteArray)[j.toNat]?=some b:=by
     have hsz:j.toNat<(⟨s.toArray⟩:ByteArray).size:=by rw [kW]; exact hlt
     rw [getElem?_pos (⟨s.toArray⟩:ByteArray) j.toNat hsz]
     have:(⟨s.toArray⟩:ByteArray)[j.toNat]=s[j.toNat]:=rfl
     rw [this]
     simpa [bO hlt] using hb
    simp [Instr.index,asIntOf,run_underlying hu,h0,hg]
   ·cases h
  ·cases h
 ·cases h

theorem kO {x:V}{cx:Value}(hx:VR g tk w x cx){i:Int}(h:jZ x=some i){y:Nat}(h0:0≤i)(h1:i≤y)(code:BoundsCode):(Instr.sliceBound cx y code).run P w = .ok i.toNat w:=by
 obtain⟨k,rfl⟩:=pU hx h
 simp [Instr.sliceBound,asIntOf,h0,h1]

def xK (g:Gh)(tk:List Nat)(w:World)(x:Option V)(c:Option Value):Prop :=
 match x,c with
 | none,none=>True
 | some v,some cv=>VR g tk w v cv
 | _,_=>False

theorem iW {lo hi:Option V}{clo chi:Option Value}(hlo:xK g tk w lo clo)(hhi:xK g tk w hi chi){len cap:Nat}{l h:Int}(isSlice:Bool)
  (hl:jQ 0 lo=some l) (hh:jQ len hi=some h) (h0:0≤l) (h1:l≤h) (h2:h≤cap) :
  (Instr.sliceBounds isSlice len cap clo chi none).run P w = .ok (l.toNat,h.toNat,cap) w:=by
 unfold Instr.sliceBounds
 cases hi with
 | none =>
  cases chi with
  | none =>
   simp [jQ] at hh
   subst hh
   cases lo with
   | none =>
    cases clo with
    | none=>simp [jQ] at hl; subst hl; simp
    | some c=>exact hlo.elim
   | some x =>
    cases clo with
    | none=>exact hlo.elim
    | some c =>
     simp only [Sem.run_bind,Sem.run_pure,aW,kO (P:=P) hlo hl h0 h1,Option.isSome_none,aP,if_false]
     simp
  | some c=>exact hhi.elim
 | some y =>
  cases chi with
  | none=>exact hhi.elim
  | some c =>
   have hb:=fun code=>kO (P:=P) (y:=cap) hhi hh (by omega) h2 code
   cases lo with
   | none =>
    cases clo with
    | none=>simp [jQ] at hl; subst hl; simp [hb]
    | some c=>exact hlo.elim
   | some x =>
    cases clo with
    | none=>exact hlo.elim
    | some c' =>
     have hb2:=fun code=>kO (P:=P) (y:=h.toNat) hlo hl h0 (by omega) code
     simp [hb,hb2]

theorem vU {lo hi:Option V}{clo chi:Option Value}(hlo:xK g tk w lo clo)(hhi:xK g tk w hi chi){m:V}{cm:Value}(hm:VR g tk w m cm){len cap:Nat}{l h k:Int}(isSlice:Bool)
  (hl:jQ 0 lo=some l) {y:V} (hy:hi=some y) (hh:jZ y=some h) (hk:jZ m=some k) (h0:0≤l) (h1:l≤h) (h2:h≤k) (h3:k≤cap) :
  (Instr.sliceBounds isSlice len cap clo chi (some cm)).run P w = .ok (l.toNat,h.toNat,k.toNat) w:=by
 unfold Instr.sliceBounds
 subst hy
 cases chi with
 | none=>exact hhi.elim
 | some c =>
  have hbm:=fun code=>kO (P:=P) (y:=cap) hm hk (by omega) h3 code
  have hbh:=fun code=>kO (P:=P) (y:=k.toNat) hhi hh (by omega) (by omega) code
  cases lo with
  | none =>
   cases clo with
   | none=>simp [jQ] at hl; subst hl; simp [hbm,hbh]
   | some c=>exact hlo.elim
  | some x =>
   cases clo with
   | none=>exact hlo.elim
   | some c' =>
    have hbl:=fun code=>kO (P:=P) (y:=h.toNat) hlo hl h0 (by omega) code
    simp [hbm,hbh,hbl]

end Go.Dn
