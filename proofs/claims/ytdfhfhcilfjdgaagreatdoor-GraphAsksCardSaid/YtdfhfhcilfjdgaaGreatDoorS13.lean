import Derived.Test.YtdfhfhcilfjdgaaGreatDoorT2
import Derived.Sort.AssemblyPlain
set_option linter.unusedVariables false
set_option linter.unusedSimpArgs false
open List renaming reduceReplicate → aA,getElem?_eq_some_iff → aB,getElem?_append_left → aC,replicate → aD,cons_append → aE,getElem?_set_ne → aF,append_nil → aG,nil_append → aH,map_cons → aI,take_of_length_le → aK,mem_of_getElem? → aL,map_nil → aM,getElem?_set_self → aO,length_map → aQ,getElem?_eq_none → aR,mem_map → aT,mem_append → aW,length_append → aX,mem_filter → aY,take_append_getElem → aZ,getD_eq_getElem?_getD → bA,take_length → bC,drop_zero → bF,getElem?_map → bG,getElem?_append_right → bH,mem_singleton → bI,getElem?_eq_getElem → bO,eq_nil_of_length_eq_zero → bP,getElem?_of_mem → bQ,length_replicate → bS,drop_of_length_le → bT,mem_cons → bU,append_assoc → bV,mem_append_right → bX
open Go.IntKind renaming i64 → aJ,u64 → bL
open Option renaming some → aN
open Bool renaming false_eq_true → aP,and_eq_true → aS
open Go.Builtin renaming zeroCells → aU,append_ → bD,firstCells → bM
open Go.Result renaming andThen_ok → aV
open Nat renaming le_refl → bB,mul_le_mul_right → bE,add_mul → bJ,lt_or_ge → bR
open Array renaming getElem?_eq_some_iff → bW
namespace Go.Proofs.YtdfhfhcilfjdgaaGreatDoor.T
open Go.Dn
attribute [local simp] dO dF GB aM aI aG dA eW cE dZ cS cK dY dX eM eP eS cM cW cX eN fD gD fQ fB dK fC gE cJ cY cZ dN eB eC gA eR eE eF eD cL cU cV fZ i_p dU fY eA eV dW eU dV eX gC t_p eY eH gB eJ cT eZ eI eG gM aE aH dC dM fP fO fR gR Opd.ev Env.get Env.set Env.pick eK dE cB eO eQ cF dD dG gO eL Res.ev fL cN dI gS fN fW fX gW fT fU fV cx Dn.newObj St.place St.push St.spot St.empty eT dP cO cR dS dQ dT cQ dR cP loadAt cH dL cI bZ ofD splice St.setObj fE

def aKL (x:D)(fv:V)(rows:List (List D))(p:List D→Bool)(J:St→Prop)(m:Nat)(e:Env) (σ:St):Prop:=∃ i:Nat,e=[(0,.d x),(1,fv),(7,I rows.length),(8,I i)]∧i≤rows.length∧m=rows.length-i∧J σ∧∀ r∈rows.take i,p r=false

theorem aDa {σ:St}{x:D}{rows:List (List D)}(hx:LV (.d x) rows)(hfit : ∀ r∈rows,r.length=35)(hl:rows.length≤1000000){g:Nat}{first caps:List V}(p:List D→Bool)(J:St→Prop)(hJ:J σ)
  (hf : ∀ s r,J s→r∈rows→Dn.Call Γ cx .raw g (first++[.da r]++caps) s fun v s'=>v=B (p r)∧J s') :
  Dn.Call Γ cx .raw 119 [.d x,.fn (.func g) first caps] σ fun v s=>∃ n:Int,v=I n∧(decide (0≤n)=rows.any p)∧J s:=by
 refine Dn.Call.body (fc:=c119) rfl ?_
 have hlx : ∀ σ,gZ σ .slice (.d x)=some rows.length:=fun σ=>hx.len σ
 simp [c119,c119_k7,c119_k6,hlx]
 refine fK (aKL x (.fn (.func g) first caps) rows p J) (m:=rows.length) ⟨0,rfl,by omega,rfl,hJ,by simp⟩ ?_
 rintro m e σ ⟨i,rfl,hi,rfl,hJ,hno⟩
 simp [c119_l5,c119_k4]
 by_cases hil:i<rows.length
 ·obtain⟨r,hr⟩ : ∃ r,rows[i]?=some r:=⟨rows[i],by simp [hil]⟩
  have hrm:=aL hr
  have hr35:=hfit r hrm
  have hia:=fun σ=>hx.iaddr σ (k:=.i64) (sz:=35) hr hr35
  have hii:(i:Int)<rows.length:=by omega
  have htk:rows.take (i+1)=rows.take i++[r]:=by
   obtain⟨h,rfl⟩:=aB.1 hr
   exact(aZ h).symm
  simp [hii,hil,c119_k3,c119_k2,c119_k1,hia,hr35,aK]
  have hf1:=hf σ r hJ hrm
  simp at hf1
  refine fF hf1 fun v s ⟨hv,hJ'⟩=>?_
  subst hv
  cases hp:p r with
  | true =>
   simp [c119_k0]
   exact⟨⟨r,hrm,hp⟩,hJ'⟩
  | false =>
   simp [c119_k0,bY (n:=(i:Int)+1) (by omega) (by omega)]
   refine⟨rows.length-(i+1),by omega,i+1,rfl,by omega,rfl,hJ',fun q hq=>?_⟩
   rw [htk] at hq
   rcases aW.1 hq with h | h
   ·exact hno q h
   ·simp at h; subst h; exact hp
 ·obtain rfl:i=rows.length:=by omega
  rw [bC] at hno
  simp
  exact⟨hno,hJ⟩

theorem rY {σ:St}{x:D}{rows:List (List D)}(hx:LV (.d x) rows)(hfit : ∀ r∈rows,r.length=35)(hl:rows.length≤1000000){g:Nat}{first caps:List V}(p:List D→Bool)(J:St→Prop)(hJ:J σ)
  (hf : ∀ s r,J s→r∈rows→Dn.Call Γ cx .raw g (first++[.da r]++caps) s fun v s'=>v=B (p r)∧J s') :
  Dn.Call Γ cx .raw 99 [.d x,.fn (.func g) first caps] σ fun v s=>v=B (rows.any p)∧J s:=by
 refine Dn.Call.body (fc:=c99) rfl ?_
 simp [c99,c99_k0]
 refine fF (aDa hx hfit hl p J hJ hf) fun v s ⟨n,hv,hn,hJ'⟩=>?_
 subst hv
 simp [hn]
 exact hJ'

def nO (s:SpG):Bool:=decide (32<s.key.length)||decide (s.n<0)||decide (8≤s.n)

theorem aFV {σ:St}{s:SpG}(h:s.Ok):Dn.Call Γ cx .raw 100 [.da s.row] σ fun v σ'=>v=B (nO s)∧∃ o,σ'=⟨σ.objs++[o],σ.toks⟩:=by
 refine Dn.Call.body (fc:=c100) rfl ?_
 obtain⟨a32,a33,a34⟩:=aDg h
 have b32:(List.map V.d s.row)[32]?=some (.d (.int .i64 s.n)):=by simp [a32]
 have b33:(List.map V.d s.row)[33]?=some (.d (.str s.key)):=by simp [a33]
 unfold nO
 by_cases h1:32<s.key.length
 ·have h1':(32:Int)<s.key.length:=by omega
  simp [c100,c100_k0,b33,gZ,h1',h1]
 ·have h1' : ¬ (32:Int)<s.key.length:=by omega
  by_cases h2:s.n<0
  ·simp [c100,c100_k0,b33,b32,gZ,h1',h1,h2]
  ·simp [c100,c100_k0,b33,b32,gZ,h1',h1,h2]

def aH9 (r:List D):Bool:=match (r[32]?:Option D),(r[33]?:Option D) with
 | some (D.int _ n),some (D.str k)=>decide (32<k.length)||decide (n<0)||decide (8≤n)
 | _,_=>false
theorem aEu {s:SpG}(h:s.Ok):aH9 s.row=nO s:=by
 obtain⟨a32,a33,-⟩:=aDg h
 simp only [aH9,a32,a33,nO]
theorem oY {l:List SpG}(h : ∀ s∈l,s.Ok) : ∀ r∈fH l,r.length=35:=by
 intro r hr
 simp only [fH,aT] at hr
 obtain⟨s,hs,rfl⟩:=hr
 exact fM (h s hs)
theorem yI {p:List D→Bool}{q:SpG→Bool} : ∀ {l:List SpG},(∀ s∈l,p s.row=q s)→(fH l).any p=l.any q
 | [],_=>rfl
 | s::r,h=>by
  have:=yI (l:=r) fun x hx=>h x (by simp [hx])
  simp only [fH,aI,List.any_cons] at this ⊢
  rw [this,h s (by simp)]

def nM (ins:List SpG)(outs:List CoG):Bool:=decide (1≤ins.length∧ins.length≤8∧1≤outs.length∧outs.length≤8) && !ins.any nO

theorem aHD {i o:D}{f:Bool}{ins:List SpG}{outs:List CoG}(hi:LV (.d i) (fH ins))(ho:LV (.d o) (gH outs))(hoi : ∀ s∈ins,s.Ok):Dn.Call Γ cx .val 84 [.da [i,o,.bool f]] St.empty fun v _=>v=B (nM ins outs):=by
 refine Dn.Call.body (fc:=c84) rfl ?_
 have hil : ∀ σ,gZ σ .slice (.d i)=some ins.length:=fun σ=>by rw [hi.len]; simp [fH]
 have hol : ∀ σ,gZ σ .slice (.d o)=some outs.length:=fun σ=>by rw [ho.len]; simp [gH]
 have hno : ¬ (1≤ins.length∧ins.length≤8∧1≤outs.length∧outs.length≤8)→nM ins outs=false:=fun h=>by simp only [nM,h,decide_false,Bool.false_and]
 simp [c84,c84_k2,hil,hol]
 by_cases h1:(ins.length:Int)<1
 ·rw [hno (by omega)]
  simp [h1,c84_k1]
 have h1':(1:Int)≤ins.length:=by omega
 by_cases h2:(8:Int)<ins.length
 ·rw [hno (by omega)]
  simp [h1,h1',h2,c84_k1]
 by_cases h3:(outs.length:Int)<1
 ·rw [hno (by omega)]
  simp [h1,h1',h2,h3,hol,c84_k1]
 by_cases h4:(8:Int)<outs.length
 ·rw [hno (by omega)]
  simp [h1,h1',h2,h3,h4,hol,c84_k1]
 have hyes:nM ins outs = !ins.any nO:=by
  have:(1≤ins.length∧ins.length≤8∧1≤outs.length∧outs.length≤8):=by omega
  simp only [nM,this,and_self,decide_true,Bool.true_and]
 rw [hyes,← yI (p:=aH9) (q:=nO) fun s hs=>aEu (hoi s hs)]
 simp [h1,h1',h2,h3,h4,hol,c84_k1,c84_k0]
 refine fF (rY hi (oY hoi) (by simp [fH]; omega) (first:=[]) (caps:=[]) aH9 (fun _=>True) trivial fun s r _ hr=>?_) fun v s ⟨hv,_⟩=>?_
 ·simp only [fH,aT] at hr
  obtain⟨sp,hs,rfl⟩:=hr
  rw [aEu (hoi sp hs)]
  exact(aFV (hoi sp hs)).mono fun v s' h=>⟨h.1,trivial⟩
 ·subst hv
  simp

def mH (s:SpG):List D:=hd s.tx++[.int .i64 s.n]
def fS (s:SpG):List UInt8×Int:=(s.tx,s.n)
theorem fromD_iff {a b:SpG}:mH a=mH b↔fS a=fS b:=by
 constructor
 ·intro h
  have h1:=congrArg List.reverse h
  simp only [mH,List.reverse_append,List.reverse_cons,List.reverse_nil,aH,aE,List.cons.injEq,D.int.injEq,true_and,List.reverse_inj] at h1
  have h2:cG a.tx=cG b.tx:=h1.2
  simp only [fS,kY h2,h1.1]
 ·intro h
  simp only [fS,Prod.mk.injEq] at h
  simp only [mH,h.1,h.2]
theorem oJ {s:SpG}(h:s.Ok):(mH s).length=33:=by simp [mH,pM,h.tx]
theorem aAh {s:SpG}:s.row=mH s++[.str s.key,.int .u64 s.sl]:=by simp [SpG.row,mH]
theorem aEa {s:SpG}(h:s.Ok):List.take 33 (List.map V.d s.row)=(mH s).map V.d:=by
 rw [aAh,List.map_append,List.take_append_of_le_length (by simp [oJ h]),aK (by simp [oJ h])]
theorem yF {s:SpG}(h:s.Ok):List.take 33 s.row=mH s:=by
 rw [aAh,List.take_append_of_le_length (by simp [oJ h]),aK (by simp [oJ h])]
theorem mG {s:SpG}(h:s.Ok):fI (aD 32 (.int .u8)++[.int .i64]) (mH s)=true:=by
 have h1:=oI s.tx
 rw [h.tx] at h1
 refine yZ h1 ?_
 have e1:aJ.min = -9223372036854775808:=rfl
 have e2:aJ.max=9223372036854775807:=rfl
 have h2:=h.n0
 have h3:=h.n1
 simp [fI,Lf.fits,e1,e2,h2,h3]
theorem aEC {a b:SpG}(ha:a.Ok)(hb:b.Ok)(x y:Bool):eqV .flat (aD 32 (.int .u8)++[.int .i64]) (.da (mH a)) (.da (mH b)) x y=some (decide (fS a=fS b)):=by
 simp only [eqV,mG ha,mG hb,Bool.and_self,if_true]
 congr 1
 by_cases h:fS a=fS b
 ·have:=fromD_iff.2 h
  simp [h,this]
 ·have h2 : ¬ mH a=mH b:=fun e=>h (fromD_iff.1 e)
  simp [h,h2]

theorem aHF {σ:St}{a b:SpG}(ha:a.Ok)(hb:b.Ok){q:Nat}(hq:σ.objs[q]?=some (.cells (List.map V.d b.row))):Dn.Call Γ cx .raw 101 [.da a.row,.ref q 0] σ fun v σ'=>v=B (decide (fS a=fS b))∧∃ o,σ'=⟨σ.objs++[o],σ.toks⟩:=by
 refine Dn.Call.body (fc:=c101) rfl ?_
 have hq2:(σ.objs++[Dn.Obj.cells (List.map V.d a.row)])[q]?=some (.cells (List.map V.d b.row)):=by
  rw [aC (aB.1 hq).1]; exact hq
 have hla:(List.map V.d a.row).length=35:=by simp [fM ha]
 have hlb:(List.map V.d b.row).length=35:=by simp [fM hb]
 have ta:=aEa ha
 have tb:=aEa hb
 generalize hA:List.map V.d a.row=A at *
 generalize hB:List.map V.d b.row=Bv at *
 simp [-aA,c101,c101_k0,hA,hq2,hla,hlb,ta,tb,bZ,yA,aEC ha hb]

def twN (l:List SpG):Nat→Bool
 | 0=>false
 | i+1=>twN l i||match l[i]? with
  | some s=>(l.take i).any fun o=>decide (fS o=fS s)
  | none=>false
theorem aAy (l:List SpG) : ∀ i j,i≤j→twN l i=true→twN l j=true
 | i,0,h,ht=>by
  obtain rfl:i=0:=by omega
  exact ht
 | i,j+1,h,ht=>by
  by_cases e:i=j+1
  ·rw [← e]; exact ht
  ·simp only [twN,aAy l i j (by omega) ht,Bool.true_or]

open Classical in
noncomputable def pF (s:SpG)(r:List D):Bool:=decide (r.take 33=mH s)
theorem aG2 {o s:SpG}(h:o.Ok):pF s o.row=decide (fS o=fS s):=by
 unfold pF
 rw [yF h]
 by_cases e:fS o=fS s
 ·have:=fromD_iff.2 e
  simp [e,this]
 ·have h2 : ¬ mH o=mH s:=fun x=>e (fromD_iff.1 x)
  simp [e,h2]
def aJO (i o:D)(f:Bool)(ins:List SpG)(m:Nat)(e:Env) (σ:St):Prop:=∃ j:Nat,e=[(1,.ref 0 0),(6,.d i),(7,I ins.length),(8,I j)]∧j≤ins.length∧m=ins.length-j∧σ.objs[0]?=some (.cells [.d i,.d o,.d (.bool f)])∧twN ins j=false

theorem aI0 {i o:D}{f:Bool}{ins:List SpG}(hi:LV (.d i) (fH ins))(hoi : ∀ s∈ins,s.Ok)(hli:ins.length≤1000):Dn.Call Γ cx .val 86 [.da [i,o,.bool f]] St.empty fun v _=>v=B (twN ins ins.length):=by
 refine Dn.Call.body (fc:=c86) rfl ?_
 have hil : ∀ σ,gZ σ .slice (.d i)=some ins.length:=fun σ=>by rw [hi.len]; simp [fH]
 simp [c86,c86_k7,c86_k6,hil]
 refine fK (aJO i o f ins) (m:=ins.length) ⟨0,rfl,by omega,rfl,rfl,rfl⟩ ?_
 rintro m e σ ⟨j,rfl,hj,rfl,g,hno⟩
 simp [c86_l5,c86_k4]
 by_cases hji:j<ins.length
 ·obtain⟨s,hs⟩ : ∃ s,ins[j]?=some s:=⟨ins[j],by simp [hji]⟩
  have hok:=hoi s (aL hs)
  have hia:=fun σ=>hi.iaddr σ (k:=.i64) (sz:=35) (show(fH ins)[j]?=some s.row by simp [fH,hs]) (fM hok)
  have hjj:(j:Int)<ins.length:=by omega
  have s35:List.take 35 (List.map V.d s.row)=List.map V.d s.row:=aK (by simp [fM hok])
  have g2:(σ.objs++[Dn.Obj.cells (List.map V.d s.row)])[0]?=some (.cells [.d i,.d o,.d (.bool f)]):=by rw [aC (aB.1 g).1]; exact g
  have q2:(σ.objs++[Dn.Obj.cells (List.map V.d s.row)])[σ.objs.length]?=some (.cells (List.map V.d s.row)):=by simp
  obtain⟨z,hz,hzl,-⟩:=hi.slice σ (oY hoi) (by rintro r t st s h; cases h) (lo:=0) (hi:=j) (by omega) (by simp [fH]; omega)
  have hzr:((fH ins).drop 0).take (j-0)=fH (ins.take j):=by simp [fH]
  rw [hzr] at hzl
  have hzd : ∀ {rows:List (List D)},LV (.d i) rows→∃ z',z = .d z':=fun h=>by
   cases h with
   | nil=>simp [kL] at hz; exact⟨_,hz.2.symm⟩
   | list rows=>simp [kL] at hz; exact⟨_,hz.2.symm⟩
  obtain⟨z',rfl⟩:=hzd hi
  have hlv' : ∀ s,Dn.lenV s (.d i)=some ins.length:=fun s=>by rw [hi.lenV]; simp [fH]
  have hsx : ∀ s,mD s 35 (.d i) none (some (I j)) none=some (.d z'):=fun s=>by
   simp [mD,hlv',jN,jX,hz,show j≤ins.length by omega]
  have htl : ∀ o∈ins.take j,o.Ok:=fun o ho=>hoi o (List.mem_of_mem_take ho)
  simp [hjj,hji,c86_k3,c86_k2,hia,fM hok,s35]
  generalize hq:σ.objs.length=q at *
  obtain⟨σ2,hσ2⟩ : ∃ σ2:St,(⟨σ.objs++[.cells (List.map V.d s.row)],σ.toks⟩:St)=σ2:=⟨_,rfl⟩
  have e2:σ.objs++[Dn.Obj.cells (List.map V.d s.row)]=σ2.objs:=by rw [← hσ2]
  rw [e2] at g2 q2
  rw [hσ2]
  simp [c86_k1,g2,hsx]
  refine fF (rY hzl (oY htl) (by simp [fH]; omega) (first:=[]) (caps:=[.ref q 0]) (pF s) (fun t=>t.objs[0]?=some (.cells [.d i,.d o,.d (.bool f)])∧t.objs[q]?=some (.cells (List.map V.d s.row))) ⟨g2,q2⟩ fun t r ht hr=>?_) fun v t ⟨hv,ht⟩=>?_
  ·simp only [fH,aT] at hr
   obtain⟨sp,hsp,rfl⟩:=hr
   refine(aHF (htl sp hsp) hok ht.2).mono fun v s' h=>⟨?_,?_⟩
   ·rw [h.1,aG2 (htl sp hsp)]
   ·obtain⟨o',rfl⟩:=h.2
    exact⟨by simp only; rw [aC (aB.1 ht.1).1]; exact ht.1,by simp only; rw [aC (aB.1 ht.2).1]; exact ht.2⟩
  ·subst hv
   have hany:(fH (ins.take j)).any (pF s)=(ins.take j).any fun o=>decide (fS o=fS s):=yI fun o ho=>aG2 (htl o ho)
   have htn:twN ins (j+1)=(ins.take j).any fun o=>decide (fS o=fS s):=by simp only [twN,hno,Bool.false_or,hs]
   rw [hany,← htn]
   cases hb:twN ins (j+1) with
   | true =>
    have:=aAy ins (j+1) ins.length (by omega) hb
    simp [c86_k0,this]
   | false =>
    simp [c86_k0,bY (n:=(j:Int)+1) (by omega) (by omega)]
    exact⟨ins.length-(j+1),by omega,j+1,rfl,by omega,rfl,ht.1,hb⟩
 ·obtain rfl:j=ins.length:=by omega
  simp [hno]

def lU (ins:List SpG)(outs:List CoG):Int:=if nM ins outs=false then 2 else if mE 0 (oZ outs)=none then 9 else if twN ins ins.length then 8 else 0
def mS (n:Int):V:=if n=0 then .d .nili else .d (.iface 77 (.int .i64 n))

theorem aIK {i o:D}{f:Bool}{ins:List SpG}{outs:List CoG}(hi:LV (.d i) (fH ins))(ho:LV (.d o) (gH outs))(hli:ins.length≤1000)(hlo:outs.length≤1000)(hoi : ∀ s∈ins,s.Ok):Dn.Call Γ cx .val 64 [.da [i,o,.bool f]] St.empty fun v _=>v=mS (lU ins outs):=by
 refine Dn.Call.body (fc:=c64) rfl ?_
 simp [c64,c64_k6,bZ,ofD]
 refine gI rfl (aHD hi ho hoi) rfl ?_
 unfold lU
 cases hs:nM ins outs with
 | false=>simp [c64_k5,mS,rT]
 | true =>
  simp [c64_k5,c64_k4,bZ,ofD]
  refine gI rfl (aLr ho hlo) (by cases mE 0 (oZ outs) <;> rfl) ?_
  cases ht:mE 0 (oZ outs) with
  | none=>simp [xV,c64_k3,c64_k2,mS,eqV,V.isNil,Opd.isC]
  | some t =>
   simp [xV,c64_k3,c64_k2,eqV,V.isNil,Opd.isC,c64_k1,bZ,ofD]
   refine gI rfl (aI0 hi hoi hli) rfl ?_
   cases hw:twN ins ins.length with
   | false=>simp [c64_k0,mS]
   | true=>simp [c64_k0,mS,rT]

def aJx (i o:D)(f:Bool)(ins:List SpG)(m:Nat)(e:Env) (σ:St):Prop:=∃ (j:Nat),e=[(1,.ref 0 0),(3,I j)]∧j≤ins.length∧m=ins.length-j∧σ=⟨[.cells [.d i,.d o,.d (.bool f)]],[]⟩∧∀ s∈ins.take j,nO s=false
def aJy (i o:D)(f:Bool)(ins:List SpG)(m:Nat)(e:Env) (σ:St):Prop:=∃ j:Nat,e=[(1,.ref 0 0),(6,I j)]∧j≤ins.length∧m=ins.length-j∧σ=⟨[.cells [.d i,.d o,.d (.bool f)]],[]⟩∧twN ins j=false
def aJz (i o:D)(f:Bool)(ins:List SpG)(j:Nat)(s:SpG)(m:Nat)(e:Env) (σ:St):Prop:=∃ k:Nat,e=[(1,.ref 0 0),(6,I j),(7,I k)]∧k≤j∧m=j-k∧σ=⟨[.cells [.d i,.d o,.d (.bool f)]],[]⟩∧∀ o∈ins.take k,fS o≠fS s

theorem aHy {i o:D}{f:Bool}{ins:List SpG}{outs:List CoG}(hi:LV (.d i) (fH ins))(ho:LV (.d o) (gH outs))(hli:ins.length≤1000)(hlo:outs.length≤1000)(hoi : ∀ s∈ins,s.Ok):Dn.Call Γ cx .val 71 [.da [i,o,.bool f]] St.empty fun v _=>v=I (lU ins outs):=by
 refine Dn.Call.body (fc:=c71) rfl ?_
 have hil : ∀ σ,gZ σ .slice (.d i)=some ins.length:=fun σ=>by rw [hi.len]; simp [fH]
 have hol : ∀ σ,gZ σ .slice (.d o)=some outs.length:=fun σ=>by rw [ho.len]; simp [gH]
 have hno : ¬ (1≤ins.length∧ins.length≤8∧1≤outs.length∧outs.length≤8)→lU ins outs=2:=fun h=>by simp only [lU,nM,h,decide_false,Bool.false_and,if_true]
 simp [c71,c71_k25,hil,hol]
 by_cases h1:(ins.length:Int)<1
 ·rw [hno (by omega)]
  simp [h1,c71_k24]
 have h1':(1:Int)≤ins.length:=by omega
 by_cases h2:(8:Int)<ins.length
 ·rw [hno (by omega)]
  simp [h1,h1',h2,c71_k24]
 by_cases h3:(outs.length:Int)<1
 ·rw [hno (by omega)]
  simp [h1,h1',h2,h3,hol,c71_k24]
 by_cases h4:(8:Int)<outs.length
 ·rw [hno (by omega)]
  simp [h1,h1',h2,h3,h4,hol,c71_k24]
 have hrange:(1≤ins.length∧ins.length≤8∧1≤outs.length∧outs.length≤8):=by omega
 have hsh:nM ins outs = !ins.any nO:=by simp only [nM,hrange,and_self,decide_true,Bool.true_and]
 have hil':gZ ⟨[.cells [.d i,.d o,.d (.bool f)]],[]⟩ .slice (.d i)=some ins.length:=hil _
 simp [h1,h1',h2,h3,h4,hol,c71_k24,c71_k23,c71_k22]
 refine fK (aJx i o f ins) (m:=ins.length) ⟨0,rfl,by omega,rfl,rfl,by simp⟩ ?_
 rintro m e σ ⟨j,rfl,hj,rfl,rfl,hno1⟩
 simp [c71_l21,c71_k20,hil]
 by_cases hji:j<ins.length
 ·obtain⟨s,hs⟩ : ∃ s,ins[j]?=some s:=⟨ins[j],by simp [hji]⟩
  have hsm:=aL hs
  have hok:=hoi s hsm
  have hia:=fun σ=>hi.iaddr σ (k:=.i64) (sz:=35) (show(fH ins)[j]?=some s.row by simp [fH,hs]) (fM hok)
  have hjj:(j:Int)<ins.length:=by omega
  obtain⟨a32,a33,a34⟩:=aDg hok
  have d33 : ∃ r,s.row.drop 33 = .str s.key::r:=⟨[.int .u64 s.sl],by rw [aAh,List.drop_append,bT (by rw [oJ hok]; omega),oJ hok]; rfl⟩
  have d32 : ∃ r,s.row.drop 32 = .int .i64 s.n::r:=⟨[.str s.key,.int .u64 s.sl],by rw [SpG.row,List.drop_append,bT (by simp [pM,hok.tx]),pM,hok.tx]; rfl⟩
  obtain⟨r33,d33⟩:=d33
  obtain⟨r32,d32⟩:=d32
  have htk:ins.take (j+1)=ins.take j++[s]:=by
   obtain⟨h,rfl⟩:=aB.1 hs
   exact(aZ h).symm
  have hbad:nO s=true→lU ins outs=2:=fun hb=>by
   have:ins.any nO=true:=List.any_eq_true.2 ⟨s,hsm,hb⟩
   simp only [lU,hsh,this,Bool.not_true,if_true]
  have rl:=fM hok
  simp [hjj,hji,c71_k19,c71_k18,hia,rl,d33,gZ]
  by_cases b1:(32:Int)<s.key.length
  ·have:=hbad (by simp only [nO,show 32<s.key.length by omega,decide_true,Bool.true_or])
   simp [b1,show ¬ ((s.key.length:Int)≤32) by omega,c71_k17,this]
  have b1':(s.key.length:Int)≤32:=by omega
  by_cases b2:s.n<0
  ·have:=hbad (by simp only [nO,b2,decide_true,Bool.or_true,Bool.true_or])
   simp [b1,b1',hia,rl,d32,b2,c71_k17,this]
  by_cases b3:7<s.n
  ·have:=hbad (by simp only [nO,show 8≤s.n by omega,decide_true,Bool.or_true])
   simp [b1,b1',hia,rl,d32,b2,b3,c71_k17,this]
  have hgood:nO s=false:=by simp only [nO,show ¬ 32<s.key.length by omega,b2,show ¬ 8≤s.n by omega,decide_false,Bool.or_false]
  simp [b1,b1',hia,rl,d32,b2,b3,c71_k17,c71_k16,bY (n:=(j:Int)+1) (by omega) (by omega)]
  refine⟨ins.length-(j+1),by omega,j+1,rfl,by omega,rfl,rfl,fun q hq=>?_⟩
  rw [htk] at hq
  rcases aW.1 hq with h | h
  ·exact hno1 q h
  ·simp at h; subst h; exact hgood
 ·obtain rfl:j=ins.length:=by omega
  rw [bC] at hno1
  have hnb:ins.any nO=false:=by
   rw [List.any_eq_false]
   intro q hq
   simp [hno1 q hq]
  have hck:lU ins outs=if mE 0 (oZ outs)=none then 9 else if twN ins ins.length then 8 else 0:=by
   simp only [lU,hsh,hnb,Bool.not_false,Bool.true_eq_false,if_false]
  rw [hck]
  simp [c71_k15,bZ,ofD]
  refine gI rfl (aKy ho hlo) (by cases mE 0 (oZ outs) <;> rfl) ?_
  cases ht:mE 0 (oZ outs) with
  | none=>simp [aCb,c71_k14,c71_k13]
  | some t =>
   simp [aCb,c71_k14,c71_k13,c71_k12,c71_k11]
   refine fK (aJy i o f ins) (m:=ins.length) ⟨0,rfl,by omega,rfl,rfl,rfl⟩ ?_
   rintro m e σ ⟨j,rfl,hj,rfl,rfl,hno⟩
   simp [c71_l10,c71_k9,hil]
   by_cases hji:j<ins.length
   ·obtain⟨s,hs⟩ : ∃ s,ins[j]?=some s:=⟨ins[j],by simp [hji]⟩
    have hok:=hoi s (aL hs)
    have hia:=fun σ=>hi.iaddr σ (k:=.i64) (sz:=35) (show(fH ins)[j]?=some s.row by simp [fH,hs]) (fM hok)
    have hjj:(j:Int)<ins.length:=by omega
    have htn:twN ins (j+1)=(ins.take j).any fun o=>decide (fS o=fS s):=by simp only [twN,hno,Bool.false_or,hs]
    simp [hjj,hji,c71_k8,c71_k7]
    refine fK (aJz i o f ins j s) (m:=j) ⟨0,rfl,by omega,rfl,rfl,by simp⟩ ?_
    rintro m e σ ⟨k,rfl,hk,rfl,rfl,hne⟩
    simp [c71_l6,c71_k5]
    by_cases hkj:k<j
    ·obtain⟨u,hu⟩ : ∃ u,ins[k]?=some u:=⟨ins[k]'(by omega),by simp⟩
     have huk:=hoi u (aL hu)
     have hib:=fun σ=>hi.iaddr σ (k:=.i64) (sz:=35) (show(fH ins)[k]?=some u.row by simp [fH,hu]) (fM huk)
     have htk:ins.take (k+1)=ins.take k++[u]:=by
      obtain⟨h,rfl⟩:=aB.1 hu
      exact(aZ h).symm
     have eqf:=aEC hok huk
     simp [-aA,hkj,c71_k4,c71_k3]
     refine mR (fun _=>.val) [1,1] (by decide +kernel) ?_
     simp [-aA,dB,hia,hib,fM hok,fM huk,yF hok,yF huk,eqf]
     by_cases hku:fS u=fS s
     ·have htt:twN ins (j+1)=true:=by
       rw [htn,List.any_eq_true]
       refine⟨u,aL (i:=k) (by rw [List.getElem?_take,if_pos hkj]; exact hu),by simp [hku]⟩
      have hall:=aAy ins (j+1) ins.length (by omega) htt
      simp [c71_k2,hku,hall]
     ·have hku' : ¬ fS s=fS u:=fun e=>hku e.symm
      simp [c71_k2,c71_k1,hku',bY (n:=(k:Int)+1) (by omega) (by omega)]
      refine⟨j-(k+1),by omega,k+1,rfl,by omega,rfl,rfl,fun q hq=>?_⟩
      rw [htk] at hq
      rcases aW.1 hq with h | h
      ·exact hne q h
      ·simp at h; subst h; exact hku
    ·obtain rfl:k=j:=by omega
     have htf:twN ins (k+1)=false:=by
      rw [htn,List.any_eq_false]
      intro q hq
      simp [hne q hq]
     simp [c71_k0,bY (n:=(k:Int)+1) (by omega) (by omega)]
     exact⟨ins.length-(k+1),by omega,k+1,rfl,by omega,rfl,rfl,htf⟩
   ·obtain rfl:j=ins.length:=by omega
    simp [hno]

theorem oG {K:iI}{cx:Cx}{n0:Nat}{ks:List Nat}{gd:Option (Nat×Bool)}{dst:Option Nat}{f:Opd}{args:List Opd}{af:List Nat}{al:Nat}{r:List DOp}{e:Env} {σ:St}{Q:Env→St→Prop}:wtx K cx n0 ks (⟨gd,.callv dst f args,af,al⟩::r) e σ Q=(match gM gd e with
 | some true=>(match f.ev e with
  | .fn (.func g) first caps=>xCall K cx ks e g (first++args.map (Opd.ev e)++caps) σ (aEb K cx n0 ks r e dst Q)
  | _=>False)
 | some false=>wtx K cx n0 ks r (eK e dst .gone) σ Q
 | none=>False):=by
 simp only [wtx,Adm,Dry,DOp.isP,aP,false_implies,true_and,Adm0,DOp.isN,AdmX,xGo,Ins.dst] <;> rfl
theorem lH {cx0 cx:Cx} {Γ:Nat→Option FnC}{ks:List Nat}{e:Env}{f:Nat}(hm:cx.mode f = .rd){vs:List V} {σ:St}{r:V}(h:Dn.Call Γ cx0 .rd f vs σ fun v _=>v=r){Q:jD}(hq:Q r σ):xCall (Dn.Call Γ cx0) cx ks e f vs σ Q:=by
 unfold xCall
 rw [hm]
 exact⟨_,h,⟨r,σ,rfl⟩,fun v s hv=>by subst hv; exact hq⟩

abbrev Hs:={ l:List D // l.length=32∧fI (aD 32 (.int .u8)) l=true }
instance:Inhabited Hs:=⟨⟨aD 32 (.int .u8 0),by simp,by decide⟩⟩
structure Cm where
 base:St
 q:Nat
 g:Nat
 first:List V
 caps:List V
 cmp:Hs→Hs→Int
def Cm.fn (W:Cm):V:=.fn (.func W.g) W.first W.caps
def Cm.lt (W:Cm):Hs→Hs→Bool:=fun a b=>decide (W.cmp a b<0)
def Cm.Ok (W:Cm):Prop:=Go.Sort.SWO W.lt∧∀ s,Fr [W.q] W.base s→∀ a b:Hs,Dn.Call Γ cx .rd W.g (W.first++[.da a.1,.da b.1]++W.caps) s fun v _=>v=I (W.cmp a b)
open Go.Sort (swp)
def ar (d:Array Hs):List V:=d.toList.flatMap fun l=>l.1.map .d
theorem aCF (l:List Hs):(l.flatMap fun l=>l.1.map V.d).length=32*l.length:=by
 induction l with
 | nil=>rfl
 | cons a r ih=>rw [List.flatMap_cons,aX,ih,aQ,a.2.1,List.length_cons]; omega
theorem aDy (d:Array Hs):(ar d).length=32*d.size:=by rw [ar,aCF]; simp
theorem aBC : ∀ (l:List Hs) (i:Nat) (x:Hs),l[i]?=some x→((l.flatMap fun l=>l.1.map V.d).drop (32*i)).take 32=x.1.map .d
 | [],i,x,h=>by simp at h
 | a::r,0,x,h=>by
  simp at h; subst h
  rw [List.flatMap_cons,Nat.mul_zero,bF,List.take_left' (by rw [aQ,a.2.1])]
 | a::r,i+1,x,h=>by
  rw [List.flatMap_cons,show 32*(i+1)=(a.1.map V.d).length+32*i by rw [aQ,a.2.1]; omega,List.drop_append,bT (by omega)]
  simp only [Nat.add_sub_cancel_left,aH]
  exact aBC r i x (by simpa using h)
theorem aCG : ∀ (l:List Hs) (i:Nat) (x:Hs),i<l.length→splice (l.flatMap fun l=>l.1.map V.d) (32*i) (x.1.map .d)=(l.set i x).flatMap fun l=>l.1.map V.d
 | [],i,x,h=>by simp at h
 | a::r,0,x,h=>by
  unfold splice
  simp only [List.set_cons_zero,List.flatMap_cons,Nat.mul_zero,List.take_zero,aH,Nat.zero_add]
  rw [show(x.1.map V.d).length=(a.1.map V.d).length by rw [aQ,aQ,a.2.1,x.2.1],List.drop_left]
 | a::r,i+1,x,h=>by
  have ih:=aCG r i x (by simpa using h)
  unfold splice at ih ⊢
  have ha:(a.1.map V.d).length=32:=by rw [aQ,a.2.1]
  simp only [List.set_cons_succ,List.flatMap_cons]
  rw [← ih,show 32*(i+1)=(a.1.map V.d).length+32*i by omega,List.take_length_add_append,Nat.add_assoc,List.drop_length_add_append]
  simp only [bV]
theorem aJW {d:Array Hs}{i:Nat}(h:i<d.size):d.toList[i]?=some d[i]!:=by simp [h]
theorem iO : ∀ l:List D,bZ (l.map .d) = .da l:=fun l=>by simp [bZ,yA]

structure At (W:Cm) (σ:St)(d:Array Hs):Prop where
 obj:σ.objs[W.q]?=some (.cells (ar d))
 b:Fr [W.q] W.base σ
 ok:W.Ok
theorem At.lt {W:Cm} {σ:St}{d:Array Hs}(h:At W σ d):W.q<σ.objs.length:=(aB.1 h.obj).1
theorem At.set {W:Cm} {σ:St}{d:Array Hs}(h:At W σ d)(o:Dn.Obj):(σ.objs.set W.q o)[W.q]?=some o:=by simp [h.lt]
theorem At.cmp {W:Cm} {σ:St}{d:Array Hs}(h:At W σ d)(a b:Hs):Dn.Call Γ cx .rd W.g (W.first ++ .da a.1 :: .da b.1::W.caps) σ fun v _=>v=I (W.cmp a b):=by
 have:=h.ok.2 σ h.b a b
 simpa using this
theorem Cm.cmp_lt (W:Cm)(a b:Hs):(W.cmp a b<0)=(W.lt a b=true):=by simp [Cm.lt]
attribute [local simp] oG Cm.cmp_lt Cm.fn

structure To (W:Cm) (σ:St)(d:Array Hs)(s:St):Prop where
 aa:At W s d
 fr:Fr [W.q] σ s
 tk:s.toks=σ.toks
theorem To.at {W:Cm} {σ s:St}{d:Array Hs}(h:To W σ d s):At W s d:=h.aa
theorem To.refl {W:Cm} {σ:St}{d:Array Hs}(h:At W σ d):To W σ d σ:=⟨h,Fr.refl _ _,rfl⟩
theorem To.trans {W:Cm} {σ s s':St}{d d':Array Hs}(h:To W σ d s)(h':To W s d' s'):To W σ d' s':=⟨h'.at,h.fr.trans h'.fr,h'.tk.trans h.tk⟩
theorem aGL {W:Cm} (σ:St)(o:Dn.Obj):Fr [W.q] σ ⟨σ.objs.set W.q o,σ.toks⟩:=⟨by simp,fun r hr hl=>by simp only; rw [aF (fun e=>hr (by simp [e]))]⟩
theorem To.set {W:Cm} {σ:St}{d d':Array Hs}(h:At W σ d):To W σ d' ⟨σ.objs.set W.q (.cells (ar d')),σ.toks⟩ :=
 ⟨⟨h.set _,h.b.trans (aGL _ _),h.ok⟩,aGL _ _,rfl⟩

theorem aJd {σ:St}{q i:Nat}{d:Array Hs}(h:σ.objs[q]?=some (.cells (ar d)))(hi:i<d.size):loadAt σ true 32 (.ref q (32*i))=some (.da d[i]!.1):=by
 have hl:32*i+32≤(ar d).length:=by rw [aDy]; omega
 simp only [loadAt,h,if_true,hl]
 rw [ar,aBC _ i _ (aJW hi),iO]
theorem aGv (d:Array Hs){i:Nat}(h:i<d.size)(v:Hs):splice (ar d) (32*i) (v.1.map .d)=ar (d.setIfInBounds i v):=by
 unfold ar
 rw [Array.toList_setIfInBounds,aCG _ _ _ (by simpa using h)]
theorem iQ (d:Array Hs)(i j:Nat):(swp d i j).size=d.size:=by simp [swp]

structure Sw (W:Cm) (σ:St)(d:Array Hs)(i j:Nat):Prop where
 o:σ.objs[W.q]?=some (.cells (ar d))
 ai:loadAt σ true 32 (.ref W.q (32*i))=some (.da d[i]!.1)
 aj:loadAt σ true 32 (.ref W.q (32*j))=some (.da d[j]!.1)
 s1:splice (ar d) (32*i) (d[j]!.1.map .d)=ar (d.setIfInBounds i d[j]!)
 s2:splice (ar (d.setIfInBounds i d[j]!)) (32*j) (d[i]!.1.map .d)=ar (swp d i j)
 l1:d[i]!.1.length=32
 l2:d[j]!.1.length=32
 st : ∀ o:Dn.Obj,(σ.objs.set W.q o)[W.q]?=some o
 i1:32*i+32≤(ar d).length
 j1:32*j+32≤(ar (d.setIfInBounds i d[j]!)).length
theorem At.sw {W:Cm} {σ:St}{d:Array Hs}(h:At W σ d){i j:Nat}(hi:i<d.size)(hj:j<d.size):Sw W σ d i j :=
 ⟨h.obj,aJd h.obj hi,aJd h.obj hj,aGv d hi _,by rw [aGv _ (by simpa using hj)]; rfl,d[i]!.2.1,d[j]!.2.1,h.set,by rw [aDy]; omega,by rw [aDy,Array.size_setIfInBounds]; omega⟩

theorem gG (σ:St){q n i:Nat}(h:i<n):jA σ 32 (.sl q 0 n 32) (I i)=some (.ref q (32*i)):=by
 have:(i:Int)<n:=by omega
 simp [jA,jX,this]
 omega

open Go.Sort (insInner insOuter insertionSort)
def aKW (W:Cm)(n a b i:Nat) (σ0:St)(d0:Array Hs)(m:Nat)(e:Env) (σ:St):Prop:=∃ (j:Nat) (d:Array Hs),e=[(0,.sl W.q 0 n 32),(1,I a),(2,I b),(3,W.fn),(8,I i),(9,I j)]∧j=m∧j<n∧d.size=n∧To W σ0 d σ∧insInner W.lt a i d0=insInner W.lt a j d

def aKX (W:Cm)(n a b:Nat) (σ0:St)(d0:Array Hs)(m:Nat)(e:Env) (σ:St):Prop:=∃ (i:Nat) (d:Array Hs),e=[(0,.sl W.q 0 n 32),(1,I a),(2,I b),(3,W.fn),(8,I i)]∧m=b-i∧a<i∧d.size=n∧To W σ0 d σ∧insOuter W.lt a b (a+1) d0=insOuter W.lt a b i d

theorem aLp {W:Cm} {σ:St}{n a b:Nat}{d:Array Hs}(h:At W σ d)(hn:d.size=n)(hab:a≤b)(hb:b≤n)(hN:n≤1000000) :
  Dn.Call Γ cx .raw 127 [.sl W.q 0 n 32,I a,I b,W.fn] σ fun _ s=>To W σ (insertionSort W.lt d a b) s:=by
 refine Dn.Call.body (fc:=c127) rfl ?_
 simp [c127,bY (n:=(a:Int)+1) (by omega) (by omega),c127_k10]
 refine fK (aKX W n a b σ d) (m:=b-(a+1)) ⟨a+1,d,by simp [Env.pick,Env.get],by omega,by omega,hn,To.refl h,rfl⟩ ?_
 rintro m e s ⟨i,d1,rfl,rfl,hai,hn1,hto,heq⟩
 simp [c127_l9,c127_k8]
 have hst:=Go.Sort.insOuter.eq_def W.lt a b i d1
 by_cases hib:i<b
 ·have hib':(i:Int)<b:=by omega
  rw [if_pos hib] at hst
  simp [hib',hib,c127_k7,c127_k6]
  refine fK (aKW W n a b i σ d1) (m:=i) ⟨i,d1,rfl,rfl,by omega,hn1,hto,rfl⟩ ?_
  rintro m e s' ⟨j,d2,rfl,rfl,hj,hn2,hto2,heq2⟩
  simp only [dO,dF,GB,aM,aI,aG,dA,eW,cE,dZ,cS,cK,dY,dX,eM,eP,eS,cM,cW,cX,eN,fD,gD,fQ,fB,dK,fC,gE,cJ,cY,cZ,dN,eB,eC,gA,eR,eE,eF,eD,cL,cU,cV,fZ,i_p,dU,fY,eA,eV,dW,eU,dV,eX,gC,t_p,eY,eH,gB,eJ,cT,eZ,eI,eG,gM,aE,aH,dC,dM,fP,fO,fR,gR,Opd.ev,Env.get,Env.set,Env.pick,eK,dE,cB,eO,eQ,cF,dD,dG,gO,eL,Res.ev,fL,cN,dI,gS,fN,fW,fX,gW,fT,fU,fV,cx,Dn.newObj,St.place,St.push,St.spot,St.empty,eT,dP,cO,cR,dS,dQ,dT,cQ,dR,cP,loadAt,cH,dL,cI,bZ,ofD,splice,St.setObj,fE,c127_l5]
  refine gP (fun _=>.rd) [] (by decide +kernel) ?_
  have hat:=hto2.at
  by_cases haj:a<j
  ·obtain⟨j',rfl⟩ : ∃ j',j=j'+1:=⟨j-1,by omega⟩
   have hsw:=hat.sw (i:=j'+1) (j:=j') (by omega) (by omega)
   have e1:aJ.wrap (((j'+1:Nat):Int)-1)=(j':Nat):=by rw [bY (by omega) (by omega)]; omega
   have ia1:=fun σ=>gG σ (q:=W.q) (n:=n) (i:=j'+1) hj
   have ia2:=fun σ=>gG σ (q:=W.q) (n:=n) (i:=j') (by omega)
   have hin:=Go.Sort.insInner.eq_2 W.lt a d2 j'
   rw [Nat.succ_eq_add_one] at hin
   obtain⟨k,hk⟩ : ∃ k,j'+1=k:=⟨_,rfl⟩
   rw [hk] at haj hsw e1 ia1 heq2 hin ⊢
   have hkl:=hsw.i1
   simp [-loadAt,dB,haj,e1,ia1,ia2,hsw.o,hsw.ai,hsw.aj]
   refine lH rfl (hat.cmp _ _) ?_
   cases hl:W.lt d2[k]! d2[j']! with
   | true =>
    rw [hl] at hin
    simp only [gt_iff_lt,haj,decide_true,Bool.and_self,if_true] at hin
    simp [hl,c127_k4,c127_k3,c127_k2]
    refine gP (fun _=>.rd) [] (by decide +kernel) ?_
    simp [-splice,-loadAt,dB,e1,ia1,ia2,hsw.o,hsw.ai,hsw.aj]
    simp [-splice,-loadAt,hsw.l1,hsw.i1,hsw.s1,hsw.st,hsw.l2,hsw.j1,hsw.s2,c127_k1,e1]
    exact⟨j',by omega,j',_,rfl,rfl,by omega,by rw [iQ,hn2],hto2.trans (To.set hat),heq2.trans hin⟩
   | false =>
    rw [hl] at hin
    simp only [Bool.and_false,aP,if_false] at hin
    simp [hl,c127_k4,c127_k0,bY (n:=(i:Int)+1) (by omega) (by omega)]
    exact⟨b-(i+1),by omega,i+1,d2,rfl,rfl,by omega,hn2,hto2,heq.trans (hst.trans (by rw [heq2,hin]))⟩
  ·have hin:insInner W.lt a j d2=d2:=by
    cases j with
    | zero=>rfl
    | succ j => 
     rw [Go.Sort.insInner.eq_2]
     simp [show ¬ (a<j+1) from haj]
   simp [-loadAt,dB,haj]
   simp [c127_k4,c127_k0,bY (n:=(i:Int)+1) (by omega) (by omega)]
   exact⟨b-(i+1),by omega,i+1,d2,rfl,rfl,by omega,hn2,hto2,heq.trans (hst.trans (by rw [heq2,hin]))⟩
 ·have hib' : ¬ ((i:Int)<b):=by omega
  rw [if_neg hib] at hst
  simp [hib',hib]
  have:insertionSort W.lt d a b=d1:=heq.trans hst
  rw [this]
  exact hto

open Go.Sort (swp)
attribute [local simp] oG Cm.cmp_lt Cm.fn

open Go.Sort (siftDown heapBuild heapPop heapSort)
theorem vY {W : Cm} {σ : St} {n hi first root ch : Nat} {d : Array Hs} {Q : gT} {tl : Env} (htl : tl = [] ∨ tl = [(40, B false)]) (h : At W σ d) (hn : d.size = n) (hN : n ≤ 1000000) (hr : first + root < n) (hc : first + ch < n)
    (h1 : W.lt d[first + root]! d[first + ch]! = true → Q .normal [(0, .sl W.q 0 n 32), (2, I hi), (3, I first), (4, W.fn), (10, I ch)] ⟨σ.objs.set W.q (.cells (ar (swp d (first + root) (first + ch)))), σ.toks⟩)
    (h2 : W.lt d[first + root]! d[first + ch]! = false → ∀ e, Q .ret e σ) :
    gF (Dn.Call Γ cx) cx c139_k2 ((0, .sl W.q 0 n 32) :: (2, I hi) :: (3, I first) :: (4, W.fn) :: (10, I root) :: (11, I ch) :: tl) σ Q := by
  simp only [dO, dF, GB, aM, aI, aG, dA, eW, cE, dZ, cS, cK, dY, dX, eM, eP, eS, cM, cW, cX, eN, fD, gD, fQ, fB, dK, fC, gE, cJ, cY, cZ, dN, eB, eC, gA, eR, eE, eF, eD, cL, cU, cV, fZ, i_p, dU, fY, eA, eV, dW, eU, dV, eX, gC, t_p, eY, eH, gB, eJ, cT, eZ, eI, eG, gM, aE, aH, dC, dM, fP, fO, fR, gR, Opd.ev, Env.get, Env.set, Env.pick, eK, dE, cB, eO, eQ, cF, dD, dG, gO, eL, Res.ev, fL, cN, dI, gS, fN, fW, fX, gW, fT, fU, fV, cx, Dn.newObj, St.place, St.push, St.spot, St.empty, eT, dP, cO, cR, dS, dQ, dT, cQ, dR, cP, loadAt, cH, dL, cI, bZ, ofD, splice, St.setObj, fE, c139_k2]
  refine gP (fun _ => .rd) [] (by decide +kernel) ?_
  have hsw := h.sw (i := first + root) (j := first + ch) (by omega) (by omega)
  have e1 : aJ.wrap ((first : Int) + root) = ((first + root : Nat) : Int) := by rw [bY (by omega) (by omega)]; omega
  have e2 : aJ.wrap ((first : Int) + ch) = ((first + ch : Nat) : Int) := by rw [bY (by omega) (by omega)]; omega
  have ia1 := fun σ => gG σ (q := W.q) (n := n) (i := first + root) hr
  have ia2 := fun σ => gG σ (q := W.q) (n := n) (i := first + ch) hc
  generalize first + root = x at *
  generalize first + ch = y at *
  rcases htl with rfl | rfl
  all_goals
   simp [-loadAt, dB, e1, e2, ia1, ia2, hsw.o, hsw.ai, hsw.aj]
   refine lH rfl (At.cmp (by assumption) _ _) ?_
   cases hl : W.lt d[x]! d[y]! with
   | true =>
     simp [hl, c139_k1, c139_k0]
     refine gP (fun _ => .rd) [] (by decide +kernel) ?_
     simp [-splice, -loadAt, dB, e1, e2, ia1, ia2, hsw.o, hsw.ai, hsw.aj]
     simp [-splice, -loadAt, hsw.l1, hsw.i1, hsw.s1, hsw.st, hsw.l2, hsw.j1, hsw.s2]
     exact h1 hl
   | false =>
     simp [hl, c139_k1]
     exact h2 hl _

def aJb (W:Cm)(n hi first lo:Nat) (σ0:St)(d0:Array Hs)(m:Nat)(e:Env) (σ:St):Prop:=∃ (root:Nat) (d:Array Hs),e=[(0,.sl W.q 0 n 32),(2,I hi),(3,I first),(4,W.fn),(10,I root)]∧m=hi-root∧d.size=n∧root≤n∧To W σ0 d σ∧siftDown W.lt hi first lo d0=siftDown W.lt hi first root d

theorem aHE {W:Cm} {σ:St}{n hi first lo:Nat}{d:Array Hs}(h:At W σ d)(hn:d.size=n)(hlo:lo≤n)(hb:first+hi≤n)(hN:n≤1000000) :
  Dn.Call Γ cx .raw 139 [.sl W.q 0 n 32,I lo,I hi,I first,W.fn] σ fun _ s=>To W σ (siftDown W.lt hi first lo d) s:=by
 refine Dn.Call.body (fc:=c139) rfl ?_
 simp [c139,c139_k9]
 refine fK (aJb W n hi first lo σ d) (m:=hi-lo) ⟨lo,d,rfl,rfl,hn,hlo,To.refl h,rfl⟩ ?_
 rintro m e s ⟨root,d1,rfl,rfl,hn1,hrn,hto,heq⟩
 have hst:=Go.Sort.siftDown.eq_def W.lt hi first root d1
 have e0:aJ.wrap (2*(root:Int))=((2*root:Nat):Int):=by rw [bY (by omega) (by omega)]; omega
 have e1:aJ.wrap (((2*root:Nat):Int)+1)=((2*root+1:Nat):Int):=by rw [bY (by omega) (by omega)]; omega
 obtain⟨r2,hr2⟩ : ∃ r2,2*root=r2:=⟨_,rfl⟩
 rw [hr2] at e0 e1
 obtain⟨ch,hch⟩ : ∃ ch,r2+1=ch:=⟨_,rfl⟩
 rw [hch] at e1
 have e2:aJ.wrap ((ch:Int)+1)=((ch+1:Nat):Int):=by rw [bY (by omega) (by omega)]; omega
 rw [show 2*root+2=ch+1 by omega,show 2*root+1=ch by omega] at hst
 simp [c139_l8,c139_k7,e0,e1,c139_k6]
 by_cases hch2:hi≤ch
 ·rw [dif_pos hch2] at hst
  simp [hch2,c139_k5]
  rw [heq,hst]
  exact hto
 rw [dif_neg hch2] at hst
 simp [hch2,c139_k5,c139_k4]
 refine gP (fun _=>.rd) [] (by decide +kernel) ?_
 have hat:=hto.at
 have fin : ∀ (c:Nat),root<c→c<hi→siftDown W.lt hi first lo d=siftDown W.lt hi first c (swp d1 (first+root) (first+c))→rS (aJb W n hi first lo σ d) (hi-root) [0,2,3,4,10] (pA 0 (tY .raw σ [] fun _ s=>To W σ (siftDown W.lt hi first lo d) s)) .normal [(0,.sl W.q 0 n 32),(2,I hi),(3,I first),(4,W.fn),(10,I c)] ⟨s.objs.set W.q (.cells (ar (swp d1 (first+root) (first+c)))),s.toks⟩:=by
  intro c h1 h2 h3
  simp only [cL]
  exact⟨hi-c,by omega,c,_,rfl,rfl,by rw [iQ,hn1],by omega,hto.trans (To.set hat),h3⟩
 by_cases hc1:ch+1<hi
 ·have hc1':(((ch+1:Nat):Int))<hi:=by omega
  have f1:aJ.wrap ((first:Int)+ch)=((first+ch:Nat):Int):=by rw [bY (by omega) (by omega)]; omega
  have f2:aJ.wrap (((first+ch:Nat):Int)+1)=((first+ch+1:Nat):Int):=by rw [bY (by omega) (by omega)]; omega
  have ia1:=fun σ=>gG σ (q:=W.q) (n:=n) (i:=first+ch) (by omega)
  have ia2:=fun σ=>gG σ (q:=W.q) (n:=n) (i:=first+ch+1) (by omega)
  have hsw:=hat.sw (i:=first+ch) (j:=first+ch+1) (by omega) (by omega)
  obtain⟨x,hx⟩ : ∃ x,first+ch=x:=⟨_,rfl⟩
  rw [hx] at f1 f2 ia1 ia2 hsw hst
  obtain⟨y,hy⟩ : ∃ y,x+1=y:=⟨_,rfl⟩
  rw [hy] at f2 ia2 hsw hst
  obtain⟨c2,hc2⟩ : ∃ c2,ch+1=c2:=⟨_,rfl⟩
  rw [hc2] at e2 hc1 hc1' hst
  simp [-loadAt,dB,e2,hc1,f1,f2,ia1,ia2,hsw.o,hsw.ai,hsw.aj]
  refine lH rfl (At.cmp (by assumption) _ _) ?_
  cases hl:W.lt d1[x]! d1[y]! with
  | true =>
   rw [hl] at hst
   simp only [hc1,decide_true,Bool.and_self,if_true] at hst
   simp [hl,c139_k3,e2]
   refine vY (first:=first) (root:=root) (ch:=c2) (.inl rfl) hat hn1 hN (by omega) (by omega) (fun h1=>?_) (fun h1 e=>?_)
   ·rw [h1] at hst
    simp only [Bool.not_true,aP,if_false,dif_pos] at hst
    simp only [dN]
    exact fin c2 (by omega) hc1 (heq.trans hst)
   ·rw [h1] at hst
    simp only [Bool.not_false,if_true] at hst
    simp
    rw [heq,hst]
    exact hto
  | false =>
   rw [hl] at hst
   simp only [hc1,decide_true,Bool.and_false,aP,if_false] at hst
   simp [hl,c139_k3,e2]
   refine vY (first:=first) (root:=root) (ch:=ch) (.inr rfl) hat hn1 hN (by omega) (by omega) (fun h1=>?_) (fun h1 e=>?_)
   ·rw [hx] at h1
    rw [h1] at hst
    simp only [Bool.not_true,aP,if_false] at hst
    simp only [dN]
    exact fin ch (by omega) (by omega) (heq.trans (by rw [hst,hx]))
   ·rw [hx] at h1
    rw [h1] at hst
    simp only [Bool.not_false,if_true] at hst
    simp
    rw [heq,hst]
    exact hto
 ·have hc1' : ¬ (((ch+1:Nat):Int))<hi:=by omega
  simp only [hc1,decide_false,Bool.false_and,aP,if_false] at hst
  obtain⟨c2,hc2⟩ : ∃ c2,ch+1=c2:=⟨_,rfl⟩
  rw [hc2] at e2 hc1
  simp [-loadAt,dB,e2,hc1,c139_k3]
  refine vY (first:=first) (root:=root) (ch:=ch) (.inr rfl) hat hn1 hN (by omega) (by omega) (fun h1=>?_) (fun h1 e=>?_)
  ·rw [h1] at hst
   simp only [Bool.not_true,aP,if_false] at hst
   simp only [dN]
   exact fin ch (by omega) (by omega) (heq.trans hst)
  ·rw [h1] at hst
   simp only [Bool.not_false,if_true] at hst
   simp
   rw [heq,hst]
   exact hto

theorem tD {W:Cm} : ∀ (k hi first root:Nat) (d:Array Hs),hi-root≤k→(siftDown W.lt hi first root d).size=d.size:=by
 intro k
 induction k with
 | zero =>
  intro hi first root d h
  rw [Go.Sort.siftDown.eq_def,dif_pos (by omega)]
 | succ k ih =>
  intro hi first root d h
  rw [Go.Sort.siftDown.eq_def]
  split
  ·rfl
  ·split
   ·split
    ·rfl
    ·split
     ·rw [ih _ _ _ _ (by omega),iQ]
     ·rfl
   ·split
    ·rfl
    ·rw [ih _ _ _ _ (by omega),iQ]

def aKI (W:Cm)(n a b hi:Nat) (σ0:St)(d0:Array Hs)(K0:Nat)(m:Nat)(e:Env) (σ:St):Prop:=∃ (k:Nat) (d:Array Hs),e=[(0,.sl W.q 0 n 32),(3,W.fn),(8,I a),(9,I 0),(10,I hi),(11,I ((k:Int)-1))]∧k=m∧k≤n+1∧d.size=n∧To W σ0 d σ∧heapBuild W.lt hi a K0 d0=heapBuild W.lt hi a k d
def aKJ (W:Cm)(n a b:Nat) (σ0:St)(d0:Array Hs)(K0:Nat)(m:Nat)(e:Env) (σ:St):Prop:=∃ (k:Nat) (d:Array Hs),e=[(0,.sl W.q 0 n 32),(3,W.fn),(8,I a),(9,I 0),(12,I ((k:Int)-1))]∧k=m∧k+a≤n∧d.size=n∧To W σ0 d σ∧heapPop W.lt a K0 d0=heapPop W.lt a k d

theorem aKq {W:Cm} {σ:St}{n a b:Nat}{d:Array Hs}(h:At W σ d)(hn:d.size=n)(hab:a≤b)(hb:b≤n)(hN:n≤1000000) :
  Dn.Call Γ cx .raw 128 [.sl W.q 0 n 32,I a,I b,W.fn] σ fun _ s=>To W σ (heapSort W.lt d a b) s:=by
 refine Dn.Call.body (fc:=c128) rfl ?_
 obtain⟨hi,hhi⟩ : ∃ hi,b-a=hi:=⟨_,rfl⟩
 have e0:aJ.wrap ((b:Int)-a)=(hi:Int):=by rw [bY (by omega) (by omega)]; omega
 have e1:aJ.wrap ((hi:Int)-1)=(hi:Int)-1:=bY (by omega) (by omega)
 have e2:aJ.wrap (((hi:Int)-1).tdiv 2)=((((hi-1) / 2+1:Nat):Int)-1):=by
  have:((hi:Int)-1).tdiv 2=(((hi-1) / 2:Nat):Int):=by
   rcases Nat.eq_zero_or_pos hi with h0 | h0
   ·subst h0; rfl
   ·rw [Int.tdiv_eq_ediv_of_nonneg (by omega)]; omega
  rw [this,bY (by omega) (by omega)]
  omega
 simp [c128,c128_k15,c128_k14,e0,c128_k13,e1,c128_k12]
 rw [e2]
 refine fK (aKI W n a b hi σ d ((hi-1) / 2+1)) (m:=(hi-1) / 2+1) ⟨_,d,rfl,rfl,by omega,hn,To.refl h,rfl⟩ ?_
 rintro m e s ⟨k,d1,rfl,rfl,hk,hn1,hto,heq⟩
 simp only [dO,dF,GB,aM,aI,aG,dA,eW,cE,dZ,cS,cK,dY,dX,eM,eP,eS,cM,cW,cX,eN,fD,gD,fQ,fB,dK,fC,gE,cJ,cY,cZ,dN,eB,eC,gA,eR,eE,eF,eD,cL,cU,cV,fZ,i_p,dU,fY,eA,eV,dW,eU,dV,eX,gC,t_p,eY,eH,gB,eJ,cT,eZ,eI,eG,gM,aE,aH,dC,dM,fP,fO,fR,gR,Opd.ev,Env.get,Env.set,Env.pick,eK,dE,cB,eO,eQ,cF,dD,dG,gO,eL,Res.ev,fL,cN,dI,gS,fN,fW,fX,gW,fT,fU,fV,cx,Dn.newObj,St.place,St.push,St.spot,St.empty,eT,dP,cO,cR,dS,dQ,dT,cQ,dR,cP,loadAt,cH,dL,cI,bZ,ofD,splice,St.setObj,fE,c128_l11]
 cases k with
 | zero =>
  have hd:heapBuild W.lt hi a ((hi-1) / 2+1) d=d1:=heq
  have hl0 : ¬ ((0:Int)≤((0:Nat):Int)-1):=by decide
  simp [c128_k10,c128_k7,e1,c128_k6]
  refine fK (aKJ W n a b s d1 hi) (m:=hi) ⟨hi,d1,rfl,rfl,by omega,hn1,To.refl hto.at,rfl⟩ ?_
  rintro m e s' ⟨k,d2,rfl,rfl,hk,hn2,hto2,heq2⟩
  simp only [dO,dF,GB,aM,aI,aG,dA,eW,cE,dZ,cS,cK,dY,dX,eM,eP,eS,cM,cW,cX,eN,fD,gD,fQ,fB,dK,fC,gE,cJ,cY,cZ,dN,eB,eC,gA,eR,eE,eF,eD,cL,cU,cV,fZ,i_p,dU,fY,eA,eV,dW,eU,dV,eX,gC,t_p,eY,eH,gB,eJ,cT,eZ,eI,eG,gM,aE,aH,dC,dM,fP,fO,fR,gR,Opd.ev,Env.get,Env.set,Env.pick,eK,dE,cB,eO,eQ,cF,dD,dG,gO,eL,Res.ev,fL,cN,dI,gS,fN,fW,fX,gW,fT,fU,fV,cx,Dn.newObj,St.place,St.push,St.spot,St.empty,eT,dP,cO,cR,dS,dQ,dT,cQ,dR,cP,loadAt,cH,dL,cI,bZ,ofD,splice,St.setObj,fE,c128_l5]
  cases k with
  | zero =>
   have hres:heapSort W.lt d a b=d2:=by
    unfold heapSort
    rw [hhi,hd,heq2]
    rfl
   simp [c128_k4]
   rw [hres]
   exact hto.trans hto2
  | succ k =>
   have hat:=hto2.at
   have hsw:=hat.sw (i:=a) (j:=a+k) (by omega) (by omega)
   have f1:aJ.wrap ((a:Int)+k)=((a+k:Nat):Int):=by rw [bY (by omega) (by omega)]; omega
   have ia1:=fun σ=>gG σ (q:=W.q) (n:=n) (i:=a) (by omega)
   have ia2:=fun σ=>gG σ (q:=W.q) (n:=n) (i:=a+k) (by omega)
   have hst:heapPop W.lt a (k+1) d2=heapPop W.lt a k (siftDown W.lt k a 0 (swp d2 a (a+k))):=rfl
   have g1:(((k+1:Nat):Int)-1)=(k:Int):=by omega
   have hk0:(0:Int)≤k:=by omega
   have g2:aJ.wrap ((k:Int)-1)=(k:Int)-1:=bY (by omega) (by omega)
   rw [g1]
   obtain⟨x,hx⟩ : ∃ x,a+k=x:=⟨_,rfl⟩
   rw [hx] at hsw f1 ia2 hst
   simp [hk0,c128_k4,c128_k3,c128_k2]
   refine gP (fun _=>.rd) [] (by decide +kernel) ?_
   simp [-splice,-loadAt,dB,f1,ia1,ia2,hsw.o,hsw.ai,hsw.aj]
   simp [-splice,-loadAt,hsw.l1,hsw.i1,hsw.s1,hsw.st,hsw.l2,hsw.j1,hsw.s2,c128_k1]
   have hto3:To W s' (swp d2 a x) ⟨s'.objs.set W.q (.cells (ar (swp d2 a x))),s'.toks⟩:=To.set hat
   refine fF (aHE (lo:=0) (hi:=k) (first:=a) hto3.at (by rw [iQ,hn2]) (by omega) (by omega) hN) fun v s4 h4=>?_
   simp [c128_k0,g2]
   exact⟨k,by omega,k,_,rfl,rfl,by omega,by rw [tD k _ _ _ _ (by omega),iQ,hn2],(hto2.trans hto3).trans h4,heq2.trans hst⟩
 | succ k =>
  have hat:=hto.at
  have hst:heapBuild W.lt hi a (k+1) d1=heapBuild W.lt hi a k (siftDown W.lt hi a k d1):=rfl
  have g1:(((k+1:Nat):Int)-1)=(k:Int):=by omega
  have hk0:(0:Int)≤k:=by omega
  have g2:aJ.wrap ((k:Int)-1)=(k:Int)-1:=bY (by omega) (by omega)
  rw [g1]
  simp [hk0,c128_k10,c128_k9]
  refine fF (aHE (lo:=k) (hi:=hi) (first:=a) hat hn1 (by omega) (by omega) hN) fun v s4 h4=>?_
  simp [c128_k8,g2]
  exact⟨k,by omega,k,_,rfl,rfl,by omega,by rw [tD hi _ _ _ _ (by omega),hn1],hto.trans h4,heq.trans hst⟩

open Go.Sort (swp)
attribute [local simp] oG Cm.cmp_lt Cm.fn

open Go.Sort (reverseLoop reverseRange order2 median medianAdjacent choosePivot Hint)
def aKV (W:Cm)(n a b:Nat) (σ0:St)(d0:Array Hs)(m:Nat)(e:Env) (σ:St):Prop:=∃ (i j:Nat) (d:Array Hs),e=[(0,.sl W.q 0 n 32),(8,I i),(9,I j)]∧m=j-i∧j<n∧d.size=n∧To W σ0 d σ∧reverseLoop a (b-1) d0=reverseLoop i j d

theorem aFU {W:Cm} {σ:St}{n a b:Nat}{d:Array Hs}(h:At W σ d)(hn:d.size=n)(hab:a<b)(hb:b≤n)(hN:n≤1000000) :
  Dn.Call Γ cx .raw 131 [.sl W.q 0 n 32,I a,I b,W.fn] σ fun _ s=>To W σ (reverseRange d a b) s:=by
 refine Dn.Call.body (fc:=c131) rfl ?_
 have e0:aJ.wrap ((b:Int)-1)=((b-1:Nat):Int):=by rw [bY (by omega) (by omega)]; omega
 simp -implicitDefEqProofs [c131,c131_k7,e0,c131_k6]
 refine fK (aKV W n a b σ d) (m:=b-1-a) ⟨a,b-1,d,rfl,rfl,by omega,hn,To.refl h,rfl⟩ ?_
 rintro m e s ⟨i,j,d1,rfl,rfl,hj,hn1,hto,heq⟩
 have hst:=Go.Sort.reverseLoop.eq_def i j d1
 simp -implicitDefEqProofs [c131_l5]
 by_cases hij:i<j
 ·rw [if_pos hij] at hst
  simp -implicitDefEqProofs [hij,c131_k4,c131_k3,c131_k2]
  refine gP (fun _=>.rd) [] (by decide +kernel) ?_
  have hat:=hto.at
  have hsw:=hat.sw (i:=i) (j:=j) (by omega) (by omega)
  have ia1:=fun σ=>gG σ (q:=W.q) (n:=n) (i:=i) (by omega)
  have ia2:=fun σ=>gG σ (q:=W.q) (n:=n) (i:=j) (by omega)
  have e1:aJ.wrap ((j:Int)-1)=((j-1:Nat):Int):=by rw [bY (by omega) (by omega)]; omega
  simp -implicitDefEqProofs [-splice,-loadAt,dB,ia1,ia2,hsw.o,hsw.ai,hsw.aj]
  simp -implicitDefEqProofs [-splice,-loadAt,hsw.l1,hsw.i1,hsw.s1,hsw.st,hsw.l2,hsw.j1,hsw.s2,c131_k1,c131_k0,e1,bY (n:=(i:Int)+1) (by omega) (by omega)]
  exact⟨j-1-(i+1),by omega,i+1,j-1,_,rfl,rfl,by omega,by rw [iQ,hn1],hto.trans (To.set hat),heq.trans hst⟩
 ·rw [if_neg hij] at hst
  simp -implicitDefEqProofs [hij,c131_k4]
  have:reverseRange d a b=d1:=heq.trans hst
  rw [this]
  exact hto

structure Ct (σ:St)(p:Nat)(k:Int)(s:St):Prop where
 obj:s.objs[p]?=some (.cells [I k])
 fr:Fr [p] σ s
 tk:s.toks=σ.toks
theorem Ct.trans {σ s s':St}{p:Nat}{k k':Int}(h:Ct σ p k s)(h':Ct s p k' s'):Ct σ p k' s':=⟨h'.obj,h.fr.trans h'.fr,h'.tk.trans h.tk⟩
theorem At.ct {W:Cm} {σ s:St}{p:Nat}{d:Array Hs}{k:Int}(h:At W σ d)(hc:Ct σ p k s)(hne:W.q≠p∧W.base.objs.length≤p):At W s d :=
 ⟨hc.fr.get h.obj (by simp [hne.1]),⟨Nat.le_trans h.b.len hc.fr.len,fun r hr hl=>(hc.fr.at_ r (by simp; have:=hne.2; omega) (Nat.lt_of_lt_of_le hl h.b.len)).trans (h.b.at_ r hr hl)⟩,h.ok⟩

theorem aAm {W:Cm} {σ:St}{n a b p k:Nat}{d:Array Hs}(h:At W σ d)(hn:d.size=n)(ha:a<n)(hb:b<n)(hN:n≤1000000)(hk:k≤1000)(hp:σ.objs[p]?=some (.cells [I k])) :
  Dn.Call Γ cx .raw 144 [.sl W.q 0 n 32,I a,I b,.ref p 0,W.fn] σ fun v s=>v = .tup [I (order2 W.lt d a b k).1,I (order2 W.lt d a b k).2.1]∧Ct σ p (order2 W.lt d a b k).2.2 s:=by
 refine Dn.Call.body (fc:=c144) rfl ?_
 simp -implicitDefEqProofs [c144,c144_k4]
 refine gP (fun _=>.rd) [] (by decide +kernel) ?_
 have hsw:=h.sw (i:=a) (j:=b) (by omega) (by omega)
 have ia1:=fun σ=>gG σ (q:=W.q) (n:=n) (i:=a) (by omega)
 have ia2:=fun σ=>gG σ (q:=W.q) (n:=n) (i:=b) (by omega)
 simp -implicitDefEqProofs [-loadAt,dB,ia1,ia2,hsw.o,hsw.ai,hsw.aj]
 refine lH rfl (At.cmp (by assumption) _ _) ?_
 cases hl:W.lt d[b]! d[a]! with
 | true =>
  have hpl:p<σ.objs.length:=(aB.1 hp).1
  simp -implicitDefEqProofs [hl,c144_k3,c144_k2,gQ,hp,bY (n:=(k:Int)+1) (by omega) (by omega),c144_k1,order2,hl]
  exact⟨by simp [hpl],⟨by simp,fun r hr hlr=>by simp only; rw [aF (fun e=>hr (by simp [e]))]⟩,rfl⟩
 | false =>
  simp -implicitDefEqProofs [hl,c144_k3,c144_k0,order2,hl]
  exact⟨hp,Fr.refl _ _,rfl⟩

theorem qB {W:Cm}{d:Array Hs}{a b k n:Nat}(ha:a<n)(hb:b<n):(order2 W.lt d a b k).1<n∧(order2 W.lt d a b k).2.1<n∧(order2 W.lt d a b k).2.2≤k+1:=by
 unfold order2
 split <;> simp [ha,hb]

theorem aAl {W:Cm} {σ:St}{n a b c p k:Nat}{d:Array Hs}(h:At W σ d)(hn:d.size=n)(ha:a<n)(hb:b<n)(hc:c<n)(hN:n≤1000000)(hk:k≤900)(hp:σ.objs[p]?=some (.cells [I k]))(hqp:W.q≠p∧W.base.objs.length≤p) :
  Dn.Call Γ cx .raw 143 [.sl W.q 0 n 32,I a,I b,I c,.ref p 0,W.fn] σ fun v s=>v=I (median W.lt d a b c k).1∧Ct σ p (median W.lt d a b c k).2 s:=by
 refine Dn.Call.body (fc:=c143) rfl ?_
 simp -implicitDefEqProofs [c143,c143_k3]
 refine fF (aAm h hn ha hb hN (by omega) hp) fun v1 s1 ⟨hv1,hc1⟩=>?_
 obtain⟨l1,l2,l3⟩:=qB (d:=d) (k:=k) ha hb
 subst hv1
 simp only [median]
 generalize order2 W.lt d a b k=r1 at *
 simp -implicitDefEqProofs [c143_k2]
 refine fF (aAm (h.ct hc1 hqp) hn l2 hc hN (by omega) hc1.obj) fun v2 s2 ⟨hv2,hc2⟩=>?_
 obtain⟨m1,m2,m3⟩:=qB (d:=d) (k:=r1.2.2) l2 hc
 subst hv2
 generalize order2 W.lt d r1.2.1 c r1.2.2=r2 at *
 simp -implicitDefEqProofs [c143_k1]
 refine fF (aAm ((h.ct hc1 hqp).ct hc2 hqp) hn l1 m1 hN (by omega) hc2.obj) fun v3 s3 ⟨hv3,hc3⟩=>?_
 subst hv3
 simp -implicitDefEqProofs [c143_k0]
 exact(hc1.trans hc2).trans hc3

theorem aFw {W:Cm}{d:Array Hs}{a b c k n:Nat}(ha:a<n)(hb:b<n)(hc:c<n):(median W.lt d a b c k).1<n∧(median W.lt d a b c k).2≤k+3:=by
 simp only [median]
 obtain⟨l1,l2,l3⟩:=qB (d:=d) (k:=k) ha hb
 generalize order2 W.lt d a b k=r1 at *
 obtain⟨m1,m2,m3⟩:=qB (d:=d) (k:=r1.2.2) l2 hc
 generalize order2 W.lt d r1.2.1 c r1.2.2=r2 at *
 obtain⟨k1,k2,k3⟩:=qB (d:=d) (k:=r2.2.2) l1 m1
 exact⟨k2,by omega⟩

theorem sA {W:Cm} {σ:St}{n a p k:Nat}{d:Array Hs}(h:At W σ d)(hn:d.size=n)(h1:1≤a)(ha:a+1<n)(hN:n≤1000000)(hk:k≤900)(hp:σ.objs[p]?=some (.cells [I k]))(hqp:W.q≠p∧W.base.objs.length≤p) :
  Dn.Call Γ cx .raw 142 [.sl W.q 0 n 32,I a,.ref p 0,W.fn] σ fun v s=>v=I (medianAdjacent W.lt d a k).1∧Ct σ p (medianAdjacent W.lt d a k).2 s:=by
 refine Dn.Call.body (fc:=c142) rfl ?_
 have e1:aJ.wrap ((a:Int)-1)=((a-1:Nat):Int):=by rw [bY (by omega) (by omega)]; omega
 have e2:aJ.wrap ((a:Int)+1)=((a+1:Nat):Int):=by rw [bY (by omega) (by omega)]; omega
 simp -implicitDefEqProofs [c142,c142_k0,e1,e2]
 refine fF (aAl h hn (by omega) (by omega) ha hN hk hp hqp) fun v s ⟨hv,hc⟩=>?_
 subst hv
 simp -implicitDefEqProofs
 exact⟨rfl,hc⟩

def aCI:Hint→Int
 | .unknown=>0
 | .increasing=>1
 | .decreasing=>2

structure Nw (σ:St)(s:St):Prop where
 fr:Fr [] σ s
 tk:s.toks=σ.toks

theorem aBQ {p:Nat}{j k:Nat} {σ0 s:St}{e:Env}(h9:e.get 11 = .ref p 0)(h11:e.get 13=I j)(hp:s.objs[p]?=some (.cells [I k])){Q:jD}(hq:Q (.tup [I j,I (aCI (if k=0 then .increasing else if k=12 then .decreasing else .unknown))]) s) :
  gF (Dn.Call Γ cx) cx c130_k5 e s (tY .raw σ0 [.tmp 8,.tmp 9] Q):=by
 by_cases h0:k=0
 ·subst h0
  simp -implicitDefEqProofs [c130_k5,hp,h9,h11,Env.get_set,c130_k4,c130_k3,c130_k2]
  exact hq
 ·have h0' : ¬ ((k:Int)=0):=by omega
  by_cases h12:k=12
  ·subst h12
   simp -implicitDefEqProofs [c130_k5,hp,h9,h11,Env.get_set,c130_k4,c130_k3,c130_k2,c130_k1,c130_k0]
   exact hq
  ·have h12' : ¬ ((k:Int)=12):=by omega
   simp only [h0,h12,if_false] at hq
   simp -implicitDefEqProofs [c130_k5,hp,h9,h11,Env.get_set,h0',h12',h0,h12,c130_k4,c130_k3,c130_k2,c130_k1,c130_k0]
   exact hq

theorem aHu {W:Cm} {σ:St}{n a b:Nat}{d:Array Hs}(h:At W σ d)(hn:d.size=n)(hab:a<b)(hb:b≤n)(hN:n≤1000000) :
  Dn.Call Γ cx .raw 130 [.sl W.q 0 n 32,I a,I b,W.fn] σ fun v s=>v = .tup [I (choosePivot W.lt d a b).1,I (aCI (choosePivot W.lt d a b).2)]∧Nw σ s:=by
 refine Dn.Call.body (fc:=c130) rfl ?_
 obtain⟨l,hl⟩ : ∃ l,b-a=l:=⟨_,rfl⟩
 have e0:aJ.wrap ((b:Int)-a)=(l:Int):=by rw [bY (by omega) (by omega)]; omega
 have e1:aJ.wrap ((l:Int) / 4)=((l / 4:Nat):Int):=by
  rw [bY (by omega) (by omega)]; omega
 have e2:aJ.wrap ((l / 4:Nat):Int)=((l / 4:Nat):Int):=bY (by omega) (by omega)
 have e3:aJ.wrap (((l / 4:Nat):Int)*2)=((l / 4*2:Nat):Int):=by rw [bY (by omega) (by omega)]; omega
 have e4:aJ.wrap (((l / 4:Nat):Int)*3)=((l / 4*3:Nat):Int):=by rw [bY (by omega) (by omega)]; omega
 have e5:aJ.wrap ((a:Int)+(l / 4:Nat))=((a+l / 4:Nat):Int):=by rw [bY (by omega) (by omega)]; omega
 have e6:aJ.wrap ((a:Int)+(l / 4*2:Nat))=((a+l / 4*2:Nat):Int):=by rw [bY (by omega) (by omega)]; omega
 have e7:aJ.wrap ((a:Int)+(l / 4*3:Nat))=((a+l / 4*3:Nat):Int):=by rw [bY (by omega) (by omega)]; omega
 have hcp:choosePivot W.lt d a b=(let i:=a+l / 4; let j:=a+l / 4*2; let k:=a+l / 4*3
  let r:Nat×Nat:=if l≥8 then(if l≥50 then
    let ri:=medianAdjacent W.lt d i 0
    let rj:=medianAdjacent W.lt d j ri.2
    let rk:=medianAdjacent W.lt d k rj.2
    median W.lt d ri.1 rj.1 rk.1 rk.2 else median W.lt d i j k 0) else(j,0)
  (r.1,if r.2=0 then .increasing else if r.2=12 then .decreasing else .unknown)):=by
  simp only [choosePivot,hl,Nat.mul_one]
 rw [hcp]
 clear hcp
 have b4:a+l / 4*3+1≤n:=by omega
 have b3:l / 4*2≤l / 4*3:=by omega
 have b2:l / 4≤l / 4*2:=by omega
 have b1:8≤l→2≤l / 4:=by omega
 have b5:8≤l→a+l / 4*3+1<n:=by omega
 generalize l / 4=x4 at *
 generalize x4*2=x2 at *
 generalize x4*3=x3 at *
 obtain⟨i,hi⟩ : ∃ i,a+x4=i:=⟨_,rfl⟩
 obtain⟨j,hj⟩ : ∃ j,a+x2=j:=⟨_,rfl⟩
 obtain⟨k,hk⟩ : ∃ k,a+x3=k:=⟨_,rfl⟩
 rw [hi] at e5 ⊢
 rw [hj] at e6 ⊢
 rw [hk] at e7 ⊢
 simp -implicitDefEqProofs [c130,c130_k18,e0,c130_k17,c130_k16,e1,e2,e5,c130_k15,e3,e6,c130_k14,e4,e7,c130_k13]
 have hq:W.q≠σ.objs.length∧W.base.objs.length≤σ.objs.length:=⟨by have:=h.lt; omega,h.b.len⟩
 obtain⟨σ1,hσ1⟩ : ∃ s:St,(⟨σ.objs++[.cells [I 0]],σ.toks⟩:St)=s:=⟨_,rfl⟩
 have h1:At W σ1 d:=⟨by rw [← hσ1]; simp only; rw [aC h.lt]; exact h.obj,h.b.trans (by rw [← hσ1]; exact⟨by simp,fun r _ hr=>by simp [aC hr]⟩),h.ok⟩
 have hp1:σ1.objs[σ.objs.length]?=some (.cells [I ((0:Nat):Int)]):=by rw [← hσ1]; simp
 have hn1:Nw σ σ1:=by
  rw [← hσ1]
  exact⟨⟨by simp,fun r _ hr=>by simp [aC hr]⟩,rfl⟩
 rw [hσ1]
 have nw : ∀ {s:St} {k:Int},Ct σ1 σ.objs.length k s→Nw σ s:=fun hc=>⟨⟨Nat.le_trans hn1.fr.len hc.fr.len,fun r _ hr=>by
  rw [hc.fr.at_ r (by simp; omega) (Nat.lt_of_lt_of_le hr hn1.fr.len)]
  exact hn1.fr.at_ r (by simp) hr⟩,hc.tk.trans hn1.tk⟩
 generalize σ.objs.length=p at *
 by_cases h8:8≤l
 ·have b5':=b5 h8
  have b1':=b1 h8
  have h8':(8:Int)≤l:=by omega
  by_cases h50:50≤l
  ·have h50':(50:Int)≤l:=by omega
   simp only [h8,h50,if_true]
   simp -implicitDefEqProofs [h8',h50',c130_k12,c130_k11,c130_k10,c130_k9]
   have ma_lt : ∀ {x c:Nat},1≤x→x+1<n→(medianAdjacent W.lt d x c).1<n∧(medianAdjacent W.lt d x c).2≤c+3:=fun h1 h2=>aFw (by omega) (by omega) h2
   refine fF (sA h1 hn (by omega) (by omega) hN (by omega) hp1 hq) fun v2 s2 ⟨hv2,hc2⟩=>?_
   obtain⟨l1,l2⟩:=ma_lt (x:=i) (c:=0) (by omega) (by omega)
   generalize medianAdjacent W.lt d i 0=r1 at *
   subst hv2
   have a2:=h1.ct hc2 hq
   simp -implicitDefEqProofs [c130_k8]
   refine fF (sA a2 hn (by omega) (by omega) hN (by omega) hc2.obj hq) fun v3 s3 ⟨hv3,hc3⟩=>?_
   obtain⟨l3,l4⟩:=ma_lt (x:=j) (c:=r1.2) (by omega) (by omega)
   generalize medianAdjacent W.lt d j r1.2=r2 at *
   subst hv3
   have a3:=a2.ct hc3 hq
   simp -implicitDefEqProofs [c130_k7]
   refine fF (sA a3 hn (by omega) (by omega) hN (by omega) hc3.obj hq) fun v4 s4 ⟨hv4,hc4⟩=>?_
   obtain⟨l5,l6⟩:=ma_lt (x:=k) (c:=r2.2) (by omega) (by omega)
   generalize medianAdjacent W.lt d k r2.2=r3 at *
   subst hv4
   have a4:=a3.ct hc4 hq
   simp -implicitDefEqProofs [c130_k6]
   refine fF (aAl a4 hn (by omega) (by omega) (by omega) hN (by omega) hc4.obj hq) fun v5 s5 ⟨hv5,hc5⟩=>?_
   generalize median W.lt d r1.1 r2.1 r3.1 r3.2=r4 at *
   subst hv5
   simp -implicitDefEqProofs
   exact aBQ (k:=r4.2) rfl rfl hc5.obj ⟨by simp,nw (((hc2.trans hc3).trans hc4).trans hc5)⟩
  ·have h50' : ¬ (50:Int)≤l:=by omega
   simp only [h8,h50,if_true,if_false]
   simp -implicitDefEqProofs [h8',h50',c130_k12,c130_k11,c130_k10,c130_k6]
   refine fF (aAl h1 hn (by omega) (by omega) (by omega) hN (by omega) hp1 hq) fun v5 s5 ⟨hv5,hc5⟩=>?_
   generalize median W.lt d i j k 0=r4 at *
   subst hv5
   simp -implicitDefEqProofs
   exact aBQ (k:=r4.2) rfl rfl hc5.obj ⟨by simp,nw hc5⟩
 ·have h8' : ¬ (8:Int)≤l:=by omega
  simp only [h8,if_false]
  simp -implicitDefEqProofs [h8',c130_k12]
  exact aBQ (k:=0) rfl rfl hp1 ⟨by simp,hn1⟩

attribute [local simp] oG Cm.cmp_lt Cm.fn
open Go.Sort (swp scanUp scanDown)

theorem aLj {W:Cm} {σ:St}{n a i j:Nat}{d:Array Hs}{Q:gT}{e:Env}(h:At W σ d)(hn:d.size=n)(ha:a<n)(hj:j<n)(hi:i≤n+1)(hN:n≤1000000)(he:e.pick [0,1,4,12,13]=[(0,.sl W.q 0 n 32),(1,I a),(4,W.fn),(12,I i),(13,I j)])
  (hQ:scanUp (fun x=>W.lt x d[a]!) d j i≤n+1→Q .normal [(0,.sl W.q 0 n 32),(1,I a),(4,W.fn),(12,I (scanUp (fun x=>W.lt x d[a]!) d j i:Nat)),(13,I j),(47,B false)] σ) :
  gF (Dn.Call Γ cx) cx (.block 0 (.loop [0,1,4,12,13] c134_l30)) e σ Q:=by
 simp only [dK]
 refine fK (fun m e s=>∃ i',e=[(0,.sl W.q 0 n 32),(1,I a),(4,W.fn),(12,I (i':Nat)),(13,I j)]∧m=j+1-i'∧i'≤n+1∧s=σ∧scanUp (fun x=>W.lt x d[a]!) d j i=scanUp (fun x=>W.lt x d[a]!) d j i') (m:=j+1-i) ⟨i,he,rfl,hi,rfl,rfl⟩ ?_
 rintro m e s ⟨i',rfl,rfl,hi',rfl,heq⟩
 have hst:=Go.Sort.scanUp.eq_def (fun x=>W.lt x d[a]!) d j i'
 simp only [dO,dF,GB,aM,aI,aG,dA,eW,cE,dZ,cS,cK,dY,dX,eM,eP,eS,cM,cW,cX,eN,fD,gD,fQ,fB,dK,fC,gE,cJ,cY,cZ,dN,eB,eC,gA,eR,eE,eF,eD,cL,cU,cV,fZ,i_p,dU,fY,eA,eV,dW,eU,dV,eX,gC,t_p,eY,eH,gB,eJ,cT,eZ,eI,eG,gM,aE,aH,dC,dM,fP,fO,fR,gR,Opd.ev,Env.get,Env.set,Env.pick,eK,dE,cB,eO,eQ,cF,dD,dG,gO,eL,Res.ev,fL,cN,dI,gS,fN,fW,fX,gW,fT,fU,fV,cx,Dn.newObj,St.place,St.push,St.spot,St.empty,eT,dP,cO,cR,dS,dQ,dT,cQ,dR,cP,loadAt,cH,dL,cI,bZ,ofD,splice,St.setObj,fE,c134_l30]
 refine gP (fun _=>.rd) [] (by decide +kernel) ?_
 by_cases hij:i'≤j
 ·have hsw:=h.sw (i:=i') (j:=a) (by omega) (by omega)
  have ia1:=fun σ=>gG σ (q:=W.q) (n:=n) (i:=i') (by omega)
  have ia2:=fun σ=>gG σ (q:=W.q) (n:=n) (i:=a) (by omega)
  simp [-loadAt,dB,hij,ia1,ia2,hsw.o,hsw.ai,hsw.aj]
  refine lH rfl (At.cmp (by assumption) _ _) ?_
  cases hl:W.lt d[i']! d[a]! with
  | true =>
   simp only [hl,hij,decide_true,Bool.not_false,Bool.and_self,if_true] at hst
   simp [hl,c134_k29,c134_k28,bY (n:=(i':Int)+1) (by omega) (by omega)]
   exact⟨j+1-(i'+1),by omega,i'+1,rfl,rfl,by omega,heq.trans hst⟩
  | false =>
   simp only [hl,hij,decide_true,Bool.not_true,Bool.and_false,aP,if_false] at hst
   simp [hl,c134_k29]
   rw [heq,hst] at hQ
   exact hQ hi'
 ·simp only [hij,decide_false,Bool.false_and,aP,if_false] at hst
  simp [-loadAt,dB,hij,c134_k29]
  rw [heq,hst] at hQ
  exact hQ hi'
theorem aLk {W:Cm} {σ:St}{n a i j:Nat}{d:Array Hs}{Q:gT}{e:Env}(h:At W σ d)(hn:d.size=n)(ha:a<n)(hj:j<n)(hi:i≤n+1)(hN:n≤1000000)(he:e.pick [0,1,4,12,13]=[(0,.sl W.q 0 n 32),(1,I a),(4,W.fn),(12,I i),(13,I j)])
  (hQ:scanUp (fun x=>W.lt x d[a]!) d j i≤n+1→Q .normal [(0,.sl W.q 0 n 32),(1,I a),(4,W.fn),(12,I (scanUp (fun x=>W.lt x d[a]!) d j i:Nat)),(13,I j),(120,B false)] σ) :
  gF (Dn.Call Γ cx) cx (.block 6 (.loop [0,1,4,12,13] c134_l13)) e σ Q:=by
 simp only [dK]
 refine fK (fun m e s=>∃ i',e=[(0,.sl W.q 0 n 32),(1,I a),(4,W.fn),(12,I (i':Nat)),(13,I j)]∧m=j+1-i'∧i'≤n+1∧s=σ∧scanUp (fun x=>W.lt x d[a]!) d j i=scanUp (fun x=>W.lt x d[a]!) d j i') (m:=j+1-i) ⟨i,he,rfl,hi,rfl,rfl⟩ ?_
 rintro m e s ⟨i',rfl,rfl,hi',rfl,heq⟩
 have hst:=Go.Sort.scanUp.eq_def (fun x=>W.lt x d[a]!) d j i'
 simp only [dO,dF,GB,aM,aI,aG,dA,eW,cE,dZ,cS,cK,dY,dX,eM,eP,eS,cM,cW,cX,eN,fD,gD,fQ,fB,dK,fC,gE,cJ,cY,cZ,dN,eB,eC,gA,eR,eE,eF,eD,cL,cU,cV,fZ,i_p,dU,fY,eA,eV,dW,eU,dV,eX,gC,t_p,eY,eH,gB,eJ,cT,eZ,eI,eG,gM,aE,aH,dC,dM,fP,fO,fR,gR,Opd.ev,Env.get,Env.set,Env.pick,eK,dE,cB,eO,eQ,cF,dD,dG,gO,eL,Res.ev,fL,cN,dI,gS,fN,fW,fX,gW,fT,fU,fV,cx,Dn.newObj,St.place,St.push,St.spot,St.empty,eT,dP,cO,cR,dS,dQ,dT,cQ,dR,cP,loadAt,cH,dL,cI,bZ,ofD,splice,St.setObj,fE,c134_l13]
 refine gP (fun _=>.rd) [] (by decide +kernel) ?_
 by_cases hij:i'≤j
 ·have hsw:=h.sw (i:=i') (j:=a) (by omega) (by omega)
  have ia1:=fun σ=>gG σ (q:=W.q) (n:=n) (i:=i') (by omega)
  have ia2:=fun σ=>gG σ (q:=W.q) (n:=n) (i:=a) (by omega)
  simp [-loadAt,dB,hij,ia1,ia2,hsw.o,hsw.ai,hsw.aj]
  refine lH rfl (At.cmp (by assumption) _ _) ?_
  cases hl:W.lt d[i']! d[a]! with
  | true =>
   simp only [hl,hij,decide_true,Bool.not_false,Bool.and_self,if_true] at hst
   simp [hl,c134_k12,c134_k11,bY (n:=(i':Int)+1) (by omega) (by omega)]
   exact⟨j+1-(i'+1),by omega,i'+1,rfl,rfl,by omega,heq.trans hst⟩
  | false =>
   simp only [hl,hij,decide_true,Bool.not_true,Bool.and_false,aP,if_false] at hst
   simp [hl,c134_k12]
   rw [heq,hst] at hQ
   exact hQ hi'
 ·simp only [hij,decide_false,Bool.false_and,aP,if_false] at hst
  simp [-loadAt,dB,hij,c134_k12]
  rw [heq,hst] at hQ
  exact hQ hi'
theorem aLE {W:Cm} {σ:St}{n a i j:Nat}{d:Array Hs}{Q:gT}{e:Env}(h:At W σ d)(hn:d.size=n)(ha:a<n)(hj:j<n)(hi:i≤n+1)(hN:n≤1000000)(he:e.pick [0,1,4,11,12]=[(0,.sl W.q 0 n 32),(1,I a),(4,W.fn),(11,I i),(12,I j)])
  (hQ:scanUp (fun x=>!W.lt d[a]! x) d j i≤n+1→Q .normal [(0,.sl W.q 0 n 32),(1,I a),(4,W.fn),(11,I (scanUp (fun x=>!W.lt d[a]! x) d j i:Nat)),(12,I j),(47,B false)] σ) :
  gF (Dn.Call Γ cx) cx (.block 2 (.loop [0,1,4,11,12] c133_l12)) e σ Q:=by
 simp only [dK]
 refine fK (fun m e s=>∃ i',e=[(0,.sl W.q 0 n 32),(1,I a),(4,W.fn),(11,I (i':Nat)),(12,I j)]∧m=j+1-i'∧i'≤n+1∧s=σ∧scanUp (fun x=>!W.lt d[a]! x) d j i=scanUp (fun x=>!W.lt d[a]! x) d j i') (m:=j+1-i) ⟨i,he,rfl,hi,rfl,rfl⟩ ?_
 rintro m e s ⟨i',rfl,rfl,hi',rfl,heq⟩
 have hst:=Go.Sort.scanUp.eq_def (fun x=>!W.lt d[a]! x) d j i'
 simp only [dO,dF,GB,aM,aI,aG,dA,eW,cE,dZ,cS,cK,dY,dX,eM,eP,eS,cM,cW,cX,eN,fD,gD,fQ,fB,dK,fC,gE,cJ,cY,cZ,dN,eB,eC,gA,eR,eE,eF,eD,cL,cU,cV,fZ,i_p,dU,fY,eA,eV,dW,eU,dV,eX,gC,t_p,eY,eH,gB,eJ,cT,eZ,eI,eG,gM,aE,aH,dC,dM,fP,fO,fR,gR,Opd.ev,Env.get,Env.set,Env.pick,eK,dE,cB,eO,eQ,cF,dD,dG,gO,eL,Res.ev,fL,cN,dI,gS,fN,fW,fX,gW,fT,fU,fV,cx,Dn.newObj,St.place,St.push,St.spot,St.empty,eT,dP,cO,cR,dS,dQ,dT,cQ,dR,cP,loadAt,cH,dL,cI,bZ,ofD,splice,St.setObj,fE,c133_l12]
 refine gP (fun _=>.rd) [] (by decide +kernel) ?_
 by_cases hij:i'≤j
 ·have hsw:=h.sw (i:=i') (j:=a) (by omega) (by omega)
  have ia1:=fun σ=>gG σ (q:=W.q) (n:=n) (i:=i') (by omega)
  have ia2:=fun σ=>gG σ (q:=W.q) (n:=n) (i:=a) (by omega)
  simp [-loadAt,dB,hij,ia1,ia2,hsw.o,hsw.ai,hsw.aj]
  refine lH rfl (At.cmp (by assumption) _ _) ?_
  cases hl:W.lt d[a]! d[i']! with
  | false =>
   simp only [hl,hij,decide_true,Bool.not_false,Bool.and_self,if_true] at hst
   simp [hl,c133_k11,c133_k10,bY (n:=(i':Int)+1) (by omega) (by omega)]
   exact⟨j+1-(i'+1),by omega,i'+1,rfl,rfl,by omega,heq.trans hst⟩
  | true =>
   simp only [hl,hij,decide_true,Bool.not_true,Bool.and_false,aP,if_false] at hst
   simp [hl,c133_k11]
   rw [heq,hst] at hQ
   exact hQ hi'
 ·simp only [hij,decide_false,Bool.false_and,aP,if_false] at hst
  simp [-loadAt,dB,hij,c133_k11]
  rw [heq,hst] at hQ
  exact hQ hi'
theorem aLh {W:Cm} {σ:St}{n a i j:Nat}{d:Array Hs}{Q:gT}{e:Env}(h:At W σ d)(hn:d.size=n)(ha:a<n)(hj:j<n)(hi:1≤i)(hN:n≤1000000)(he:e.pick [0,1,4,12,13]=[(0,.sl W.q 0 n 32),(1,I a),(4,W.fn),(12,I i),(13,I j)])
  (hQ:Q .normal [(0,.sl W.q 0 n 32),(1,I a),(4,W.fn),(12,I i),(13,I (scanDown (fun x=>!W.lt x d[a]!) d i j:Nat)),(66,B false)] σ) :
  gF (Dn.Call Γ cx) cx (.block 2 (.loop [0,1,4,12,13] c134_l26)) e σ Q:=by
 simp only [dK]
 refine fK (fun m e s=>∃ k,e=[(0,.sl W.q 0 n 32),(1,I a),(4,W.fn),(12,I i),(13,I (k:Nat))]∧k=m∧k<n∧s=σ∧scanDown (fun x=>!W.lt x d[a]!) d i j=scanDown (fun x=>!W.lt x d[a]!) d i k) (m:=j) ⟨j,he,rfl,hj,rfl,rfl⟩ ?_
 rintro m e s ⟨k,rfl,rfl,hk,rfl,heq⟩
 simp only [dO,dF,GB,aM,aI,aG,dA,eW,cE,dZ,cS,cK,dY,dX,eM,eP,eS,cM,cW,cX,eN,fD,gD,fQ,fB,dK,fC,gE,cJ,cY,cZ,dN,eB,eC,gA,eR,eE,eF,eD,cL,cU,cV,fZ,i_p,dU,fY,eA,eV,dW,eU,dV,eX,gC,t_p,eY,eH,gB,eJ,cT,eZ,eI,eG,gM,aE,aH,dC,dM,fP,fO,fR,gR,Opd.ev,Env.get,Env.set,Env.pick,eK,dE,cB,eO,eQ,cF,dD,dG,gO,eL,Res.ev,fL,cN,dI,gS,fN,fW,fX,gW,fT,fU,fV,cx,Dn.newObj,St.place,St.push,St.spot,St.empty,eT,dP,cO,cR,dS,dQ,dT,cQ,dR,cP,loadAt,cH,dL,cI,bZ,ofD,splice,St.setObj,fE,c134_l26]
 refine gP (fun _=>.rd) [] (by decide +kernel) ?_
 by_cases hij:i≤k
 ·obtain⟨j',rfl⟩ : ∃ j',k=j'+1:=⟨k-1,by omega⟩
  have hst:=Go.Sort.scanDown.eq_2 (fun x=>!W.lt x d[a]!) d i j'
  rw [Nat.succ_eq_add_one] at hst
  have hsw:=h.sw (i:=j'+1) (j:=a) (by omega) (by omega)
  have ia1:=fun σ=>gG σ (q:=W.q) (n:=n) (i:=j'+1) (by omega)
  have ia2:=fun σ=>gG σ (q:=W.q) (n:=n) (i:=a) (by omega)
  have e1:aJ.wrap (((j'+1:Nat):Int)-1)=(j':Nat):=by rw [bY (by omega) (by omega)]; omega
  obtain⟨k,hk1⟩ : ∃ k,j'+1=k:=⟨_,rfl⟩
  rw [hk1] at hij hst hsw ia1 e1 heq ⊢
  simp [-loadAt,dB,hij,ia1,ia2,hsw.o,hsw.ai,hsw.aj]
  refine lH rfl (At.cmp (by assumption) _ _) ?_
  cases hl:W.lt d[k]! d[a]! with
  | false =>
   simp only [hl,hij,decide_true,Bool.not_false,Bool.and_self,if_true] at hst
   simp [hl,c134_k25,c134_k24,e1]
   exact⟨j',by omega,j',rfl,rfl,by omega,heq.trans hst⟩
  | true =>
   simp only [hl,hij,decide_true,Bool.not_true,Bool.and_false,aP,if_false] at hst
   simp [hl,c134_k25]
   rw [heq,hst] at hQ
   exact hQ
 ·have hst:scanDown (fun x=>!W.lt x d[a]!) d i k=k:=by
   cases k with
   | zero=>rfl
   | succ k =>
    rw [Go.Sort.scanDown.eq_2]
    simp [show ¬ i≤k+1 from hij]
  simp [-loadAt,dB,hij,c134_k25]
  rw [heq,hst] at hQ
  exact hQ
theorem aLi {W:Cm} {σ:St}{n a i j:Nat}{d:Array Hs}{Q:gT}{e:Env}(h:At W σ d)(hn:d.size=n)(ha:a<n)(hj:j<n)(hi:1≤i)(hN:n≤1000000)(he:e.pick [0,1,4,12,13]=[(0,.sl W.q 0 n 32),(1,I a),(4,W.fn),(12,I i),(13,I j)])
  (hQ:Q .normal [(0,.sl W.q 0 n 32),(1,I a),(4,W.fn),(12,I i),(13,I (scanDown (fun x=>!W.lt x d[a]!) d i j:Nat)),(139,B false)] σ) :
  gF (Dn.Call Γ cx) cx (.block 8 (.loop [0,1,4,12,13] c134_l9)) e σ Q:=by
 simp only [dK]
 refine fK (fun m e s=>∃ k,e=[(0,.sl W.q 0 n 32),(1,I a),(4,W.fn),(12,I i),(13,I (k:Nat))]∧k=m∧k<n∧s=σ∧scanDown (fun x=>!W.lt x d[a]!) d i j=scanDown (fun x=>!W.lt x d[a]!) d i k) (m:=j) ⟨j,he,rfl,hj,rfl,rfl⟩ ?_
 rintro m e s ⟨k,rfl,rfl,hk,rfl,heq⟩
 simp only [dO,dF,GB,aM,aI,aG,dA,eW,cE,dZ,cS,cK,dY,dX,eM,eP,eS,cM,cW,cX,eN,fD,gD,fQ,fB,dK,fC,gE,cJ,cY,cZ,dN,eB,eC,gA,eR,eE,eF,eD,cL,cU,cV,fZ,i_p,dU,fY,eA,eV,dW,eU,dV,eX,gC,t_p,eY,eH,gB,eJ,cT,eZ,eI,eG,gM,aE,aH,dC,dM,fP,fO,fR,gR,Opd.ev,Env.get,Env.set,Env.pick,eK,dE,cB,eO,eQ,cF,dD,dG,gO,eL,Res.ev,fL,cN,dI,gS,fN,fW,fX,gW,fT,fU,fV,cx,Dn.newObj,St.place,St.push,St.spot,St.empty,eT,dP,cO,cR,dS,dQ,dT,cQ,dR,cP,loadAt,cH,dL,cI,bZ,ofD,splice,St.setObj,fE,c134_l9]
 refine gP (fun _=>.rd) [] (by decide +kernel) ?_
 by_cases hij:i≤k
 ·obtain⟨j',rfl⟩ : ∃ j',k=j'+1:=⟨k-1,by omega⟩
  have hst:=Go.Sort.scanDown.eq_2 (fun x=>!W.lt x d[a]!) d i j'
  rw [Nat.succ_eq_add_one] at hst
  have hsw:=h.sw (i:=j'+1) (j:=a) (by omega) (by omega)
  have ia1:=fun σ=>gG σ (q:=W.q) (n:=n) (i:=j'+1) (by omega)
  have ia2:=fun σ=>gG σ (q:=W.q) (n:=n) (i:=a) (by omega)
  have e1:aJ.wrap (((j'+1:Nat):Int)-1)=(j':Nat):=by rw [bY (by omega) (by omega)]; omega
  obtain⟨k,hk1⟩ : ∃ k,j'+1=k:=⟨_,rfl⟩
  rw [hk1] at hij hst hsw ia1 e1 heq ⊢
  simp [-loadAt,dB,hij,ia1,ia2,hsw.o,hsw.ai,hsw.aj]
  refine lH rfl (At.cmp (by assumption) _ _) ?_
  cases hl:W.lt d[k]! d[a]! with
  | false =>
   simp only [hl,hij,decide_true,Bool.not_false,Bool.and_self,if_true] at hst
   simp [hl,c134_k8,c134_k7,e1]
   exact⟨j',by omega,j',rfl,rfl,by omega,heq.trans hst⟩
  | true =>
   simp only [hl,hij,decide_true,Bool.not_true,Bool.and_false,aP,if_false] at hst
   simp [hl,c134_k8]
   rw [heq,hst] at hQ
   exact hQ
 ·have hst:scanDown (fun x=>!W.lt x d[a]!) d i k=k:=by
   cases k with
   | zero=>rfl
   | succ k =>
    rw [Go.Sort.scanDown.eq_2]
    simp [show ¬ i≤k+1 from hij]
  simp [-loadAt,dB,hij,c134_k8]
  rw [heq,hst] at hQ
  exact hQ
theorem aLD {W:Cm} {σ:St}{n a i j:Nat}{d:Array Hs}{Q:gT}{e:Env}(h:At W σ d)(hn:d.size=n)(ha:a<n)(hj:j<n)(hi:1≤i)(hN:n≤1000000)(he:e.pick [0,1,4,11,12]=[(0,.sl W.q 0 n 32),(1,I a),(4,W.fn),(11,I i),(12,I j)])
  (hQ:Q .normal [(0,.sl W.q 0 n 32),(1,I a),(4,W.fn),(11,I i),(12,I (scanDown (fun x=>W.lt d[a]! x) d i j:Nat)),(65,B false)] σ) :
  gF (Dn.Call Γ cx) cx (.block 4 (.loop [0,1,4,11,12] c133_l8)) e σ Q:=by
 simp only [dK]
 refine fK (fun m e s=>∃ k,e=[(0,.sl W.q 0 n 32),(1,I a),(4,W.fn),(11,I i),(12,I (k:Nat))]∧k=m∧k<n∧s=σ∧scanDown (fun x=>W.lt d[a]! x) d i j=scanDown (fun x=>W.lt d[a]! x) d i k) (m:=j) ⟨j,he,rfl,hj,rfl,rfl⟩ ?_
 rintro m e s ⟨k,rfl,rfl,hk,rfl,heq⟩
 simp only [dO,dF,GB,aM,aI,aG,dA,eW,cE,dZ,cS,cK,dY,dX,eM,eP,eS,cM,cW,cX,eN,fD,gD,fQ,fB,dK,fC,gE,cJ,cY,cZ,dN,eB,eC,gA,eR,eE,eF,eD,cL,cU,cV,fZ,i_p,dU,fY,eA,eV,dW,eU,dV,eX,gC,t_p,eY,eH,gB,eJ,cT,eZ,eI,eG,gM,aE,aH,dC,dM,fP,fO,fR,gR,Opd.ev,Env.get,Env.set,Env.pick,eK,dE,cB,eO,eQ,cF,dD,dG,gO,eL,Res.ev,fL,cN,dI,gS,fN,fW,fX,gW,fT,fU,fV,cx,Dn.newObj,St.place,St.push,St.spot,St.empty,eT,dP,cO,cR,dS,dQ,dT,cQ,dR,cP,loadAt,cH,dL,cI,bZ,ofD,splice,St.setObj,fE,c133_l8]
 refine gP (fun _=>.rd) [] (by decide +kernel) ?_
 by_cases hij:i≤k
 ·obtain⟨j',rfl⟩ : ∃ j',k=j'+1:=⟨k-1,by omega⟩
  have hst:=Go.Sort.scanDown.eq_2 (fun x=>W.lt d[a]! x) d i j'
  rw [Nat.succ_eq_add_one] at hst
  have hsw:=h.sw (i:=j'+1) (j:=a) (by omega) (by omega)
  have ia1:=fun σ=>gG σ (q:=W.q) (n:=n) (i:=j'+1) (by omega)
  have ia2:=fun σ=>gG σ (q:=W.q) (n:=n) (i:=a) (by omega)
  have e1:aJ.wrap (((j'+1:Nat):Int)-1)=(j':Nat):=by rw [bY (by omega) (by omega)]; omega
  obtain⟨k,hk1⟩ : ∃ k,j'+1=k:=⟨_,rfl⟩
  rw [hk1] at hij hst hsw ia1 e1 heq ⊢
  simp [-loadAt,dB,hij,ia1,ia2,hsw.o,hsw.ai,hsw.aj]
  refine lH rfl (At.cmp (by assumption) _ _) ?_
  cases hl:W.lt d[a]! d[k]! with
  | true =>
   simp only [hl,hij,decide_true,Bool.not_false,Bool.and_self,if_true] at hst
   simp [hl,c133_k7,c133_k6,e1]
   exact⟨j',by omega,j',rfl,rfl,by omega,heq.trans hst⟩
  | false =>
   simp only [hl,hij,decide_true,Bool.not_true,Bool.and_false,aP,if_false] at hst
   simp [hl,c133_k7]
   rw [heq,hst] at hQ
   exact hQ
 ·have hst:scanDown (fun x=>W.lt d[a]! x) d i k=k:=by
   cases k with
   | zero=>rfl
   | succ k =>
    rw [Go.Sort.scanDown.eq_2]
    simp [show ¬ i≤k+1 from hij]
  simp [-loadAt,dB,hij,c133_k7]
  rw [heq,hst] at hQ
  exact hQ

open Go.Sort (partition partLoop partitionEqual partEqLoop)
def aKQ (W:Cm)(n a:Nat) (σ:St)(r:Nat×Array Hs)(m:Nat)(e:Env)(s:St):Prop:=∃ (i j:Nat) (d3:Array Hs),e=[(0,.sl W.q 0 n 32),(1,I a),(4,W.fn),(12,I i),(13,I j)]∧m=j+1-i∧1≤i∧i≤n∧j<n∧d3.size=n∧To W σ d3 s∧r=partLoop W.lt a i j d3
def aKO (W:Cm)(n a:Nat) (σ:St)(r:Nat×Array Hs)(m:Nat)(e:Env)(s:St):Prop:=∃ (i j:Nat) (d3:Array Hs),e=[(0,.sl W.q 0 n 32),(1,I a),(4,W.fn),(11,I i),(12,I j)]∧m=j+1-i∧1≤i∧i≤n∧j<n∧d3.size=n∧To W σ d3 s∧r=partEqLoop W.lt a i j d3

theorem aKs {W:Cm} {σ:St}{n a b pv:Nat}{d:Array Hs}(h:At W σ d)(hn:d.size=n)(hap:a≤pv)(hpb:pv<b)(hb:b≤n)(hN:n≤1000000) :
  Dn.Call Γ cx .raw 134 [.sl W.q 0 n 32,I a,I b,I pv,W.fn] σ fun v s=>v = .tup [I (partition W.lt d a b pv).1,B (partition W.lt d a b pv).2.1]∧To W σ (partition W.lt d a b pv).2.2 s:=by
 refine Dn.Call.body (fc:=c134) rfl ?_
 have e1:aJ.wrap ((a:Int)+1)=((a+1:Nat):Int):=by rw [bY (by omega) (by omega)]; omega
 have e2:aJ.wrap ((b:Int)-1)=((b-1:Nat):Int):=by rw [bY (by omega) (by omega)]; omega
 obtain⟨i0,hi0⟩ : ∃ i0,a+1=i0:=⟨_,rfl⟩
 obtain⟨j0,hj0⟩ : ∃ j0,b-1=j0:=⟨_,rfl⟩
 rw [hi0] at e1
 rw [hj0] at e2
 simp [c134,c134_k33]
 have hsw:=h.sw (i:=a) (j:=pv) (by omega) (by omega)
 have ia1:=fun σ=>gG σ (q:=W.q) (n:=n) (i:=a) (by omega)
 have ia2:=fun σ=>gG σ (q:=W.q) (n:=n) (i:=pv) (by omega)
 refine gP (fun _=>.rd) [] (by decide +kernel) ?_
 simp [-splice,-loadAt,dB,ia1,ia2,hsw.o,hsw.ai,hsw.aj]
 simp [-splice,-loadAt,hsw.l1,hsw.i1,hsw.s1,hsw.st,hsw.l2,hsw.j1,hsw.s2,c134_k32,e1,e2,c134_k31]
 have ht1:To W σ (swp d a pv) ⟨σ.objs.set W.q (.cells (ar (swp d a pv))),σ.toks⟩:=To.set h
 unfold partition
 simp only [hi0,hj0]
 clear hsw ia1 ia2
 have hn1:(swp d a pv).size=n:=by rw [iQ,hn]
 generalize swp d a pv=d1 at *
 generalize (⟨σ.objs.set W.q (.cells (ar d1)),σ.toks⟩:St)=s1 at *
 refine aLj ht1.at hn1 (by omega) (by omega) (by omega) hN rfl fun hb1=>?_
 have g1:=Go.Sort.scanUp_ge (fun x=>W.lt x d1[a]!) d1 j0 i0
 generalize scanUp (fun x=>W.lt x d1[a]!) d1 j0 i0=i1 at *
 simp [c134_k27]
 refine aLh ht1.at hn1 (by omega) (by omega) (by omega) hN rfl ?_
 have g2:=Go.Sort.scanDown_le (fun x=>!W.lt x d1[a]!) d1 i1 j0
 generalize scanDown (fun x=>!W.lt x d1[a]!) d1 i1 j0=j1 at *
 simp [c134_k23]
 by_cases hij:j1<i1
 ·simp [hij,c134_k22,c134_k21]
  have hsw:=ht1.at.sw (i:=j1) (j:=a) (by omega) (by omega)
  have ia1:=fun σ=>gG σ (q:=W.q) (n:=n) (i:=j1) (by omega)
  have ia2:=fun σ=>gG σ (q:=W.q) (n:=n) (i:=a) (by omega)
  refine gP (fun _=>.rd) [] (by decide +kernel) ?_
  simp [-splice,-loadAt,dB,ia1,ia2,hsw.o,hsw.ai,hsw.aj]
  simp [-splice,-loadAt,hsw.l1,hsw.i1,hsw.s1,hsw.st,hsw.l2,hsw.j1,hsw.s2,c134_k20]
  exact ht1.trans (To.set ht1.at)
 ·simp [hij,c134_k22,c134_k19]
  have hsw:=ht1.at.sw (i:=i1) (j:=j1) (by omega) (by omega)
  have ia1:=fun σ=>gG σ (q:=W.q) (n:=n) (i:=i1) (by omega)
  have ia2:=fun σ=>gG σ (q:=W.q) (n:=n) (i:=j1) (by omega)
  refine gP (fun _=>.rd) [] (by decide +kernel) ?_
  simp [-splice,-loadAt,dB,ia1,ia2,hsw.o,hsw.ai,hsw.aj]
  simp [-splice,-loadAt,hsw.l1,hsw.i1,hsw.s1,hsw.st,hsw.l2,hsw.j1,hsw.s2,c134_k18,c134_k17,c134_k16]
  have ht2:=ht1.trans (To.set (d':=swp d1 i1 j1) ht1.at)
  clear hsw ia1 ia2
  have hn2:(swp d1 i1 j1).size=n:=by rw [iQ,hn1]
  generalize swp d1 i1 j1=d2 at *
  generalize (⟨s1.objs.set W.q (.cells (ar d2)),s1.toks⟩:St)=s2 at *
  refine fK (aKQ W n a σ (partLoop W.lt a (i1+1) (j1-1) d2)) (m:=j1-1+1-(i1+1)) ⟨i1+1,j1-1,d2,?_,rfl,by omega,by omega,by omega,hn2,ht2,rfl⟩ ?_
  ·simp [Env.pick,Env.get,bY (n:=(i1:Int)+1) (by omega) (by omega),bY (n:=(j1:Int)-1) (by omega) (by omega)]
   omega
  rintro m e s ⟨i,j,d3,rfl,rfl,hi,hin,hj,hn3,ht3,heq⟩
  have hst:=Go.Sort.partLoop_eq W.lt a i j d3
  simp [c134_l15,c134_k14]
  refine aLk ht3.at hn3 (by omega) (by omega) (by omega) hN rfl fun hb1=>?_
  have g3:=Go.Sort.scanUp_ge (fun x=>W.lt x d3[a]!) d3 j i
  generalize scanUp (fun x=>W.lt x d3[a]!) d3 j i=i2 at *
  simp [c134_k10]
  refine aLi ht3.at hn3 (by omega) (by omega) (by omega) hN rfl ?_
  have g4:=Go.Sort.scanDown_le (fun x=>!W.lt x d3[a]!) d3 i2 j
  generalize scanDown (fun x=>!W.lt x d3[a]!) d3 i2 j=j2 at *
  simp [c134_k6]
  by_cases hij2:j2<i2
  ·rw [if_pos hij2] at hst
   simp [hij2,c134_k5,c134_k1]
   have hsw:=ht3.at.sw (i:=j2) (j:=a) (by omega) (by omega)
   have ia1:=fun σ=>gG σ (q:=W.q) (n:=n) (i:=j2) (by omega)
   have ia2:=fun σ=>gG σ (q:=W.q) (n:=n) (i:=a) (by omega)
   refine gP (fun _=>.rd) [] (by decide +kernel) ?_
   simp [-splice,-loadAt,dB,ia1,ia2,hsw.o,hsw.ai,hsw.aj]
   simp [-splice,-loadAt,hsw.l1,hsw.i1,hsw.s1,hsw.st,hsw.l2,hsw.j1,hsw.s2,c134_k0]
   rw [heq,hst]
   exact⟨rfl,ht3.trans (To.set ht3.at)⟩
  ·rw [if_neg hij2] at hst
   simp [hij2,c134_k5,c134_k4]
   have hsw:=ht3.at.sw (i:=i2) (j:=j2) (by omega) (by omega)
   have ia1:=fun σ=>gG σ (q:=W.q) (n:=n) (i:=i2) (by omega)
   have ia2:=fun σ=>gG σ (q:=W.q) (n:=n) (i:=j2) (by omega)
   refine gP (fun _=>.rd) [] (by decide +kernel) ?_
   simp [-splice,-loadAt,dB,ia1,ia2,hsw.o,hsw.ai,hsw.aj]
   simp [-splice,-loadAt,hsw.l1,hsw.i1,hsw.s1,hsw.st,hsw.l2,hsw.j1,hsw.s2,c134_k3,c134_k2]
   refine⟨j2-1+1-(i2+1),by omega,i2+1,j2-1,_,?_,rfl,by omega,by omega,by omega,by rw [iQ,hn3],ht3.trans (To.set ht3.at),heq.trans hst⟩
   simp [bY (n:=(i2:Int)+1) (by omega) (by omega),bY (n:=(j2:Int)-1) (by omega) (by omega)]
   omega

theorem aHx {W:Cm} {σ:St}{n a b pv:Nat}{d:Array Hs}(h:At W σ d)(hn:d.size=n)(hap:a≤pv)(hpb:pv<b)(hb:b≤n)(hN:n≤1000000) :
  Dn.Call Γ cx .raw 133 [.sl W.q 0 n 32,I a,I b,I pv,W.fn] σ fun v s=>v=I (partitionEqual W.lt d a b pv).1∧To W σ (partitionEqual W.lt d a b pv).2 s:=by
 refine Dn.Call.body (fc:=c133) rfl ?_
 have e1:aJ.wrap ((a:Int)+1)=((a+1:Nat):Int):=by rw [bY (by omega) (by omega)]; omega
 have e2:aJ.wrap ((b:Int)-1)=((b-1:Nat):Int):=by rw [bY (by omega) (by omega)]; omega
 obtain⟨i0,hi0⟩ : ∃ i0,a+1=i0:=⟨_,rfl⟩
 obtain⟨j0,hj0⟩ : ∃ j0,b-1=j0:=⟨_,rfl⟩
 rw [hi0] at e1
 rw [hj0] at e2
 simp [c133,c133_k17]
 have hsw:=h.sw (i:=a) (j:=pv) (by omega) (by omega)
 have ia1:=fun σ=>gG σ (q:=W.q) (n:=n) (i:=a) (by omega)
 have ia2:=fun σ=>gG σ (q:=W.q) (n:=n) (i:=pv) (by omega)
 refine gP (fun _=>.rd) [] (by decide +kernel) ?_
 simp [-splice,-loadAt,dB,ia1,ia2,hsw.o,hsw.ai,hsw.aj]
 simp [-splice,-loadAt,hsw.l1,hsw.i1,hsw.s1,hsw.st,hsw.l2,hsw.j1,hsw.s2,c133_k16,e1,e2,c133_k15]
 have ht1:To W σ (swp d a pv) ⟨σ.objs.set W.q (.cells (ar (swp d a pv))),σ.toks⟩:=To.set h
 unfold partitionEqual
 simp only [hi0,hj0]
 clear hsw ia1 ia2
 have hn1:(swp d a pv).size=n:=by rw [iQ,hn]
 generalize swp d a pv=d1 at *
 generalize (⟨σ.objs.set W.q (.cells (ar d1)),σ.toks⟩:St)=s1 at *
 refine fK (aKO W n a σ (partEqLoop W.lt a i0 j0 d1)) (m:=j0+1-i0) ⟨i0,j0,d1,rfl,rfl,by omega,by omega,by omega,hn1,ht1,rfl⟩ ?_
 rintro m e s ⟨i,j,d3,rfl,rfl,hi,hin,hj,hn3,ht3,heq⟩
 have hst:=Go.Sort.partEqLoop_eq W.lt a i j d3
 simp [c133_l14,c133_k13]
 refine aLE ht3.at hn3 (by omega) (by omega) (by omega) hN rfl fun hb1=>?_
 have g3:=Go.Sort.scanUp_ge (fun x=>!W.lt d3[a]! x) d3 j i
 generalize scanUp (fun x=>!W.lt d3[a]! x) d3 j i=i2 at *
 simp [c133_k9]
 refine aLD ht3.at hn3 (by omega) (by omega) (by omega) hN rfl ?_
 have g4:=Go.Sort.scanDown_le (fun x=>W.lt d3[a]! x) d3 i2 j
 generalize scanDown (fun x=>W.lt d3[a]! x) d3 i2 j=j2 at *
 simp [c133_k5]
 by_cases hij2:j2<i2
 ·rw [if_pos hij2] at hst
  simp [hij2,c133_k4,c133_k0]
  rw [heq,hst]
  exact⟨rfl,ht3⟩
 ·rw [if_neg hij2] at hst
  simp [hij2,c133_k4,c133_k3]
  have hsw:=ht3.at.sw (i:=i2) (j:=j2) (by omega) (by omega)
  have ia1:=fun σ=>gG σ (q:=W.q) (n:=n) (i:=i2) (by omega)
  have ia2:=fun σ=>gG σ (q:=W.q) (n:=n) (i:=j2) (by omega)
  refine gP (fun _=>.rd) [] (by decide +kernel) ?_
  simp [-splice,-loadAt,dB,ia1,ia2,hsw.o,hsw.ai,hsw.aj]
  simp [-splice,-loadAt,hsw.l1,hsw.i1,hsw.s1,hsw.st,hsw.l2,hsw.j1,hsw.s2,c133_k2,c133_k1]
  refine⟨j2-1+1-(i2+1),by omega,i2+1,j2-1,_,?_,rfl,by omega,by omega,by omega,by rw [iQ,hn3],ht3.trans (To.set ht3.at),heq.trans hst⟩
  simp [bY (n:=(i2:Int)+1) (by omega) (by omega),bY (n:=(j2:Int)-1) (by omega) (by omega)]
  omega

attribute [local simp] oG Cm.cmp_lt Cm.fn
open Go.Sort (swp)

open Go.Sort (scanSorted partialIns partialInsertionSort xorNext breakStep breakPatterns bitsLen shiftDown shiftUp)
def aKZ (W:Cm)(n a b i t:Nat) (σ0:St)(d:Array Hs)(m:Nat)(e:Env) (σ:St):Prop:=∃ (k:Nat),e=[(0,.sl W.q 0 n 32),(1,I a),(2,I b),(3,W.fn),(9,I k),(10,I t)]∧m=b-k∧i≤k∧k≤b∧σ=σ0∧scanSorted W.lt d b i=scanSorted W.lt d b k
def aKY (W:Cm)(n a b i t j0:Nat) (σ0:St)(d0:Array Hs)(m:Nat)(e:Env) (σ:St):Prop:=∃ (j:Nat) (d:Array Hs),e=[(0,.sl W.q 0 n 32),(1,I a),(2,I b),(3,W.fn),(9,I i),(10,I t),(11,I j)]∧j=m∧j<n∧d.size=n∧To W σ0 d σ∧shiftDown W.lt j0 d0=shiftDown W.lt j d
def aK0 (W:Cm)(n a b i t j0:Nat) (σ0:St)(d0:Array Hs)(m:Nat)(e:Env) (σ:St):Prop:=∃ (j:Nat) (d:Array Hs),e=[(0,.sl W.q 0 n 32),(1,I a),(2,I b),(3,W.fn),(9,I i),(10,I t),(12,I j)]∧m=b-j∧1≤j∧j≤b∧d.size=n∧To W σ0 d σ∧shiftUp W.lt b j0 d0=shiftUp W.lt b j d

theorem aFB {W:Cm} {σ:St}{n a b i t j:Nat}{d:Array Hs}(h:At W σ d)(hn:d.size=n)(hj:j<n)(hN:n≤1000000){Q:gT}
  (hQ : ∀ (s:St) (j' y:Nat) (w:V),(y=69∨y=84)→To W σ (shiftDown W.lt j d) s→Q .normal [(0,.sl W.q 0 n 32),(1,I a),(2,I b),(3,W.fn),(9,I i),(10,I t),(11,I j'),(y,w)] s) :
  gF (Dn.Call Γ cx) cx c132_k18 [(0,.sl W.q 0 n 32),(1,I a),(2,I b),(3,W.fn),(9,I i),(10,I t),(11,I j)] σ Q:=by
 simp [c132_k18]
 refine fK (aKY W n a b i t j σ d) (m:=j) ⟨j,d,rfl,rfl,hj,hn,To.refl h,rfl⟩ ?_
 rintro m e s ⟨k,d2,rfl,rfl,hk,hn2,hto,heq⟩
 cases k with
 | zero =>
  rw [Go.Sort.shiftDown.eq_1] at heq
  simp [c132_l17,c132_k16]
  exact hQ s 0 _ _ (.inl rfl) (by rw [heq]; exact hto)
 | succ k' =>
  have hst:=Go.Sort.shiftDown.eq_2 W.lt d2 k'
  rw [Nat.succ_eq_add_one] at hst
  have hat:=hto.at
  have hsw:=hat.sw (i:=k'+1) (j:=k') (by omega) (by omega)
  have e1:aJ.wrap (((k'+1:Nat):Int)-1)=(k':Nat):=by rw [bY (by omega) (by omega)]; omega
  have ia1:=fun σ=>gG σ (q:=W.q) (n:=n) (i:=k'+1) hk
  have ia2:=fun σ=>gG σ (q:=W.q) (n:=n) (i:=k') (by omega)
  have h1:(1:Int)≤((k'+1:Nat):Int):=by omega
  obtain⟨k,hkd⟩ : ∃ k,k'+1=k:=⟨_,rfl⟩
  rw [hkd] at hsw e1 ia1 heq hst h1 hk ⊢
  simp [c132_l17,c132_k16,h1,c132_k15,c132_k14]
  refine gP (fun _=>.rd) [] (by decide +kernel) ?_
  simp [-loadAt,dB,e1,ia1,ia2,hsw.o,hsw.ai,hsw.aj]
  refine lH rfl (At.cmp (by assumption) _ _) ?_
  cases hl:W.lt d2[k]! d2[k']! with
  | false =>
   rw [hl] at hst
   simp only [Bool.not_false,if_true] at hst
   simp [hl,hl,c132_k13]
   exact hQ s k _ _ (.inr rfl) (by rw [heq,hst]; exact hto)
  | true =>
   rw [hl] at hst
   simp only [Bool.not_true,aP,if_false] at hst
   simp [hl,hl,c132_k13,c132_k12]
   refine gP (fun _=>.rd) [] (by decide +kernel) ?_
   simp [-splice,-loadAt,dB,e1,ia1,ia2,hsw.o,hsw.ai,hsw.aj]
   simp [-splice,-loadAt,hsw.l1,hsw.i1,hsw.s1,hsw.st,hsw.l2,hsw.j1,hsw.s2,c132_k11,e1]
   exact⟨k',by omega,k',_,rfl,rfl,by omega,by rw [iQ,hn2],hto.trans (To.set hat),heq.trans hst⟩

theorem aIE {W:Cm} {σ:St}{n a b i t j:Nat}{d:Array Hs}(h:At W σ d)(hn:d.size=n)(h1:1≤j)(hjb:j≤b)(hb:b≤n)(hN:n≤1000000){Q:gT}
  (hQ : ∀ (s:St) (j' y:Nat) (w:V),(y=109∨y=124)→To W σ (shiftUp W.lt b j d) s→Q .normal [(0,.sl W.q 0 n 32),(1,I a),(2,I b),(3,W.fn),(9,I i),(10,I t),(12,I j'),(y,w)] s) :
  gF (Dn.Call Γ cx) cx c132_k8 [(0,.sl W.q 0 n 32),(1,I a),(2,I b),(3,W.fn),(9,I i),(10,I t),(12,I j)] σ Q:=by
 simp [c132_k8]
 refine fK (aK0 W n a b i t j σ d) (m:=b-j) ⟨j,d,rfl,rfl,h1,hjb,hn,To.refl h,rfl⟩ ?_
 rintro m e s ⟨k,d2,rfl,rfl,hk1,hkb,hn2,hto,heq⟩
 have hst:=Go.Sort.shiftUp.eq_def W.lt b k d2
 rcases hbk:decide ((k:Int)<b) with _ | _
 ·have hk : ¬ (k:Int)<b:=of_decide_eq_false hbk
  rw [if_neg (by omega)] at hst
  simp [c132_l7,hk,show ¬ k<b by omega,c132_k6]
  exact hQ s k _ _ (.inl rfl) (by rw [heq,hst]; exact hto)
 ·have hk:(k:Int)<b:=of_decide_eq_true hbk
  rw [if_pos (by omega)] at hst
  obtain⟨k',rfl⟩ : ∃ k',k=k'+1:=⟨k-1,by omega⟩
  have hat:=hto.at
  have hsw:=hat.sw (i:=k'+1) (j:=k') (by omega) (by omega)
  have e1:aJ.wrap (((k'+1:Nat):Int)-1)=(k':Nat):=by rw [bY (by omega) (by omega)]; omega
  have ia1:=fun σ=>gG σ (q:=W.q) (n:=n) (i:=k'+1) (by omega)
  have ia2:=fun σ=>gG σ (q:=W.q) (n:=n) (i:=k') (by omega)
  rw [show k'+1-1=k' by omega] at hst
  obtain⟨k,hkd⟩ : ∃ k,k'+1=k:=⟨_,rfl⟩
  rw [hkd] at hsw e1 ia1 heq hst hk hkb hk1 ⊢
  have w1:aJ.wrap ((k:Int)+1)=((k+1:Nat):Int):=by rw [bY (by omega) (by omega)]; omega
  have hkn:k<b:=by omega
  simp [c132_l7,hk,hkn,c132_k6,c132_k5,c132_k4]
  refine gP (fun _=>.rd) [] (by decide +kernel) ?_
  simp [-loadAt,dB,e1,ia1,ia2,hsw.o,hsw.ai,hsw.aj]
  refine lH rfl (At.cmp (by assumption) _ _) ?_
  cases hl:W.lt d2[k]! d2[k']! with
  | false =>
   rw [hl] at hst
   simp only [Bool.not_false,if_true] at hst
   simp [hl,hl,c132_k3]
   exact hQ s k _ _ (.inr rfl) (by rw [heq,hst]; exact hto)
  | true =>
   rw [hl] at hst
   simp only [Bool.not_true,aP,if_false] at hst
   simp [hl,hl,c132_k3,c132_k2]
   refine gP (fun _=>.rd) [] (by decide +kernel) ?_
   simp [-splice,-loadAt,dB,e1,ia1,ia2,hsw.o,hsw.ai,hsw.aj]
   simp [-splice,-loadAt,hsw.l1,hsw.i1,hsw.s1,hsw.st,hsw.l2,hsw.j1,hsw.s2,c132_k1,w1]
   exact⟨b-(k+1),by omega,k+1,_,rfl,rfl,by omega,by omega,by rw [iQ,hn2],hto.trans (To.set hat),heq.trans hst⟩

theorem mQ {W:Cm} : ∀ (j:Nat) (d:Array Hs),(shiftDown W.lt j d).size=d.size
 | 0,d=>rfl
 | j+1,d=>by
  rw [Go.Sort.shiftDown.eq_2]
  split
  ·rfl
  ·rw [mQ j,iQ]
theorem aB4 {W:Cm}(b:Nat) : ∀ (k j:Nat) (d:Array Hs),b-j=k→(shiftUp W.lt b j d).size=d.size:=by
 intro k
 induction k with
 | zero =>
  intro j d h
  rw [Go.Sort.shiftUp.eq_def,if_neg (by omega)]
 | succ k ih =>
  intro j d h
  rw [Go.Sort.shiftUp.eq_def]
  split
  ·split
   ·rfl
   ·rw [ih _ _ (by omega),iQ]
  ·rfl
def TlE (tl:Env):Prop:=tl=[(104,B false)]∨∃ (j':Nat) (y:Nat) (w:V),(y=109∨y=124)∧tl=[(12,I j'),(y,w)]

theorem aCZ {W:Cm} {σ:St}{n a b i t:Nat}{d:Array Hs}(h:At W σ d)(hn:d.size=n)(hib:i<b)(hb:b≤n)(hN:n≤1000000){tl:Env}(htl:tl=[(65,B false)]∨∃ (j':Nat)(y:Nat)(w:V),(y=69∨y=84)∧tl=[(11,I j'),(y,w)]){Q:gT}
  (hQ : ∀ (s:St) (tl:Env),TlE tl→To W σ (if b-i≥2 then shiftUp W.lt b (i+1) d else d) s→Q .normal ((0,.sl W.q 0 n 32)::(1,I a)::(2,I b)::(3,W.fn)::(9,I i)::(10,I t)::tl) s) :
  gF (Dn.Call Γ cx) cx c132_k10 ((0,.sl W.q 0 n 32)::(1,I a)::(2,I b)::(3,W.fn)::(9,I i)::(10,I t)::tl) σ Q:=by
 obtain⟨bi,hbi⟩ : ∃ bi,b-i=bi:=⟨_,rfl⟩
 have e1:aJ.wrap ((b:Int)-i)=(bi:Int):=by rw [bY (by omega) (by omega)]; omega
 have w1:aJ.wrap ((i:Int)+1)=((i+1:Nat):Int):=by rw [bY (by omega) (by omega)]; omega
 rw [hbi] at hQ
 have key:gF (Dn.Call Γ cx) cx c132_k9 [(0,.sl W.q 0 n 32),(1,I a),(2,I b),(3,W.fn),(9,I i),(10,I t),(104,B (decide (2≤(bi:Int))))] σ Q:=by
  by_cases h2:2≤bi
  ·have h2':(2:Int)≤bi:=by omega
   rw [if_pos h2] at hQ
   simp [h2,h2',c132_k9,w1]
   exact aIE (j:=i+1) h hn (by omega) (by omega) hb hN fun s j' y w hy hto=>hQ s _ (.inr ⟨j',y,w,hy,rfl⟩) hto
  ·have h2' : ¬ (2:Int)≤bi:=by omega
   rw [if_neg h2] at hQ
   simp [h2,h2',c132_k9]
   exact hQ σ _ (.inl rfl) (To.refl h)
 rcases htl with rfl | ⟨j',y,w,rfl | rfl,rfl⟩
 all_goals
  simp only [dO,dF,GB,aM,aI,aG,dA,eW,cE,dZ,cS,cK,dY,dX,eM,eP,eS,cM,cW,cX,eN,fD,gD,fQ,fB,dK,fC,gE,cJ,cY,cZ,dN,eB,eC,gA,eR,eE,eF,eD,cL,cU,cV,fZ,i_p,dU,fY,eA,eV,dW,eU,dV,eX,gC,t_p,eY,eH,gB,eJ,cT,eZ,eI,eG,gM,aE,aH,dC,dM,fP,fO,fR,gR,Opd.ev,Env.get,Env.set,Env.pick,eK,dE,cB,eO,eQ,cF,dD,dG,gO,eL,Res.ev,fL,cN,dI,gS,fN,fW,fX,gW,fT,fU,fV,cx,Dn.newObj,St.place,St.push,St.spot,St.empty,eT,dP,cO,cR,dS,dQ,dT,cQ,dR,cP,loadAt,cH,dL,cI,bZ,ofD,splice,St.setObj,fE,c132_k10]
  simp [e1]
  simpa using key

theorem aG5 {W:Cm} {σ:St}{n a b i t:Nat}{d:Array Hs}(h:At W σ d)(hn:d.size=n)(hai:a<i)(hib:i<b)(hb:b≤n)(hN:n≤1000000){Q:gT}
  (hQ : ∀ (s:St) (tl:Env),TlE tl→To W σ (let d:=swp d i (i-1); let d:=if i-a≥2 then shiftDown W.lt (i-1) d else d; if b-i≥2 then shiftUp W.lt b (i+1) d else d) s→Q .normal ((0,.sl W.q 0 n 32)::(1,I a)::(2,I b)::(3,W.fn)::(9,I i)::(10,I t)::tl) s) :
  gF (Dn.Call Γ cx) cx c132_k21 [(0,.sl W.q 0 n 32),(1,I a),(2,I b),(3,W.fn),(9,I i),(10,I t),(45,B false)] σ Q:=by
 obtain⟨i',rfl⟩ : ∃ i',i=i'+1:=⟨i-1,by omega⟩
 have hsw:=h.sw (i:=i'+1) (j:=i') (by omega) (by omega)
 have e1:aJ.wrap (((i'+1:Nat):Int)-1)=(i':Nat):=by rw [bY (by omega) (by omega)]; omega
 have ia1:=fun σ=>gG σ (q:=W.q) (n:=n) (i:=i'+1) (by omega)
 have ia2:=fun σ=>gG σ (q:=W.q) (n:=n) (i:=i') (by omega)
 simp only at hQ
 rw [show i'+1-1=i' by omega] at hQ
 obtain⟨i,hid⟩ : ∃ i,i'+1=i:=⟨_,rfl⟩
 rw [hid] at hsw e1 ia1 hQ hai hib ⊢
 obtain⟨ia,hia⟩ : ∃ ia,i-a=ia:=⟨_,rfl⟩
 have e2:aJ.wrap ((i:Int)-a)=(ia:Int):=by rw [bY (by omega) (by omega)]; omega
 rw [hia] at hQ
 simp only [c132_k21,fQ]
 refine gP (fun _=>.rd) [] (by decide +kernel) ?_
 simp only [dB]
 simp [-splice,-loadAt,e1,ia1,ia2,hsw.o,hsw.ai,hsw.aj]
 simp [-splice,-loadAt,hsw.l1,hsw.i1,hsw.s1,hsw.st,hsw.l2,hsw.j1,hsw.s2]
 have hto:To W σ (swp d i i') ⟨σ.objs.set W.q (.cells (ar (swp d i i'))),σ.toks⟩:=To.set h
 have hn2:(swp d i i').size=n:=by rw [iQ,hn]
 generalize (⟨σ.objs.set W.q (.cells (ar (swp d i i'))),σ.toks⟩:St)=s1 at *
 generalize swp d i i'=d1 at *
 by_cases h2:2≤ia
 ·have h2':(2:Int)≤ia:=by omega
  rw [if_pos h2] at hQ
  simp [c132_k20,e2,h2,h2',c132_k19,e1]
  refine aFB hto.at hn2 (by omega) hN fun s2 j' y w hy hto2=>?_
  have hsz:(shiftDown W.lt i' d1).size=n:=by rw [mQ,hn2]
  simp only [cJ]
  exact aCZ hto2.at hsz hib hb hN (.inr ⟨j',y,w,hy,rfl⟩) fun s3 tl htl hto3=>hQ s3 tl htl ((hto.trans hto2).trans hto3)
 ·have h2' : ¬ (2:Int)≤ia:=by omega
  rw [if_neg h2] at hQ
  simp [c132_k20,e2,h2,h2',c132_k19]
  exact aCZ hto.at hn2 hib hb hN (.inl rfl) fun s3 tl htl hto3=>hQ s3 tl htl (hto.trans hto3)

def aGj (W:Cm)(n a b:Nat) (σ0:St)(d0:Array Hs)(m:Nat)(e:Env) (σ:St):Prop:=∃ (t i:Nat) (d:Array Hs),e=[(0,.sl W.q 0 n 32),(1,I a),(2,I b),(3,W.fn),(9,I i),(10,I t)]∧5-t=m∧t≤5∧a<i∧i≤b∧d.size=n∧To W σ0 d σ∧partialInsertionSort W.lt d0 a b=partialIns W.lt a b (5-t) i d

theorem aKt {W : Cm} {σ : St} {n a b : Nat} {d : Array Hs} (h : At W σ d) (hn : d.size = n) (hab : a < b) (hb : b ≤ n) (hN : n ≤ 1000000) :
    Dn.Call Γ cx .raw 132 [.sl W.q 0 n 32, I a, I b, W.fn] σ fun v s => v = B (partialInsertionSort W.lt d a b).2 ∧ To W σ (partialInsertionSort W.lt d a b).1 s := by
  refine Dn.Call.body (fc := c132) rfl ?_
  have e1 : aJ.wrap ((a : Int) + 1) = ((a + 1 : Nat) : Int) := by rw [bY (by omega) (by omega)]; omega
  simp [c132, c132_k35, e1, c132_k34, c132_k33]
  refine fK (aGj W n a b σ d) (m := 5) ⟨0, a + 1, d, rfl, rfl, by omega, by omega, by omega, hn, To.refl h, rfl⟩ ?_
  rintro m e s ⟨t, i, d1, rfl, rfl, ht, hai, hib, hn1, hto, heq⟩
  rcases ht5 : decide ((t : Int) < 5) with _ | _
  · have ht5' : ¬ (t : Int) < 5 := of_decide_eq_false ht5
    obtain rfl : t = 5 := by omega
    have hpe : partialIns W.lt a b (5 - 5) i d1 = (d1, false) := rfl
    rw [hpe] at heq
    simp [c132_l32, c132_k31]
    rw [heq]
    exact ⟨rfl, hto⟩
  have ht5' : (t : Int) < 5 := of_decide_eq_true ht5
  obtain ⟨t', ht'⟩ : ∃ t', 5 - t = t' + 1 := ⟨4 - t, by omega⟩
  rw [ht', Go.Sort.partialIns.eq_2] at heq
  simp [c132_l32, ht5', c132_k31, c132_k30, c132_k29]
  refine fK (aKZ W n a b i t s d1) (m := b - i) ⟨i, rfl, rfl, by omega, hib, rfl, rfl⟩ ?_
  rintro m e s ⟨k, rfl, rfl, hk, hkb, rfl, hsc⟩
  have hst := Go.Sort.scanSorted.eq_def W.lt d1 b k
  have hat := hto.at
  simp only [dO, dF, GB, aM, aI, aG, dA, eW, cE, dZ, cS, cK, dY, dX, eM, eP, eS, cM, cW, cX, eN, fD, gD, fQ, fB, dK, fC, gE, cJ, cY, cZ, dN, eB, eC, gA, eR, eE, eF, eD, cL, cU, cV, fZ, i_p, dU, fY, eA, eV, dW, eU, dV, eX, gC, t_p, eY, eH, gB, eJ, cT, eZ, eI, eG, gM, aE, aH, dC, dM, fP, fO, fR, gR, Opd.ev, Env.get, Env.set, Env.pick, eK, dE, cB, eO, eQ, cF, dD, dG, gO, eL, Res.ev, fL, cN, dI, gS, fN, fW, fX, gW, fT, fU, fV, cx, Dn.newObj, St.place, St.push, St.spot, St.empty, eT, dP, cO, cR, dS, dQ, dT, cQ, dR, cP, loadAt, cH, dL, cI, bZ, ofD, splice, St.setObj, fE, c132_l28]
  refine gP (fun _ => .rd) [] (by decide +kernel) ?_
  have fin : scanSorted W.lt d1 b k = k → gF (Dn.Call Γ cx) cx c132_k25 [(0, V.sl W.q 0 n 32), (1, I a), (2, I b), (3, W.fn), (9, I k), (10, I t), (41, B false)] s (pA 1
            (oC (Dn.Call Γ cx) cx c132_k0 (rS (aGj W n a b σ d) (5 - t) [0, 1, 2, 3, 9, 10] (pA 0 (oC (Dn.Call Γ cx) cx ((C.ops [8] [Ins.p (some 8) (POp.move (Opd.c (D.bool false)))]).seq C.ret) (tY Mode.raw σ [Res.tmp 8] fun v s' => v = B (partialInsertionSort W.lt d a b).2 ∧ To W σ (partialInsertionSort W.lt d a b).1 s')))))) := by
    intro hk2
    rw [hsc, hk2] at heq
    by_cases hkb2 : k = b
    · simp only [hkb2, if_true] at heq
      subst hkb2
      simp [c132_k25, c132_k24]
      rw [heq]
      exact ⟨rfl, hto⟩
    · have hkb' : ¬ ((k : Int) = b) := by omega
      simp only [hkb2, if_false] at heq
      have e2 : aJ.wrap ((b : Int) - a) = ((b - a : Nat) : Int) := by rw [bY (by omega) (by omega)]; omega
      obtain ⟨ba, hba⟩ : ∃ ba, b - a = ba := ⟨_, rfl⟩
      rw [hba] at e2 heq
      by_cases h50 : ba < 50
      · have h50' : (ba : Int) < 50 := by omega
        simp only [h50, if_true] at heq
        simp [hkb2, hkb', c132_k25, c132_k24, c132_k23, e2, h50, h50', c132_k22]
        rw [heq]
        exact ⟨rfl, hto⟩
      · have h50' : ¬ (ba : Int) < 50 := by omega
        simp only [h50, if_false] at heq
        simp [hkb2, hkb', c132_k25, c132_k24, c132_k23, e2, h50, h50', c132_k22]
        refine aG5 hat hn1 (by omega) (by omega) hb hN fun s2 tl htl hto2 => ?_
        have hs2 : (let d := swp d1 k (k - 1); let d := if k - a ≥ 2 then shiftDown W.lt (k - 1) d else d; if b - k ≥ 2 then shiftUp W.lt b (k + 1) d else d).size = n := by
          simp only
          split
          · rw [aB4 b _ _ _ rfl]
            split
            · rw [mQ, iQ, hn1]
            · rw [iQ, hn1]
          · split
            · rw [mQ, iQ, hn1]
            · rw [iQ, hn1]
        simp only at heq hto2 hs2
        generalize (if b - k ≥ 2 then shiftUp W.lt b (k + 1) (if k - a ≥ 2 then shiftDown W.lt (k - 1) (swp d1 k (k - 1)) else swp d1 k (k - 1)) else if k - a ≥ 2 then shiftDown W.lt (k - 1) (swp d1 k (k - 1)) else swp d1 k (k - 1)) = d2 at *
        have w1 : aJ.wrap ((t : Int) + 1) = ((t + 1 : Nat) : Int) := by rw [bY (by omega) (by omega)]; omega
        have hto3 := hto.trans hto2
        have hinv : ∃ m' < 5 - t, aGj W n a b σ d m' [(0, .sl W.q 0 n 32), (1, I a), (2, I b), (3, W.fn), (9, I k), (10, I (t + 1 : Nat))] s2 := ⟨5 - (t + 1), by omega, t + 1, k, d2, rfl, rfl, by omega, by omega, by omega, hs2, hto3, by rw [heq, show 5 - (t + 1) = t' by omega]⟩
        rcases htl with rfl | ⟨j', y, w, rfl | rfl, rfl⟩
        all_goals
          simp [c132_k0, w1]
          exact hinv
  by_cases hkb3 : k < b
  · obtain ⟨k', rfl⟩ : ∃ k', k = k' + 1 := ⟨k - 1, by omega⟩
    have hsw := hat.sw (i := k' + 1) (j := k') (by omega) (by omega)
    have e2 : aJ.wrap (((k' + 1 : Nat) : Int) - 1) = (k' : Nat) := by rw [bY (by omega) (by omega)]; omega
    have ia1 := fun σ => gG σ (q := W.q) (n := n) (i := k' + 1) (by omega)
    have ia2 := fun σ => gG σ (q := W.q) (n := n) (i := k') (by omega)
    rw [show k' + 1 - 1 = k' by omega] at hst
    obtain ⟨k, hk1⟩ : ∃ k, k' + 1 = k := ⟨_, rfl⟩
    rw [hk1] at hsw e2 ia1 hst hsc hkb hkb3 hk fin ⊢
    simp [-loadAt, dB, hkb3, e2, ia1, ia2, hsw.o, hsw.ai, hsw.aj]
    refine lH rfl (At.cmp (by assumption) _ _) ?_
    cases hl : W.lt d1[k]! d1[k']! with
    | false =>
      simp only [hl, hkb3, decide_true, Bool.not_false, Bool.and_self, if_true] at hst
      simp [hl, c132_k27, c132_k26, bY (n := (k : Int) + 1) (by omega) (by omega)]
      exact ⟨b - (k + 1), by omega, k + 1, rfl, rfl, by omega, by omega, rfl, hsc.trans hst⟩
    | true =>
      simp only [hl, hkb3, decide_true, Bool.not_true, Bool.and_false, aP, if_false] at hst
      simp [hl, c132_k27]
      exact fin hst
  · simp only [hkb3, decide_false, Bool.false_and, aP, if_false] at hst
    simp [-loadAt, dB, hkb3, c132_k27]
    exact fin hst

abbrev Wd (x:W64):V:=.d (.int .u64 (un x))
def xs (x:W64):W64 :=
 let x:=x^^^(x <<< 13)
 let x:=x^^^(x >>> 7)
 x^^^(x <<< 17)
theorem aKj {σ:St}{p:Nat}{x:W64}(hp:σ.objs[p]?=some (.cells [Wd x])):Dn.Call Γ cx .raw 141 [.ref p 0] σ fun v s=>v=Wd (xs x)∧s=⟨σ.objs.set p (.cells [Wd (xs x)]),σ.toks⟩:=by
 refine Dn.Call.body (fc:=c141) rfl ?_
 have hpl:p<σ.objs.length:=(aB.1 hp).1
 have hst : ∀ o:Dn.Obj,(σ.objs.set p o)[p]?=some o:=fun o=>by simp [hpl]
 have s1 : ∀ x:W64,bL.wrap (un x*(8192:Int))=un (x <<< 13):=fun x=>shl_u64 x 13
 have s2 : ∀ x:W64,un x / (128:Int)=un (x >>> 7):=fun x=>shr_u64 x 7
 have s3 : ∀ x:W64,bL.wrap (un x*(131072:Int))=un (x <<< 17):=fun x=>shl_u64 x 17
 simp [c141,c141_k3]
 refine gP (fun _=>.rd) [] (by decide +kernel) ?_
 simp [dB,gQ,hp,iM,IntKind.bits,s1,xor_u64,c141_k2]
 refine gP (fun _=>.rd) [] (by decide +kernel) ?_
 simp [dB,gQ,hst,iM,IntKind.bits,s2,xor_u64,c141_k1]
 refine gP (fun _=>.rd) [] (by decide +kernel) ?_
 simp [dB,gQ,hst,iM,IntKind.bits,s3,xor_u64,c141_k0]
 exact⟨rfl,rfl⟩

def tab:List UInt8:=[0,1,2,2,3,3,3,3]++aD 8 4++aD 16 5++aD 32 6++aD 64 7++aD 128 8
theorem aKE : ∀ x:Fin 256,tab[x.1]?=some (UInt8.ofNat (bitsLen x.1)):=by decide +kernel
theorem yL : ∀ x:Fin 256,bitsLen x.1≤8:=by decide +kernel

theorem aIP {x:Nat}(h:x<256):Dn.Call Γ cx .val 136 [.d (.int .u64 x)] St.empty fun v _=>v=I (bitsLen x):=by
 refine Dn.Call.body (fc:=c136) rfl ?_
 have h1 : ¬ (4294967296:Int)≤x:=by omega
 have h2 : ¬ (65536:Int)≤x:=by omega
 have h3 : ¬ (256:Int)≤x:=by omega
 have ht:=aKE ⟨x,h⟩
 have hb:=yL ⟨x,h⟩
 simp only at ht hb
 have e1:IntKind.u8.wrap (x:Int)=(x:Int):=by rw [wrap_u8n]; omega
 have e2:(UInt8.ofNat (bitsLen x)).toNat=bitsLen x:=by simp [UInt8.toNat_ofNat]; omega
 have e3:aJ.wrap (0+(bitsLen x:Int))=bitsLen x:=by rw [bY (by omega) (by omega)]; omega
 have e4:aJ.wrap ((bitsLen x:Int))=bitsLen x:=by rw [bY (by omega) (by omega)]
 have htab : ∀ b,b=tab→pX (.d (.str b)) (.d (.int .u8 (x:Int)))=some (.d (.int .u8 (bitsLen x))):=by
  rintro b rfl
  simp only [pX,jX,Int.toNat_natCast,ht,e2]
  simp
 have hk0:c136_k0 = .seq (.ops [2] [.p (some 19) (.move (.t 2)),
  .p (some 20) (.move (.t 0)),
  .p (some 21) (.conv (.int .u8) (.t 20)),
  .p (some 22) (.indexStr (.c (.str tab)) (.t 21)),
  .p (some 23) (.conv (.int .i64) (.t 22)),
  .p (some 24) (.bin .add .int [] (.t 19) (.t 23)),
  .p (some 2) (.move (.t 24))]) (.ret):=by kernel_rfl
 have htb:=htab _ rfl
 simp [c136,c136_k8,h1,c136_k7,c136_k6,h2,c136_k5,c136_k3,h3,c136_k2,hk0,e1,htb,e3,e4]

theorem aHq {x:Nat}(h:x<256):Dn.Call Γ cx .val 117 [.d (.int .u64 x)] St.empty fun v _=>v=I (bitsLen x):=by
 refine Dn.Call.body (fc:=c117) rfl ?_
 simp [c117,c117_k1,c117_k0]
 refine gI rfl (aIP h) rfl ?_
 simp

theorem aLq {x:Nat}(h:x<256):Dn.Call Γ cx .val 140 [I x] St.empty fun v _=>v = .d (.int .u64 ((2 ^ bitsLen x:Nat):Int)):=by
 refine Dn.Call.body (fc:=c140) rfl ?_
 have e1:bL.wrap (x:Int)=x:=lZ (by omega) (by omega)
 simp [c140,c140_k0,e1]
 refine gI rfl (aHq h) rfl ?_
 have hb:=yL ⟨x,h⟩
 simp only at hb
 generalize bitsLen x=k at *
 have hp:2 ^ k≤2 ^ 8:=Nat.pow_le_pow_right (by decide) hb
 obtain⟨w,hw⟩ : ∃ w:Nat,2 ^ k=w:=⟨_,rfl⟩
 have hwi:(2 ^ k:Int)=(w:Int):=by rw [← hw]; simp
 rw [hw] at hp
 have e2:bL.wrap (w:Int)=w:=lZ (by omega) (by omega)
 simp [iM,IntKind.bits,show min k 64=k by omega,hwi,e2,show ¬ (k:Int)<0 by omega]

attribute [local simp] oG Cm.cmp_lt Cm.fn
open Go.Sort (swp xorNext breakStep breakPatterns bitsLen)

def brk (a l md idx:Nat)(st:UInt64×Array Hs):Nat→UInt64×Array Hs
 | 0=>st
 | t+1=>breakStep a l md (brk a l md idx st t) (idx+t)

def aI8 (W:Cm)(n a l md idx p:Nat) (σ0:St)(d0:Array Hs)(m:Nat)(e:Env) (σ:St):Prop:=∃ (t k:Nat) (x:W64) (d:Array Hs),e=[(0,.sl W.q 0 n 32),(1,I a),(8,I l),(9,.ref p 0),(10,.d (.int .u64 md)),(11,I k)]∧m=3-t∧k=idx+t∧t≤3∧d.size=n ∧
 σ.objs[W.q]?=some (.cells (ar d))∧σ.objs[p]?=some (.cells [Wd x])∧Fr [W.q] σ0 σ∧σ.toks=σ0.toks∧brk a l md idx (UInt64.ofNat l,d0) t=(UInt64.ofBitVec x,d)

theorem aJV (x y:Nat)(h:0<y):x&&&(y-1)<y:=by
 have:x&&&(y-1)≤y-1:=Nat.and_le_right
 omega

theorem aIU {W:Cm} {σ:St}{n a b:Nat}{d:Array Hs}(h:At W σ d)(hn:d.size=n)(hab:a≤b)(hb:b≤n)(hN:n≤90) :
  Dn.Call Γ cx .raw 129 [.sl W.q 0 n 32,I a,I b,W.fn] σ fun _ s=>To W σ (breakPatterns d a b) s:=by
 refine Dn.Call.body (fc:=c129) rfl ?_
 obtain⟨l,hl⟩ : ∃ l,b-a=l:=⟨_,rfl⟩
 have e0:aJ.wrap ((b:Int)-a)=(l:Int):=by rw [bY (by omega) (by omega)]; omega
 simp [c129,e0,c129_k13]
 unfold breakPatterns
 simp only [hl]
 by_cases h8:8≤l
 rotate_left
 ·have h8' : ¬ (8:Int)≤l:=by omega
  simp [h8',h8,c129_k12]
  exact To.refl h
 have h8':(8:Int)≤l:=by omega
 simp only [ge_iff_le,h8,if_true]
 have u1:bL.wrap (l:Int)=(l:Int):=lZ (by omega) (by omega)
 simp [h8',c129_k12,c129_k11,u1]
 simp [c129_k10]
 refine gI rfl (aLq (x:=l) (by omega)) rfl ?_
 have hp2:2 ^ bitsLen l≤2*l∧0<2 ^ bitsLen l:=by
  unfold bitsLen
  rw [if_neg (by omega),Nat.pow_succ]
  have:=Nat.log2_self_le (n:=l) (by omega)
  exact⟨by omega,by have:=Nat.two_pow_pos (Nat.log2 l); omega⟩
 rw [Nat.one_shiftLeft]
 generalize 2 ^ bitsLen l=md at *
 obtain⟨idx,hidx⟩ : ∃ idx,a+l / 4*2-1=idx:=⟨_,rfl⟩
 have e1:aJ.wrap ((l:Int) / 4)=((l / 4:Nat):Int):=by rw [bY (by omega) (by omega)]; omega
 have e3:aJ.wrap (((l / 4:Nat):Int)*2)=((l / 4*2:Nat):Int):=by rw [bY (by omega) (by omega)]; omega
 have e5:aJ.wrap ((a:Int)+(l / 4*2:Nat))=((a+l / 4*2:Nat):Int):=by rw [bY (by omega) (by omega)]; omega
 have bx:idx+3≤n∧a+l / 4*2=idx+1:=by omega
 rw [hidx]
 rw [bx.2] at e5
 generalize l / 4*2=x2 at *
 generalize l / 4=x4 at *
 have e6:aJ.wrap (((idx+1:Nat):Int)-1)=(idx:Int):=by rw [bY (by omega) (by omega)]; omega
 have e7:aJ.wrap (((idx+1:Nat):Int)+1)=((idx+2:Nat):Int):=by rw [bY (by omega) (by omega)]; omega
 obtain⟨i1,hi1⟩ : ∃ i1,idx+1=i1:=⟨_,rfl⟩
 obtain⟨i2,hi2⟩ : ∃ i2,idx+2=i2:=⟨_,rfl⟩
 have hbr:(breakStep a l md (breakStep a l md (breakStep a l md (UInt64.ofNat l,d) idx) (idx+1)) (idx+2)).2=(brk a l md idx (UInt64.ofNat l,d) 3).2:=rfl
 rw [hbr]
 clear hbr
 rw [hi1] at e5 e6 e7
 rw [hi2] at e7
 simp [e1,e3,e5,c129_k9,e6,c129_k8]
 have hql:=h.lt
 have hqp:W.q≠σ.objs.length:=by omega
 have hpn:(σ.objs++[Dn.Obj.cells [V.d (D.int bL (l:Int))]])[σ.objs.length]?=some (.cells [Wd (BitVec.ofNat 64 l)]):=by
  have:un (BitVec.ofNat 64 l)=(l:Int):=by
   simp only [un,BitVec.toNat_ofNat]
   rw [Nat.mod_eq_of_lt (by omega)]
  simp [this]
 refine fK (aI8 W n a l md idx σ.objs.length σ d) (m:=3) ⟨0,idx,BitVec.ofNat 64 l,d,rfl,rfl,rfl,by omega,hn,?_,hpn,?_,rfl,rfl⟩ ?_
 ·simp only
  rw [aC hql]
  exact h.obj
 ·exact⟨by simp,fun r _ hr=>by simp [aC hr]⟩
 rintro m e s ⟨t,k,x,d1,rfl,rfl,hk,ht,hn1,hq,hp,hfr,htk,heq⟩
 simp [c129_l7,e1,e3,e5,e7]
 obtain⟨p,hpdef⟩ : ∃ p,σ.objs.length=p:=⟨_,rfl⟩
 rw [hpdef] at hp hqp ⊢
 by_cases ht3:t<3
 rotate_left
 ·obtain rfl:t=3:=by omega
  have : ¬ k≤i2:=by omega
  simp [this,c129_k6]
  rw [heq]
  exact⟨⟨hq,h.b.trans hfr,h.ok⟩,hfr,htk⟩
 have hki:k≤i2:=by omega
 simp [hki,c129_k6,c129_k5,c129_k4]
 refine fF (aKj hp) fun v s2 ⟨hv,hs2⟩=>?_
 subst hv
 have hpl:p<s.objs.length:=(aB.1 hp).1
 have hq2:s2.objs[W.q]?=some (.cells (ar d1)):=by rw [hs2]; simp only; rw [aF (by omega)]; exact hq
 have hp2':s2.objs[p]?=some (.cells [Wd (xs x)]):=by rw [hs2]; simp [hpl]
 have htk2:s2.toks=s.toks:=by rw [hs2]
 have hlen2:s2.objs.length=s.objs.length:=by rw [hs2]; simp
 have hoth : ∀ r,r≠p→s2.objs[r]?=s.objs[r]?:=fun r hr=>by rw [hs2]; simp only; rw [aF (by omega)]
 clear hs2
 have hst:brk a l md idx (UInt64.ofNat l,d) (t+1)=(UInt64.ofBitVec (xs x),swp d1 k (a+(if (xs x).toNat&&&(md-1)≥l then((xs x).toNat&&&(md-1))-l else(xs x).toNat&&&(md-1)))):=by
  rw [brk,heq,hk]
  rfl
 have m1:bL.wrap ((md:Int)-1)=((md-1:Nat):Int):=by rw [lZ (by omega) (by omega)]; omega
 have hand:bits .and .u64 (un (xs x)) ((md-1:Nat):Int)=(((xs x).toNat&&&(md-1):Nat):Int):=by
  have:((md-1:Nat):Int)=un (BitVec.ofNat 64 (md-1)):=by
   simp only [un,BitVec.toNat_ofNat]
   rw [Nat.mod_eq_of_lt (by omega)]
  rw [this,and_u64]
  simp only [un,BitVec.toNat_and,BitVec.toNat_ofNat]
  rw [Nat.mod_eq_of_lt (by omega)]
 have hol:=aJV (xs x).toNat md hp2.2
 generalize md-1=md1 at *
 generalize (xs x).toNat&&&md1=o at *
 have w1:aJ.wrap (o:Int)=o:=bY (by omega) (by omega)
 have w2:aJ.wrap ((o:Int)-l)=(o:Int)-l:=bY (by omega) (by omega)
 have w4:aJ.wrap ((k:Int)+1)=((k+1:Nat):Int):=by rw [bY (by omega) (by omega)]; omega
 simp [m1,hand,w1,c129_k3]
 have fin : ∀ o2:Nat,o2<l→brk a l md idx (UInt64.ofNat l,d) (t+1)=(UInt64.ofBitVec (xs x),swp d1 k (a+o2))→∀ tl,tl=[]∨tl=[(45,B false)]→gF (Dn.Call Γ cx) cx c129_k1 ((0,.sl W.q 0 n 32)::(1,I a)::(8,I l)::(9,.ref p 0)::(10,.d (.int .u64 md))::(11,I k)::(12,I o2)::tl) s2
   (pA 1 (oC (Dn.Call Γ cx) cx c129_k0 (rS (aI8 W n a l md idx p σ d) (3-t) [0,1,8,9,10,11] (pA 0 (tY Mode.raw σ [] fun x s=>To W σ (brk a l md idx (UInt64.ofNat l,d) 3).snd s))))):=by
  intro o2 ho2 hbk tl htl
  have hat:At W s2 d1:=⟨hq2,h.b.trans ⟨by rw [hlen2]; exact hfr.len,fun r hr hl=>by rw [hoth r (by omega)]; exact hfr.at_ r hr hl⟩,h.ok⟩
  have hsw:=hat.sw (i:=k) (j:=a+o2) (by omega) (by omega)
  have ia1:=fun σ=>gG σ (q:=W.q) (n:=n) (i:=k) (by omega)
  have ia2:=fun σ=>gG σ (q:=W.q) (n:=n) (i:=a+o2) (by omega)
  have w3:aJ.wrap ((a:Int)+o2)=((a+o2:Nat):Int):=by rw [bY (by omega) (by omega)]; omega
  have hle:a+o2<n:=by omega
  generalize a+o2=y at *
  simp only [c129_k1]
  refine gP (fun _=>.rd) [] (by decide +kernel) ?_
  rcases htl with rfl | rfl
  all_goals
   simp [-splice,-loadAt,dB,w3,ia1,ia2,hsw.o,hsw.ai,hsw.aj]
   simp [-splice,-loadAt,hsw.l1,hsw.i1,hsw.s1,hsw.st,hsw.l2,hsw.j1,hsw.s2,c129_k0,w4]
   refine⟨3-(t+1),by omega,t+1,k+1,xs x,_,rfl,rfl,by omega,by omega,by rw [iQ,hn1],hsw.st _,?_,?_,htk2.trans htk,hbk⟩
   ·simp only
    rw [aF (by omega)]
    exact hp2'
   ·refine⟨by simp [hlen2]; exact hfr.len,fun r hr hl=>?_⟩
    simp only
    rw [aF (fun e=>hr (by simp [e]))]
    rw [hoth r (by omega)]
    exact hfr.at_ r hr hl
 by_cases hol2:l≤o
 ·have hb2:o-l<l:=by omega
  have w2':aJ.wrap ((o:Int)-l)=((o-l:Nat):Int):=by rw [w2]; omega
  rw [if_pos hol2] at hst
  have:=fin (o-l) hb2 hst [] (.inl rfl)
  generalize o-l=o3 at *
  simp [hol2,c129_k2,w2']
  exact this
 ·rw [if_neg hol2] at hst
  simp [hol2,c129_k2]
  exact fin o (by omega) hst _ (.inr rfl)

attribute [local simp] oG Cm.cmp_lt Cm.fn
open Go.Sort (swp PermIn SortedIn Below partition partitionEqual choosePivot breakPatterns bitsLen Hint)

structure Rnd (σ:St)(W:Cm)(n a b:Nat)(d:Array Hs)(Q1:gT):Prop where
 ret : ∀ (e:Env) (s:St) (R:Array Hs),To W σ R s→PermIn a b d R→SortedIn W.lt a b R→Q1 .ret e s
 go : ∀ (a' b' l':Nat) (wb wp:Bool) (d':Array Hs) (s:St),To W σ d' s→a'≤b'→b'≤n→b'-a'<b-a→d'.size=n→l'≤1000→Below W.lt a' b' d' →
  (∀ R,PermIn a' b' d' R→SortedIn W.lt a' b' R→PermIn a b d R∧SortedIn W.lt a b R)→Q1 .normal [(0,.sl W.q 0 n 32),(1,I a'),(2,I b'),(3,I l'),(4,W.fn),(10,B wb),(11,B wp)] s

def Ih (W:Cm)(n m:Nat):Prop:=∀ (σ:St) (a b l:Nat) (d:Array Hs),b-a<m→At W σ d→d.size=n→a≤b→b≤n→l≤1000→Below W.lt a b d →
 Dn.Call Γ cx .raw 116 [.sl W.q 0 n 32,I a,I b,I l,W.fn] σ fun _ s=>∃ R,To W σ R s∧PermIn a b d R∧SortedIn W.lt a b R

attribute [local irreducible] Go.Sort.partition Go.Sort.partitionEqual Go.Sort.partialInsertionSort Go.Sort.insertionSort Go.Sort.heapSort Go.Sort.reverseRange Go.Sort.breakPatterns Go.Sort.choosePivot

theorem aLJ {W:Cm} {σ:St}{n a b l pv lim:Nat}{d d3:Array Hs}{wb wp:Bool}{Q1:gT}{s:St}(hR:Rnd σ W n a b d Q1)(ih:Ih W n (b-a))(hto:To W σ d3 s)(hn3:d3.size=n)(hP:PermIn a b d d3)(hB:Below W.lt a b d3)
  (hl:b-a=l) (hN:n≤90) (hb:b≤n) (h1:a≤pv) (h2:pv<b) (hlim:lim≤1000) :
  gF (Dn.Call Γ cx) cx c116_k10 [(0,.sl W.q 0 n 32),(1,I a),(2,I b),(3,I lim),(4,W.fn),(10,B wb),(11,B wp),(12,I l),(13,I pv),(97,B false)] s Q1:=by
 simp -implicitDefEqProofs [c116_k10]
 refine fF (aKs hto.at hn3 h1 h2 hb (by omega)) fun v s4 ⟨hv,ht4⟩=>?_
 rcases hx:partition W.lt d3 a b pv with⟨mid,ap,d4⟩
 rw [hx] at hv ht4
 have hb3:b≤d3.size:=by omega
 have swo:=hto.at.ok.1
 have hpt:=Go.Sort.partition_holds W.lt
 have hm:=Go.Sort.round_part swo hpt h1 h2 hb3 hB hx
 obtain⟨m1,m2,m3,m4,m5,m6,m7⟩:=hm
 have ht4':=hto.trans ht4
 have hn4:d4.size=n:=by rw [m3,hn3]
 have e1:aJ.wrap ((mid:Int)-a)=((mid-a:Nat):Int):=by rw [bY (by omega) (by omega)]; omega
 have e2:aJ.wrap ((b:Int)-mid)=((b-mid:Nat):Int):=by rw [bY (by omega) (by omega)]; omega
 have e3:aJ.wrap ((mid:Int)+1)=((mid+1:Nat):Int):=by rw [bY (by omega) (by omega)]; omega
 have e4:aJ.wrap ((l:Int) / 8)=((l / 8:Nat):Int):=by rw [bY (by omega) (by omega)]; omega
 obtain⟨lf,hlf⟩ : ∃ lf,mid-a=lf:=⟨_,rfl⟩
 obtain⟨rt,hrt⟩ : ∃ rt,b-mid=rt:=⟨_,rfl⟩
 obtain⟨th,hth⟩ : ∃ th,l / 8=th:=⟨_,rfl⟩
 obtain⟨mi,hmi⟩ : ∃ mi,mid+1=mi:=⟨_,rfl⟩
 rw [hlf] at e1
 rw [hrt] at e2
 rw [hmi] at e3
 rw [hth] at e4
 subst hv
 simp -implicitDefEqProofs [c116_k9,c116_k8,e1,e2,c116_k7,e4,c116_k6]
 by_cases hlr:lf<rt
 ·simp -implicitDefEqProofs [hlr,c116_k5,c116_k2,c116_k1]
  refine fF (ih s4 a mid lim d4 (by omega) ht4.at hn4 m1 (by omega) hlim m4) fun v s5 ⟨L,hL,pL,sL⟩=>?_
  simp -implicitDefEqProofs [c116_k0,e3]
  obtain⟨n1,n2⟩:=m6 L pL sL
  rw [hmi] at n1 n2
  exact hR.go mi b lim _ ap L s5 (ht4'.trans hL) (by omega) hb (by omega) (by rw [pL.1,hn4]) hlim n1 fun R pR sR=>⟨Go.Sort.permIn_trans _ _ _ a b hP (n2 R pR sR).1,(n2 R pR sR).2⟩
 ·simp -implicitDefEqProofs [hlr,c116_k5,c116_k4,c116_k3,e3]
  rw [hmi] at m5 m7
  refine fF (ih s4 mi b lim d4 (by omega) ht4.at hn4 (by omega) hb hlim m5) fun v s5 ⟨L,hL,pL,sL⟩=>?_
  simp -implicitDefEqProofs
  obtain⟨n1,n2⟩:=m7 L pL sL
  exact hR.go a mid lim _ ap L s5 (ht4'.trans hL) m1 (by omega) (by omega) (by rw [pL.1,hn4]) hlim n1 fun R pR sR=>⟨Go.Sort.permIn_trans _ _ _ a b hP (n2 R pR sR).1,(n2 R pR sR).2⟩

theorem aLt {W:Cm} {σ:St}{n a b l pv lim:Nat}{d d3:Array Hs}{wb wp:Bool}{Q1:gT}{s:St}{tl:Env}(htl:tl=[(80,B false)]∨tl=[(75,B false)])(hR:Rnd σ W n a b d Q1)(ih:Ih W n (b-a))(hto:To W σ d3 s)(hn3:d3.size=n)(hP:PermIn a b d d3)(hB:Below W.lt a b d3)
  (hl:b-a=l) (hN:n≤90) (hb:b≤n) (h1:a≤pv) (h2:pv<b) (hlim:lim≤1000) :
  gF (Dn.Call Γ cx) cx c116_k13 ((0,.sl W.q 0 n 32)::(1,I a)::(2,I b)::(3,I lim)::(4,W.fn)::(10,B wb)::(11,B wp)::(12,I l)::(13,I pv)::tl) s (pA 1 Q1):=by
 simp only [dO,dF,GB,aM,aI,aG,dA,eW,cE,dZ,cS,cK,dY,dX,eM,eP,eS,cM,cW,cX,eN,fD,gD,fQ,fB,dK,fC,gE,cJ,cY,cZ,dN,eB,eC,gA,eR,eE,eF,eD,cL,cU,cV,fZ,i_p,dU,fY,eA,eV,dW,eU,dV,eX,gC,t_p,eY,eH,gB,eJ,cT,eZ,eI,eG,gM,aE,aH,dC,dM,fP,fO,fR,gR,Opd.ev,Env.get,Env.set,Env.pick,eK,dE,cB,eO,eQ,cF,dD,dG,gO,eL,Res.ev,fL,cN,dI,gS,fN,fW,fX,gW,fT,fU,fV,cx,Dn.newObj,St.place,St.push,St.spot,St.empty,eT,dP,cO,cR,dS,dQ,dT,cQ,dR,cP,loadAt,cH,dL,cI,bZ,ofD,splice,St.setObj,fE,c116_k13]
 refine gP (fun _=>.rd) [] (by decide +kernel) ?_
 have hat:=hto.at
 have swo:=hat.ok.1
 have hR':Rnd σ W n a b d (pA 1 Q1):=⟨hR.ret,hR.go⟩
 have rest:=aLJ hR' ih hto hn3 hP hB hl hN hb h1 h2 hlim (wb:=wb) (wp:=wp)
 by_cases ha0:0<a
 ·obtain⟨a',rfl⟩ : ∃ a',a=a'+1:=⟨a-1,by omega⟩
  have e1:aJ.wrap (((a'+1:Nat):Int)-1)=(a':Nat):=by rw [bY (by omega) (by omega)]; omega
  have hsw:=hat.sw (i:=a') (j:=pv) (by omega) (by omega)
  have ia1:=fun σ=>gG σ (q:=W.q) (n:=n) (i:=a') (by omega)
  have ia2:=fun σ=>gG σ (q:=W.q) (n:=n) (i:=pv) (by omega)
  obtain⟨a,hadef⟩ : ∃ a,a'+1=a:=⟨_,rfl⟩
  have haa:a-1=a':=by omega
  rw [hadef] at e1 hR hR' ih hP hB hl h1 rest ha0 ⊢
  have ha0':(0:Int)<a:=by omega
  rcases htl with rfl | rfl
  all_goals
   simp -implicitDefEqProofs [-loadAt,dB,ha0',ha0,e1,ia1,ia2,hsw.o,hsw.ai,hsw.aj]
   refine lH rfl (At.cmp (by assumption) _ _) ?_
   cases hlt:W.lt d3[a']! d3[pv]! with
   | true =>
    simp -implicitDefEqProofs [hlt,c116_k12]
    exact rest
   | false =>
    simp -implicitDefEqProofs [hlt,c116_k12]
    refine fF (aHx hat hn3 h1 h2 hb (by omega)) fun v s4 ⟨hv,ht4⟩=>?_
    rcases hx:partitionEqual W.lt d3 a b pv with⟨mid,d4⟩
    rw [hx] at hv ht4
    subst hv
    obtain⟨m1,m2,m3,m4,m5⟩:=Go.Sort.round_eq swo (Go.Sort.partitionEqual_holds W.lt) ha0 h1 h2 (by omega) hB (by rw [haa]; exact hlt) hx
    simp -implicitDefEqProofs [c116_k11]
    exact hR.go mid b lim wb wp d4 s4 (hto.trans ht4) m2 hb (by omega) (by rw [m3,hn3]) hlim m4 fun R pR sR=>⟨Go.Sort.permIn_trans _ _ _ a b hP (m5 R pR sR).1,(m5 R pR sR).2⟩
 ·obtain rfl:a=0:=by omega
  rcases htl with rfl | rfl
  all_goals
   simp -implicitDefEqProofs [-loadAt,dB,c116_k12]
   exact rest

theorem aLu {W:Cm} {σ:St}{n a b l pv lim:Nat}{d d3:Array Hs}{wb wp:Bool}{hi:Int}{Q1:gT}{s:St}{tl:Env}(htl:tl=[]∨tl=[(56,B false)])(hR:Rnd σ W n a b d Q1)(ih:Ih W n (b-a))(hto:To W σ d3 s)(hn3:d3.size=n)(hP:PermIn a b d d3)(hB:Below W.lt a b d3)
  (hl:b-a=l) (hN:n≤90) (hb:b≤n) (h1:a≤pv) (h2:pv<b) (hlim:lim≤1000) :
  gF (Dn.Call Γ cx) cx c116_k16 ((0,.sl W.q 0 n 32)::(1,I a)::(2,I b)::(3,I lim)::(4,W.fn)::(10,B wb)::(11,B wp)::(12,I l)::(13,I pv)::(14,I hi)::tl) s (pA 1 Q1):=by
 have rest:=fun(tl:Env) (htl:tl=[(80,B false)]∨tl=[(75,B false)])=>aLt (wb:=wb) (wp:=wp) htl hR ih hto hn3 hP hB hl hN hb h1 h2 hlim
 have rest2:=fun(tl:Env) (htl:tl=[(80,B false)]∨tl=[(75,B false)]) (s4:St) (d4:Array Hs) (hto4:To W σ d4 s4) (hn4:d4.size=n) (hP4:PermIn a b d d4) (hB4:Below W.lt a b d4)=>aLt (wb:=true) (wp:=true) htl hR ih hto4 hn4 hP4 hB4 hl hN hb h1 h2 hlim
 by_cases hg:wb=true∧wp=true∧hi=1
 ·obtain⟨rfl,rfl,rfl⟩:=hg
  have swo:=hto.at.ok.1
  have hps:=Go.Sort.partialInsertionSort_holds swo d3 a b (by omega) (by omega) hB
  rcases htl with rfl | rfl
  all_goals
   simp -implicitDefEqProofs [c116_k16,c116_k15]
   refine fF (aKt hto.at hn3 (by omega) hb (by omega)) fun v s4 ⟨hv,ht4⟩=>?_
   subst hv
   have hP4:=Go.Sort.permIn_trans _ _ _ a b hP hps.1
   have hn4:(Go.Sort.partialInsertionSort W.lt d3 a b).1.size=n:=by rw [hps.1.1,hn3]
   have hB4:Below W.lt a b (Go.Sort.partialInsertionSort W.lt d3 a b).1:=hB.perm (by omega) hps.1
   have hto4:=hto.trans ht4
   cases hp:(Go.Sort.partialInsertionSort W.lt d3 a b).2 with
   | true =>
    simp -implicitDefEqProofs [c116_k14]
    exact hR.ret _ _ _ hto4 hP4 (hps.2 hp)
   | false =>
    simp -implicitDefEqProofs [c116_k14]
    exact rest2 _ (.inl rfl) _ _ hto4 hn4 hP4 hB4
 ·have hv : ∀ x:Bool,(wb=true→wp=true→x=decide (hi=1))→(if wb=true then(if wp=true then x else false) else false)=false:=by
   intro x hx
   cases wb <;> cases wp <;> simp at hx ⊢
   rw [hx]
   simpa using hg
  rcases htl with rfl | rfl
  all_goals
   cases wb <;> cases wp <;> simp -implicitDefEqProofs [c116_k16,c116_k15] <;> first | exact rest _ (.inr rfl) | skip
  all_goals
   have h1 : ¬ hi=1:=by simpa using hg
   simp [h1]
   exact rest _ (.inr rfl)

attribute [local simp] oG Cm.cmp_lt Cm.fn
open Go.Sort (swp PermIn SortedIn Below partition partitionEqual choosePivot breakPatterns bitsLen Hint)

theorem aLf {W:Cm} {σ s s1:St}{d:Array Hs}(h:To W σ d s)(hn:Nw s s1):To W σ d s1:=⟨⟨hn.fr.get h.aa.obj (by simp),h.aa.b.trans (hn.fr.mono (by simp)),h.aa.ok⟩,h.fr.trans (hn.fr.mono (by simp)),hn.tk.trans h.tk⟩

theorem aLv {W:Cm} {σ:St}{n a b l lim:Nat}{d d3:Array Hs}{wb wp:Bool}{Q1:gT}{s:St}{tl:Env}(htl:tl=[]∨tl=[(39,B false)])(hR:Rnd σ W n a b d Q1)(ih:Ih W n (b-a))(hto:To W σ d3 s)(hn3:d3.size=n)(hP:PermIn a b d d3)(hB:Below W.lt a b d3)
  (hl:b-a=l) (hN:n≤90) (hb:b≤n) (hab:a<b) (hlim:lim≤1000) :
  gF (Dn.Call Γ cx) cx c116_k21 ((0,.sl W.q 0 n 32)::(1,I a)::(2,I b)::(3,I lim)::(4,W.fn)::(10,B wb)::(11,B wp)::(12,I l)::tl) s (pA 1 Q1):=by
 have hcp:=Go.Sort.choosePivot_holds W.lt d3 a b hab
 have step:=aHu hto.at hn3 hab hb (by omega)
 rcases hc:choosePivot W.lt d3 a b with⟨pv,h⟩
 rw [hc] at hcp step
 simp only at hcp
 rcases htl with rfl | rfl
 all_goals
  simp [c116_k21]
  refine fF step fun v s4 ⟨hv,hnw⟩=>?_
  have ht4:=aLf hto hnw
  subst hv
  simp [c116_k20]
  by_cases hd:h = .decreasing
  ·subst hd
   have hrv:=aFU ht4.at hn3 hab hb (by omega)
   have hpr:=Go.Sort.reverseRange_holds d3 a b (by omega) (by omega)
   have e1:aJ.wrap ((b:Int)-1)=((b-1:Nat):Int):=by rw [bY (by omega) (by omega)]; omega
   have e2:aJ.wrap ((pv:Int)-a)=((pv-a:Nat):Int):=by rw [bY (by omega) (by omega)]; omega
   have e3:aJ.wrap (((b-1:Nat):Int)-((pv-a:Nat):Int))=((b-1-(pv-a):Nat):Int):=by rw [bY (by omega) (by omega)]; omega
   obtain⟨x,hx⟩ : ∃ x,b-1=x:=⟨_,rfl⟩
   obtain⟨y,hy⟩ : ∃ y,pv-a=y:=⟨_,rfl⟩
   obtain⟨z,hz⟩ : ∃ z,x-y=z:=⟨_,rfl⟩
   rw [hx] at e1 e3
   rw [hy] at e2 e3
   rw [hz] at e3
   have hb3:b≤d3.size:=by omega
   simp [aCI,c116_k19,c116_k18]
   refine fF hrv fun v s5 ht5=>?_
   simp [c116_k17,e1,e2,e3]
   exact aLu (.inl rfl) hR ih (ht4.trans ht5) (by rw [hpr.1,hn3]) (Go.Sort.permIn_trans _ _ _ a b hP hpr) (hB.perm hb3 hpr) hl hN hb (by omega) (by omega) hlim
  ·have hh : ¬ aCI h=2:=by cases h <;> simp [aCI] at hd ⊢
   simp [hh,c116_k19]
   exact aLu (.inr rfl) hR ih ht4 hn3 hP hB hl hN hb hcp.1 hcp.2 hlim

theorem aLK {W:Cm} {σ:St}{n a b lim:Nat}{d:Array Hs}{wb wp:Bool}{Q1:gT}(hR:Rnd σ W n a b d Q1)(ih:Ih W n (b-a))(hat:At W σ d)(hn:d.size=n)(hB:Below W.lt a b d)
  (hN:n≤90) (hb:b≤n) (hab:a≤b) (hlim:lim≤1000) :
  gF (Dn.Call Γ cx) cx c116_k29 [(0,.sl W.q 0 n 32),(1,I a),(2,I b),(3,I lim),(4,W.fn),(10,B wb),(11,B wp)] σ (pA 1 Q1):=by
 have swo:=hat.ok.1
 obtain⟨l,hl⟩ : ∃ l,b-a=l:=⟨_,rfl⟩
 have e0:aJ.wrap ((b:Int)-a)=(l:Int):=by rw [bY (by omega) (by omega)]; omega
 simp [c116_k29,e0,c116_k28]
 by_cases h12:l≤12
 ·have h12':(l:Int)≤12:=by omega
  have hin:=Go.Sort.insertionSort_holds swo d a b hab (by omega)
  simp [h12',c116_k27]
  refine fF (aLp hat hn hab hb (by omega)) fun v s ht=>?_
  simp
  exact hR.ret _ _ _ ht hin.1 hin.2
 have h12' : ¬ (l:Int)≤12:=by omega
 simp [h12',c116_k27,c116_k26]
 by_cases h0:lim=0
 ·subst h0
  have hin:=Go.Sort.heapSort_holds swo d a b hab (by omega)
  simp [c116_k25]
  refine fF (aKq hat hn hab hb (by omega)) fun v s ht=>?_
  simp
  exact hR.ret _ _ _ ht hin.1 hin.2
 have h0' : ¬ (lim:Int)=0:=by omega
 simp [h0',h0,c116_k25,c116_k24]
 have hlt:a<b:=by omega
 cases wb with
 | false =>
  have hpb:=Go.Sort.breakPatterns_holds (α:=Hs) d a b hab (by omega)
  have e1:aJ.wrap ((lim:Int)-1)=((lim-1:Nat):Int):=by rw [bY (by omega) (by omega)]; omega
  obtain⟨l1,hl1⟩ : ∃ l1,lim-1=l1:=⟨_,rfl⟩
  rw [hl1] at e1
  have hb3:b≤d.size:=by omega
  simp [c116_k23]
  refine fF (aIU hat hn hab hb hN) fun v s ht=>?_
  simp [c116_k22,e1]
  exact aLv (.inl rfl) hR ih ht (by rw [hpb.1,hn]) hpb (hB.perm hb3 hpb) hl hN hb hlt (by omega)
 | true =>
  simp [c116_k23]
  exact aLv (.inr rfl) hR ih (To.refl hat) hn (Go.Sort.permIn_refl _ _ _) hB hl hN hb hlt hlim

def aKP (σ0:St)(W:Cm)(n a0 b0:Nat)(d0:Array Hs)(m:Nat)(e:Env) (σ:St):Prop:=∃ (a b l:Nat) (wb wp:Bool) (d:Array Hs),e=[(0,.sl W.q 0 n 32),(1,I a),(2,I b),(3,I l),(4,W.fn),(10,B wb),(11,B wp)]∧b-a=m∧To W σ0 d σ∧a≤b∧b≤n∧b-a≤b0-a0∧d.size=n∧l≤1000∧Below W.lt a b d ∧
  (∀ R,PermIn a b d R→SortedIn W.lt a b R→PermIn a0 b0 d0 R∧SortedIn W.lt a0 b0 R)

theorem aLs {W:Cm}{n:Nat}(hN:n≤90) : ∀ m,Ih W n m:=by
 intro m
 induction m with
 | zero=>intro σ a b l d h; omega
 | succ m ihm =>
  intro σ a b l d hlt hat hn hab hb hlim hB
  refine Dn.Call.body (fc:=c116) rfl ?_
  simp [c116,c116_k32,c116_k31]
  refine fK (aKP σ W n a b d) (m:=b-a) ⟨a,b,l,true,true,d,rfl,rfl,To.refl hat,hab,hb,bB _,hn,hlim,hB,fun R h1 h2=>⟨h1,h2⟩⟩ ?_
  rintro m' e s ⟨a1,b1,l1,wb,wp,d1,rfl,rfl,ht1,hab1,hb1,hle,hn1,hl1,hB1,hfin⟩
  simp only [dO,dF,GB,aM,aI,aG,dA,eW,cE,dZ,cS,cK,dY,dX,eM,eP,eS,cM,cW,cX,eN,fD,gD,fQ,fB,dK,fC,gE,cJ,cY,cZ,dN,eB,eC,gA,eR,eE,eF,eD,cL,cU,cV,fZ,i_p,dU,fY,eA,eV,dW,eU,dV,eX,gC,t_p,eY,eH,gB,eJ,cT,eZ,eI,eG,gM,aE,aH,dC,dM,fP,fO,fR,gR,Opd.ev,Env.get,Env.set,Env.pick,eK,dE,cB,eO,eQ,cF,dD,dG,gO,eL,Res.ev,fL,cN,dI,gS,fN,fW,fX,gW,fT,fU,fV,cx,Dn.newObj,St.place,St.push,St.spot,St.empty,eT,dP,cO,cR,dS,dQ,dT,cQ,dR,cP,loadAt,cH,dL,cI,bZ,ofD,splice,St.setObj,fE,c116_l30]
  refine aLK ⟨fun e s2 R hR p1 p2=>?_,fun a' b' l' wb' wp' d' s2 ht2 h1 h2 h3 h4 h5 h6 h7=>?_⟩ (fun σ' a' b' l' d' h=>ihm σ' a' b' l' d' (by omega)) ht1.at hn1 hB1 hN hb1 hab1 hl1
  ·simp
   exact⟨R,ht1.trans hR,(hfin R p1 p2).1,(hfin R p1 p2).2⟩
  ·simp only [dO,dF,GB,aM,aI,aG,dA,eW,cE,dZ,cS,cK,dY,dX,eM,eP,eS,cM,cW,cX,eN,fD,gD,fQ,fB,dK,fC,gE,cJ,cY,cZ,dN,eB,eC,gA,eR,eE,eF,eD,cL,cU,cV,fZ,i_p,dU,fY,eA,eV,dW,eU,dV,eX,gC,t_p,eY,eH,gB,eJ,cT,eZ,eI,eG,gM,aE,aH,dC,dM,fP,fO,fR,gR,Opd.ev,Env.get,Env.set,Env.pick,eK,dE,cB,eO,eQ,cF,dD,dG,gO,eL,Res.ev,fL,cN,dI,gS,fN,fW,fX,gW,fT,fU,fV,cx,Dn.newObj,St.place,St.push,St.spot,St.empty,eT,dP,cO,cR,dS,dQ,dT,cQ,dR,cP,loadAt,cH,dL,cI,bZ,ofD,splice,St.setObj,fE]
   refine⟨b'-a',h3,a',b',l',wb',wp',d',rfl,rfl,ht1.trans ht2,h1,h2,by omega,h4,h5,h6,fun R p1 p2=>?_⟩
   obtain⟨k1,k2⟩:=h7 R p1 p2
   exact hfin R k1 k2

theorem aKl {W:Cm} {σ:St}{n:Nat}{d:Array Hs}(h:At W σ d)(hn:d.size=n)(hN:n≤90) :
  Dn.Call Γ cx .raw 94 [.sl W.q 0 n 32,W.fn] σ fun _ s=>∃ R,To W σ R s∧PermIn 0 n d R∧SortedIn W.lt 0 n R:=by
 refine Dn.Call.body (fc:=c94) rfl ?_
 have u1:bL.wrap (n:Int)=n:=lZ (by omega) (by omega)
 have hbl:=yL ⟨n,by omega⟩
 simp only at hbl
 simp [c94,gZ,Dn.lenV,c94_k0,u1]
 refine gI rfl (aHq (x:=n) (by omega)) rfl ?_
 simp
 refine fF (aLs hN (n+1) σ 0 n (bitsLen n) d (by omega) h hn (by omega) (by omega) (by omega) (.inl rfl)) fun v s hR=>?_
 simp
 exact hR

abbrev Ent:=Nat×V×V
structure Bn (es:List Ent)(clock:Nat):Prop where
 nd:(es.map (·.1)).Nodup
 lt : ∀ x∈es,x.1<clock

theorem aCD {es:List Ent}(h:(es.map (·.1)).Nodup){x:Ent}(hx:x∈es):es.find? (fun e=>e.1==x.1)=some x:=by
 induction es with
 | nil=>cases hx
 | cons a r ih =>
  rw [List.find?_cons]
  simp only [aI,List.nodup_cons] at h
  rcases bU.1 hx with rfl | hx
  ·simp
  ·have : ¬ a.1=x.1:=fun e=>h.1 (by rw [e]; exact aT.2 ⟨x,hx,rfl⟩)
   rw [show(a.1==x.1)=false by simpa using this]
   exact ih h.2 hx

def aHQ (r p q:Nat)(es:List Ent)(clock:Nat)(J:List V→St→Prop)(m:Nat)(e:Env)(s:St):Prop:=∃ (vis rest:List Ent),e=[(0,.yld r),(5,.iter p)]∧rest.length=m∧es.Perm (vis++rest)∧s.objs[p]?=some (.iter (some q) clock (vis.map (·.1)) clock)∧J (vis.map (·.2.1)) s

theorem aIO {σ:St}{r rb q:Nat}{es:List Ent}{clock:Nat}(hb:σ.objs[rb]?=some (.cells [.map q]))(hm:σ.objs[q]?=some (.map es clock))(hbn:Bn es clock)(J:List V→St→Prop)
  (h0:J [] ⟨σ.objs++[.iter (some q) clock [] clock],σ.toks⟩)
  (hkeep : ∀ l s,J l s→s.objs[q]?=some (.map es clock))
  (hit : ∀ l s seen seen',J l s→s.objs[σ.objs.length]?=some (.iter (some q) clock seen clock)→J l (s.setObj σ.objs.length (.iter (some q) clock seen' clock)))
  (hpush : ∀ l s o,J l s→J l ⟨s.objs++[o],s.toks⟩) (hk32 : ∀ k∈es.map (·.2.1),∃ h:Hs,k = .da h.1)
  (hround : ∀ l k s seen,J l s→s.objs[σ.objs.length]?=some (.iter (some q) clock seen clock)→k∈es.map (·.2.1)→l.length<es.length→Dn.Call Γ cx .rnd r [k] s fun w s'=>w=B true∧J (l++[k]) s'∧s'.objs[σ.objs.length]?=some (.iter (some q) clock seen clock)) :
  Dn.Call Γ cx .raw 95 [.yld r,.ref rb 0] σ fun _ s=>∃ l seen,l.Perm (es.map (·.2.1))∧J l s∧s.objs[σ.objs.length]?=some (.iter (some q) clock seen clock):=by
 refine Dn.Call.body (fc:=c95) rfl ?_
 have hr:tM σ none (.map q)=some (.iter σ.objs.length,⟨σ.objs++[.iter (some q) clock [] clock],σ.toks⟩):=by
  simp [tM,hm,newObj,St.place,St.push,St.spot]
 simp [c95,hb,hr,c95_k6]
 generalize hp:σ.objs.length=p at *
 refine fK (aHQ r p q es clock J) (m:=es.length) ⟨[],es,rfl,rfl,List.Perm.refl _,by simp only; rw [← hp]; simp,h0⟩ ?_
 rintro m e s ⟨vis,rest,rfl,rfl,hperm,hiter,hJ⟩
 simp [c95_l5]
 have hnd2:((vis++rest).map (·.1)).Nodup:=(hperm.map (·.1)).nodup hbn.nd
 rw [List.map_append,List.nodup_append] at hnd2
 obtain⟨d1,d2,d3⟩:=hnd2
 have hpl:p<s.objs.length:=(aB.1 hiter).1
 refine aCT hiter (hkeep _ _ hJ) hbn.lt (fun x hx hns=>?_) (fun hall=>?_)
 ·have hxr:x∈rest:=by
   rcases aW.1 (hperm.mem_iff.1 hx) with h | h
   ·exfalso
    have:(vis.map (·.1)).contains x.1=true:=by simpa using ⟨x.2.1,x.2.2,h⟩
    rw [this] at hns
    cases hns
   ·exact h
  obtain⟨ra,rb',hrest⟩:=List.append_of_mem hxr
  have hJ2:=hit _ _ _ (vis.map (·.1)++[x.1]) hJ hiter
  have hit2:(s.setObj p (.iter (some q) clock (vis.map (·.1)++[x.1]) clock)).objs[p]?=some (.iter (some q) clock (vis.map (·.1)++[x.1]) clock):=by simp [St.setObj,hpl]
  have hent:eM (s.setObj p (.iter (some q) clock (vis.map (·.1)++[x.1]) clock)) (.iter p)=some (.tup [x.2.1,x.2.2]):=by
   simp only [eM,hit2,hkeep _ _ hJ2,List.getLast?_append,List.getLast?_singleton]
   simp [aCD hbn.nd hx]
  generalize s.setObj p (.iter (some q) clock (vis.map (·.1)++[x.1]) clock)=s2 at *
  obtain⟨h,hkx⟩:=hk32 x.2.1 (aT.2 ⟨x,hx,rfl⟩)
  have h32:=h.2.1
  have hlen1:vis.length<es.length:=by have:=hperm.length_eq; rw [hrest] at this; simp at this; omega
  rw [hkx] at hent
  have htk:List.take 32 (h.1.map V.d)=h.1.map V.d:=aK (by simp [h32])
  have hsp:splice (aD 32 (V.d (D.int .u8 0))) 0 (h.1.map V.d)=h.1.map V.d:=by
   unfold splice
   rw [bT (by simp [h32])]
   simp
  have hag:bZ (h.1.map V.d) = .da h.1:=iO _
  have hrnd:=hround _ x.2.1 ⟨s2.objs++[.cells (h.1.map .d)],s2.toks⟩ _ (hpush _ _ (.cells (h.1.map .d)) hJ2) (by simp only; rw [aC (aB.1 hit2).1]; exact hit2) (aT.2 ⟨x,hx,rfl⟩) (by simpa using hlen1)
  rw [hkx] at hrnd
  simp [-eM,-splice,-bZ,-aA,c95_k4,c95_k3,c95_k2,hent,hsp,hag,htk,h32,c95_k1]
  refine⟨_,hrnd,fun w s3 ⟨hw,hJ3,hit3⟩=>?_⟩
  subst hw
  simp [c95_k0]
  refine⟨(ra++rb').length,by rw [hrest]; simp,vis++[x],ra++rb',rfl,rfl,?_,by simpa using hit3,by simpa [hkx] using hJ3⟩
  rw [hrest] at hperm
  refine hperm.trans ?_
  rw [bV]
  exact List.Perm.append_left _ List.perm_middle
 ·have hre:rest=[]:=by
   cases rest with
   | nil=>rfl
   | cons y ys =>
    exfalso
    have hy:y∈es:=hperm.mem_iff.2 (by simp)
    have:=hall y hy
    have hm2:y.1∈vis.map (·.1):=by simpa using this
    exact d3 _ hm2 y.1 (by simp) rfl
  subst hre
  rw [aG] at hperm
  simp [c95_k4]
  exact⟨_,(hperm.map (·.2.1)).symm,hJ,_,hiter⟩

def arL (l:List Hs):List V:=l.flatMap fun l=>l.1.map .d
theorem aEt (l:List Hs):(arL l).length=32*l.length:=aCF l
theorem aGu (l:List Hs)(k:Hs):arL (l++[k])=arL l++k.1.map .d:=by simp [arL]
def Col (lo:Nat)(s:St)(v:V)(l:List Hs):Prop:=(l=[]∧v = .d .nils)∨∃ r,v = .sl r 0 l.length 32∧lo≤r∧s.objs[r]?=some (.cells (arL l))∧l≠[]

theorem Col.push {lo:Nat}{s:St}{v:V}{l:List Hs}(h:Col lo s v l)(hl:l.length≤1000000)(hlo:lo≤s.objs.length)(k:Hs) : ∃ v' s',kQ s none 32 32 v [k.1]=some (v',s')∧Col lo s' v' (l++[k])∧(∀ r,r<lo→s'.objs[r]?=s.objs[r]?)∧s.objs.length≤s'.objs.length∧s'.toks=s.toks:=by
 have hk:=k.2.1
 rcases h with⟨rfl,rfl⟩ | ⟨r,rfl,hr,ho,hne⟩
 ·refine⟨.sl s.objs.length 0 1 32,⟨s.objs++[.cells (arL [k])],s.toks⟩,by simp [kQ,kV,newObj,St.place,St.push,St.spot,hk,arL],.inr ⟨s.objs.length,rfl,hlo,by simp,by simp⟩,fun r hr=>by simp only; rw [aC (by omega)],by simp,rfl⟩
 ·have hrl:r<s.objs.length:=(aB.1 ho).1
  have hpos:0<l.length:=List.length_pos_iff.2 hne
  have hal:=aEt l
  have etk:(arL l).take (l.length*32)=arL l:=aK (by omega)
  refine⟨.sl s.objs.length 0 (l.length+1) 32,⟨(s.objs.set r .dead)++[.cells (arL l++k.1.map .d)],s.toks⟩,?_,.inr ⟨s.objs.length,by simp,hlo,by simp [List.getElem?_append,aGu],by simp⟩,fun r' hr'=>?_,by simp,rfl⟩
  ·simp only [kQ,ho,kV,bF,etk]
   simp [newObj,St.place,St.push,St.spot,St.setObj,hk,hal,show l.length*32≤32*l.length by omega,show 0<32*l.length by omega,hpos,show(l.length+1)*32≤140737488355328 by omega,show l.length+1≤9223372036854775807 by omega]
  ·simp only
   rw [aC (by simp; omega),aF (by omega)]

open Go.Sort (PermIn SortedIn)

abbrev aEG:Fn:=.func 95
def dH (h:Hs):V:=.da h.1
def asE (n0:Nat):Env:=[(2,.ref n0 0)]
structure JA (σ:St)(l:List V)(li:List Hs)(v:V)(s:St):Prop where
 l:l=li.map dH
 b:s.objs[σ.objs.length]?=some (.cells [v])
 lp:s.objs[σ.objs.length+1]?=some (.loop (asE σ.objs.length) [7] c88_a1 c88_b2 .ready)
 c:Col (σ.objs.length+3) s v li
 old : ∀ r,r<σ.objs.length→s.objs[r]?=σ.objs[r]?
 len:σ.objs.length+3≤s.objs.length
 tk:s.toks=σ.toks
 n:li.length≤1000

theorem Col.set {lo:Nat}{s:St}{v:V}{l:List Hs}(h:Col lo s v l){p:Nat}(hp:p<lo)(o:Dn.Obj):Col lo (s.setObj p o) v l:=by
 rcases h with⟨h1,h2⟩ | ⟨r,h1,h2,h3,h4⟩
 ·exact .inl ⟨h1,h2⟩
 ·refine .inr ⟨r,h1,h2,?_,h4⟩
  simp only [St.setObj]
  rw [aF (by omega)]
  exact h3
theorem Col.more {lo:Nat}{s:St}{v:V}{l:List Hs}(h:Col lo s v l)(o:Dn.Obj):Col lo ⟨s.objs++[o],s.toks⟩ v l:=by
 rcases h with⟨h1,h2⟩ | ⟨r,h1,h2,h3,h4⟩
 ·exact .inl ⟨h1,h2⟩
 ·refine .inr ⟨r,h1,h2,?_,h4⟩
  simp only
  rw [aC (aB.1 h3).1]
  exact h3
theorem JA.set {σ:St}{l:List V}{li:List Hs}{v:V}{s:St}(h:JA σ l li v s)(o:Dn.Obj):JA σ l li v (s.setObj (σ.objs.length+2) o):=by
 refine⟨h.l,?_,?_,h.c.set (by omega) o,fun r hr=>?_,by simp [St.setObj]; exact h.len,h.tk,h.n⟩
 ·simp only [St.setObj]; rw [aF (by omega)]; exact h.b
 ·simp only [St.setObj]; rw [aF (by omega)]; exact h.lp
 ·simp only [St.setObj]; rw [aF (by omega)]; exact h.old r hr

theorem JA.push {σ:St}{l:List V}{li:List Hs}{v:V}{s:St}(h:JA σ l li v s)(o:Dn.Obj):JA σ l li v ⟨s.objs++[o],s.toks⟩:=by
 have hl:=h.len
 refine⟨h.l,?_,?_,h.c.more o,fun r hr=>?_,by simp; omega,h.tk,h.n⟩
 ·simp only; rw [aC (by omega)]; exact h.b
 ·simp only; rw [aC (by omega)]; exact h.lp
 ·simp only; rw [aC (by omega)]; exact h.old r hr

theorem aLB {n0:Nat}{s:St}{k:Hs}{Q:gT}(h:Q .normal [(2,.ref n0 0),(5,.ref s.objs.length 0)] ⟨s.objs++[.cells (k.1.map .d)],s.toks⟩):gF (Dn.Call Γ cx) cx c88_a1 [(2,.ref n0 0),(7,.da k.1)] s Q:=by
 have h32:=k.2.1
 have hsp:splice (aD 32 (V.d (D.int .u8 0))) 0 (k.1.map V.d)=k.1.map V.d:=by
  unfold splice
  rw [bT (by simp [h32])]
  simp
 simp [-splice,-aA,c88_a1,hsp,h32]
 exact h
theorem aLC {n0 p:Nat}{s s':St}{v v':V}{k:Hs}{Q:gT}(hp:s.objs[p]?=some (.cells (k.1.map .d)))(hb:s.objs[n0]?=some (.cells [v]))(hap:kQ s none 32 32 v [k.1]=some (v',s'))(hb':s'.objs[n0]?=some (.cells [v]))(hc:v'.cells=some [v'])
  (hQ:Q .normal [] ⟨s'.objs.set n0 (.cells [v']),s'.toks⟩):gF (Dn.Call Γ cx) cx c88_b2 [(2,.ref n0 0),(5,.ref p 0)] s Q:=by
 have h32:=k.2.1
 have htk:List.take 32 (k.1.map V.d)=k.1.map V.d:=aK (by simp [h32])
 have hag:bZ (k.1.map V.d) = .da k.1:=iO _
 have hsp:splice (iL 1 (aD 32 (D.int .u8 0))) 0 (k.1.map V.d)=k.1.map V.d:=by
  unfold splice
  rw [bT (by simp [h32,iL])]
  simp
 have hrw:gJ 32 1 k.1=[k.1]:=by
  have:List.take 32 k.1=k.1:=aK (by omega)
  simp [gJ,this]
 have hol:ofD (k.1.map V.d)=some k.1:=yA _
 have hol2:ofD (k.1.map (oR ∘ V.d))=some k.1:=hol
 have hlr:(iL 1 (aD 32 (D.int .u8 0))).length=32:=by simp [iL]
 simp [-splice,-bZ,-aA,c88_b2,hb,hp,h32,htk,hag,hsp,hlr,hrw,hol,hol2]
 refine sM (v:=v') (s:=s') ?_ ?_
 ·simp [iB,V.rows]
  exact hap
 simp [hb',hc]
 exact hQ

open Go.Sort (PermIn SortedIn)

theorem aD1 {σ:St}{rb q:Nat}{es:List Ent}{clock:Nat}(hb:σ.objs[rb]?=some (.cells [.map q]))(hm:σ.objs[q]?=some (.map es clock))(hbn:Bn es clock)(hk : ∀ k∈es.map (·.2.1),∃ h:Hs,k=dH h)(hlen:es.length≤1000) :
  Dn.Call Γ cx .raw 67 [.fn aEG [] [.ref rb 0]] σ fun v s=>∃ li,(li.map dH).Perm (es.map (·.2.1))∧Col σ.objs.length s v li∧(∀ r,r<σ.objs.length→s.objs[r]?=σ.objs[r]?)∧σ.objs.length≤s.objs.length∧s.toks=σ.toks:=by
 refine Dn.Call.body (fc:=c67) rfl ?_
 simp [c67,c67_k0]
 have hA:Dn.Call Γ cx .raw 88 [.d .nils,.fn aEG [] [.ref rb 0]] σ fun v s=>∃ li,(li.map dH).Perm (es.map (·.2.1))∧Col σ.objs.length s v li∧(∀ r,r<σ.objs.length→s.objs[r]?=σ.objs[r]?)∧σ.objs.length≤s.objs.length∧s.toks=σ.toks:=by
  refine Dn.Call.body (fc:=c88) rfl ?_
  have hrbl:rb<σ.objs.length:=(aB.1 hb).1
  have hql:q<σ.objs.length:=(aB.1 hm).1
  simp [c88,c88_k4,c88_k3]
  obtain⟨σ1,hσ1⟩ : ∃ s:St,(⟨σ.objs++[.cells [.d .nils],.loop [(2,.ref σ.objs.length 0)] [7] c88_a1 c88_b2 .ready],σ.toks⟩:St)=s:=⟨_,rfl⟩
  rw [hσ1]
  have hl1:σ1.objs.length=σ.objs.length+2:=by rw [← hσ1]; simp
  have old1 : ∀ r,r<σ.objs.length→σ1.objs[r]?=σ.objs[r]?:=fun r hr=>by rw [← hσ1]; simp only; rw [aC hr]
  have key:=aIO (σ:=σ1) (r:=σ.objs.length+1) (rb:=rb) (q:=q) (es:=es) (clock:=clock) (by rw [old1 rb hrbl]; exact hb) (by rw [old1 q hql]; exact hm) hbn
   (fun l s=>∃ li v,JA σ l li v s) ?_ ?_ ?_ ?_ hk ?_
  ·refine⟨_,key,fun v s ⟨l,seen,hperm,⟨li,w,hJ⟩,hit⟩=>?_⟩
   refine aBd hJ.lp ?_
   have hb':(s.setObj (σ.objs.length+1) .dead).objs[σ.objs.length]?=some (.cells [w]):=by
    simp only [St.setObj]; rw [aF (by omega)]; exact hJ.b
   simp only [St.setObj] at hb'
   simp [c88_k0,hb']
   refine⟨li,by rw [← hJ.l]; exact hperm,?_,fun r hr=>?_,by have:=hJ.len; omega,hJ.tk⟩
   ·rcases hJ.c with⟨h1,h2⟩ | ⟨r,h1,h2,h3,h4⟩
    ·exact .inl ⟨h1,h2⟩
    ·refine .inr ⟨r,h1,by omega,?_,h4⟩
     simp only
     rw [aF (by omega)]
     exact h3
   ·rw [aF (by omega)]
    exact hJ.old r hr
  ·refine⟨[],.d .nils,rfl,?_,?_,.inl ⟨rfl,rfl⟩,fun r hr=>?_,by simp [hl1],by rw [← hσ1],by simp⟩
   ·simp only; rw [aC (by omega),← hσ1]; simp
   ·simp only; rw [aC (by omega),← hσ1]; simp [asE]
   ·simp only; rw [aC (by omega)]; exact old1 r hr
  ·rintro l s ⟨li,v,hJ⟩
   rw [hJ.old q hql]
   exact hm
  ·rintro l s seen seen' ⟨li,v,hJ⟩ hit
   rw [hl1]
   exact⟨li,v,hJ.set _⟩
  ·rintro l s o ⟨li,v,hJ⟩
   exact⟨li,v,hJ.push o⟩
  ·rintro l k s0 seen ⟨li,v,hJ0⟩ hit0 hkm hlt
   rw [hl1] at hit0 ⊢
   obtain⟨i,rfl⟩:=hk k hkm
   refine Call.rnd (e:=asE σ.objs.length) (ps:=[7]) (a:=c88_a1) (b:=c88_b2) hJ0.lp rfl ?_
   refine aLB ?_
   have hJ:=hJ0.push (.cells (i.1.map .d))
   have hp:(s0.objs++[Dn.Obj.cells (i.1.map .d)])[s0.objs.length]?=some (.cells (i.1.map .d)):=by simp
   have hit:(⟨s0.objs++[.cells (i.1.map .d)],s0.toks⟩:St).objs[σ.objs.length+2]?=some (.iter (some q) clock seen clock):=by
    simp only; rw [aC (aB.1 hit0).1]; exact hit0
   have hpn:σ.objs.length+3≤s0.objs.length:=hJ0.len
   obtain⟨p,hpd⟩ : ∃ p,s0.objs.length=p:=⟨_,rfl⟩
   rw [hpd] at hp hpn ⊢
   obtain⟨s,hs⟩ : ∃ s:St,(⟨s0.objs++[.cells (i.1.map .d)],s0.toks⟩:St)=s:=⟨_,rfl⟩
   have hp':s.objs[p]?=some (.cells (i.1.map .d)):=by rw [← hs]; exact hp
   rw [hs] at hJ hit ⊢
   have hL1:σ.objs.length+1<s.objs.length:=by have:=hJ.len; omega
   simp only [eS]
   refine⟨hJ.lp,?_⟩
   obtain⟨lo,hlo⟩ : ∃ o,Dn.Obj.loop (asE σ.objs.length) [7] c88_a1 c88_b2 .busy=o:=⟨_,rfl⟩
   have hc2:=hJ.c.set (p:=σ.objs.length+1) (by omega) lo
   have hb2:(s.setObj (σ.objs.length+1) lo).objs[σ.objs.length]?=some (.cells [v]):=by simp only [St.setObj]; rw [aF (by omega)]; exact hJ.b
   have hn:=hJ.n
   have hlen2:=hJ.len
   obtain⟨v',s',a1,a2,a3,a4,a5⟩:=hc2.push (by omega) (by simp [St.setObj]; omega) i
   have hnn:li.length+1≤1000:=by rw [hJ.l] at hlt; simp at hlt; omega
   have hvc:v'.cells=some [v']:=by
    rcases a2 with⟨h1,rfl⟩ | ⟨r,rfl,_⟩ <;> rfl
   rw [hlo]
   refine aLC (p:=p) (by simp only [St.setObj]; rw [aF (by omega)]; exact hp') hb2 a1 (by rw [a3 _ (by omega)]; exact hb2) hvc ?_
   have hl1:s'.objs[σ.objs.length+1]?=some lo:=by
    rw [a3 _ (by omega)]
    simp [St.setObj,hL1]
   have hlen3:σ.objs.length+3≤s'.objs.length:=by simp [St.setObj] at a4; omega
   simp only [cM]
   refine⟨by rw [aF (by omega),hl1,hlo],trivial,⟨li++[i],v',?_,?_,?_,?_,?_,?_,?_,by simp; omega⟩,?_⟩
   ·simp [hJ.l]
   ·simp only [St.setObj]; rw [aF (by omega),aO (by omega)]
   ·simp only [St.setObj]; rw [aO (by simp; omega)]
   ·exact Col.set (p:=σ.objs.length+1) (Col.set (s:=s') (p:=σ.objs.length) a2 (by omega) _) (by omega) _
   ·intro r hr
    simp only [St.setObj]
    rw [aF (by omega),aF (by omega),a3 r (by omega)]
    simp only [St.setObj]
    rw [aF (by omega)]
    exact hJ.old r hr
   ·simp [St.setObj]; omega
   ·simp only [St.setObj,a5]; exact hJ.tk
   ·simp only [St.setObj]
    rw [aF (by omega),aF (by omega),a3 _ (by omega)]
    simp only [St.setObj]
    rw [aF (by omega)]
    exact hit
 refine fF hA fun v s h=>?_
 simp
 exact h

attribute [local simp] oG Cm.cmp_lt
open Go.Sort (PermIn SortedIn)

theorem aIS {σ:St}{fv:V}:Dn.Call Γ cx .raw 94 [.d .nils,fv] σ fun _ s=>s=σ:=by
 refine Dn.Call.body (fc:=c94) rfl ?_
 simp [c94,gZ,Dn.lenV,c94_k0]
 refine gI rfl (aHq (x:=0) (by omega)) rfl ?_
 simp
 have hins:Dn.Call Γ cx .raw 127 [.d .nils,I 0,I 0,fv] σ fun _ s=>s=σ:=by
  refine Dn.Call.body (fc:=c127) rfl ?_
  simp [c127,bY (n:=1) (by omega) (by omega),c127_k10]
  refine fK (fun m e s=>e=[(0,.d .nils),(1,I 0),(2,I 0),(3,fv),(8,I 1)]∧s=σ) (m:=0) ⟨rfl,rfl⟩ ?_
  rintro m e s ⟨rfl,rfl⟩
  simp [c127_l9,c127_k8]
 have hp:Dn.Call Γ cx .raw 116 [.d .nils,I 0,I 0,I (Go.Sort.bitsLen 0),fv] σ fun _ s=>s=σ:=by
  refine Dn.Call.body (fc:=c116) rfl ?_
  have e0:aJ.wrap 0=0:=rfl
  simp [c116,c116_k32,c116_k31]
  refine fK (fun m e s=>e=[(0,.d .nils),(1,I 0),(2,I 0),(3,I (Go.Sort.bitsLen 0)),(4,fv),(10,B true),(11,B true)]∧s=σ) (m:=0) ⟨rfl,rfl⟩ ?_
  rintro m e s ⟨rfl,rfl⟩
  simp [c116_l30,c116_k29,e0,c116_k28,c116_k27]
  refine fF hins fun v s hs=>?_
  subst hs
  simp
 refine fF hp fun v s hs=>?_
 subst hs
 simp

theorem aID {n:Nat}{d R:Array Hs}(hd:d.size=n)(h:PermIn 0 n d R):R.toList.Perm d.toList:=by
 obtain⟨h1,-,h3⟩:=h
 have e1:R.extract 0 n=R:=by rw [← hd,← h1]; simp
 have e2:d.extract 0 n=d:=by rw [← hd]; simp
 rw [e1,e2] at h3
 exact h3
theorem aFG {W:Cm}{n:Nat}{R:Array Hs}(hR:R.size=n)(h:SortedIn W.lt 0 n R):R.toList.Pairwise fun a b=>W.lt b a=false:=by
 rw [List.pairwise_iff_getElem]
 intro i j hi hj hij
 simp at hi hj
 have:=h i j (by omega) hij (by omega)
 simpa [hi,hj] using this

theorem aB0 {σ:St}{rb q g:Nat}{first caps:List V}{cmp:Hs→Hs→Int}{es:List Ent}{clock:Nat}(hb:σ.objs[rb]?=some (.cells [.map q]))(hm:σ.objs[q]?=some (.map es clock))(hbn:Bn es clock)(hk : ∀ k∈es.map (·.2.1),∃ h:Hs,k=dH h)(hlen:es.length≤90)
  (hswo:Go.Sort.SWO fun a b=>decide (cmp a b<0))
  (hcmp : ∀ s:St,(∀ r,r<σ.objs.length→s.objs[r]?=σ.objs[r]?)→∀ a b:Hs,Dn.Call Γ cx .rd g (first++[.da a.1,.da b.1]++caps) s fun v _=>v=I (cmp a b)) :
  Dn.Call Γ cx .raw 77 [.fn aEG [] [.ref rb 0],.fn (.func g) first caps] σ fun v s=>∃ li:List Hs,(li.map dH).Perm (es.map (·.2.1))∧(li.Pairwise fun a b=>¬ cmp b a<0)∧Col σ.objs.length s v li∧(∀ r,r<σ.objs.length→s.objs[r]?=σ.objs[r]?)∧σ.objs.length≤s.objs.length∧s.toks=σ.toks:=by
 refine Dn.Call.body (fc:=c77) rfl ?_
 simp [c77,c77_k2]
 refine fF (aD1 hb hm hbn hk (by omega)) fun v s ⟨li,h1,h2,h3,h4,h5⟩=>?_
 simp [c77_k1]
 rcases h2 with⟨rfl,rfl⟩ | ⟨r,rfl,hr,ho,hne⟩
 ·refine fF aIS fun v s2 hs=>?_
  subst hs
  simp [c77_k0]
  exact⟨[],h1,List.Pairwise.nil,.inl ⟨rfl,rfl⟩,h3,h4,h5⟩
 ·have hll:li.length≤90:=by
   have:=h1.length_eq
   simp at this
   omega
  obtain⟨W,hW⟩ : ∃ W:Cm,W=⟨s,r,g,first,caps,cmp⟩:=⟨_,rfl⟩
  have hok:W.Ok:=by
   subst hW
   refine⟨hswo,fun s' hf a b=>hcmp s' (fun r' hr'=>?_) a b⟩
   rw [hf.at_ r' (by simp; omega) (by simp only; omega)]
   exact h3 r' hr'
  have hWq:W.q=r:=by rw [hW]
  have hfn:W.fn = .fn (.func g) first caps:=by rw [hW]; rfl
  have hWb:W.base=s:=by rw [hW]
  have hat:At W s li.toArray:=⟨by rw [hWq]; simp [ar,arL] at ho ⊢; exact ho,by rw [hWb]; exact Fr.refl _ _,hok⟩
  have hsort:=aKl hat (n:=li.length) (by simp) hll
  rw [hWq,hfn] at hsort
  refine fF hsort fun v s2 ⟨R,hR,p1,p2⟩=>?_
  simp [c77_k0]
  have q1:=aID (by simp) p1
  have q2:R.size=li.length:=by have:=q1.length_eq; simpa using this
  have hobj:=hR.aa.obj
  have hfr:=hR.fr
  rw [hWq] at hobj hfr
  refine⟨R.toList,(q1.map dH).trans h1,?_,.inr ⟨r,by simp [q2],hr,hobj,?_⟩,fun r' hr'=>?_,Nat.le_trans h4 hfr.len,hR.tk.trans h5⟩
  ·refine(aFG q2 p2).imp fun {a b} hab=>?_
   have:decide (cmp b a<0)=false:=by rw [hW] at hab; exact hab
   simpa using this
  ·intro e
   apply hne
   have:=congrArg List.length e
   simp [q2] at this
   exact this
  ·rw [hfr.at_ r' (by simp; omega) (by omega)]
   exact h3 r' hr'
end Go.Proofs.YtdfhfhcilfjdgaaGreatDoor.T
