import Derived.Test.YtdfhfhcilfjdgaaGreatDoorS13
set_option linter.unusedVariables false
set_option linter.unusedSimpArgs false
open List renaming reduceReplicate → aA,getElem?_eq_some_iff → aB,getElem?_append_left → aC,replicate → aD,cons_append → aE,getElem?_set_ne → aF,append_nil → aG,nil_append → aH,map_cons → aI,take_of_length_le → aK,mem_of_getElem? → aL,map_nil → aM,getElem?_set_self → aO,length_map → aQ,getElem?_eq_none → aR,mem_map → aT,mem_append → aW,length_append → aX,mem_filter → aY,take_append_getElem → aZ,getD_eq_getElem?_getD → bA,take_length → bC,drop_zero → bF,getElem?_map → bG,getElem?_append_right → bH,mem_singleton → bI,getElem?_eq_getElem → bO,eq_nil_of_length_eq_zero → bP,getElem?_of_mem → bQ,length_replicate → bS,drop_of_length_le → bT,mem_cons → bU,append_assoc → bV,mem_append_right → bX
open Go.IntKind renaming i64 → aJ,u64 → bL
open Option renaming some → aN
open Bool renaming false_eq_true → aP,and_eq_true → aS
open Go.Builtin renaming zeroCells → aU,append_ → bD,firstCells → bM
open Go.Result renaming andThen_ok → aV
open Nat renaming le_refl → bB,mul_le_mul_right → bE,add_mul → bJ,lt_or_ge → bR
open Array renaming getElem?_eq_some_iff → bW
namespace Go.Proofs.YtdfhfhcilfjdgaaGreatDoor.T
open Go.Dn
attribute [local simp] dO dF GB aM aI aG dA eW cE dZ cS cK dY dX eM eP eS cM cW cX eN fD gD fQ fB dK fC gE cJ cY cZ dN eB eC gA eR eE eF eD cL cU cV fZ i_p dU fY eA eV dW eU dV eX gC t_p eY eH gB eJ cT eZ eI eG gM aE aH dC dM fP fO fR gR Opd.ev Env.get Env.set Env.pick eK dE cB eO eQ cF dD dG gO eL Res.ev fL cN dI gS fN fW fX gW fT fU fV cx Dn.newObj St.place St.push St.spot St.empty eT dP cO cR dS dQ dT cQ dR cP loadAt cH dL cI bZ ofD splice St.setObj fE

structure TxD (i o:D)(f:Bool)(ins:List SpG)(outs:List CoG):Prop where
 i:LV (.d i) (fH ins)
 o:LV (.d o) (gH outs)
 li:ins.length≤30
 lo:outs.length≤30
 si : ∀ s∈ins,s.Ok
 so : ∀ c∈outs,c.Ok
def idB (ins:List SpG)(outs:List CoG)(f:Bool):List UInt8:=Sha.dbl (txB false ins outs f)
def wtN (ins:List SpG)(outs:List CoG)(f:Bool):Int:=3*(txB false ins outs f).length+(txB true ins outs f).length

theorem aHh {i o:D}{f:Bool}{ins:List SpG}{outs:List CoG}(h:TxD i o f ins outs) :
  Dn.Call Γ cx .val 70 [.da [i,o,.bool f]] St.empty fun v _=>v = .d (.list (cC (txB false ins outs f))):=by
 refine Dn.Call.body (fc:=c70) rfl ?_
 simp [c70,c70_k0,bZ]
 refine gI rfl (aJm (w:=false) h.i h.o h.li h.lo h.si h.so) rfl ?_
 simp
theorem aER {i o:D}{f:Bool}{ins:List SpG}{outs:List CoG}(h:TxD i o f ins outs) :
  Dn.Call Γ cx .val 73 [.da [i,o,.bool f]] St.empty fun v _=>v = .d (.list (cC (txB false ins outs f))):=by
 refine Dn.Call.body (fc:=c73) rfl ?_
 simp [c73,c73_k0,bZ]
 refine gI rfl (aHB (w:=false) h.i h.o h.li h.lo h.si h.so) rfl ?_
 simp
theorem aD4 {i o:D}{f:Bool}{ins:List SpG}{outs:List CoG}(h:TxD i o f ins outs) :
  Dn.Call Γ cx .val 74 [.da [i,o,.bool f]] St.empty fun v _=>v = .d (.list (cC (txB true ins outs f))):=by
 refine Dn.Call.body (fc:=c74) rfl ?_
 simp [c74,c74_k0,bZ]
 refine gI rfl (aHB (w:=true) h.i h.o h.li h.lo h.si h.so) rfl ?_
 simp

theorem aHo {i o:D}{f:Bool}{ins:List SpG}{outs:List CoG}(h:TxD i o f ins outs) :
  Dn.Call Γ cx .val 40 [.da [i,o,.bool f]] St.empty fun v _=>v = .da (cG (idB ins outs f)):=by
 refine Dn.Call.body (fc:=c40) rfl ?_
 have hl:=pJ false f h.li h.lo h.si
 have h1:(Sha.dbl (txB false ins outs f)).length=32:=Sha.sha_len _
 simp [-aA,c40,c40_k0,bZ]
 refine gI rfl (aHh h) rfl ?_
 simp [-aA,iL,oR,gJ,ofD]
 refine gI rfl (aHn (ps:=[(.list (cC (txB false ins outs f)),txB false ins outs f)]) (.list _) (by simpa using LV.list _) (by simp [gL]; omega) (by simp)) (pW _) ?_
 have hj:gL [((.list (cC (txB false ins outs f)):D),txB false ins outs f)]=txB false ins outs f:=by simp [gL]
 rw [hj]
 simp [-aA,iH,hU,fG,h1,V.byVal,mZ,aK,idB]

theorem aJn {i o:D}{f:Bool}{ins:List SpG}{outs:List CoG}(h:TxD i o f ins outs) :
  Dn.Call Γ cx .val 59 [.da [i,o,.bool f]] St.empty fun v _=>v = .da (cG (idB ins outs f)):=by
 refine Dn.Call.body (fc:=c59) rfl ?_
 have hl:=pJ false f h.li h.lo h.si
 have h1:(Sha.dbl (txB false ins outs f)).length=32:=Sha.sha_len _
 simp [-aA,c59,c59_k0,bZ]
 refine gI rfl (aER h) rfl ?_
 simp [-aA]
 refine gI rfl (aFR (.list (cC (txB false ins outs f))) (by omega)) (pW _) ?_
 simp [-aA,iH,hU,fG,h1,V.byVal,mZ,aK,idB]

theorem aHt {i o:D}{f:Bool}{ins:List SpG}{outs:List CoG}(h:TxD i o f ins outs) :
  Dn.Call Γ cx .val 66 [.da [i,o,.bool f]] St.empty fun v _=>v=I (wtN ins outs f):=by
 refine Dn.Call.body (fc:=c66) rfl ?_
 have hl:=pJ false f h.li h.lo h.si
 have hl2:=pJ true f h.li h.lo h.si
 have b1 : ∀ l:List UInt8,(cC l).length=l.length:=dJ
 have e1:aJ.wrap (3*((txB false ins outs f).length:Int))=3*((txB false ins outs f).length:Int):=bY (by omega) (by omega)
 have e2:aJ.wrap (3*((txB false ins outs f).length:Int)+((txB true ins outs f).length:Int))=wtN ins outs f:=by rw [bY (by omega) (by omega)]; rfl
 simp [c66,c66_k0,bZ]
 refine gP (fun _=>.val) [] (by decide +kernel) ?_
 simp [dB,bZ,ofD]
 refine gY rfl rfl (aHh h) rfl ?_
 simp [gZ,lenV,b1,e1,bZ,ofD]
 refine gY rfl rfl (aFW h.i h.o h.li h.lo h.si h.so) rfl ?_
 simp [gZ,lenV,b1,e1,e2]
theorem aFT {i o:D}{f:Bool}{ins:List SpG}{outs:List CoG}(h:TxD i o f ins outs) :
  Dn.Call Γ cx .val 51 [.da [i,o,.bool f]] St.empty fun v _=>v=I (wtN ins outs f):=by
 refine Dn.Call.body (fc:=c51) rfl ?_
 have hl:=pJ false f h.li h.lo h.si
 have hl2:=pJ true f h.li h.lo h.si
 have b1 : ∀ l:List UInt8,(cC l).length=l.length:=dJ
 have e1:aJ.wrap (3*((txB false ins outs f).length:Int))=3*((txB false ins outs f).length:Int):=bY (by omega) (by omega)
 have e2:aJ.wrap (3*((txB false ins outs f).length:Int)+((txB true ins outs f).length:Int))=wtN ins outs f:=by rw [bY (by omega) (by omega)]; rfl
 simp [c51,c51_k0,bZ]
 refine gP (fun _=>.val) [] (by decide +kernel) ?_
 simp [dB,bZ,ofD]
 refine gY rfl rfl (aER h) rfl ?_
 simp [gZ,lenV,b1,e1,bZ,ofD]
 refine gY rfl rfl (aD4 h) rfl ?_
 simp [gZ,lenV,b1,e1,e2]

structure Nd where
 id:List UInt8
 a:V
 b:V
 f:Bool
 ins:List SpG
 outs:List CoG
 fee:Int
 num:Nat
def Nd.cells (n:Nd):List V:=[n.a,n.b,.d (.bool n.f),I n.fee,I (wtN n.ins n.outs n.f),I n.num]
def Nd.ent (n:Nd):V×V:=(.da (cG n.id),bZ n.cells)
def ptD (p:List UInt8×Int):List D:=cG p.1++[.int .i64 p.2]
def Nd.spent (n:Nd):List (V×V):=n.ins.map fun s=>(.da (ptD (fS s)),.da (cG n.id))
structure Nd.Ok (n:Nd):Prop where
 id:n.id.length=32
 a:LV n.a (fH n.ins)
 b:LV n.b (gH n.outs)
 li:n.ins.length≤30
 lo:n.outs.length≤30
 si : ∀ s∈n.ins,s.Ok
 so : ∀ c∈n.outs,c.Ok
 fee:0≤n.fee∧n.fee≤2100000000000000
 tx:n.id=idB n.ins n.outs n.f
abbrev kH:List Lf:=aD 32 (.int .u8)
abbrev kP:List Lf:=aD 32 (.int .u8)++[.int .i64]
structure Gr (σ:St)(g qn qs:Nat)(es:List Ent)(ck:Nat)(es2:List Ent)(ck2:Nat)(M:List Nd)(put:Nat):Prop where
 o:σ.objs[g]?=some (.cells [.map qn,.map qs,I put])
 n:σ.objs[qn]?=some (.map es ck)
 s:σ.objs[qs]?=some (.map es2 ck2)
 mn:MpG true kH es ck (M.map Nd.ent)
 ms:MpG true kP es2 ck2 (M.flatMap Nd.spent)
 ok : ∀ n∈M,n.Ok
 up:M.Pairwise fun a b=>a.num<b.num
 lt : ∀ n∈M,n.num<put
 len:M.length≤90
def fnd (M:List Nd)(id:List UInt8):Option Nd:=M.find? fun n=>decide (n.id=id)
theorem vG (l:List V):(bZ l).cells=some l:=by
 unfold bZ
 cases h:ofD l with
 | none=>rfl
 | some d=>simp only [V.cells]; rw [lX h]
theorem zP (id:List UInt8) : ∀ M:List Nd,lkG (.da (cG id)) (M.map Nd.ent)=(fnd M id).map fun n=>bZ n.cells
 | []=>rfl
 | n::r=>by
  have ih:=zP id r
  unfold fnd at ih ⊢
  simp only [aI,lkG,List.find?_cons]
  by_cases h:n.id=id
  ·simp [Nd.ent,h]
  ·have : ¬ cG n.id=cG id:=fun e=>h (kY e)
   simp only [Nd.ent,V.da.injEq,this,if_false,h,decide_false]
   simpa [Nd.ent] using ih
theorem mO {id:List UInt8}(h:id.length=32):jB true kH (.da (cG id))=true:=by
 have:=oI id
 rw [h] at this
 simp only [jB,Bool.true_and]
 exact this

theorem Gr.more {σ s:St}{g qn qs ck ck2 put:Nat}{es es2:List Ent}{M:List Nd}(h:Gr σ g qn qs es ck es2 ck2 M put)(hf : ∀ r,r<σ.objs.length→s.objs[r]?=σ.objs[r]?):Gr s g qn qs es ck es2 ck2 M put :=
 { h with
  o:=by rw [hf g (aB.1 h.o).1]; exact h.o
  n:=by rw [hf qn (aB.1 h.n).1]; exact h.n
  s:=by rw [hf qs (aB.1 h.s).1]; exact h.s }

theorem uR {σ:St}{g qn qs ck ck2 put:Nat}{es es2:List Ent}{M:List Nd}(h:Gr σ g qn qs es ck es2 ck2 M put){id:List UInt8}(hid:id.length=32) :
  Dn.Call Γ cx .rd 35 [.ref g 0,.da (cG id)] σ fun v _=>v=B (fnd M id).isSome:=by
 refine Dn.Call.body (fc:=c35) rfl ?_
 have hxl:g<σ.objs.length:=(aB.1 h.o).1
 have hql:qn<σ.objs.length:=(aB.1 h.n).1
 simp [-aA,c35,c35_k3,eqV,V.isNil,Opd.isC,c35_k2,c35_k1,iH]
 obtain⟨σ1,hσ1⟩ : ∃ s:St,(⟨σ.objs++[.cells (byV id)],σ.toks⟩:St)=s:=⟨_,rfl⟩
 rw [hσ1]
 have old : ∀ r,r<σ.objs.length→σ1.objs[r]?=σ.objs[r]?:=fun r hr=>by rw [← hσ1]; simp only; rw [aC hr]
 have h1:=h.more old
 have ox:=h1.o
 have oq:=h1.n
 have ot:σ1.objs[σ.objs.length]?=some (.cells (byV id)):=by rw [← hσ1]; simp
 have kp:lI σ σ1:=by rw [← hσ1]; exact⟨fun i hi=>by simp [aC hi],fun t k ht=>ht⟩
 have hlk:=h.mn.look (lS (m:=1) oq) (mO hid) (.da [.nils,.nils,.bool false,.int .i64 0,.int .i64 0,.int .i64 0]) true
 rw [zP] at hlk
 refine gP (fun _=>.val) [] (by decide +kernel) ?_
 have hbt:List.take 32 (byV id)=byV id:=aK (by simp [hU,hid])
 obtain⟨σ2,hσ2⟩ : ∃ s:St,σ1.room 1=s:=⟨_,rfl⟩
 have hl1:σ1.objs.length=σ.objs.length+1:=by rw [← hσ1]; simp
 have of:σ2.objs[σ.objs.length+1]?=some .free:=by rw [← hσ2,← hl1]; simp [St.room]
 have ox2:σ2.objs[g]?=some (.cells [.map qn,.map qs,I put]):=by rw [← hσ2]; exact lS ox
 have ot2:σ2.objs[σ.objs.length]?=some (.cells (byV id)):=by rw [← hσ2]; exact lS ot
 have kp2 : ∀ o,lI σ ⟨σ2.objs.set (σ.objs.length+1) o,σ2.toks⟩:=fun o=>by
  rw [← hσ2]
  refine⟨fun i hi=>?_,fun t k h=>kp.2 t k h⟩
  simp only
  rw [aF (by omega)]
  simp only [St.room]
  rw [aC (by omega)]
  exact kp.1 i hi
 have hn:σ.objs.length+1<σ2.objs.length:=(aB.1 of).1
 have os : ∀ o,(σ2.objs.set (σ.objs.length+1) o)[σ.objs.length+1]?=some o:=fun o=>by rw [aO hn]
 rw [hl1,hσ2]
 rw [hσ2] at hlk
 clear hn
 simp [-aA,gQ,ox2,ot2,hU,hid,hbt,nJ,bZ,ofD]
 rw [show List.map (fun b:UInt8=>D.int .u8 (b.toNat:Int)) id=cG id from rfl]
 have hlk':jH σ2 true (aD 32 (Lf.int IntKind.u8)) (V.da [D.nils,D.nils,D.bool false,D.int aJ 0,D.int aJ 0,D.int aJ 0]) true (V.map qn) (V.da (cG id))=_:=hlk
 rw [hlk']
 clear hlk hlk'
 cases hg:fnd M id with
 | none =>
  simp [of,os,c35_k0]
  exact kp2 _
 | some n =>
  have hc:=vG n.cells
  have hc6:n.cells.length=6:=rfl
  simp [-bZ,of,os,hc,hc6,c35_k0]
  exact kp2 _

def aCs (x y:Int):Int:=if x<y then -1 else if y<x then 1 else 0
theorem aEx (x y:Int):aCs x y<0↔x<y:=by
 unfold aCs
 split
 ·simp [*]
 ·split <;> simp_all
theorem aEQ (x:Int):Dn.Call Γ cx .val 96 [I x] St.empty fun v _=>v=B false:=by
 refine Dn.Call.body (fc:=c96) rfl ?_
 simp [c96,c96_k0]
theorem aFI (x y:Int):Dn.Call Γ cx .val 80 [I x,I y] St.empty fun v _=>v=I (aCs x y):=by
 refine Dn.Call.body (fc:=c80) rfl ?_
 simp [c80,c80_k10]
 refine gI rfl (aEQ x) rfl ?_
 simp [c80_k9]
 refine gI rfl (aEQ y) rfl ?_
 unfold aCs
 by_cases h1:x<y
 ·simp [c80_k8,c80_k7,c80_k5,c80_k4,c80_k3,c80_k2,h1]
 ·by_cases h2:y<x
  ·simp [c80_k8,c80_k7,c80_k5,c80_k4,c80_k3,c80_k2,c80_k1,c80_k0,h1,h2]
  ·simp [c80_k8,c80_k7,c80_k5,c80_k4,c80_k3,c80_k2,c80_k1,c80_k0,h1,h2]

def toB (l:List D):List UInt8:=l.map fun d=>match d with | .int _ n=>UInt8.ofNat n.toNat | _=>0
theorem aAZ : ∀ (k:Nat) (l:List D),fI (aD k (.int .u8)) l=true→cG (toB l)=l∧l.length=k
 | 0,[],_=>⟨rfl,rfl⟩
 | 0,a::r,h=>by simp [fI] at h
 | k+1,[],h=>by simp [List.replicate_succ,fI] at h
 | k+1,a::r,h=>by
  simp only [List.replicate_succ,fI,aS] at h
  obtain⟨h1,h2⟩:=h
  obtain⟨i1,i2⟩:=aAZ k r h2
  cases a with
  | int kd n =>
   simp only [Lf.fits,aS,decide_eq_true_eq,beq_iff_eq] at h1
   refine⟨?_,by simp [i2]⟩
   have hk:kd = .u8:=by simp_all
   subst hk
   have m0:IntKind.u8.min=0:=rfl
   have m1:IntKind.u8.max=255:=rfl
   have n0:0≤n∧n≤255:=by simp_all
   simp only [toB,aI,cG] at i1 ⊢
   rw [List.map_map] at i1
   have e1:(UInt8.ofNat n.toNat).toNat=n.toNat:=by simp [UInt8.toNat_ofNat]; omega
   have e2:((UInt8.ofNat n.toNat).toNat:Int)=n:=by rw [e1]; omega
   rw [List.cons.injEq]
   exact⟨by rw [e2],by simpa using i1⟩
  | _=>simp [Lf.fits] at h1
theorem uX (h:Hs):cG (toB h.1)=h.1:=(aAZ 32 h.1 h.2.2).1
theorem aE0 (h:Hs):(toB h.1).length=32:=by simp [toB,h.2.1]
def mkH (id:List UInt8)(h:id.length=32):Hs:=⟨cG id,by rw [fG,h],by have:=oI id; rw [h] at this; exact this⟩
theorem aKF {id:List UInt8}(h:id.length=32):toB (mkH id h).1=id:=kY (uX _)
def uI (M:List Nd)(h:Hs):Int:=match fnd M (toB h.1) with
 | some n=>n.num
 | none=>0
theorem yB {l:List V}{k n:Nat}{v:V}(h:l[k]?=some v):dL false k n (bZ l)=some v:=by
 unfold bZ
 cases h2:ofD l with
 | none=>simp [dL,h]
 | some d =>
  have:=lX h2
  subst this
  simp at h
  obtain⟨x,hx,rfl⟩:=h
  simp [dL,hx]
theorem aI4 (M:List Nd):Go.Sort.SWO fun a b:Hs=>decide (aCs (uI M a) (uI M b)<0):=by
 have e:(fun a b:Hs=>decide (aCs (uI M a) (uI M b)<0))=fun a b=>decide (uI M a<uI M b):=by
  funext a b
  simp only [aEx]
 rw [e]
 constructor <;> intros <;> simp_all <;> omega

theorem aD3 {σ:St}{g qn qs ck ck2 put r:Nat}{es es2:List Ent}{M:List Nd}(h:Gr σ g qn qs es ck es2 ck2 M put)(hr:σ.objs[r]?=some (.cells [.ref g 0]))(a b:Hs) :
  Dn.Call Γ cx .rd 79 [.da a.1,.da b.1,.ref r 0] σ fun v _=>v=I (aCs (uI M a) (uI M b)):=by
 refine Dn.Call.body (fc:=c79) rfl ?_
 have hrl:r<σ.objs.length:=(aB.1 hr).1
 simp [-aA,c79,c79_k0]
 obtain⟨σ1,hσ1⟩ : ∃ s:St,(⟨σ.objs++[.cells (a.1.map .d),.cells (b.1.map .d)],σ.toks⟩:St)=s:=⟨_,rfl⟩
 rw [hσ1]
 have old : ∀ r,r<σ.objs.length→σ1.objs[r]?=σ.objs[r]?:=fun r hr=>by rw [← hσ1]; simp only; rw [aC hr]
 have h1:=h.more old
 have or1:σ1.objs[r]?=some (.cells [.ref g 0]):=by rw [old r hrl]; exact hr
 have oa:σ1.objs[σ.objs.length]?=some (.cells (a.1.map .d)):=by rw [← hσ1]; simp
 have ob:σ1.objs[σ.objs.length+1]?=some (.cells (b.1.map .d)):=by rw [← hσ1]; simp
 have kp:lI σ σ1:=by rw [← hσ1]; exact⟨fun i hi=>by simp [aC hi],fun t k ht=>ht⟩
 have ox:=h1.o
 have fa : ∀ c:Hs,∃ v,jH σ1 true (aD 32 (Lf.int IntKind.u8)) (.da [.nils,.nils,.bool false,.int .i64 0,.int .i64 0,.int .i64 0]) false (.map qn) (.da c.1)=some v∧dL false 5 1 v=some (I (uI M c)):=fun c=>by
  have z:=h1.mn.look h1.n (mO (aE0 c)) (.da [.nils,.nils,.bool false,.int .i64 0,.int .i64 0,.int .i64 0]) false
  rw [zP,uX] at z
  unfold uI
  cases hg:fnd M (toB c.1) with
  | none=>rw [hg] at z; exact⟨_,z,rfl⟩
  | some n=>rw [hg] at z; exact⟨_,z,yB rfl⟩
 obtain⟨va,za,pa⟩:=fa a
 obtain⟨vb,zb,pb⟩:=fa b
 have ta:List.take 32 (a.1.map V.d)=a.1.map V.d:=aK (by simp [a.2.1])
 have tb:List.take 32 (b.1.map V.d)=b.1.map V.d:=aK (by simp [b.2.1])
 have ma:bZ (a.1.map V.d) = .da a.1:=iO _
 have mb:bZ (b.1.map V.d) = .da b.1:=iO _
 have la:=a.2.1
 have lb:=b.2.1
 refine gP (fun _=>.val) [] (by decide +kernel) ?_
 simp [-aA,-bZ,-dL,dB,gQ,or1,ox,oa,ob,la,lb,ta,tb,ma,mb,za,zb,pa,pb]
 refine gY rfl rfl (aFI _ _) rfl ?_
 simp
 exact kp

theorem aLI {σ:St}{q:Nat}:Dn.Call Γ cx .raw 78 [.map q] σ fun v s=>v = .fn aEG [] [.ref σ.objs.length 0]∧s=⟨σ.objs++[.cells [.map q]],σ.toks⟩:=by
 refine Dn.Call.body (fc:=c78) rfl ?_
 simp [c78,c78_k0]
theorem aFQ {σ:St}{g qn qs ck ck2 put q:Nat}{es es2 es3:List Ent}{ck3:Nat}{M:List Nd}(h:Gr σ g qn qs es ck es2 ck2 M put)(hm:σ.objs[q]?=some (.map es3 ck3))(hbn:Bn es3 ck3)(hk : ∀ k∈es3.map (·.2.1),∃ h:Hs,k=dH h)(hlen:es3.length≤90) :
  Dn.Call Γ cx .raw 55 [.ref g 0,.map q] σ fun v s=>∃ li:List Hs,(li.map dH).Perm (es3.map (·.2.1))∧(li.Pairwise fun a b=>uI M a≤uI M b)∧Col σ.objs.length s v li∧(∀ r,r<σ.objs.length→s.objs[r]?=σ.objs[r]?)∧σ.objs.length≤s.objs.length∧s.toks=σ.toks:=by
 refine Dn.Call.body (fc:=c55) rfl ?_
 have hql:q<σ.objs.length:=(aB.1 hm).1
 simp [c55,c55_k0]
 obtain⟨σ1,hσ1⟩ : ∃ s:St,(⟨σ.objs++[.cells [.ref g 0]],σ.toks⟩:St)=s:=⟨_,rfl⟩
 rw [hσ1]
 have hl1:σ1.objs.length=σ.objs.length+1:=by rw [← hσ1]; simp
 have htk1:σ1.toks=σ.toks:=by rw [← hσ1]
 have old1 : ∀ r,r<σ.objs.length→σ1.objs[r]?=σ.objs[r]?:=fun r hr=>by rw [← hσ1]; simp only; rw [aC hr]
 have oc:σ1.objs[σ.objs.length]?=some (.cells [.ref g 0]):=by rw [← hσ1]; simp
 refine fF aLI fun v s ⟨hv,hs⟩=>?_
 subst hv
 obtain⟨σ2,hσ2⟩ : ∃ s:St,(⟨σ1.objs++[.cells [.map q]],σ1.toks⟩:St)=s:=⟨_,rfl⟩
 rw [hσ2] at hs
 rw [hs]
 clear hs
 have hl2:σ2.objs.length=σ.objs.length+2:=by rw [← hσ2]; simp [hl1]
 have htk2:σ2.toks=σ.toks:=by rw [← hσ2,← htk1]
 have old2 : ∀ r,r<σ.objs.length+1→σ2.objs[r]?=σ1.objs[r]?:=fun r hr=>by rw [← hσ2]; simp only; rw [aC (by omega)]
 have ob:σ2.objs[σ1.objs.length]?=some (.cells [.map q]):=by rw [← hσ2]; simp
 have om:σ2.objs[q]?=some (.map es3 ck3):=by rw [old2 q (by omega),old1 q hql]; exact hm
 simp
 refine fF (aB0 (cmp:=fun a b=>aCs (uI M a) (uI M b)) ob om hbn hk hlen (aI4 M) (fun s hs a b=>?_)) fun v s ⟨li,p1,p2,p3,p4,p5,p6⟩=>?_
 ·have hg:Gr s g qn qs es ck es2 ck2 M put:=h.more fun r hr=>by rw [hs r (by omega),old2 r (by omega),old1 r hr]
  have:=aD3 hg (r:=σ.objs.length) (by rw [hs _ (by omega),old2 _ (by omega)]; exact oc) a b
  simpa using this
 simp
 refine⟨li,p1,p2.imp fun {a b} hab=>?_,?_,fun r hr=>by rw [p4 r (by omega),old2 r (by omega),old1 r hr],by omega,p6.trans htk2⟩
 ·rw [aEx] at hab
  omega
 ·rcases p3 with⟨h1,h2⟩ | ⟨r,h1,h2,h3,h4⟩
  ·exact .inl ⟨h1,h2⟩
  ·exact .inr ⟨r,h1,by omega,h3,h4⟩

def Hl (σ:St)(v:V)(L:List (List UInt8)):Prop:=∀ s:St,(∀ r,r<σ.objs.length→s.objs[r]?=σ.objs[r]?) →
 gZ s .slice v=some L.length∧∀ (i:Nat) (h:List UInt8),L[i]?=some h→∃ p,jA s 32 v (I i)=some p∧loadAt s true 32 p=some (.da (cG h))
theorem Hl.lv {σ:St}{v:V}{L:List (List UInt8)}(h:LV v (hH L))(h32:H32 L):Hl σ v L:=fun s _=>by
 refine⟨by rw [h.len,iN],fun i x hx=>?_⟩
 have hx32:=h32 x (aL hx)
 exact⟨_,h.iaddr s (k:=.i64) (sz:=32) (nS hx) (by rw [fG,hx32]),by simp [loadAt,fG,hx32,aK]⟩

def pB (K:List (List UInt8)):List (V×V):=K.map fun id=>(.da (cG id),I 1)
theorem aBN (id:List UInt8) : ∀ K:List (List UInt8),lkG (.da (cG id)) (pB K)=if id∈K then some (I 1) else none
 | []=>by simp [pB,lkG]
 | k::r=>by
  have ih:=aBN id r
  simp only [pB,aI,lkG] at ih ⊢
  by_cases h:k=id
  ·subst h; simp
  ·have h2 : ¬ cG k=cG id:=fun e=>h (kY e)
   have h3 : ¬ id=k:=fun e=>h e.symm
   simp only [V.da.injEq,h2,if_false,ih,bU,h3,false_or]
theorem aI2 (id:List UInt8)(K:List (List UInt8)):aDe (.da (cG id)) (I 1) (pB K)=pB K:=by
 unfold aDe pB
 rw [List.map_map]
 refine List.map_congr_left fun k hk=>?_
 simp only [Function.comp]
 split
 ·rename_i e; rw [e]
 ·rfl
theorem aBS {s:St}{q:Nat}{es:List Ent}{ck:Nat}{K:List (List UInt8)}(hm:s.objs[q]?=some (.map es ck))(h:MpG true kH es ck (pB K)){id:List UInt8}(hid:id.length=32) :
  ∃ es' ck' K',mA s true kH (.map q) (.da (cG id)) (I 1)=some (.gone,s.setObj q (.map es' ck'))∧MpG true kH es' ck' (pB K')∧(∀ x,x∈K'↔x∈K∨x=id):=by
 by_cases hi:id∈K
 ·obtain⟨a,b⟩:=h.set hm (mO hid) (x:=I 1) (by rfl) (by rw [aBN,if_pos hi])
  rw [aI2] at b
  exact⟨_,_,K,a,b,fun x=>⟨.inl,fun hx=>hx.elim (fun h=>h) fun h=>h▸hi⟩⟩
 ·obtain⟨a,b⟩:=h.ins hm (mO hid) (x:=I 1) (by rfl) (by rw [aBN,if_neg hi])
  refine⟨_,_,K++[id],a,?_,fun x=>by simp⟩
  simpa [pB] using b

structure Set1 (σ s:St)(q:Nat)(K:List (List UInt8))(p:List UInt8→Prop):Prop where
 m : ∃ es ck,s.objs[q]?=some (.map es ck)∧MpG true kH es ck (pB K)
 k : ∀ id,id∈K↔p id
 q:σ.objs.length≤q
 old : ∀ r,r<σ.objs.length→s.objs[r]?=σ.objs[r]?
 len:σ.objs.length≤s.objs.length
 tk:s.toks=σ.toks

def aEj (σ:St)(g q:Nat)(v:V)(M:List Nd)(L:List (List UInt8))(m:Nat)(e:Env)(s:St):Prop:=∃ (i:Nat) (K:List (List UInt8)),e=[(0,.ref g 0),(5,.map q),(9,v),(10,I L.length),(11,I i)]∧i≤L.length∧m=L.length-i∧Set1 σ s q K fun id=>id∈L.take i∧(fnd M id).isSome=true

theorem aB1 {σ:St}{g qn qs ck ck2 put:Nat}{es es2:List Ent}{M:List Nd}(h:Gr σ g qn qs es ck es2 ck2 M put){v:V}{L:List (List UInt8)}(hL:Hl σ v L)(h32:H32 L)(hlen:L.length≤1000000) :
  Dn.Call Γ cx .raw 45 [.ref g 0,v] σ fun w s=>∃ q K,w = .map q∧Set1 σ s q K fun id=>id∈L∧(fnd M id).isSome=true:=by
 refine Dn.Call.body (fc:=c45) rfl ?_
 have hlx:=(hL ⟨σ.objs++[.map [] 0],σ.toks⟩ fun r hr=>by simp only; rw [aC hr]).1
 simp [c45,c45_k9,c45_k8,c45_k7,hlx]
 generalize hq:σ.objs.length=q at *
 refine fK (aEj σ g q v M L) (m:=L.length) ⟨0,[],rfl,by omega,rfl,⟨⟨[],0,by simp [← hq],MpG.nil⟩,by simp,by omega,fun r hr=>by simp only; rw [aC hr],by simp,rfl⟩⟩ ?_
 rintro m e s ⟨i,K,rfl,hi,rfl,hS⟩
 simp [c45_l6,c45_k5]
 by_cases hil:i<L.length
 rotate_left
 ·obtain rfl:i=L.length:=by omega
  rw [bC] at hS
  simp [c45_k0]
  exact⟨K,hS⟩
 obtain⟨id,hid⟩ : ∃ id,L[i]?=some id:=⟨L[i],by simp [hil]⟩
 have hid32:=h32 id (aL hid)
 have hii:(i:Int)<L.length:=by omega
 obtain⟨p,hp1,hp2⟩:=(hL s hS.old).2 i id hid
 have hbt:List.take 32 (byV id)=byV id:=aK (by simp [hU,hid32])
 simp [-aA,-loadAt,hii,hil,c45_k4,c45_k3,hp1,hp2,iH,hU,hid32]
 obtain⟨s2,hs2⟩ : ∃ t:St,(⟨s.objs++[.cells (byV id)],s.toks⟩:St)=t:=⟨_,rfl⟩
 rw [hs2]
 have old2 : ∀ r,r<s.objs.length→s2.objs[r]?=s.objs[r]?:=fun r hr=>by rw [← hs2]; simp only; rw [aC hr]
 have ot:s2.objs[s.objs.length]?=some (.cells (byV id)):=by rw [← hs2]; simp
 have hl2:s2.objs.length=s.objs.length+1:=by rw [← hs2]; simp
 have htk2:s2.toks=s.toks:=by rw [← hs2]
 have hSl:=hS.len
 have hSq:=hS.q
 obtain⟨es5,ck5,hm5,hM5⟩:=hS.m
 have hql:q<s.objs.length:=(aB.1 hm5).1
 have hm6:s2.objs[q]?=some (.map es5 ck5):=by rw [old2 q hql]; exact hm5
 have hG:Gr s2 g qn qs es ck es2 ck2 M put:=h.more fun r hr=>by rw [old2 r (by omega),hS.old r hr]
 have hE:bZ (byV id) = .da (cG id):=by simp [bZ,nJ,cG]
 have htk:L.take (i+1)=L.take i++[id]:=by
  obtain⟨h,rfl⟩:=aB.1 hid
  exact(aZ h).symm
 have ew:aJ.wrap ((i:Int)+1)=((i+1:Nat):Int):=by rw [bY (by omega) (by omega)]; omega
 have fin : ∀ (K':List (List UInt8)) (s3:St),(∃ es ck,s3.objs[q]?=some (.map es ck)∧MpG true kH es ck (pB K'))→(∀ x,x∈K'↔x∈L.take (i+1)∧(fnd M x).isSome=true)→(∀ r,r<σ.objs.length→s3.objs[r]?=σ.objs[r]?)→σ.objs.length≤s3.objs.length→s3.toks=σ.toks→∃ m',m'<L.length-i∧aEj σ g q v M L m' [(0,.ref g 0),(5,.map q),(9,v),(10,I L.length),(11,I (i+1:Nat))] s3 :=
  fun K' s3 a b c d e=>⟨L.length-(i+1),by omega,i+1,K',rfl,by omega,rfl,⟨a,b,hSq,c,d,e⟩⟩
 simp [-bZ,c45_k2,ot,hU,hid32,hbt,hE]
 refine jW (uR hG hid32) ?_
 cases hf:(fnd M id).isSome with
 | false =>
  simp [hf,c45_k1,ew]
  refine fin K s2 ⟨es5,ck5,hm6,hM5⟩ (fun x=>?_) (fun r hr=>by rw [old2 r (by omega),hS.old r hr]) (by omega) (htk2.trans hS.tk)
  rw [hS.k,htk,aW,bI]
  constructor
  ·rintro ⟨a,b⟩; exact⟨.inl a,b⟩
  ·rintro ⟨a | a,b⟩
   ·exact⟨a,b⟩
   ·subst a; rw [hf] at b; cases b
 | true =>
  obtain⟨es7,ck7,K',hu,hM7,hK⟩:=aBS hm6 hM5 hid32
  have hu':mA s2 true (aD 32 (Lf.int IntKind.u8)) (.map q) (.da (cG id)) (I 1)=_:=hu
  simp [-bZ,-aA,hf,c45_k1,ot,hU,hid32,hbt,hE,hu',ew]
  refine fin K' _ ⟨es7,ck7,by simp [St.setObj,show q<s2.objs.length by omega],hM7⟩ (fun x=>?_) (fun r hr=>by simp only [St.setObj]; rw [aF (by omega),old2 r (by omega),hS.old r hr]) (by simp [St.setObj]; omega) (htk2.trans hS.tk)
  rw [hK,hS.k,htk,aW,bI]
  constructor
  ·rintro (⟨a,b⟩ | rfl)
   ·exact⟨.inl a,b⟩
   ·exact⟨.inr rfl,hf⟩
  ·rintro ⟨a | a,b⟩
   ·exact .inl ⟨a,b⟩
   ·exact .inr a
end Go.Proofs.YtdfhfhcilfjdgaaGreatDoor.T

namespace Go.Proofs.YtdfhfhcilfjdgaaGreatDoor.T
open Go.Dn

def gX (M:List Nd)(K:List (List UInt8)):List Nd:=M.filter fun n=>decide (n.id∈K)
theorem aEK {f:List UInt8→Int} : ∀ {a b:List (List UInt8)},a.Perm b→(a.Pairwise fun x y=>f x≤f y)→(b.Pairwise fun x y=>f x<f y)→a=b
 | [],b,h,_,_=>(List.nil_perm.1 h).symm
 | x::a,[],h,_,_=>by cases (List.perm_nil.1 h)
 | x::a,y::b,h,h1,h2=>by
  have hxy:x=y:=by
   rw [List.pairwise_cons] at h1 h2
   rcases bU.1 (h.mem_iff.1 (List.mem_cons_self (a:=x) (l:=a))) with e | hx
   ·exact e
   rcases bU.1 (h.mem_iff.2 (List.mem_cons_self (a:=y) (l:=b))) with e | hy
   ·exact e.symm
   have p1:=h2.1 x hx
   have p2:=h1.1 y hy
   omega
  subst hxy
  rw [aEK (h.cons_inv) (List.pairwise_cons.1 h1).2 (List.pairwise_cons.1 h2).2]
theorem lR {M:List Nd}(hn:(M.map (·.id)).Nodup){n:Nd}(h:n∈M):fnd M n.id=some n:=by
 induction M with
 | nil=>cases h
 | cons a r ih =>
  simp only [aI,List.nodup_cons] at hn
  unfold fnd at ih ⊢
  rw [List.find?_cons]
  rcases bU.1 h with rfl | h
  ·simp
  ·have : ¬ a.id=n.id:=fun e=>hn.1 (by rw [e]; exact aT.2 ⟨n,h,rfl⟩)
   simp only [this,decide_false]
   exact ih hn.2 h
theorem jQ {M:List Nd}{id:List UInt8}{n:Nd}(h:fnd M id=some n):n∈M∧n.id=id:=by
 have:=List.find?_some h
 exact⟨List.mem_of_find?_eq_some h,by simpa using this⟩
theorem Gr.nd {σ:St}{g qn qs ck ck2 put:Nat}{es es2:List Ent}{M:List Nd}(h:Gr σ g qn qs es ck es2 ck2 M put):(M.map (·.id)).Nodup:=by
 have:=h.mn.nd
 rw [List.map_map] at this
 have e:(Prod.fst ∘ Nd.ent)=fun n:Nd=>V.da (cG n.id):=rfl
 rw [e] at this
 have h2:M.map (fun n:Nd=>V.da (cG n.id))=(M.map (·.id)).map fun i=>V.da (cG i):=by rw [List.map_map]; rfl
 rw [h2] at this
 exact(List.pairwise_map.1 this).imp fun h e=>h (by rw [e])
def aIw (M:List Nd)(id:List UInt8):Int:=match fnd M id with
 | some n=>n.num
 | none=>0
theorem aIz {M:List Nd}(hn:(M.map (·.id)).Nodup)(hu:M.Pairwise fun a b=>a.num<b.num)(K:List (List UInt8)):((gX M K).map (·.id)).Pairwise fun x y=>aIw M x<aIw M y:=by
 rw [List.pairwise_map]
 refine(List.Pairwise.and_mem.1 (hu.sublist List.filter_sublist)).imp fun {a b} hab=>?_
 obtain⟨ha,hb,h⟩:=hab
 unfold aIw
 rw [lR hn (aY.1 ha).1,lR hn (aY.1 hb).1]
 simp only
 omega
theorem vO {M:List Nd}(hn:(M.map (·.id)).Nodup){K:List (List UInt8)}(hK:K.Nodup)(hs : ∀ id∈K,(fnd M id).isSome=true):K.Perm ((gX M K).map (·.id)):=by
 refine(List.perm_ext_iff_of_nodup hK (hn.sublist (List.filter_sublist.map _))).2 fun id=>?_
 constructor
 ·intro h
  obtain⟨n,hf⟩:=Option.isSome_iff_exists.1 (hs id h)
  obtain⟨h1,h2⟩:=jQ hf
  exact aT.2 ⟨n,aY.2 ⟨h1,by simpa [h2] using h⟩,h2⟩
 ·intro h
  obtain⟨n,h1,rfl⟩:=aT.1 h
  simpa using (aY.1 h1).2

theorem sX (id:List UInt8):toB (cG id)=id:=by
 unfold toB cG
 rw [List.map_map]
 refine(List.map_congr_left fun b _=>?_).trans (List.map_id _)
 simp
def ColB (lo:Nat)(s:St)(v:V)(L:List (List UInt8)):Prop:=∃ li:List Hs,li.map (fun h=>toB h.1)=L∧Col lo s v li
def aCN:V→List UInt8
 | .da l=>toB l
 | _=>[]

theorem uS {σ:St}{g qn qs ck ck2 put q:Nat}{es es2:List Ent}{M:List Nd}(h:Gr σ g qn qs es ck es2 ck2 M put){K:List (List UInt8)}(hm : ∃ es ck,σ.objs[q]?=some (.map es ck)∧MpG true kH es ck (pB K))(hs : ∀ id∈K,(fnd M id).isSome=true) :
  Dn.Call Γ cx .raw 55 [.ref g 0,.map q] σ fun v s=>ColB σ.objs.length s v ((gX M K).map (·.id))∧(∀ r,r<σ.objs.length→s.objs[r]?=σ.objs[r]?)∧σ.objs.length≤s.objs.length∧s.toks=σ.toks:=by
 obtain⟨es3,ck3,hm,hM⟩:=hm
 have hnd:=h.nd
 have hkeys:(es3.map (·.2.1)).Perm (K.map fun id=>V.da (cG id)):=by
  have:=hM.pm.map (·.1)
  rw [List.map_map] at this
  refine this.trans ?_
  unfold pB
  rw [List.map_map]
  exact List.Perm.refl _
 have hKn:K.Nodup:=by
  have:=hM.nd
  unfold pB at this
  rw [List.map_map] at this
  exact(List.pairwise_map.1 this).imp fun h e=>h (by rw [e])
 have hp:=vO hnd hKn hs
 have hlen:es3.length≤90:=by
  have h1:=hkeys.length_eq
  have h2:=hp.length_eq
  have h3:(gX M K).length≤M.length:=List.length_filter_le _ _
  have h4:=h.len
  simp at h1 h2
  omega
 have h32 : ∀ id∈K,id.length=32:=fun id hid=>by
  obtain⟨n,hf⟩:=Option.isSome_iff_exists.1 (hs id hid)
  obtain⟨h1,rfl⟩:=jQ hf
  exact(h.ok n h1).id
 have hk : ∀ k∈es3.map (·.2.1),∃ h:Hs,k=dH h:=fun k hk=>by
  obtain⟨id,hid,rfl⟩:=aT.1 (hkeys.mem_iff.1 hk)
  exact⟨mkH id (h32 id hid),rfl⟩
 refine Call.mono (fun v s hv=>?_) (aFQ h hm ⟨hM.bd,hM.lt⟩ hk hlen)
 obtain⟨li,p1,p2,p3,p4,p5,p6⟩:=hv
 refine⟨⟨li,?_,p3⟩,p4,p5,p6⟩
 ·have e1:(li.map fun h=>toB h.1).Perm K:=by
   have:=(p1.trans hkeys).map aCN
   rw [List.map_map,List.map_map] at this
   have e2:K.map (aCN ∘ fun id=>V.da (cG id))=K:=(List.map_congr_left fun id _=>sX id).trans (List.map_id _)
   rw [e2] at this
   exact this
  refine aEK (f:=aIw M) (e1.trans hp) ?_ (aIz hnd h.up K)
  rw [List.pairwise_map]
  exact p2
end Go.Proofs.YtdfhfhcilfjdgaaGreatDoor.T

namespace Go.Proofs.YtdfhfhcilfjdgaaGreatDoor.T
open Go.Dn
attribute [local simp] dO dF GB aM aI aG dA eW cE dZ cS cK dY dX eM eP eS cM cW cX eN fD gD fQ fB dK fC gE cJ cY cZ dN eB eC gA eR eE eF eD cL cU cV fZ i_p dU fY eA eV dW eU dV eX gC t_p eY eH gB eJ cT eZ eI eG gM aE aH dC dM fP fO fR gR Opd.ev Env.get Env.set Env.pick eK dE cB eO eQ cF dD dG gO eL Res.ev fL cN dI gS fN fW fX gW fT fU fV cx Dn.newObj St.place St.push St.spot St.empty eT dP cO cR dS dQ dT cQ dR cP loadAt cH dL cI bZ ofD splice St.setObj fE

theorem Hl.col {lo:Nat} {σ:St}{v:V}{li:List Hs}(h:Col lo σ v li):Hl σ v (li.map fun h=>toB h.1):=fun s hs=>by
 rcases h with⟨rfl,rfl⟩ | ⟨r,rfl,hr,ho,hne⟩
 ·exact⟨rfl,fun i h hi=>by simp at hi⟩
 ·have ho':s.objs[r]?=some (.cells (arL li)):=by rw [hs r (aB.1 ho).1]; exact ho
  refine⟨by simp [gZ,Dn.lenV],fun i x hi=>?_⟩
  rw [bG] at hi
  obtain⟨k,hk,rfl⟩:=Option.map_eq_some_iff.1 hi
  have hil:i<li.length:=(aB.1 hk).1
  refine⟨_,gG s (q:=r) hil,?_⟩
  have hl:32*i+32≤(arL li).length:=by rw [aEt]; omega
  simp only [loadAt,ho',if_true,hl]
  rw [arL,aBC _ i _ hk,iO,uX]
theorem ColB.hl {lo:Nat} {σ:St}{v:V}{L:List (List UInt8)}(h:ColB lo σ v L):Hl σ v L:=by
 obtain⟨li,rfl,h⟩:=h
 exact Hl.col h
theorem ColB.h32 {lo:Nat} {σ:St}{v:V}{L:List (List UInt8)}(h:ColB lo σ v L):H32 L:=by
 obtain⟨li,rfl,h⟩:=h
 intro x hx
 obtain⟨k,hk,rfl⟩:=aT.1 hx
 exact aE0 k

theorem zZ {M:List Nd}{K L:List (List UInt8)}(h : ∀ id,id∈K↔id∈L∧(fnd M id).isSome=true)(hn:(M.map (·.id)).Nodup):gX M K=gX M L:=by
 unfold gX
 refine List.filter_congr fun n hn'=>?_
 have:(fnd M n.id).isSome=true:=by rw [lR hn hn']; rfl
 simp [h,this]

theorem aKp {σ:St}{g qn qs ck ck2 put:Nat}{es es2:List Ent}{M:List Nd}(h:Gr σ g qn qs es ck es2 ck2 M put) :
  Dn.Call Γ cx .rd 36 [.ref g 0] σ fun v _=>v=I M.length:=by
 refine Dn.Call.body (fc:=c36) rfl ?_
 have hgo:=h.o
 have hno:=h.n
 have hl:=h.mn.len
 simp at hl
 simp [c36,c36_k2,eqV,V.isNil,Opd.isC,c36_k1,c36_k0,gQ,hgo,hno,gZ,hl]
 exact⟨fun _ _=>rfl,fun _ _ h=>h⟩
end Go.Proofs.YtdfhfhcilfjdgaaGreatDoor.T

namespace Go.Proofs.YtdfhfhcilfjdgaaGreatDoor.T
open Go.Dn

def spn (M:List Nd)(p:List UInt8×Int):Option Nd:=M.find? fun n=>decide (p∈n.ins.map fS)
theorem aEL {p q:List UInt8×Int}(h:ptD p=ptD q):p=q:=by
 unfold ptD at h
 have h2:=List.append_inj' h rfl
 obtain⟨a,b⟩:=h2
 have:=kY a
 simp at b
 exact Prod.ext this b
theorem vK (p:List UInt8×Int)(w:V)(t:List (V×V)) : ∀ l:List SpG,lkG (.da (ptD p)) ((l.map fun s=>(V.da (ptD (fS s)),w))++t)=if p∈l.map fS then some w else lkG (.da (ptD p)) t
 | []=>by simp
 | s::r=>by
  have ih:=vK p w t r
  simp only [aI,aE,lkG]
  by_cases h:fS s=p
  ·subst h; simp
  ·have h2 : ¬ ptD (fS s)=ptD p:=fun e=>h (aEL e)
   have h3 : ¬ p=fS s:=fun e=>h e.symm
   simp only [V.da.injEq,h2,if_false,ih,bU,h3,false_or]
theorem uF (p:List UInt8×Int) : ∀ M:List Nd,lkG (.da (ptD p)) (M.flatMap Nd.spent)=(spn M p).map fun n=>V.da (cG n.id)
 | []=>rfl
 | n::r=>by
  have ih:=uF p r
  rw [List.flatMap_cons]
  unfold Nd.spent
  rw [vK]
  unfold spn at ih ⊢
  rw [List.find?_cons]
  by_cases h:p∈n.ins.map fS
  ·simp [h]
  ·have hd:decide (p∈n.ins.map fS)=false:=decide_eq_false h
   rw [hd,if_neg h]
   exact ih
end Go.Proofs.YtdfhfhcilfjdgaaGreatDoor.T

namespace Go.Proofs.YtdfhfhcilfjdgaaGreatDoor.T
open Go.Dn
attribute [local simp] dO dF GB aM aI aG dA eW cE dZ cS cK dY dX eM eP eS cM cW cX eN fD gD fQ fB dK fC gE cJ cY cZ dN eB eC gA eR eE eF eD cL cU cV fZ i_p dU fY eA eV dW eU dV eX gC t_p eY eH gB eJ cT eZ eI eG gM aE aH dC dM fP fO fR gR Opd.ev Env.get Env.set Env.pick eK dE cB eO eQ cF dD dG gO eL Res.ev fL cN dI gS fN fW fX gW fT fU fV cx Dn.newObj St.place St.push St.spot St.empty eT dP cO cR dS dQ dT cQ dR cP loadAt cH dL cI bZ ofD splice St.setObj fE

theorem vW {σ:St}{g qn qs ck ck2 put:Nat}{es es2:List Ent}{M:List Nd}(h:Gr σ g qn qs es ck es2 ck2 M put){p:List UInt8×Int}(hp:p.1.length=32)(hkey:jB true kP (.da (ptD p))=true) :
  Dn.Call Γ cx .rd 21 [.ref g 0,.da (ptD p)] σ fun v _=>v=match spn M p with
   | some n=>.tup [.da (cG n.id),B true]
   | none=>.tup [.da (aD 32 (.int .u8 0)),B false]:=by
 refine Dn.Call.body (fc:=c21) rfl ?_
 have hxl:g<σ.objs.length:=(aB.1 h.o).1
 have hpl:(ptD p).length=33:=by simp [ptD,fG,hp]
 simp [-aA,c21,c21_k3,eqV,V.isNil,Opd.isC,c21_k2,c21_k1]
 obtain⟨σ1,hσ1⟩ : ∃ s:St,(⟨σ.objs++[.cells ((ptD p).map V.d),.cells (aD 32 (V.d (D.int .u8 0)))],σ.toks⟩:St)=s:=⟨_,rfl⟩
 rw [hσ1]
 have old : ∀ r,r<σ.objs.length→σ1.objs[r]?=σ.objs[r]?:=fun r hr=>by rw [← hσ1]; simp only; rw [aC hr]
 have h1:=h.more old
 have hl1:σ1.objs.length=σ.objs.length+2:=by rw [← hσ1]; simp
 have o3:σ1.objs[σ.objs.length]?=some (.cells ((ptD p).map V.d)):=by rw [← hσ1]; simp
 have o4:σ1.objs[σ.objs.length+1]?=some (.cells (aD 32 (V.d (D.int .u8 0)))):=by rw [← hσ1]; simp
 have tk1:σ1.toks=σ.toks:=by rw [← hσ1]
 obtain⟨σ2,hσ2⟩ : ∃ s:St,σ1.room 1=s:=⟨_,rfl⟩
 have hl2:σ2.objs.length=σ.objs.length+3:=by rw [← hσ2]; simp [St.room,hl1]
 have tk2:σ2.toks=σ.toks:=by rw [← hσ2,← tk1]; rfl
 have of:σ2.objs[σ.objs.length+2]?=some .free:=by rw [← hσ2,← hl1]; simp [St.room]
 have og:σ2.objs[g]?=some (.cells [.map qn,.map qs,I put]):=by rw [← hσ2]; exact lS h1.o
 have os:σ2.objs[qs]?=some (.map es2 ck2):=by rw [← hσ2]; exact lS h1.s
 have p3:σ2.objs[σ.objs.length]?=some (.cells ((ptD p).map V.d)):=by rw [← hσ2]; exact lS o3
 have p4:σ2.objs[σ.objs.length+1]?=some (.cells (aD 32 (V.d (D.int .u8 0)))):=by rw [← hσ2]; exact lS o4
 have old2 : ∀ r,r<σ.objs.length→σ2.objs[r]?=σ.objs[r]?:=fun r hr=>by
  rw [← hσ2]; simp only [St.room]; rw [aC (by omega)]; exact old r hr
 have zs:(aD 32 (V.d (D.int .u8 0))).length=32:=bS
 have hlk:=h.ms.look os hkey (.da (aD 32 (.int .u8 0))) true
 rw [uF] at hlk
 have ht:List.take 33 ((ptD p).map V.d)=(ptD p).map V.d:=aK (by simp [hpl])
 have hag:bZ ((ptD p).map V.d) = .da (ptD p):=iO _
 obtain⟨w,bw,hw,hw32,hres⟩ : ∃ (w:List D) (bw:Bool),jH σ2 true (aD 32 (Lf.int IntKind.u8)++[Lf.int aJ]) (.da (aD 32 (.int .u8 0))) true (.map qs) (.da (ptD p))=some (.tup [.da w,B bw])∧w.length=32∧(match spn M p with
   | some n=>V.tup [.da (cG n.id),B true]
   | none=>V.tup [.da (aD 32 (.int .u8 0)),B false]) = .tup [.da w,B bw]:=by
  cases hs:spn M p with
  | none=>rw [hs] at hlk; exact⟨_,_,hlk,bS,rfl⟩
  | some n =>
   rw [hs] at hlk
   exact⟨_,_,hlk,by rw [fG]; exact(h.ok n (List.mem_of_find?_eq_some hs)).id,rfl⟩
 rw [hres]
 clear hlk
 refine gP (fun _=>.val) [] (by decide +kernel) ?_
 rw [hl1,hσ2]
 have wt:List.take 32 (w.map V.d)=w.map V.d:=aK (by simp [hw32])
 have wag:bZ (w.map V.d) = .da w:=iO _
 have s2 : ∀ o,(σ2.objs.set (σ.objs.length+2) o)[σ.objs.length+2]?=some o:=fun o=>by rw [aO (by omega)]
 have s4 : ∀ o,(σ2.objs.set (σ.objs.length+2) o)[σ.objs.length+1]?=some (.cells (aD 32 (V.d (D.int .u8 0)))):=fun o=>by rw [aF (by omega)]; exact p4
 have s5 : ∀ o o',((σ2.objs.set (σ.objs.length+2) o).set (σ.objs.length+1) o')[σ.objs.length+1]?=some o':=fun o o'=>by rw [aO (by simp; omega)]
 have sp:splice (aD 32 (V.d (D.int .u8 0))) 0 (w.map V.d)=w.map V.d:=by
  unfold splice
  rw [bT (by simp [hw32])]
  simp
 have kp : ∀ o o',lI σ ⟨(σ2.objs.set (σ.objs.length+2) o).set (σ.objs.length+1) o',σ2.toks⟩:=fun o o' =>
  ⟨fun i hi=>by simp only; rw [aF (by omega),aF (by omega)]; exact old2 i hi,fun t k h=>by simp only; rw [tk2]; exact h⟩
 simp [-aA,-splice,-bZ,gQ,og,p3,hpl,ht,hag,hw,of,s2,sp,zs,hw32,wt,wag,s4,s5,c21_k0,V.byVal]
 exact kp _ _

theorem aHw {σ:St}:Dn.Call Γ cx .raw 9 [] σ fun v s=>v = .ref (σ.objs.length+2) 0∧Gr s (σ.objs.length+2) σ.objs.length (σ.objs.length+1) [] 0 [] 0 [] 0∧(∀ r,r<σ.objs.length→s.objs[r]?=σ.objs[r]?)∧s.objs.length=σ.objs.length+3∧s.toks=σ.toks:=by
 refine Dn.Call.body (fc:=c9) rfl ?_
 simp [c9,c9_k0]
 refine⟨⟨by simp,by simp,by simp,MpG.nil,MpG.nil,by simp,List.Pairwise.nil,by simp,by simp⟩,fun r hr=>?_⟩
 rw [aC hr]

def lvD:V→D
 | .d x=>x
 | .fl r=>.list r
 | .tl r _ _ _=>.list r
 | _=>.nils
theorem LV.lvD {v:V}{rows:List (List D)}(h:LV v rows) (σ:St):V.byVal1 σ v=some (lvD v)∧LV (.d (T.lvD v)) rows:=by
 cases h with
 | nil=>exact⟨rfl,.nil⟩
 | list=>exact⟨rfl,.list _⟩
 | fl=>exact⟨rfl,.list _⟩
 | tl=>exact⟨rfl,.list _⟩
theorem aBO {l:List V}{d:List D}(h:ofD l=some d):bZ l = .da d:=by
 unfold bZ; rw [h]
theorem aDV {l:List V}(h:ofD l=none):bZ l = .agg l:=by
 unfold bZ; rw [h]
theorem aAM (σ:St) : ∀ d:List D,jY σ (d.map .d)=some d
 | []=>rfl
 | x::r=>by simp only [aI,jY,V.byVal1,aAM σ r]
theorem aJf {σ:St}{l:List V}{ds:List D}(h:jY σ l=some ds):V.byVal σ (bZ l)=some (.da ds):=by
 cases h2:ofD l with
 | none=>rw [aDV h2]; simp only [V.byVal,h]
 | some d =>
  rw [aBO h2]
  have:=lX h2
  subst this
  rw [aAM] at h
  cases h
  rfl
theorem aCY {l:List V}{off n:Nat}(h:off+n≤l.length):dL true off n (bZ l)=some (bZ ((l.drop off).take n)):=by
 cases h2:ofD l with
 | none=>rw [aDV h2]; simp only [dL,if_true,h]
 | some d =>
  rw [aBO h2]
  have:=lX h2
  subst this
  simp only [aQ] at h
  simp only [dL,if_true,h]
  rw [← List.map_drop,← List.map_take,iO]
theorem oO {l:List V}:(bZ l).cells=some l:=vG l

def Nd.dat (n:Nd):List D:=[lvD n.a,lvD n.b,.bool n.f]
theorem Nd.Ok.txd {n:Nd}(h:n.Ok):TxD (lvD n.a) (lvD n.b) n.f n.ins n.outs:=⟨(LV.lvD h.a St.empty).2,(LV.lvD h.b St.empty).2,h.li,h.lo,h.si,h.so⟩
theorem Nd.Ok.bv {n:Nd}(h:n.Ok) (σ:St):V.byVal σ (bZ [n.a,n.b,.d (.bool n.f)])=some (.da n.dat):=by
 have e1:=(LV.lvD h.a σ).1
 have e2:=(LV.lvD h.b σ).1
 have e3:V.byVal1 σ (.d (.bool n.f))=some (.bool n.f):=rfl
 refine aJf ?_
 simp only [jY,e1,e2,e3,Nd.dat]
theorem Nd.tx3 (n:Nd):dL true 0 3 (bZ n.cells)=some (bZ [n.a,n.b,.d (.bool n.f)]):=aCY (by simp [Nd.cells])
theorem TxD.ok {i o:D}{f:Bool}{ins:List SpG}{outs:List CoG}(h:TxD i o f ins outs):aH2 i o (fH ins) (gH outs):=⟨h.i,h.o,fun r hr=>by
 obtain⟨s,hs,rfl⟩:=aT.1 hr
 exact fM (h.si s hs),fun r hr=>by
 obtain⟨s,hs,rfl⟩:=aT.1 hr
 rfl⟩

theorem aJY {l:List V}(h:l.any V.borrow1=false):(bZ l).borrows=false:=by
 cases h2:ofD l with
 | none=>rw [aDV h2]; exact h
 | some d=>rw [aBO h2]; rfl
theorem LV.bor1 {v:V}{rows:List (List D)}(h:LV v rows):v.borrow1=false:=by cases h <;> rfl
theorem Nd.Ok.nb {n:Nd}(h:n.Ok):(bZ [n.a,n.b,.d (.bool n.f)]).borrows=false:=aJY (by
 have e1:=LV.bor1 h.a
 have e2:=LV.bor1 h.b
 have e3:V.borrow1 (.d (.bool n.f))=false:=rfl
 simp only [List.any_cons,List.any_nil,e1,e2,e3,Bool.or_false])
theorem Nd.Ok.hp {n:Nd}(h:n.Ok){r:V}(hr:r.pure=true):(r.pure&&(!([bZ [n.a,n.b,.d (.bool n.f)]]:List V).any V.borrows||r.scalars))=true:=by
 have e:=h.nb
 simp only [List.any_cons,List.any_nil,e,hr,Bool.or_false,Bool.not_false,Bool.true_or,Bool.and_true]
theorem tS {σ:St}{v d:V}(h:V.byVal σ v=some d):cN σ [v]=some [d]:=by simp [cN,h]
abbrev aLH:List D:=[.nils,.nils,.bool false,.int .i64 0,.int .i64 0,.int .i64 0]
theorem Gr.nod {σ:St}{g qn qs ck ck2 put:Nat}{es es2:List Ent}{M:List Nd}(h:Gr σ g qn qs es ck es2 ck2 M put){id:List UInt8}(hid:id.length=32){n:Nd}(hf:fnd M id=some n) :
  jH σ true (aD 32 (Lf.int IntKind.u8)) (V.da [D.nils,D.nils,D.bool false,D.int aJ 0,D.int aJ 0,D.int aJ 0]) false (V.map qn) (V.da (cG id))=some (bZ n.cells):=by
 have z:=h.mn.look h.n (mO hid) (.da aLH) false
 rw [zP,hf] at z
 exact z

theorem aLo {σ:St}{g qn qs ck ck2 put:Nat}{es es2:List Ent}{M:List Nd}(h:Gr σ g qn qs es ck es2 ck2 M put){id:List UInt8}(hid:id.length=32) :
  Dn.Call Γ cx .rd 13 [.ref g 0,.da (cG id)] σ fun v _=>v=match fnd M id with
   | some n=>.tup [.da n.dat,B true]
   | none=>.tup [.da [.nils,.nils,.bool false],B false]:=by
 refine Dn.Call.body (fc:=c13) rfl ?_
 simp [-aA,c13,iH]
 obtain⟨σ1,hσ1⟩ : ∃ s:St,(⟨σ.objs++[.cells (byV id),.cells [.d .nils,.d .nils,.d (.bool false)]],σ.toks⟩:St)=s:=⟨_,rfl⟩
 rw [hσ1]
 have old : ∀ r,r<σ.objs.length→σ1.objs[r]?=σ.objs[r]?:=fun r hr=>by rw [← hσ1]; simp only; rw [aC hr]
 have h1:=h.more old
 have hl1:σ1.objs.length=σ.objs.length+2:=by rw [← hσ1]; simp
 have o3:σ1.objs[σ.objs.length]?=some (.cells (byV id)):=by rw [← hσ1]; simp
 have o4:σ1.objs[σ.objs.length+1]?=some (.cells [.d .nils,.d .nils,.d (.bool false)]):=by rw [← hσ1]; simp
 have kp : ∀ o,lI σ ⟨σ1.objs.set (σ.objs.length+1) o,σ1.toks⟩:=fun o=>by
  rw [← hσ1]; exact⟨fun i hi=>by simp only; rw [aF (by omega),aC hi],fun t k ht=>ht⟩
 have hbt:List.take 32 (byV id)=byV id:=aK (by simp [hU,hid])
 have hE:bZ (byV id) = .da (cG id):=by simp [bZ,nJ,cG]
 have s4 : ∀ o,(σ1.objs.set (σ.objs.length+1) o)[σ.objs.length+1]?=some o:=fun o=>by rw [aO (by omega)]
 simp [-bZ,-aA,c13_k2,o3,hU,hid,hbt,hE]
 refine jW (uR h1 hid) ?_
 cases hf:fnd M id with
 | none =>
  simp [c13_k1,o4,s4]
  exact kp _
 | some n =>
  have hn:=h.ok n (jQ hf).1
  simp [-bZ,-aA,c13_k1,c13_k0]
  refine gP (fun _=>.val) [] (by decide +kernel) ?_
  have hnod:=h1.nod hid hf
  have ox:=h1.o
  simp [dB,-aA,-bZ,-dL,gQ,ox,o3,hU,hid,hbt,hE,hnod,n.tx3]
  refine gY rfl (tS (hn.bv _)) (aDd hn.txd.ok (by simp [fH]; have:=hn.li; omega) (by simp [gH]; have:=hn.lo; omega)) (hn.hp (r:=.da n.dat) rfl) ?_
  simp [o4,s4,Nd.dat]
  exact kp _

def pT (M:List Nd)(p:List UInt8×Int):Option CoG:=match fnd M p.1 with
 | some n=>if 0≤p.2 then n.outs[p.2.toNat]? else none
 | none=>none
def yR:Option CoG→V
 | some c=>.tup [.da c.row,B true]
 | none=>.tup [.da [.int .i64 0,.int .u64 0],B false]
theorem aEM {p:List UInt8×Int}(hp:p.1.length=32):List.take 32 (List.map V.d (ptD p))=(cG p.1).map V.d:=by
 unfold ptD
 rw [List.map_append,List.take_append_of_le_length (by simp [fG,hp]),aK (by simp [fG,hp])]
theorem aJj {p:List UInt8×Int}(hp:p.1.length=32):(ptD p)[32]?=some (.int .i64 p.2):=by
 unfold ptD
 rw [bH (by simp [fG,hp])]
 simp [fG,hp]
theorem aBR {p:List UInt8×Int}(hp:p.1.length=32):(ptD p).length=33:=by simp [ptD,fG,hp]

set_option maxHeartbeats 400000 in
theorem aKh {σ:St}{g qn qs ck ck2 put:Nat}{es es2:List Ent}{M:List Nd}(h:Gr σ g qn qs es ck es2 ck2 M put){p:List UInt8×Int}(hp:p.1.length=32) :
  Dn.Call Γ cx .rd 32 [.ref g 0,.da (ptD p)] σ fun v _=>v=yR (pT M p):=by
 refine Dn.Call.body (fc:=c32) rfl ?_
 simp [-aA,c32]
 obtain⟨σ1,hσ1⟩ : ∃ s:St,(⟨σ.objs++[.cells ((ptD p).map V.d),.cells [.d (.int .i64 0),.d (.int .u64 0)]],σ.toks⟩:St)=s:=⟨_,rfl⟩
 rw [hσ1]
 have old : ∀ r,r<σ.objs.length→σ1.objs[r]?=σ.objs[r]?:=fun r hr=>by rw [← hσ1]; simp only; rw [aC hr]
 have h1:=h.more old
 have ox:=h1.o
 have hl1:σ1.objs.length=σ.objs.length+2:=by rw [← hσ1]; simp
 have o3:σ1.objs[σ.objs.length]?=some (.cells ((ptD p).map V.d)):=by rw [← hσ1]; simp
 have o4:σ1.objs[σ.objs.length+1]?=some (.cells [.d (.int .i64 0),.d (.int .u64 0)]):=by rw [← hσ1]; simp
 have kp : ∀ o,lI σ ⟨σ1.objs.set (σ.objs.length+1) o,σ1.toks⟩:=fun o=>by
  rw [← hσ1]; exact⟨fun i hi=>by simp only; rw [aF (by omega),aC hi],fun t k ht=>ht⟩
 have s4 : ∀ o,(σ1.objs.set (σ.objs.length+1) o)[σ.objs.length+1]?=some o:=fun o=>by rw [aO (by omega)]
 have pl:=aBR hp
 have pt:=aEM hp
 have pa:=aJj hp
 have hE:bZ ((cG p.1).map V.d) = .da (cG p.1):=iO _
 have l1:loadAt σ1 false 1 (.ref σ.objs.length 32)=some (.d (.int .i64 p.2)):=by simp only [loadAt,o3,bG,pa]; rfl
 have l2:loadAt σ1 true 32 (.ref σ.objs.length 0)=some (.da (cG p.1)):=by simp only [loadAt,o3,bF,pt,hE,aQ,pl]; rfl
 have l3:loadAt σ1 false 1 (.ref g 0)=some (.map qn):=by simp only [loadAt,ox]; rfl
 have hag : ∀ s:St,Agr σ1.objs.length σ1 s→Gr s g qn qs es ck es2 ck2 M put:=fun s ha=>h1.more fun r hr=>ha.1 r hr
 simp [-aA,c32_k2]
 refine gP (fun _=>.rd) [] (by decide +kernel) ?_
 simp [dB,-aA,-bZ,-dL,-loadAt,l2]
 refine oH rfl (fun s ha=>uR (hag s ha) hp) ?_
 cases hf:fnd M p.1 with
 | none =>
  simp [-bZ,-dL,-loadAt,-aA,pT,hf]
  simp [c32_k1,o4,s4,yR]
  exact kp _
 | some n =>
  have hn:=h.ok n (jQ hf).1
  have hnod:=h1.nod hp hf
  have hb1:dL false 1 1 (bZ [n.a,n.b,.d (.bool n.f)])=some n.b:=yB rfl
  have hbl:=fun s=>hn.b.len s
  have hcl:(gH n.outs).length=n.outs.length:=by simp [gH]
  have hx3:=n.tx3
  have hnone:pT M p=none→gF (Dn.Call Γ cx) cx c32_k1 [(0,.ref g 0),(3,.ref σ.objs.length 0),(4,.ref (σ.objs.length+1) 0),(30,B true)] σ1 (oC (Dn.Call Γ cx) cx c32_k0 (tY .rd σ [.cell 4 true 2,.tmp 5] fun v x=>v=yR (pT M p))):=fun hc=>by
   rw [hc]
   simp [c32_k1,o4,s4,yR]
   exact kp _
  by_cases h0:p.2<0
  ·have hc:pT M p=none:=by unfold pT; rw [hf]; simp only; rw [if_neg (by omega)]
   simp (maxSteps:=2000000) [-bZ,-dL,-loadAt,-aA,h0,l1]
   exact hnone hc
  ·obtain⟨j,hj⟩ : ∃ j:Nat,p.2=j:=⟨p.2.toNat,by omega⟩
   have hc:pT M p=n.outs[j]?:=by unfold pT; rw [hf]; simp only; rw [if_pos (by omega),hj]; rfl
   rw [hj] at l1
   have hj0 : ¬ ((j:Int)<0):=by omega
   simp (maxSteps:=2000000) [-bZ,-dL,-loadAt,-aA,hj0,l1,l2,l3,gQ,hnod,hx3,hb1,hbl,hcl]
   by_cases hjl:n.outs.length≤j
   ·simp [hjl]
    exact hnone (by rw [hc]; exact aR hjl)
   ·obtain⟨c,hc2⟩ : ∃ c,n.outs[j]?=some c:=⟨n.outs[j]'(by omega),by simp [show j<n.outs.length by omega]⟩
    have hrow:(gH n.outs)[j]?=some c.row:=by simp [gH,hc2]
    have hia:=fun s=>hn.b.iaddr s (k:=.i64) (sz:=2) hrow rfl
    have hlo : ∀ s,loadAt s true 2 (.ro c.row)=some (.da c.row):=fun s=>rfl
    simp [-bZ,-dL,-aA,hjl,c32_k1,c32_k0]
    refine gP (fun _=>.val) [] (by decide +kernel) ?_
    simp (maxSteps:=2000000) [dB,-bZ,-dL,-loadAt,-aA,l1,l2,l3,gQ,hnod,hx3,hb1,hia,hlo]
    rw [hc,hc2]
    simp [CoG.row,o4,s4,yR]
    exact kp _
end Go.Proofs.YtdfhfhcilfjdgaaGreatDoor.T

namespace Go.Dn
variable {cx:Cx}
theorem Call.as_rd {Γ:Nat→Option FnC}{f:Nat}{fc:FnC}(hf:Γ f=some fc)(h1:fc.res.length=1){vs:List V} {σ:St}{Q Q':jD}(h:Call Γ cx .raw f vs σ Q)(hq : ∀ v s,Q v s→lI σ s∧∃ d,V.byValN σ.objs.length s v=some d∧Q' d s):Call Γ cx .rd f vs σ Q':=by
 obtain⟨fc',hf',hl,hb⟩:=h.inv
 rw [hf] at hf'
 cases hf'
 refine Call.body hf ⟨hl,kM (fun m f vs σ Q h=>h) _ (fun ex e s hx=>?_) hb⟩
 have key:(∃ v,gO .raw σ.objs.length e s fc.res=some v∧(Mode.raw = .rd→lI σ s)∧Q v s)→∃ v,gO .rd σ.objs.length e s fc.res=some v∧(Mode.rd = .rd→lI σ s)∧Q' v s:=by
  rintro ⟨v,hr,_,hv⟩
  obtain⟨hk,d,hd,hd'⟩:=hq v s hv
  unfold gO at hr ⊢
  match hv2:fc.res,h1 with
  | [x],_ =>
   rw [hv2] at hr
   unfold eL at hr ⊢
   cases hx:Res.ev e s x with
   | none=>simp [hx] at hr
   | some y =>
    simp [hx,eL,fL] at hr
    subst hr
    simp [eL,dI,hd,fL]
    exact⟨hk,hd'⟩
 cases ex with
 | exit id=>exact hx
 | normal=>exact key hx
 | ret=>exact key hx
end Go.Dn
namespace Go.Proofs.YtdfhfhcilfjdgaaGreatDoor.T
open Go.Dn

def hlD (L:List (List UInt8)):D:=if L=[] then .nils else .list (hH L)
theorem kG (L:List (List UInt8)):LV (.d (hlD L)) (hH L):=by
 unfold hlD
 split
 ·rename_i h; subst h; exact .nil
 ·exact .list _
theorem xF {n:Nat} : ∀ {L:List (List D)},(∀ r∈L,r.length=n)→gJ n L.length L.flatten=L
 | [],_=>rfl
 | r::L,h=>by
  have hr:=h r (by simp)
  simp only [List.length_cons,gJ,List.flatten_cons]
  rw [List.take_append_of_le_length (by omega),aK (by omega),List.drop_append_of_le_length (by omega),bT (by omega),aH,xF fun r hr=>h r (by simp [hr])]
theorem aEU {σ:St}{r n sz:Nat}{L:List (List D)}(h:σ.objs[r]?=some (.cells (L.flatten.map .d)))(hn:L.length=n)(hs : ∀ x∈L,x.length=sz):V.rows σ (.sl r 0 n sz)=some L:=by
 subst hn
 simp only [V.rows,h]
 have hl:(L.flatten.map V.d).length≤L.length*sz:=by
  rw [aQ]
  clear h
  induction L with
  | nil=>simp
  | cons a r ih =>
   have:=hs a (by simp)
   have:=ih fun x hx=>hs x (by simp [hx])
   simp [bJ] at *
   omega
 rw [bF,aK hl]
 have:ofD (L.flatten.map V.d)=some L.flatten:=by
  generalize L.flatten=l
  induction l with
  | nil=>rfl
  | cons a r ih=>simp [ofD,ih]
 rw [this]
 simp only
 rw [xF hs]
theorem aGt (l:List Hs):arL l=((l.map (·.1)).flatten).map .d:=by
 induction l with
 | nil=>rfl
 | cons a r ih=>simp only [arL,List.flatMap_cons] at ih ⊢; rw [ih]; simp
theorem ColB.bn {lo:Nat}{s:St}{v:V}{L:List (List UInt8)}(h:ColB lo s v L):V.byValN lo s v=some (.d (hlD L)):=by
 obtain⟨li,rfl,h⟩:=h
 rcases h with⟨rfl,rfl⟩ | ⟨r,rfl,hr,ho,hne⟩
 ·rfl
 ·have hrw:V.rows s (.sl r 0 li.length 32)=some (li.map (·.1)):=aEU (by rw [ho,aGt]) (by simp) fun x hx=>by
   obtain⟨k,hk,rfl⟩:=aT.1 hx
   exact k.2.1
  have he:hH (li.map fun h=>toB h.1)=li.map (·.1):=by
   unfold hH
   rw [List.map_map]
   exact List.map_congr_left fun k _=>uX k
  simp only [V.byValN,hr,if_true,V.byVal,hrw,hlD,List.map_eq_nil_iff,hne,if_false,he]
theorem aC1 {f:Nat}{fc:FnC}(hf:Γ f=some fc)(h1:fc.res.length=1){vs:List V} {σ:St}{L:List (List UInt8)}(h:Dn.Call Γ cx .raw f vs σ fun v s=>ColB σ.objs.length s v L∧(∀ r,r<σ.objs.length→s.objs[r]?=σ.objs[r]?)∧σ.objs.length≤s.objs.length∧s.toks=σ.toks) :
  Dn.Call Γ cx .rd f vs σ fun v _=>v = .d (hlD L) :=
 Call.as_rd hf h1 h fun v s ⟨a,b,c,d⟩=>⟨⟨b,fun t k ht=>by rw [d]; exact ht⟩,_,a.bn,rfl⟩
theorem zY {M:List Nd}{K L:List (List UInt8)}(h : ∀ id,id∈K↔id∈L):gX M K=gX M L:=by
 unfold gX
 exact List.filter_congr fun n hn=>by simp [h]
theorem ColB.lo {lo lo':Nat}{s:St}{v:V}{L:List (List UInt8)}(h:ColB lo s v L)(hl:lo'≤lo):ColB lo' s v L:=by
 obtain⟨li,h1,h2⟩:=h
 refine⟨li,h1,?_⟩
 rcases h2 with h | ⟨r,a,b,c,d⟩
 ·exact .inl h
 ·exact .inr ⟨r,a,by omega,c,d⟩
theorem pV {σ s s':St}{q:Nat}{K:List (List UInt8)}{p:List UInt8→Prop}(hS:Set1 σ s q K p){v:V}{L:List (List UInt8)}(h:ColB s.objs.length s' v L∧(∀ r,r<s.objs.length→s'.objs[r]?=s.objs[r]?)∧s.objs.length≤s'.objs.length∧s'.toks=s.toks) :
  ColB σ.objs.length s' v L∧(∀ r,r<σ.objs.length→s'.objs[r]?=σ.objs[r]?)∧σ.objs.length≤s'.objs.length∧s'.toks=σ.toks:=by
 obtain⟨a,b,c,d⟩:=h
 have:=hS.len
 exact⟨a.lo this,fun r hr=>(b r (by omega)).trans (hS.old r hr),by omega,d.trans hS.tk⟩
end Go.Proofs.YtdfhfhcilfjdgaaGreatDoor.T

namespace Go.Dn
theorem aCJ {K:iI}{cx:Cx}{dst:Option Nat}{ka:Bool}{ks:List Lf}{m k:Opd}{r:List Ins}{e:Env} {σ s':St}{Q:Env→St→Prop}{v:V}(h:pE σ ka ks (m.ev e) (k.ev e)=some (v,s'))(hq:iD K cx r (eK e dst v) s' Q):iD K cx (.e dst (.mapDelete ka ks m k)::r) e σ Q:=by
 rw [cK,dM,h]
 exact hq
end Go.Dn
namespace Go.Proofs.YtdfhfhcilfjdgaaGreatDoor.T
open Go.Dn
attribute [local simp] dO dF GB aM aI aG dA eW cE dZ cS cK dY dX eM eP eS cM cW cX eN fD gD fQ fB dK fC gE cJ cY cZ dN eB eC gA eR eE eF eD cL cU cV fZ i_p dU fY eA eV dW eU dV eX gC t_p eY eH gB eJ cT eZ eI eG gM aE aH dC dM fP fO fR gR Opd.ev Env.get Env.set Env.pick eK dE cB eO eQ cF dD dG gO eL Res.ev fL cN dI gS fN fW fX gW fT fU fV cx Dn.newObj St.place St.push St.spot St.empty eT dP cO cR dS dQ dT cQ dR cP loadAt cH dL cI bZ ofD splice St.setObj fE

def CoV (σ:St)(vb:V)(outs:List CoG):Prop:=LV vb (gH outs)∨∃ r,vb = .sl r 0 outs.length 2∧r<σ.objs.length∧σ.objs[r]?=some (.cells ((gH outs).flatten.map .d))
def coD (vb:V)(outs:List CoG):D:=match vb with
 | .sl .. => .list (gH outs)
 | v=>lvD v
theorem tG (l:List CoG) : ∀ r∈gH l,r.length=2:=fun r hr=>by
 obtain⟨s,_,rfl⟩:=aT.1 hr
 rfl
theorem aGC {vb:V}{rows:List (List D)}(h:LV vb rows)(outs:List CoG):coD vb outs=lvD vb:=by cases h <;> rfl
theorem CoV.rows {σ:St}{vb:V}{outs:List CoG}(h:CoV σ vb outs):V.rows σ vb=some (gH outs)∧V.byVal1 σ vb=some (coD vb outs)∧LV (.d (coD vb outs)) (gH outs):=by
 rcases h with h | ⟨r,rfl,hr,ho⟩
 ·have:=LV.lvD h σ
  rw [aGC h]
  exact⟨h.rows σ,this⟩
 ·have:=aEU (sz:=2) ho (n:=outs.length) (by simp [gH]) (tG outs)
  exact⟨this,by simp only [V.byVal1,this]; rfl,.list _⟩
structure TxV (σ:St)(va vb:V)(ins:List SpG)(outs:List CoG):Prop where
 a:LV va (fH ins)
 b:CoV σ vb outs
 li:ins.length≤30
 lo:outs.length≤30
 si : ∀ s∈ins,s.Ok
 so : ∀ c∈outs,c.Ok
theorem TxV.more {σ s:St}{va vb:V}{ins:List SpG}{outs:List CoG}(h:TxV σ va vb ins outs)(hl:σ.objs.length≤s.objs.length)(hf : ∀ r,r<σ.objs.length→s.objs[r]?=σ.objs[r]?):TxV s va vb ins outs :=
 { h with b:=h.b.imp id fun⟨r,a,b,c⟩=>⟨r,a,by omega,by rw [hf r b]; exact c⟩ }
theorem TxV.tx {σ:St}{va vb:V}{ins:List SpG}{outs:List CoG}(h:TxV σ va vb ins outs)(f:Bool):TxD (lvD va) (coD vb outs) f ins outs :=
 ⟨(LV.lvD h.a σ).2,h.b.rows.2.2,h.li,h.lo,h.si,h.so⟩
theorem TxV.bv {σ:St}{va vb:V}{ins:List SpG}{outs:List CoG}(h:TxV σ va vb ins outs)(f:Bool):cN σ [bZ [va,vb,.d (.bool f)]]=some [.da [lvD va,coD vb outs,.bool f]]:=by
 have e1:=(LV.lvD h.a σ).1
 have e2:=h.b.rows.2.1
 have e3:V.byVal1 σ (.d (.bool f))=some (.bool f):=rfl
 exact tS (aJf (by simp only [jY,e1,e2,e3]))
theorem jF {r:V}{l:List V}(h1:r.pure=true)(h2:r.scalars=true):(r.pure&&(!l.any V.borrows||r.scalars))=true:=by
 rw [h1,h2,Bool.or_true]; rfl
theorem nI (h:List UInt8):(V.da (cG h)).scalars=true:=by
 simp only [V.scalars,V.scalar,List.all_eq_true]
 intro d hd
 obtain⟨b,_,rfl⟩:=aT.1 hd
 rfl
theorem LV.load {v:V}{rows:List (List D)}(h:LV v rows){sz i:Nat}{row:List D}(hr:rows[i]?=some row)(hs:row.length=sz) (σ:St):jA σ sz v (I i)=some (.ro row)∧loadAt σ true sz (.ro row)=some (.da row):=by
 refine⟨h.iaddr σ (k:=.i64) (sz:=sz) hr hs,?_⟩
 simp only [loadAt,if_true,hs,bB]
 rw [aK (by omega)]
theorem uV {s:SpG}(h:s.Ok):List.take 33 (List.map V.d s.row)=(ptD (fS s)).map V.d:=aEa h
theorem gK {α:Type}{cs xs:List α}(h:cs.length=xs.length):splice cs 0 xs=xs:=by
 unfold splice
 rw [Nat.zero_add,bT (by omega)]
 simp

def aBy (M:List Nd)(l:List SpG):List (List UInt8):=l.filterMap fun s=>(spn M (fS s)).map (·.id)
theorem aAQ {M:List Nd}{l:List SpG}{j:Nat}{s:SpG}(h:l[j]?=some s):aBy M (l.take (j+1))=aBy M (l.take j)++((spn M (fS s)).map (·.id)).toList:=by
 obtain⟨hi,rfl⟩:=aB.1 h
 rw [← aZ hi]
 unfold aBy
 rw [List.filterMap_append]
 simp [List.filterMap]
 cases spn M (fS l[j]) <;> rfl
theorem aEy {M:List Nd}(hn:(M.map (·.id)).Nodup){l:List SpG}{id:List UInt8}(h:id∈aBy M l):(fnd M id).isSome=true:=by
 obtain⟨s,_,hs⟩:=List.mem_filterMap.1 h
 obtain⟨n,hn2,rfl⟩:=Option.map_eq_some_iff.1 hs
 rw [lR hn (List.mem_of_find?_eq_some hn2)]
 rfl
theorem aGZ (K:List (List UInt8))(id:List UInt8)(g:V×V→Bool)(hg : ∀ p,g p=true↔p.1 ≠ .da (cG id)):(pB K).filter g=pB (K.filter fun x=>decide (x≠id)):=by
 unfold pB
 rw [List.filter_map]
 congr 1
 refine List.filter_congr fun x _=>?_
 simp only [Function.comp]
 rw [Bool.eq_iff_iff,hg]
 by_cases e:x=id
 ·subst e; simp
 ·have : ¬ cG x=cG id:=fun h=>e (kY h)
  simp [e,this]
def kE (M:List Nd)(l:List SpG)(me:List UInt8):List (List UInt8):=(aBy M l).filter fun id=>decide (id≠me)
def aGd (σ1:St)(g b q:Nat)(va:V)(ins:List SpG)(M:List Nd)(m:Nat)(e:Env)(s:St):Prop:=∃ (j:Nat) (K:List (List UInt8)),e=[(0,.ref g 0),(3,.ref b 0),(5,.map q),(12,va),(13,I ins.length),(14,I j)]∧j≤ins.length∧m=ins.length-j∧Set1 σ1 s q K fun id=>id∈aBy M (ins.take j)

set_option maxHeartbeats 400000 in
theorem aC7 {σ:St}{g qn qs ck ck2 put:Nat}{es es2:List Ent}{M:List Nd}(h:Gr σ g qn qs es ck es2 ck2 M put){va vb:V}{f:Bool}{ins:List SpG}{outs:List CoG}(hT:TxV σ va vb ins outs) :
  Dn.Call Γ cx .raw 28 [.ref g 0,bZ [va,vb,.d (.bool f)]] σ fun v s=>ColB σ.objs.length s v ((gX M (kE M ins (idB ins outs f))).map (·.id))∧(∀ r,r<σ.objs.length→s.objs[r]?=σ.objs[r]?)∧σ.objs.length≤s.objs.length∧s.toks=σ.toks:=by
 refine Dn.Call.body (fc:=c28) rfl ?_
 have hcm:(bZ [va,vb,V.d (.bool f)]).cells=some [va,vb,.d (.bool f)]:=oO
 simp [-bZ,-loadAt,c28,c28_k11,hcm]
 obtain⟨σ1,hσ1⟩ : ∃ s:St,(⟨σ.objs++[.cells [va,vb,.d (.bool f)]],σ.toks⟩:St)=s:=⟨_,rfl⟩
 have e1:(⟨σ.objs++[.cells [va,vb,.d (.bool f)],.map [] 0],σ.toks⟩:St)=⟨σ1.objs++[.map [] 0],σ1.toks⟩:=by rw [← hσ1]; simp
 rw [e1]
 have old : ∀ r,r<σ.objs.length→σ1.objs[r]?=σ.objs[r]?:=fun r hr=>by rw [← hσ1]; simp only; rw [aC hr]
 have hl1:σ1.objs.length=σ.objs.length+1:=by rw [← hσ1]; simp
 have tk1:σ1.toks=σ.toks:=by rw [← hσ1]
 have h1:=h.more old
 have hT1:=hT.more (by omega) old
 have hb1:σ1.objs[σ.objs.length]?=some (.cells [va,vb,.d (.bool f)]):=by rw [← hσ1]; simp
 rw [show σ.objs.length+1=σ1.objs.length from hl1.symm]
 clear e1 hσ1
 generalize hbb:σ.objs.length=b at *
 generalize hq:σ1.objs.length=q at *
 have hbs : ∀ {s:St},(∀ r,r<q→s.objs[r]?=σ1.objs[r]?)→loadAt s false 1 (.ref b 0)=some va∧loadAt s true 3 (.ref b 0)=some (bZ [va,vb,.d (.bool f)]):=fun hs=>by
  have:=(hs b (by omega)).trans hb1
  simp only [loadAt,this]
  exact⟨rfl,rfl⟩
 have h0 : ∀ r,r<q→(⟨σ1.objs++[.map [] 0],σ1.toks⟩:St).objs[r]?=σ1.objs[r]?:=fun r hr=>by simp only; rw [aC (by omega)]
 have hva:=(hbs h0).1
 have hlen : ∀ s,gZ s .slice va=some ins.length:=fun s=>by rw [hT.a.len]; simp [fH]
 simp [-bZ,-loadAt,c28_k10,c28_k9,hva,hlen]
 refine fK (aGd σ1 g b q va ins M) (m:=ins.length) ⟨0,[],rfl,by omega,rfl,⟨⟨[],0,by simp [← hq],MpG.nil⟩,by simp [aBy],by omega,fun r hr=>h0 r (by omega),by simp,rfl⟩⟩ ?_
 rintro m e s ⟨j,K,rfl,hj,rfl,hS⟩
 simp [-bZ,-loadAt,c28_l8,c28_k7]
 have hSo:=hS.old
 rw [hq] at hSo
 by_cases hji:j<ins.length
 rotate_left
 ·obtain rfl:j=ins.length:=by omega
  rw [bC] at hS
  have hT2:=hT1.more (s:=s) hS.len hS.old
  have hg2:=h1.more hS.old
  have hid:(idB ins outs f).length=32:=Sha.sha_len _
  simp [-bZ,-loadAt,-aA,c28_k1,(hbs hSo).2]
  refine gI (hT2.bv f) (aHo (hT2.tx f)) (jF rfl (nI _)) ?_
  obtain⟨es3,ck3,hm3,hM3⟩:=hS.m
  obtain⟨u1,u2⟩:=hM3.del hm3 (mO hid)
  have u1':pE s true (aD 32 (Lf.int IntKind.u8)) (.map q) (.da (cG (idB ins outs f)))=_:=u1
  simp only [eR,eK,Env.set]
  refine aCJ u1' ?_
  simp [-bZ,-loadAt,-aA,c28_k0]
  rw [aGZ K (idB ins outs f) _ fun p=>by simp] at u2
  have hql:q<s.objs.length:=(aB.1 hm3).1
  have hS2:Set1 σ1 (s.setObj q (.map (tX (.da (cG (idB ins outs f))) es3) ck3)) q (K.filter fun id=>decide (id≠idB ins outs f)) fun id=>id∈kE M ins (idB ins outs f) :=
   ⟨⟨_,_,by simp [St.setObj,hql],u2⟩,fun id=>by unfold kE; rw [aY,aY,hS.k],hS.q,fun r hr=>by simp only [St.setObj]; rw [aF (by omega)]; exact hS.old r hr,by simp [St.setObj]; have:=hS.len; omega,hS.tk⟩
  have ho:=uS (h1.more hS2.old) hS2.m fun id hid=>by
   rw [hS2.k] at hid
   exact aEy h.nd (aY.1 hid).1
  rw [zY hS2.k] at ho
  refine fF ho fun v s' hv=>?_
  simp
  obtain⟨a1,a2,a3,a4⟩:=pV hS2 hv
  exact⟨a1.lo (show b≤σ1.objs.length by omega),fun r hr=>(a2 r (by omega)).trans (old r hr),by omega,a4.trans tk1⟩
 obtain⟨sp,hsp⟩ : ∃ sp,ins[j]?=some sp:=⟨ins[j],by simp [hji]⟩
 have hok:=hT.si sp (aL hsp)
 have hrow:(fH ins)[j]?=some sp.row:=by simp [fH,hsp]
 have hia:=fun s=>LV.load hT.a hrow (fM hok) s
 have hjj:(j:Int)<ins.length:=by omega
 have hsnoc:=aAQ (M:=M) hsp
 have ew:aJ.wrap ((j:Int)+1)=((j+1:Nat):Int):=by have:=hT.li; rw [bY (by omega) (by omega)]; omega
 simp [-bZ,-loadAt,-splice,-aA,hjj,hji,c28_k6,c28_k5,(hia s).1,(hia s).2,fM hok,gK]
 obtain⟨s2,hs2⟩ : ∃ t:St,(⟨s.objs++[.cells (List.map V.d sp.row)],s.toks⟩:St)=t:=⟨_,rfl⟩
 rw [hs2]
 have old2 : ∀ r,r<s.objs.length→s2.objs[r]?=s.objs[r]?:=fun r hr=>by rw [← hs2]; simp only; rw [aC hr]
 have hl2:s2.objs.length=s.objs.length+1:=by rw [← hs2]; simp
 have o7:s2.objs[s.objs.length]?=some (.cells (List.map V.d sp.row)):=by rw [← hs2]; simp
 have tk2:s2.toks=s.toks:=by rw [← hs2]
 have hkey:jB true kP (.da (ptD (fS sp)))=true:=by simp only [jB,Bool.true_and]; exact mG hok
 have l7:loadAt s2 true 33 (.ref s.objs.length 0)=some (.da (ptD (fS sp))):=by
  simp only [loadAt,o7,if_true,aQ,fM hok,bF,uV hok]
  exact congrArg some (iO _)
 have hSl:=hS.len
 have hG:Gr s2 g qn qs es ck es2 ck2 M put:=h1.more fun r hr=>by rw [old2 r (by omega),hS.old r hr]
 obtain⟨es5,ck5,hm5,hM5⟩:=hS.m
 have hql:q<s.objs.length:=(aB.1 hm5).1
 simp [-bZ,-loadAt,-splice,-aA,c28_k4,l7]
 refine jW (vW hG hok.tx hkey) ?_
 have fin : ∀ (K':List (List UInt8)) (s3:St),(∃ es ck,s3.objs[q]?=some (.map es ck)∧MpG true kH es ck (pB K'))→(∀ x,x∈K'↔x∈aBy M (ins.take (j+1)))→(∀ r,r<σ1.objs.length→s3.objs[r]?=σ1.objs[r]?)→σ1.objs.length≤s3.objs.length→s3.toks=σ1.toks→∃ m',m'<ins.length-j∧aGd σ1 g b q va ins M m' [(0,.ref g 0),(3,.ref b 0),(5,.map q),(12,va),(13,I ins.length),(14,I (j+1:Nat))] s3 :=
  fun K' s3 a b c d e=>⟨ins.length-(j+1),by omega,j+1,K',rfl,by omega,rfl,⟨a,b,by omega,c,d,e⟩⟩
 have zl:(aD 32 (V.d (D.int .u8 0))).length=32:=bS
 cases hs:spn M (fS sp) with
 | none =>
  rw [hs] at hsnoc
  simp [-bZ,-loadAt,-splice,-aA,gK,zl,c28_k3,c28_k2,ew]
  rw [show((j:Int)+1)=((j+1:Nat):Int) from by omega]
  refine fin K _ ⟨es5,ck5,by simp only; rw [aC (by omega),old2 q hql]; exact hm5,hM5⟩ (fun x=>?_) (fun r hr=>by simp only; rw [aC (by omega),old2 r (by omega),hS.old r hr]) (by simp; omega) (by rw [← hS.tk,← tk2])
  rw [hS.k,hsnoc]
  simp
 | some n =>
  rw [hs] at hsnoc
  have hn:=hG.ok n (List.mem_of_find?_eq_some hs)
  have hE:bZ ((cG n.id).map V.d) = .da (cG n.id):=iO _
  have hnl:(cG n.id).length=32:=by rw [fG,hn.id]
  simp [-bZ,-loadAt,-splice,-aA,gK,hnl,zl,c28_k3]
  obtain⟨s3,hs3⟩ : ∃ t:St,(⟨s2.objs++[.cells (List.map V.d (cG n.id))],s2.toks⟩:St)=t:=⟨_,rfl⟩
  rw [hs3]
  have old3 : ∀ r,r<s2.objs.length→s3.objs[r]?=s2.objs[r]?:=fun r hr=>by rw [← hs3]; simp only; rw [aC hr]
  have o8:s3.objs[s2.objs.length]?=some (.cells (List.map V.d (cG n.id))):=by rw [← hs3]; simp
  have l8:loadAt s3 true 32 (.ref s2.objs.length 0)=some (.da (cG n.id)):=by
   simp only [loadAt,o8,if_true,aQ,hnl,bF]
   rw [aK (by simp [hnl]),hE]
   rfl
  have hl3:s3.objs.length=s2.objs.length+1:=by rw [← hs3]; simp
  have tk3:s3.toks=s2.toks:=by rw [← hs3]
  have hm6:s3.objs[q]?=some (.map es5 ck5):=by rw [old3 q (by omega),old2 q hql]; exact hm5
  obtain⟨es7,ck7,K',hu,hM7,hK⟩:=aBS hm6 hM5 hn.id
  have hu':mA s3 true (aD 32 (Lf.int IntKind.u8)) (.map q) (.da (cG n.id)) (I 1)=_:=hu
  simp [-bZ,-loadAt,-splice,-aA,c28_k2,l8,hu',ew]
  rw [show((j:Int)+1)=((j+1:Nat):Int) from by omega]
  refine fin K' _ ⟨es7,ck7,by simp [St.setObj,show q<s3.objs.length by omega],hM7⟩ (fun x=>?_) (fun r hr=>by simp only [St.setObj]; rw [aF (by omega),old3 r (by omega),old2 r (by omega),hS.old r hr]) (by simp [St.setObj]; omega) (by rw [← hS.tk,← tk2,← tk3])
  rw [hK,hS.k,hsnoc]
  simp
end Go.Proofs.YtdfhfhcilfjdgaaGreatDoor.T

namespace Go.Dn
theorem lK {σ:St}{e:Env}{t sz:Nat}{zero row:List D}{x:Opd}(hx:x.ev e = .da row)(hz:zero.length=sz)(hr:row.length=sz):dC (.bslice t 1 sz zero [(0,x)]) e σ=some (.fl [row]):=by
 have h0:iL 1 zero=zero.map .d:=by simp [iL]
 have h1:fE (iL 1 zero) (List.map (fun(p:Nat×Opd)=>(p.1*sz,sz,p.2.ev e)) [(0,x)])=some (row.map .d):=by
  rw [h0]
  simp only [aI,aM,fE,hx,V.cells,Nat.zero_mul,aQ,hz,hr,Nat.zero_add,bB,and_self,if_true]
  unfold splice
  rw [bT (by simp [hz,hr])]
  simp
 have h2:ofD ((row.map V.d).map oR)=some row:=by
  rw [List.map_map]
  clear h1 hr hx h0
  induction row with
  | nil=>rfl
  | cons a r ih=>simp only [aI,Function.comp,oR,ofD] at ih ⊢; rw [ih]
 have h3:dC (.bslice t 1 sz zero [(0,x)]) e σ=(match fE (iL 1 zero) (List.map (fun(p:Nat×Opd)=>(p.1*sz,sz,p.2.ev e)) [(0,x)]) with
  | some cs=>match ofD (cs.map oR) with
   | some l=>some (.fl (gJ sz 1 l))
   | none=>none
  | none=>none):=rfl
 rw [h3,h1]
 simp only [h2,gJ]
 rw [aK (by omega)]
end Go.Dn
namespace Go.Proofs.YtdfhfhcilfjdgaaGreatDoor.T
open Go.Dn
attribute [local simp] dO dF GB aM aI aG dA eW cE dZ cS cK dY dX eM eP eS cM cW cX eN fD gD fQ fB dK fC gE cJ cY cZ dN eB eC gA eR eE eF eD cL cU cV fZ i_p dU fY eA eV dW eU dV eX gC t_p eY eH gB eJ cT eZ eI eG gM aE aH dC dM fP fO fR gR Opd.ev Env.get Env.set Env.pick eK dE cB eO eQ cF dD dG gO eL Res.ev fL cN dI gS fN fW fX gW fT fU fV cx Dn.newObj St.place St.push St.spot St.empty eT dP cO cR dS dQ dT cQ dR cP loadAt cH dL cI bZ ofD splice St.setObj fE

def aBP (M:List Nd)(l:List SpG):List (List UInt8):=l.filterMap fun s=>(pT M (fS s)).map fun _=>s.tx
theorem aFA {M:List Nd}{l:List SpG}{j:Nat}{s:SpG}(h:l[j]?=some s):aBP M (l.take (j+1))=aBP M (l.take j)++((pT M (fS s)).map fun _=>s.tx).toList:=by
 obtain⟨hi,rfl⟩:=aB.1 h
 rw [← aZ hi]
 unfold aBP
 rw [List.filterMap_append]
 simp [List.filterMap]
 cases pT M (fS l[j]) <;> rfl
theorem aG3 {M:List Nd}{l:List SpG}:(aBP M l).length≤l.length:=List.length_filterMap_le _ _
structure Put1 (σ s:St)(v:V)(L:List (List UInt8)):Prop where
 c:ColB σ.objs.length s v L
 old : ∀ r,r<σ.objs.length→s.objs[r]?=σ.objs[r]?
 len:σ.objs.length≤s.objs.length
 tk:s.toks=σ.toks
theorem ColB.keep {lo:Nat}{s s':St}{v:V}{L:List (List UInt8)}(h:ColB lo s v L)(hf : ∀ r,lo≤r→r<s.objs.length→s'.objs[r]?=s.objs[r]?):ColB lo s' v L:=by
 obtain⟨li,h1,h2⟩:=h
 refine⟨li,h1,?_⟩
 rcases h2 with h | ⟨r,a,b,c,d⟩
 ·exact .inl h
 ·exact .inr ⟨r,a,b,by rw [hf r b (aB.1 c).1]; exact c,d⟩
theorem Put1.more {σ s s':St}{v:V}{L:List (List UInt8)}(h:Put1 σ s v L)(hl:s.objs.length≤s'.objs.length)(hf : ∀ r,r<s.objs.length→s'.objs[r]?=s.objs[r]?)(ht:s'.toks=s.toks):Put1 σ s' v L :=
 ⟨h.c.keep fun r _ hr=>hf r hr,fun r hr=>(hf r (by have:=h.len; omega)).trans (h.old r hr),by have:=h.len; omega,ht.trans h.tk⟩
theorem Put1.push {σ s:St}{v:V}{L:List (List UInt8)}(h:Put1 σ s v L)(hl:L.length≤1000000){id:List UInt8}(hid:id.length=32) :
  ∃ v' s',kQ s none 32 32 v [cG id]=some (v',s')∧Put1 σ s' v' (L++[id]):=by
 obtain⟨li,rfl,hc⟩:=h.c
 obtain⟨v',s',a1,a2,a3,a4,a5⟩:=hc.push (by simpa using hl) h.len (mkH id hid)
 exact⟨v',s',a1,⟨⟨_,by simp [aKF],a2⟩,fun r hr=>(a3 r hr).trans (h.old r hr),by have:=h.len; omega,a5.trans h.tk⟩⟩
def aGi (σ1:St)(g:Nat)(va:V)(ins:List SpG)(M:List Nd)(m:Nat)(e:Env)(s:St):Prop:=∃ (j:Nat) (v:V),e=[(0,.ref g 0),(5,v),(21,va),(22,I ins.length),(23,I j)]∧j≤ins.length∧m=ins.length-j∧Put1 σ1 s v (aBP M (ins.take j))
def mT (M:List Nd)(id:List UInt8):List (List UInt8):=match fnd M id with
 | some n=>(gX M (aBP M n.ins)).map (·.id)
 | none=>[]

set_option maxHeartbeats 400000 in
theorem aFM {σ:St}{g qn qs ck ck2 put:Nat}{es es2:List Ent}{M:List Nd}(h:Gr σ g qn qs es ck es2 ck2 M put){id:List UInt8}(hid:id.length=32) :
  Dn.Call Γ cx .raw 17 [.ref g 0,.da (cG id)] σ fun v s=>ColB σ.objs.length s v (mT M id)∧(∀ r,r<σ.objs.length→s.objs[r]?=σ.objs[r]?)∧σ.objs.length≤s.objs.length∧s.toks=σ.toks:=by
 refine Dn.Call.body (fc:=c17) rfl ?_
 simp [-aA,c17,iH]
 obtain⟨σ1,hσ1⟩ : ∃ s:St,(⟨σ.objs++[.cells (byV id)],σ.toks⟩:St)=s:=⟨_,rfl⟩
 rw [hσ1]
 have old : ∀ r,r<σ.objs.length→σ1.objs[r]?=σ.objs[r]?:=fun r hr=>by rw [← hσ1]; simp only; rw [aC hr]
 have h1:=h.more old
 have hl1:σ1.objs.length=σ.objs.length+1:=by rw [← hσ1]; simp
 have o3:σ1.objs[σ.objs.length]?=some (.cells (byV id)):=by rw [← hσ1]; simp
 have tk1:σ1.toks=σ.toks:=by rw [← hσ1]
 clear hσ1
 have l3:loadAt σ1 true 32 (.ref σ.objs.length 0)=some (.da (cG id)):=by
  simp only [loadAt,o3,if_true,hU,hid,bF]
  rw [aK (by simp [hU,hid])]
  simp [bZ,nJ,cG]
 have lg:loadAt σ1 false 1 (.ref g 0)=some (.map qn):=by have:=h1.o; simp only [loadAt,this]; rfl
 simp [-bZ,-loadAt,-aA,c17_k12,l3]
 refine jW (uR h1 hid) ?_
 cases hf:fnd M id with
 | none =>
  have e:mT M id=[]:=by unfold mT; rw [hf]
  simp [c17_k11,e]
  exact⟨⟨[],rfl,.inl ⟨rfl,rfl⟩⟩,old,by omega,tk1⟩
 | some n =>
  have hn:=h.ok n (jQ hf).1
  have hnod:=h1.nod hid hf
  have hx3:=n.tx3
  have ha1:dL false 0 1 (bZ [n.a,n.b,.d (.bool n.f)])=some n.a:=yB rfl
  have hlen : ∀ s,gZ s .slice n.a=some n.ins.length:=fun s=>by rw [hn.a.len]; simp [fH]
  have e:mT M id=(gX M (aBP M n.ins)).map (·.id):=by unfold mT; rw [hf]
  rw [e]
  simp [-bZ,-loadAt,-aA,c17_k11,c17_k10,c17_k9]
  refine gP (fun _=>.val) [] (by decide +kernel) ?_
  simp (maxSteps:=2000000) [dB,-bZ,-dL,-loadAt,-aA,l3,lg,gQ,hnod,hx3,ha1,hlen,c17_k8]
  refine fK (aGi σ1 g n.a n.ins M) (m:=n.ins.length) ⟨0,.d .nils,rfl,by omega,rfl,⟨⟨[],rfl,.inl ⟨rfl,rfl⟩⟩,fun _ _=>rfl,bB _,rfl⟩⟩ ?_
  rintro m e s ⟨j,v,rfl,hj,rfl,hP⟩
  have hPl:=aG3 (M:=M) (l:=n.ins.take j)
  have hPl2:(n.ins.take j).length≤n.ins.length:=by simp; omega
  have hni:=hn.li
  simp [-bZ,-loadAt,c17_l7,c17_k6]
  by_cases hji:j<n.ins.length
  rotate_left
  ·obtain rfl:j=n.ins.length:=by omega
   rw [bC] at hP
   have hg2:=h1.more hP.old
   simp [-bZ,-loadAt,c17_k0]
   refine fF (aB1 hg2 hP.c.hl hP.c.h32 (by rw [bC] at hPl; omega)) fun v2 s2 ⟨q,K,hv,hS⟩=>?_
   subst hv
   simp
   have hnd:=h.nd
   have ho:=uS (hg2.more hS.old) hS.m fun id hid=>((hS.k id).1 hid).2
   rw [zZ hS.k hnd] at ho
   refine fF ho fun v3 s3 hv=>?_
   simp
   obtain⟨a1,a2,a3,a4⟩:=pV hS hv
   have:=hP.len
   exact⟨a1.lo (by omega),fun r hr=>(a2 r (by omega)).trans ((hP.old r (by omega)).trans (old r hr)),by omega,a4.trans (hP.tk.trans tk1)⟩
  obtain⟨sp,hsp⟩ : ∃ sp,n.ins[j]?=some sp:=⟨n.ins[j],by simp [hji]⟩
  have hok:=hn.si sp (aL hsp)
  have hrow:(fH n.ins)[j]?=some sp.row:=by simp [fH,hsp]
  have hia:=fun s=>LV.load hn.a hrow (fM hok) s
  have hjj:(j:Int)<n.ins.length:=by omega
  have hsnoc:=aFA (M:=M) hsp
  have ew:aJ.wrap ((j:Int)+1)=((j+1:Nat):Int):=by rw [bY (by omega) (by omega)]; omega
  simp [-bZ,-loadAt,-splice,-aA,hjj,hji,c17_k5,c17_k4,(hia s).1,(hia s).2,fM hok,gK]
  obtain⟨s2,hs2⟩ : ∃ t:St,(⟨s.objs++[.cells (List.map V.d sp.row)],s.toks⟩:St)=t:=⟨_,rfl⟩
  rw [hs2]
  have old2 : ∀ r,r<s.objs.length→s2.objs[r]?=s.objs[r]?:=fun r hr=>by rw [← hs2]; simp only; rw [aC hr]
  have hl2:s2.objs.length=s.objs.length+1:=by rw [← hs2]; simp
  have o7:s2.objs[s.objs.length]?=some (.cells (List.map V.d sp.row)):=by rw [← hs2]; simp
  have tk2:s2.toks=s.toks:=by rw [← hs2]
  have l7:loadAt s2 true 33 (.ref s.objs.length 0)=some (.da (ptD (fS sp))):=by
   simp only [loadAt,o7,if_true,aQ,fM hok,bF,uV hok]
   exact congrArg some (iO _)
  have hPl3:=hP.len
  have hG:Gr s2 g qn qs es ck es2 ck2 M put:=h1.more fun r hr=>by rw [old2 r (by omega),hP.old r hr]
  simp [-bZ,-loadAt,-splice,-aA,c17_k3,l7]
  refine jW (aKh hG (p:=fS sp) hok.tx) ?_
  have fin : ∀ (v':V) (s3:St),Put1 σ1 s3 v' (aBP M (n.ins.take (j+1)))→∃ m',m'<n.ins.length-j∧aGi σ1 g n.a n.ins M m' [(0,.ref g 0),(5,v'),(21,n.a),(22,I n.ins.length),(23,I (j+1:Nat))] s3 :=
   fun v' s3 a=>⟨n.ins.length-(j+1),by omega,j+1,v',rfl,by omega,rfl,a⟩
  have e1:((j:Int)+1)=((j+1:Nat):Int):=by omega
  cases hc:pT M (fS sp) with
  | none =>
   rw [hc] at hsnoc
   simp [-loadAt,yR,c17_k2,c17_k1,ew]
   rw [e1]
   refine fin _ _ ?_
   rw [hsnoc]
   simp only [Option.map_none,Option.toList_none,aG]
   exact(hP.more (by omega) old2 tk2).more (by simp) (fun r hr=>by simp only; rw [aC hr]) rfl
  | some c =>
   rw [hc] at hsnoc
   simp [-loadAt,yR,CoG.row,c17_k2]
   have hP2:=(hP.more (s':=s2) (by omega) old2 tk2).more (s':=⟨s2.objs++[.cells [.d (.int .i64 c.value),.d (.int .u64 c.lock)]],s2.toks⟩) (by simp) (fun r hr=>by simp only; rw [aC hr]) rfl
   obtain⟨s3,hs3⟩ : ∃ t:St,(⟨s2.objs++[.cells [.d (.int .i64 c.value),.d (.int .u64 c.lock)]],s2.toks⟩:St)=t:=⟨_,rfl⟩
   have o8:s3.objs[s.objs.length]?=some (.cells (List.map V.d sp.row)):=by rw [← hs3]; simp only; rw [aC (by omega)]; exact o7
   rw [hs3] at hP2 ⊢
   have l8:loadAt s3 true 32 (.ref s.objs.length 0)=some (.da (cG sp.tx)):=by
    simp only [loadAt,o8,if_true,aQ,fM hok,bF,aB9 hok]
    exact congrArg some (iO _)
   have hbs : ∀ (e:Env) (x:Opd),x.ev e = .da (cG sp.tx)→dC (.bslice 45 1 32 (aD 32 (.int .u8 0)) [(0,x)]) e s3=some (.fl [cG sp.tx]):=fun e x hx=>lK hx (by simp) (by rw [fG,hok.tx])
   obtain⟨v',s',a1,a2⟩:=hP2.push (by omega) hok.tx
   simp [-loadAt,-aA,↓hbs,c17_k1,l8]
   refine sM (v:=v') (s:=s') ?_ ?_
   ·simp [iB,V.rows]
    exact a1
   simp [ew]
   rw [e1]
   refine fin _ _ ?_
   rw [hsnoc]
   exact a2
end Go.Proofs.YtdfhfhcilfjdgaaGreatDoor.T

namespace Go.Dn
theorem aCz {σ:St}{e:Env}{zs:List D}{x y:Opd}{a:List D}{b:D}{n:Nat}(hz:zs.length=n+1)(ha:a.length=n)(hx:x.ev e = .da a)(hy:y.ev e = .d b):dC (.build zs [(0,n,x),(n,1,y)]) e σ=some (.da (a++[b])):=by
 have h1:fE (zs.map .d) [(0,n,.da a),(n,1,.d b)]=some ((a++[b]).map .d):=by
  simp only [fE,V.cells,aQ,ha,hz,Nat.zero_add,Nat.le_add_right,and_self,if_true]
  have e1:splice (zs.map V.d) 0 (a.map V.d)=a.map V.d++(zs.map V.d).drop n:=by unfold splice; simp [ha]
  rw [e1]
  have e2:(a.map V.d++(zs.map V.d).drop n).length=n+1:=by simp [ha,hz]
  rw [e2]
  simp only [List.length_singleton,bB,and_self,if_true]
  unfold splice
  rw [List.take_append_of_le_length (by simp [ha]),aK (by simp [ha]),bT (by simp [ha,hz])]
  simp
 have h2:dC (.build zs [(0,n,x),(n,1,y)]) e σ=(match fE (zs.map .d) [(0,n,x.ev e),(n,1,y.ev e)] with
  | some cs=>some (bZ cs)
  | none=>none):=rfl
 rw [h2,hx,hy,h1]
 have h3:ofD ((a++[b]).map V.d)=some (a++[b]):=by
  generalize a++[b]=l
  induction l with
  | nil=>rfl
  | cons a r ih=>simp [ofD,ih]
 simp only [bZ,h3]
end Go.Dn
namespace Go.Proofs.YtdfhfhcilfjdgaaGreatDoor.T
open Go.Dn
attribute [local simp] dO dF GB aM aI aG dA eW cE dZ cS cK dY dX eM eP eS cM cW cX eN fD gD fQ fB dK fC gE cJ cY cZ dN eB eC gA eR eE eF eD cL cU cV fZ i_p dU fY eA eV dW eU dV eX gC t_p eY eH gB eJ cT eZ eI eG gM aE aH dC dM fP fO fR gR Opd.ev Env.get Env.set Env.pick eK dE cB eO eQ cF dD dG gO eL Res.ev fL cN dI gS fN fW fX gW fT fU fV cx Dn.newObj St.place St.push St.spot St.empty eT dP cO cR dS dQ dT cQ dR cP loadAt cH dL cI bZ ofD splice St.setObj fE

def chL (M:List Nd)(id:List UInt8)(k:Nat):List (List UInt8):=(List.range k).filterMap fun i:Nat=>(spn M (id,(i:Int))).map (·.id)
theorem aGA {M:List Nd}{id:List UInt8}{j:Nat}:chL M id (j+1)=chL M id j++((spn M (id,(j:Int))).map (·.id)).toList:=by
 unfold chL
 rw [List.range_succ,List.filterMap_append]
 simp [List.filterMap]
 cases spn M (id,(j:Int)) <;> rfl
theorem aId {M:List Nd}{id:List UInt8}{k:Nat}:(chL M id k).length≤k:=by
 have:=List.length_filterMap_le (fun i:Nat=>(spn M (id,(i:Int))).map (·.id)) (List.range k)
 simpa [chL] using this
def aGb (σ1:St)(g b:Nat)(id:List UInt8)(k:Nat)(M:List Nd)(m:Nat)(e:Env)(s:St):Prop:=∃ (j:Nat) (v:V),e=[(0,.ref g 0),(3,.ref b 0),(5,v),(21,I k),(22,I j)]∧j≤k∧m=k-j∧Put1 σ1 s v (chL M id j)
def oD (M:List Nd)(id:List UInt8):List (List UInt8):=match fnd M id with
 | some n=>(gX M (chL M id n.outs.length)).map (·.id)
 | none=>[]

set_option maxHeartbeats 400000 in
theorem aD0 {σ:St}{g qn qs ck ck2 put:Nat}{es es2:List Ent}{M:List Nd}(h:Gr σ g qn qs es ck es2 ck2 M put){id:List UInt8}(hid:id.length=32) :
  Dn.Call Γ cx .raw 19 [.ref g 0,.da (cG id)] σ fun v s=>ColB σ.objs.length s v (oD M id)∧(∀ r,r<σ.objs.length→s.objs[r]?=σ.objs[r]?)∧σ.objs.length≤s.objs.length∧s.toks=σ.toks:=by
 refine Dn.Call.body (fc:=c19) rfl ?_
 simp [-aA,c19,iH]
 obtain⟨σ1,hσ1⟩ : ∃ s:St,(⟨σ.objs++[.cells (byV id)],σ.toks⟩:St)=s:=⟨_,rfl⟩
 rw [hσ1]
 have old : ∀ r,r<σ.objs.length→σ1.objs[r]?=σ.objs[r]?:=fun r hr=>by rw [← hσ1]; simp only; rw [aC hr]
 have h1:=h.more old
 have hl1:σ1.objs.length=σ.objs.length+1:=by rw [← hσ1]; simp
 have o3:σ1.objs[σ.objs.length]?=some (.cells (byV id)):=by rw [← hσ1]; simp
 have tk1:σ1.toks=σ.toks:=by rw [← hσ1]
 clear hσ1
 have l3:loadAt σ1 true 32 (.ref σ.objs.length 0)=some (.da (cG id)):=by
  simp only [loadAt,o3,if_true,hU,hid,bF]
  rw [aK (by simp [hU,hid])]
  simp [bZ,nJ,cG]
 have lg:loadAt σ1 false 1 (.ref g 0)=some (.map qn):=by have:=h1.o; simp only [loadAt,this]; rfl
 simp [-bZ,-loadAt,-aA,c19_k12,l3]
 refine jW (uR h1 hid) ?_
 cases hf:fnd M id with
 | none =>
  have e:oD M id=[]:=by unfold oD; rw [hf]
  simp [c19_k11,e]
  exact⟨⟨[],rfl,.inl ⟨rfl,rfl⟩⟩,old,by omega,tk1⟩
 | some n =>
  have hn:=h.ok n (jQ hf).1
  have hnod:=h1.nod hid hf
  have hx3:=n.tx3
  have ha1:dL false 1 1 (bZ [n.a,n.b,.d (.bool n.f)])=some n.b:=yB rfl
  have hlen : ∀ s,gZ s .slice n.b=some n.outs.length:=fun s=>by rw [hn.b.len]; simp [gH]
  have e:oD M id=(gX M (chL M id n.outs.length)).map (·.id):=by unfold oD; rw [hf]
  rw [e]
  simp [-bZ,-loadAt,-aA,c19_k11,c19_k10,c19_k9]
  refine gP (fun _=>.val) [] (by decide +kernel) ?_
  simp (maxSteps:=2000000) [dB,-bZ,-dL,-loadAt,-aA,l3,lg,gQ,hnod,hx3,ha1,hlen,c19_k8]
  refine fK (aGb σ1 g σ.objs.length id n.outs.length M) (m:=n.outs.length) ⟨0,.d .nils,rfl,by omega,rfl,⟨⟨[],rfl,.inl ⟨rfl,rfl⟩⟩,fun _ _=>rfl,bB _,rfl⟩⟩ ?_
  rintro m e s ⟨j,v,rfl,hj,rfl,hP⟩
  have hPl:=aId (M:=M) (id:=id) (k:=j)
  have hno:=hn.lo
  simp [-bZ,-loadAt,c19_l7,c19_k6]
  by_cases hji:j<n.outs.length
  rotate_left
  ·obtain rfl:j=n.outs.length:=by omega
   have hg2:=h1.more hP.old
   simp [-bZ,-loadAt,c19_k0]
   refine fF (aB1 hg2 hP.c.hl hP.c.h32 (by omega)) fun v2 s2 ⟨q,K,hv,hS⟩=>?_
   subst hv
   simp
   have hnd:=h.nd
   have ho:=uS (hg2.more hS.old) hS.m fun id hid=>((hS.k id).1 hid).2
   rw [zZ hS.k hnd] at ho
   refine fF ho fun v3 s3 hv=>?_
   simp
   obtain⟨a1,a2,a3,a4⟩:=pV hS hv
   have:=hP.len
   exact⟨a1.lo (by omega),fun r hr=>(a2 r (by omega)).trans ((hP.old r (by omega)).trans (old r hr)),by omega,a4.trans (hP.tk.trans tk1)⟩
  have hjj:(j:Int)<n.outs.length:=by omega
  have hsnoc:=aGA (M:=M) (id:=id) (j:=j)
  have ew:aJ.wrap ((j:Int)+1)=((j+1:Nat):Int):=by rw [bY (by omega) (by omega)]; omega
  have hPl3:=hP.len
  have o3s:loadAt s true 32 (.ref σ.objs.length 0)=some (.da (cG id)):=by
   have:=(hP.old σ.objs.length (by omega)).trans o3
   simp only [loadAt,this,if_true,hU,hid,bF]
   rw [aK (by simp [hU,hid])]
   simp [bZ,nJ,cG]
  have hbu : ∀ (e:Env) (x y:Opd) (zs:List D),zs.length=33→x.ev e = .da (cG id)→y.ev e=I j→dC (.build zs [(0,32,x),(32,1,y)]) e s=some (.da (ptD (id,(j:Int)))):=fun e x y zs hz hx hy=>aCz hz (by rw [fG,hid]) hx hy
  have hkey:jB true kP (.da (ptD (id,(j:Int))))=true:=by
   have hf:=mG (s:=⟨id,j,[],0⟩) ⟨hid,by simp,by simp,by simp,by show(-9223372036854775808:Int)≤(j:Int); omega,by show(j:Int)≤9223372036854775807; omega⟩
   simp only [jB,Bool.true_and]
   exact hf
  simp [-bZ,-loadAt,-splice,-aA,hjj,hji,c19_k5,c19_k4,c19_k3,o3s,↓hbu]
  have hG:Gr s g qn qs es ck es2 ck2 M put:=h1.more fun r hr=>hP.old r hr
  refine jW (vW hG (p:=(id,(j:Int))) hid hkey) ?_
  have fin : ∀ (v':V) (s3:St),Put1 σ1 s3 v' (chL M id (j+1))→∃ m',m'<n.outs.length-j∧aGb σ1 g σ.objs.length id n.outs.length M m' [(0,.ref g 0),(3,.ref σ.objs.length 0),(5,v'),(21,I n.outs.length),(22,I (j+1:Nat))] s3 :=
   fun v' s3 a=>⟨n.outs.length-(j+1),by omega,j+1,v',rfl,by omega,rfl,a⟩
  have e1:((j:Int)+1)=((j+1:Nat):Int):=by omega
  have zl:(aD 32 (V.d (D.int .u8 0))).length=32:=bS
  cases hc:spn M (id,(j:Int)) with
  | none =>
   rw [hc] at hsnoc
   simp [-loadAt,-splice,-aA,gK,zl,c19_k2,c19_k1,ew]
   rw [e1]
   refine fin _ _ ?_
   rw [hsnoc]
   simp only [Option.map_none,Option.toList_none,aG]
   exact hP.more (by simp) (fun r hr=>by simp only; rw [aC hr]) rfl
  | some x =>
   rw [hc] at hsnoc
   have hxn:=hG.ok x (List.mem_of_find?_eq_some hc)
   have hnl:(cG x.id).length=32:=by rw [fG,hxn.id]
   simp [-bZ,-loadAt,-splice,-aA,gK,hnl,zl,c19_k2]
   have hP2:=hP.more (s':=⟨s.objs++[.cells (List.map V.d (cG x.id))],s.toks⟩) (by simp) (fun r hr=>by simp only; rw [aC hr]) rfl
   obtain⟨s3,hs3⟩ : ∃ t:St,(⟨s.objs++[.cells (List.map V.d (cG x.id))],s.toks⟩:St)=t:=⟨_,rfl⟩
   have o8:s3.objs[s.objs.length]?=some (.cells (List.map V.d (cG x.id))):=by rw [← hs3]; simp
   rw [hs3] at hP2 ⊢
   have l8:loadAt s3 true 32 (.ref s.objs.length 0)=some (.da (cG x.id)):=by
    simp only [loadAt,o8,if_true,aQ,hnl,bF]
    rw [aK (by simp [hnl])]
    exact congrArg some (iO _)
   have hbs : ∀ (e:Env) (y:Opd),y.ev e = .da (cG x.id)→dC (.bslice 45 1 32 (aD 32 (.int .u8 0)) [(0,y)]) e s3=some (.fl [cG x.id]):=fun e y hx=>lK hx (by simp) hnl
   obtain⟨v',s',a1,a2⟩:=hP2.push (by omega) hxn.id
   simp [-loadAt,-aA,↓hbs,c19_k1,l8]
   refine sM (v:=v') (s:=s') ?_ ?_
   ·simp [iB,V.rows]
    exact a1
   simp [ew]
   rw [e1]
   refine fin _ _ ?_
   rw [hsnoc]
   exact a2
end Go.Proofs.YtdfhfhcilfjdgaaGreatDoor.T

namespace Go.Proofs.YtdfhfhcilfjdgaaGreatDoor.T
open Go.Dn
attribute [local simp] dO dF GB aM aI aG dA eW cE dZ cS cK dY dX eM eP eS cM cW cX eN fD gD fQ fB dK fC gE cJ cY cZ dN eB eC gA eR eE eF eD cL cU cV fZ i_p dU fY eA eV dW eU dV eX gC t_p eY eH gB eJ cT eZ eI eG gM aE aH dC dM fP fO fR gR Opd.ev Env.get Env.set Env.pick eK dE cB eO eQ cF dD dG gO eL Res.ev fL cN dI gS fN fW fX gW fT fU fV cx Dn.newObj St.place St.push St.spot St.empty eT dP cO cR dS dQ dT cQ dR cP loadAt cH dL cI bZ ofD splice St.setObj fE

def hsF (L:List (List UInt8)):List V:=((hH L).flatten).map .d
theorem uE : ∀ {L:List (List UInt8)},H32 L→(hsF L).length=32*L.length
 | [],_=>rfl
 | a::r,h=>by
  have:=uE (L:=r) fun x hx=>h x (by simp [hx])
  have ha:=h a (by simp)
  simp only [hsF,hH,aI,List.flatten_cons,List.map_append,aX,aQ,fG,ha,List.length_cons] at this ⊢
  omega
theorem aBD (a b:List (List UInt8)):hsF (a++b)=hsF a++hsF b:=by simp [hsF,hH]
theorem aIl (a:List UInt8):hsF [a]=(cG a).map .d:=by simp [hsF,hH]
def Wk (lo:Nat)(s:St)(v:V)(W:List (List UInt8)):Prop:=H32 W∧((W=[]∧(v = .d .nils∨v = .fl []))∨∃ r tail,v = .sl r 0 W.length 32∧lo≤r∧s.objs[r]?=some (.cells (hsF W++tail))∧0<(hsF W++tail).length)
theorem Wk.len {lo:Nat}{s:St}{v:V}{W:List (List UInt8)}(h:Wk lo s v W)(s':St):gZ s' .slice v=some W.length:=by
 rcases h with⟨_,⟨rfl,rfl | rfl⟩ | ⟨r,tail,rfl,_,_⟩⟩ <;> rfl
theorem Wk.keep {lo:Nat}{s s':St}{v:V}{W:List (List UInt8)}(h:Wk lo s v W)(hf : ∀ r cs,s.objs[r]?=some (.cells cs)→lo≤r→s'.objs[r]?=s.objs[r]?):Wk lo s' v W :=
 ⟨h.1,h.2.imp id fun⟨r,t,a,b,c,d⟩=>⟨r,t,a,b,(hf r _ c b).trans c,d⟩⟩
theorem Wk.last {lo:Nat}{s:St}{v:V}{W:List (List UInt8)}{k:List UInt8}(h:Wk lo s v (W++[k])) :
  ∃ p v',jA s 32 v (I W.length)=some p∧loadAt s true 32 p=some (.da (cG k))∧(∀ s':St,mD s' 32 v none (some (I W.length)) none=some v')∧Wk lo s v' W∧∃ r,v' = .sl r 0 W.length 32:=by
 obtain⟨h32,⟨he,_⟩ | ⟨r,tail,rfl,hr,ho,hp⟩⟩:=h
 ·simp at he
 ·have hW:H32 W:=fun x hx=>h32 x (by simp [hx])
  have hk:k.length=32:=h32 k (by simp)
  have hl:=uE hW
  rw [aBD,aIl,bV] at ho hp
  refine⟨.ref r (32*W.length),.sl r 0 W.length 32,gG s (by simp),?_,?_,⟨hW,.inr ⟨r,(cG k).map .d++tail,rfl,hr,ho,by simpa using hp⟩⟩,r,rfl⟩
  ·simp only [loadAt,ho,if_true,aX,hl,aQ,fG,hk]
   rw [if_pos (by omega),List.drop_append_of_le_length (by omega),bT (by omega),aH,List.take_append_of_le_length (by simp [fG,hk]),aK (by simp [fG,hk])]
   exact congrArg some (iO _)
  ·intro s'
   have e0:(W++[k]).length=W.length+1:=by simp
   rw [e0]
   simp [mD,lenV,jN,jX,kL]
theorem Wk.push {lo:Nat}{s:St}{v:V}{W:List (List UInt8)}(h:Wk lo s v W)(hv : ∃ r,v = .sl r 0 W.length 32){L:List (List UInt8)}(hL:H32 L)(hlo:lo≤s.objs.length)(hn:W.length+L.length≤1000000){e:Env}{x y:Opd}{t:Nat}(hx:x.ev e=v)(hy:y.ev e = .d (hlD L)) :
  ∃ v' s',(dM (.append t 32 32 x y) e s none=some (v',s')∨iB (.append t 32 32 x y) e s none=some (v',s'))∧Wk lo s' v' (W++L)∧(∀ r,r<lo→s'.objs[r]?=s.objs[r]?)∧s.objs.length≤s'.objs.length∧s'.toks=s.toks∧(∀ (r:Nat) (es:List Ent) (ck:Nat),s.objs[r]?=some (Dn.Obj.map es ck)→s'.objs[r]?=some (Dn.Obj.map es ck)):=by
 obtain⟨h32,⟨rfl,he⟩ | ⟨r,tail,rfl,hr,ho,hp⟩⟩:=h
 ·obtain⟨r,hv⟩:=hv
  rcases he with he | he <;> rw [he] at hv <;> cases hv
 ·have hrw:V.rows s (.d (hlD L))=some (hH L):=(kG L).rows s
  have hrl:r<s.objs.length:=(aB.1 ho).1
  have hl:=uE h32
  by_cases hL0:L=[]
  ·subst hL0
   refine⟨.sl r 0 W.length 32,s,.inl ?_,⟨by simpa using h32,.inr ⟨r,tail,by simp,hr,by simpa using ho,by simpa using hp⟩⟩,fun _ _=>rfl,bB _,rfl,fun _ _ _ h=>h⟩
   simp only [dM,hx,hy,hrw,hH,aM,jE,kV,List.all_nil,ho,List.length_nil,Nat.add_zero,and_self,Nat.zero_lt_succ,if_true,aX,hl,Nat.zero_add,List.flatten_nil,splice,aG,reduceCtorEq,if_false,Nat.reduceLT]
   rw [if_pos (by omega),List.take_append_drop]
   have:s.setObj r (.cells (hsF W++tail))=s:=by
    unfold St.setObj
    obtain⟨hi,he⟩:=aB.1 ho
    rw [← he,List.set_getElem_self]
   rw [this]
  ·refine⟨.sl s.objs.length 0 (W.length+L.length) 32,⟨(s.objs.set r .dead)++[.cells (hsF W++hsF L)],s.toks⟩,.inr ?_,⟨fun z hz=>?_,.inr ⟨s.objs.length,[],by simp,hlo,by simp [aBD],?_⟩⟩,fun r' hr'=>?_,by simp,rfl,fun r' es ck he=>?_⟩
   ·have hf:kV 32 (hH L)=true:=fitR_iff.2 (sK hL)
    have hne : ¬ hH L=[]:=by simpa [hH] using hL0
    simp only [iB,hx,hy,hrw,kQ,hf,hne,ho,iN,bF]
    simp [newObj,St.place,St.push,St.spot,St.setObj,hl,show(W.length+L.length)*32≤140737488355328 by omega,show W.length+L.length≤9223372036854775807 by omega,show W.length*32≤32*W.length+tail.length by omega]
    refine⟨by simpa [hl] using hp,?_⟩
    rw [List.take_append_of_le_length (by omega),aK (by omega)]
    simp [hsF]
   ·rcases aW.1 hz with h | h
    ·exact h32 z h
    ·exact hL z h
   ·have:0<L.length:=List.length_pos_iff.2 hL0
    rw [aBD]
    simp [hl,uE hL]
    omega
   ·simp only
    rw [aC (by simp; omega),aF (by omega)]
   ·have hr':=(aB.1 he).1
    have:r'≠r:=fun e=>by rw [e,ho] at he; cases he
    simp only
    rw [aC (by simp; omega),aF (fun e=>this e.symm)]
    exact he

theorem Wk.app {lo:Nat}{s:St}{v:V}{W:List (List UInt8)}(h:Wk lo s v W)(hv : ∃ r,v = .sl r 0 W.length 32){L:List (List UInt8)}(hL:H32 L)(hlo:lo≤s.objs.length)(hn:W.length+L.length≤1000000){K:iI}{cx:Cx}{dst:Option Nat}{rest:List Ins}{Q:Env→St→Prop}{e:Env}{x y:Opd}{t:Nat}(hx:x.ev e=v)(hy:y.ev e = .d (hlD L))
  (hq : ∀ v' s',Wk lo s' v' (W++L)→(∀ r,r<lo→s'.objs[r]?=s.objs[r]?)→s.objs.length≤s'.objs.length→s'.toks=s.toks→(∀ (r:Nat) (es:List Ent) (ck:Nat),s.objs[r]?=some (Dn.Obj.map es ck)→s'.objs[r]?=some (Dn.Obj.map es ck))→iD K cx rest (eK e dst v') s' Q) :
  iD K cx (.e dst (.append t 32 32 x y)::rest) e s Q:=by
 obtain⟨v',s',ho,a1,a2,a3,a4,a5⟩:=h.push hv hL hlo hn hx hy (t:=t)
 rcases ho with ho | ho
 ·exact gN ho (hq v' s' a1 a2 a3 a4 a5)
 ·exact sM ho (hq v' s' a1 a2 a3 a4 a5)
theorem aGW {v:V}{rows:List (List D)}(hv:LV v rows)(hb:V.isNil .slice v=some false):cB .eql .slice [] v (.d .nils) false true=some (B false):=by
 have:eqV .slice [] v (.d .nils) false true=some false:=by simp only [eqV,hb]; rfl
 cases hv <;> first | (simp only [cB,this]; rfl) | cases hb
theorem aHl {σ:St}{v:V}{L:List (List UInt8)}(hv:LV v (hH L))(h32:H32 L)(hn:L.length≤1000000) :
  Dn.Call Γ cx .raw 81 [v] σ fun w s=>Wk σ.objs.length s w L∧(∀ r,r<σ.objs.length→s.objs[r]?=σ.objs[r]?)∧σ.objs.length≤s.objs.length∧s.toks=σ.toks:=by
 refine Dn.Call.body (fc:=c81) rfl ?_
 obtain⟨b,hb,hb2⟩:=hv.isNil
 have hrw:=fun s=>hv.rows s
 cases b with
 | true =>
  obtain⟨rfl,hL⟩:=hb2 rfl
  have hL0:L=[]:=by simpa [hH] using hL
  subst hL0
  simp [c81,c81_k2,c81_k1,eqV,V.isNil,Opd.isC]
  exact⟨fun _ h=>(by cases h),.inl ⟨rfl,.inl rfl⟩⟩
 | false =>
  have hbn:=aGW hv hb
  simp [-cB,hbn,-aA,c81,c81_k2,c81_k1,c81_k0,Opd.isC,iL,gJ]
  by_cases hL0:L=[]
  ·subst hL0
   refine gN (v:=.fl []) (s:=σ) ?_ ?_
   ·have hfl:V.rows σ (.fl [])=some []:=rfl
    simp [hrw,hH,jE,kV,hfl]
   simp
   exact⟨fun _ h=>(by cases h),.inl ⟨rfl,.inr rfl⟩⟩
  ·have hne:hH L≠[]:=by simpa [hH] using hL0
   refine sM (v:=.sl σ.objs.length 0 L.length 32) (s:=σ.push (.cells (hsF L))) ?_ ?_
   ·have:=yJ (σ:=σ) (sz:=32) (bytes:=32) (rows:=[]) (ys:=hH L) (by decide) (by simp) (sK h32) hne (by simp [iN]; omega) (by simp [iN]; omega)
    simp [iB,hrw]
    simpa [iN,hsF,St.push] using this
   simp
   have:0<L.length:=List.length_pos_iff.2 hL0
   exact⟨⟨h32,.inr ⟨_,[],rfl,bB _,by simp,by simp [uE h32]; omega⟩⟩,fun r hr=>by rw [aC hr]⟩

inductive Reach (M:List Nd) (nx:List UInt8→List (List UInt8)) (L:List (List UInt8)):List UInt8→Prop
 | base {id:List UInt8}:id∈L→(fnd M id).isSome=true→Reach M nx L id
 | step {a b:List UInt8}:Reach M nx L a→b∈nx a→(fnd M b).isSome=true→Reach M nx L b
theorem Reach.is {M:List Nd}{nx:List UInt8→List (List UInt8)}{L:List (List UInt8)}{id:List UInt8}(h:Reach M nx L id):(fnd M id).isSome=true:=by cases h <;> assumption
noncomputable def aAd (M:List Nd)(nx:List UInt8→List (List UInt8))(L:List (List UInt8)):List (List UInt8):=(M.filter fun n=>@decide (Reach M nx L n.id) (Classical.propDecidable _)).map (·.id)
theorem aEN {M:List Nd}{nx:List UInt8→List (List UInt8)}{L K:List (List UInt8)}(h : ∀ id,id∈K↔Reach M nx L id):(gX M K).map (·.id)=aAd M nx L:=by
 unfold aAd gX
 congr 1
 refine List.filter_congr fun n _=>?_
 rw [Bool.eq_iff_iff]
 exact(decide_eq_true_iff).trans ((h _).trans (@decide_eq_true_iff _ (Classical.propDecidable _)).symm)
structure Rk (M:List Nd)(nx:List UInt8→List (List UInt8))(L K W:List (List UInt8)):Prop where
 k : ∀ id∈K,Reach M nx L id
 w : ∀ id∈W,(fnd M id).isSome=true→Reach M nx L id
 b : ∀ id∈L,(fnd M id).isSome=true→id∈K∨id∈W
 s : ∀ a∈K,∀ b∈nx a,(fnd M b).isSome=true→b∈K∨b∈W
theorem Rk.done {M:List Nd}{nx:List UInt8→List (List UInt8)}{L K:List (List UInt8)}(h:Rk M nx L K []) : ∀ id,id∈K↔Reach M nx L id:=fun id=>by
 refine⟨h.k id,fun hr=>?_⟩
 induction hr with
 | base h1 h2=>exact(h.b _ h1 h2).resolve_right (by simp)
 | step h1 h2 h3 ih=>exact(h.s _ ih _ h2 h3).resolve_right (by simp)
theorem Rk.drop {M:List Nd}{nx:List UInt8→List (List UInt8)}{L K W:List (List UInt8)}{x:List UInt8}(h:Rk M nx L K (W++[x]))(hx:(fnd M x).isSome=true→x∈K):Rk M nx L K W:=by
 refine⟨h.k,fun id hi=>h.w id (by simp [hi]),fun id hi hf=>?_,fun a ha b hb hf=>?_⟩
 ·rcases h.b id hi hf with h | h
  ·exact .inl h
  ·rcases aW.1 h with h | h
   ·exact .inr h
   ·obtain rfl:=bI.1 h
    exact .inl (hx hf)
 ·rcases h.s a ha b hb hf with h | h
  ·exact .inl h
  ·rcases aW.1 h with h | h
   ·exact .inr h
   ·obtain rfl:=bI.1 h
    exact .inl (hx hf)
theorem Rk.add {M:List Nd}{nx:List UInt8→List (List UInt8)}{L K W K':List (List UInt8)}{x:List UInt8}(h:Rk M nx L K (W++[x]))(hx:(fnd M x).isSome=true)(hK : ∀ id,id∈K'↔id∈K∨id=x):Rk M nx L K' (W++nx x):=by
 have hr:=h.w x (by simp) hx
 refine⟨fun id hi=>?_,fun id hi hf=>?_,fun id hi hf=>?_,fun a ha b hb hf=>?_⟩
 ·rcases (hK id).1 hi with h1 | rfl
  ·exact h.k id h1
  ·exact hr
 ·rcases aW.1 hi with h1 | h1
  ·exact h.w id (by simp [h1]) hf
  ·exact .step hr h1 hf
 ·rcases h.b id hi hf with h1 | h1
  ·exact .inl ((hK id).2 (.inl h1))
  ·rcases aW.1 h1 with h1 | h1
   ·exact .inr (by simp [h1])
   ·obtain rfl:=bI.1 h1
    exact .inl ((hK id).2 (.inr rfl))
 ·rcases (hK a).1 ha with h1 | rfl
  ·rcases h.s a h1 b hb hf with h2 | h2
   ·exact .inl ((hK b).2 (.inl h2))
   ·rcases aW.1 h2 with h2 | h2
    ·exact .inr (by simp [h2])
    ·obtain rfl:=bI.1 h2
     exact .inl ((hK b).2 (.inr rfl))
  ·exact .inr (by simp [hb])
theorem Set1.nodup {σ s:St}{q:Nat}{K:List (List UInt8)}{p:List UInt8→Prop}(h:Set1 σ s q K p):K.Nodup:=by
 obtain⟨es,ck,_,hM⟩:=h.m
 have:=hM.nd
 unfold pB at this
 rw [List.map_map] at this
 exact(List.pairwise_map.1 this).imp fun h e=>h (by rw [e])
theorem aCa {M:List Nd}(hn:(M.map (·.id)).Nodup){K:List (List UInt8)}(hK:K.Nodup)(hs : ∀ id∈K,(fnd M id).isSome=true):K.length≤M.length:=by
 have:=(vO hn hK hs).length_eq
 rw [aQ] at this
 rw [this]
 exact List.length_filter_le _ _
theorem aH4 {K K':List (List UInt8)}{x:List UInt8}(hK:K.Nodup)(hK':K'.Nodup)(hx:x∉K)(h : ∀ id,id∈K'↔id∈K∨id=x):K'.length=K.length+1:=by
 have:K'.Perm (x::K):=(List.perm_ext_iff_of_nodup hK' (List.nodup_cons.2 ⟨hx,hK⟩)).2 fun id=>by rw [h,bU]; exact or_comm
 simpa using this.length_eq
def aGm (σ:St)(g q:Nat)(fv:V)(M:List Nd)(nx:List UInt8→List (List UInt8))(L:List (List UInt8))(m:Nat)(e:Env)(s:St):Prop:=∃ (v:V) (K W:List (List UInt8)),e=[(0,.ref g 0),(2,fv),(7,.map q),(8,v)]∧m=(M.length-K.length)*100+W.length∧m≤20000∧Set1 σ s q K (fun id=>id∈K)∧Wk σ.objs.length s v W∧Rk M nx L K W

set_option maxHeartbeats 1000000 in
theorem aBh {σ:St}{g qn qs ck ck2 put:Nat}{es es2:List Ent}{M:List Nd}(h:Gr σ g qn qs es ck es2 ck2 M put){v:V}{L:List (List UInt8)}(hv:LV v (hH L))(h32:H32 L)(hn:L.length≤10000){k:Nat}{first:List V}{nx:List UInt8→List (List UInt8)}
  (hnx : ∀ id,H32 (nx id)∧(nx id).length≤90)
  (hcall : ∀ s:St,(∀ r,r<σ.objs.length→s.objs[r]?=σ.objs[r]?)→∀ id:List UInt8,id.length=32→Dn.Call Γ cx .rd k (first++[.da (cG id)]) s fun v _=>v = .d (hlD (nx id))) :
  Dn.Call Γ cx .raw 57 [.ref g 0,v,.fn (.func k) first []] σ fun v s=>ColB σ.objs.length s v (aAd M nx L)∧(∀ r,r<σ.objs.length→s.objs[r]?=σ.objs[r]?)∧σ.objs.length≤s.objs.length∧s.toks=σ.toks:=by
 refine Dn.Call.body (fc:=c57) rfl ?_
 simp [c57,c57_k11,c57_k10]
 generalize hq:σ.objs.length=q at *
 have hold0 : ∀ r,r<q→(⟨σ.objs++[.map [] 0],σ.toks⟩:St).objs[r]?=σ.objs[r]?:=fun r hr=>by simp only; rw [aC (by omega)]
 have hmap0:(⟨σ.objs++[.map [] 0],σ.toks⟩:St).objs[q]?=some (.map [] 0):=by simp [← hq]
 have hlen0:(⟨σ.objs++[.map [] 0],σ.toks⟩:St).objs.length=q+1:=by simp [← hq]
 have htk0:(⟨σ.objs++[.map [] 0],σ.toks⟩:St).toks=σ.toks:=rfl
 generalize (⟨σ.objs++[.map [] 0],σ.toks⟩:St)=σ0 at *
 refine fF (aHl hv h32 (by omega)) fun w s0 ⟨hw,a1,a2,a3⟩=>?_
 have hml:=h.len
 simp [c57_k9]
 refine fK (aGm σ g q (.fn (.func k) first []) M nx L) (m:=M.length*100+L.length) ⟨w,[],L,rfl,by simp,by omega,⟨⟨[],0,by rw [a1 q (by omega)]; exact hmap0,MpG.nil⟩,fun _=>Iff.rfl,by omega,fun r hr=>(a1 r (by omega)).trans (hold0 r (by omega)),by omega,a3.trans htk0⟩,⟨hw.1,hw.2.imp id fun⟨r,t,b1,b2,b3,b4⟩=>⟨r,t,b1,by omega,b3,b4⟩⟩,⟨by simp,fun id hi hf=>.base hi hf,fun id hi _=>.inr hi,by simp⟩⟩ ?_
 clear hw
 rintro m e s ⟨v,K,W,rfl,rfl,hm,hS,hW,hR⟩
 have hnd:=h.nd
 have hg:=h.more hS.old
 have hKl:=aCa hnd hS.nodup fun id hi=>(hR.k id hi).is
 have hvl:=hW.len s
 simp [-loadAt,c57_l8,hvl,c57_k7]
 rcases List.eq_nil_or_concat W with rfl | ⟨W0,x,hWx⟩
 ·have hd:=hR.done
  have ho:=uS hg hS.m fun id hid=>(hR.k id hid).is
  rw [aEN hd] at ho
  simp [c57_k0]
  refine fF ho fun v3 s3 hv=>?_
  simp
  have:=pV hS hv
  rw [hq] at this
  exact this
 rw [List.concat_eq_append] at hWx
 subst hWx
 obtain⟨p,v',i1,i2,i3,hW',r',hv'⟩:=hW.last
 have hx32:x.length=32:=hW.1 x (by simp)
 have hWl:(W0++[x]).length=W0.length+1:=by simp
 rw [hWl] at hm hvl ⊢
 have e1:((W0.length+1:Nat):Int)=(W0.length:Int)+1:=by omega
 have ew:aJ.wrap ((W0.length:Int)+1-1)=(W0.length:Int):=by rw [bY (by omega) (by omega)]; omega
 have ew2:aJ.wrap (W0.length:Int)=(W0.length:Int):=by rw [bY (by omega) (by omega)]
 have hpos:(0:Int)<(W0.length:Int)+1:=by omega
 have hnl:(cG x).length=32:=by rw [fG,hx32]
 have zl:(aD 32 (V.d (D.int .u8 0))).length=32:=bS
 simp [-bZ,-loadAt,-splice,-aA,hpos,c57_k6,c57_k5,hvl,ew,ew2,i1,i2,gK,hnl,zl]
 obtain⟨s2,hs2⟩ : ∃ t:St,(⟨s.objs++[.cells (List.map V.d (cG x))],s.toks⟩:St)=t:=⟨_,rfl⟩
 rw [hs2]
 have old2 : ∀ r,r<s.objs.length→s2.objs[r]?=s.objs[r]?:=fun r hr=>by rw [← hs2]; simp only; rw [aC hr]
 have hl2:s2.objs.length=s.objs.length+1:=by rw [← hs2]; simp
 have o9:s2.objs[s.objs.length]?=some (.cells (List.map V.d (cG x))):=by rw [← hs2]; simp
 have tk2:s2.toks=s.toks:=by rw [← hs2]
 have l9' : ∀ s3:St,s3.objs[s.objs.length]?=s2.objs[s.objs.length]?→loadAt s3 true 32 (.ref s.objs.length 0)=some (.da (cG x)):=fun s3 h3=>by
  simp only [loadAt,h3,o9,if_true,aQ,hnl,bF]
  rw [aK (by simp [hnl])]
  exact congrArg some (iO _)
 have l9:=l9' s2 rfl
 have hSl:=hS.len
 have hSq:=hS.q
 obtain⟨es5,ck5,hm5,hM5⟩:=hS.m
 have hql:q<s.objs.length:=(aB.1 hm5).1
 have hm6:s2.objs[q]?=some (.map es5 ck5):=by rw [old2 q hql]; exact hm5
 have hW2:Wk σ.objs.length s2 v' W0:=hW'.keep fun r cs hr hlo=>old2 r (aB.1 hr).1
 have hG:Gr s2 g qn qs es ck es2 ck2 M put:=h.more fun r hr=>by rw [old2 r (by omega),hS.old r hr]
 have hlk:=hM5.look hm6 (mO hx32) (I 0) false
 rw [aBN] at hlk
 have hvl2:gZ s2 .slice v=some (W0.length+1):=by have:=hW.len s2; rwa [hWl] at this
 have i3':=i3 s2
 simp [-bZ,-loadAt,-aA,c57_k4,hvl2,ew,ew2,i3',c57_k3,l9]
 refine jW (uR hG hx32) ?_
 have skip:(∀ hf:(fnd M x).isSome=true,x∈K)→∃ m',m'<(M.length-K.length)*100+(W0.length+1)∧aGm σ g q (.fn (.func k) first []) M nx L m' [(0,.ref g 0),(2,.fn (.func k) first []),(7,.map q),(8,v')] s2:=fun hx =>
  ⟨(M.length-K.length)*100+W0.length,by omega,v',K,W0,rfl,rfl,by omega,⟨⟨es5,ck5,hm6,hM5⟩,fun _=>Iff.rfl,by omega,fun r hr=>by rw [old2 r (by omega),hS.old r hr],by omega,tk2.trans hS.tk⟩,hW2,hR.drop hx⟩
 cases hf:(fnd M x).isSome with
 | false =>
  simp [c57_k2]
  exact skip fun h=>by rw [hf] at h; cases h
 | true =>
  by_cases hxK:x∈K
  ·rw [if_pos hxK] at hlk
   have hlk':jH s2 true (aD 32 (Lf.int IntKind.u8)) (I 0) false (.map q) (.da (cG x))=some (I 1):=hlk
   simp [-bZ,-loadAt,-aA,l9,hlk',c57_k2]
   exact skip fun _=>hxK
  ·rw [if_neg hxK] at hlk
   have hlk':jH s2 true (aD 32 (Lf.int IntKind.u8)) (I 0) false (.map q) (.da (cG x))=some (I 0):=hlk
   obtain⟨es7,ck7,K',hu,hM7,hK⟩:=aBS hm6 hM5 hx32
   have hu':mA s2 true (aD 32 (Lf.int IntKind.u8)) (.map q) (.da (cG x)) (I 1)=_:=hu
   simp [-bZ,-loadAt,-aA,l9,hlk',c57_k2,hu']
   have old3 : ∀ r,r≠q→(s2.objs.set q (Dn.Obj.map es7 ck7))[r]?=s2.objs[r]?:=fun r hr=>by rw [aF (by omega)]
   have hm7:(s2.objs.set q (Dn.Obj.map es7 ck7))[q]?=some (.map es7 ck7):=by rw [aO (by omega)]
   have hl3:(s2.objs.set q (Dn.Obj.map es7 ck7)).length=s2.objs.length:=by simp
   obtain⟨s3,hs3⟩ : ∃ t:St,(⟨s2.objs.set q (.map es7 ck7),s2.toks⟩:St)=t:=⟨_,rfl⟩
   have eo:s2.objs.set q (Dn.Obj.map es7 ck7)=s3.objs:=by rw [← hs3]
   have et:s3.toks=s2.toks:=by rw [← hs3]
   rw [eo] at old3 hm7 hl3
   rw [hs3]
   have l93:=l9' s3 (old3 _ (by omega))
   have hW3:Wk σ.objs.length s3 v' W0:=hW2.keep fun r cs hr hlo=>old3 r fun e=>by rw [e,hm6] at hr; cases hr
   simp [-bZ,-loadAt,-aA,c57_k1,l93]
   refine jW (hcall s3 (fun r hr=>by rw [old3 r (by omega),old2 r (by omega),hS.old r (by omega)]) x hx32) ?_
   simp only [eR,eK,Env.set]
   obtain⟨n32,nl⟩:=hnx x
   refine hW3.app ⟨r',hv'⟩ n32 (by omega) (by omega) rfl rfl fun v'' s4 b1 b2 b3 b4 b5=>?_
   simp
   have hKl2:=aH4 hS.nodup (by have:=hM7.nd; unfold pB at this; rw [List.map_map] at this; exact(List.pairwise_map.1 this).imp fun h e=>h (by rw [e])) hxK hK
   have hKM:K'.length≤M.length:=aCa hnd (by have:=hM7.nd; unfold pB at this; rw [List.map_map] at this; exact(List.pairwise_map.1 this).imp fun h e=>h (by rw [e])) fun id hi=>by
    rcases (hK id).1 hi with h1 | rfl
    ·exact(hR.k id h1).is
    ·exact hf
   refine⟨(M.length-K'.length)*100+(W0.length+(nx x).length),by omega,v'',K',W0++nx x,rfl,by simp,by omega,⟨⟨es7,ck7,b5 _ _ _ hm7,hM7⟩,fun _=>Iff.rfl,by omega,fun r hr=>by rw [b2 r (by omega),old3 r (by omega),old2 r (by omega),hS.old r hr],by omega,by rw [b4,et,tk2,hS.tk]⟩,b1,hR.add hf hK⟩

theorem Gr.ids {σ:St}{g qn qs ck ck2 put:Nat}{es es2:List Ent}{M:List Nd}(h:Gr σ g qn qs es ck es2 ck2 M put)(p:Nd→Bool):H32 ((M.filter p).map (·.id))∧((M.filter p).map (·.id)).length≤90:=by
 refine⟨fun x hx=>?_,?_⟩
 ·obtain⟨n,hn,rfl⟩:=aT.1 hx
  exact(h.ok n (aY.1 hn).1).id
 ·have:=h.len
  have:=List.length_filter_le p M
  simp
  omega
theorem xY:H32 []:=fun _ h=>by cases h
theorem Gr.par {σ:St}{g qn qs ck ck2 put:Nat}{es es2:List Ent}{M:List Nd}(h:Gr σ g qn qs es ck es2 ck2 M put)(id:List UInt8):H32 (mT M id)∧(mT M id).length≤90:=by
 unfold mT
 cases fnd M id with
 | none=>exact⟨xY,by simp⟩
 | some n=>exact h.ids _
theorem Gr.chi {σ:St}{g qn qs ck ck2 put:Nat}{es es2:List Ent}{M:List Nd}(h:Gr σ g qn qs es ck es2 ck2 M put)(id:List UInt8):H32 (oD M id)∧(oD M id).length≤90:=by
 unfold oD
 cases fnd M id with
 | none=>exact⟨xY,by simp⟩
 | some n=>exact h.ids _
theorem qX {σ:St}{g qn qs ck ck2 put:Nat}{es es2:List Ent}{M:List Nd}(h:Gr σ g qn qs es ck es2 ck2 M put){id:List UInt8}(hid:id.length=32) :
  Dn.Call Γ cx .rd 17 [.ref g 0,.da (cG id)] σ fun v _=>v = .d (hlD (mT M id)):=aC1 rfl rfl (aFM h hid)
theorem xG {σ:St}{g qn qs ck ck2 put:Nat}{es es2:List Ent}{M:List Nd}(h:Gr σ g qn qs es ck es2 ck2 M put){id:List UInt8}(hid:id.length=32) :
  Dn.Call Γ cx .rd 19 [.ref g 0,.da (cG id)] σ fun v _=>v = .d (hlD (oD M id)):=aC1 rfl rfl (aD0 h hid)
theorem uQ {σ:St}{g qn qs ck ck2 put:Nat}{es es2:List Ent}{M:List Nd}(h:Gr σ g qn qs es ck es2 ck2 M put){va vb:V}{f:Bool}{ins:List SpG}{outs:List CoG}(hT:TxV σ va vb ins outs) :
  Dn.Call Γ cx .rd 28 [.ref g 0,bZ [va,vb,.d (.bool f)]] σ fun v _=>v = .d (hlD ((gX M (kE M ins (idB ins outs f))).map (·.id))):=aC1 rfl rfl (aC7 h hT)
theorem aC6 {σ:St}{g qn qs ck ck2 put:Nat}{es es2:List Ent}{M:List Nd}(h:Gr σ g qn qs es ck es2 ck2 M put){v:V}{L:List (List UInt8)}(hv:LV v (hH L))(h32:H32 L)(hn:L.length≤10000) :
  Dn.Call Γ cx .rd 24 [.ref g 0,v] σ fun w _=>w = .d (hlD (aAd M (mT M) L)):=by
 refine aC1 rfl rfl ?_
 refine Dn.Call.body (fc:=c24) rfl ?_
 simp [c24,c24_k0]
 refine fF (aBh h hv h32 hn h.par fun s hs id hid=>qX (h.more hs) hid) fun w s hw=>?_
 simp
 exact hw
theorem aAI {σ:St}{g qn qs ck ck2 put:Nat}{es es2:List Ent}{M:List Nd}(h:Gr σ g qn qs es ck es2 ck2 M put){v:V}{L:List (List UInt8)}(hv:LV v (hH L))(h32:H32 L)(hn:L.length≤10000) :
  Dn.Call Γ cx .rd 26 [.ref g 0,v] σ fun w _=>w = .d (hlD (aAd M (oD M) L)):=by
 refine aC1 rfl rfl ?_
 refine Dn.Call.body (fc:=c26) rfl ?_
 simp [c26,c26_k0]
 refine fF (aBh h hv h32 hn h.chi fun s hs id hid=>xG (h.more hs) hid) fun w s hw=>?_
 simp
 exact hw

def aKM (x:V)(fv:V)(rows:List (List D))(p:List D→Bool)(J:St)(m:Nat)(e:Env) (σ:St):Prop:=∃ i:Nat,e=[(0,x),(1,fv),(7,I rows.length),(8,I i)]∧i≤rows.length∧m=rows.length-i∧σ=J∧∀ r∈rows.take i,p r=false

theorem aHp {σ:St}{x:V}{rows:List (List D)}(hx:LV x rows)(hfit : ∀ r∈rows,r.length=32)(hl:rows.length≤1000000){g:Nat}{first caps:List V}(p:List D→Bool) 
  (hf : ∀ r,r∈rows→Dn.Call Γ cx .rd g (first++[.da r]++caps) σ fun v _=>v=B (p r)) :
  Dn.Call Γ cx .raw 72 [x,.fn (.func g) first caps] σ fun v s=>∃ n:Int,v=I n∧(decide (0≤n)=rows.any p)∧s=σ:=by
 refine Dn.Call.body (fc:=c72) rfl ?_
 have hlx : ∀ σ,gZ σ .slice x=some rows.length:=fun σ=>hx.len σ
 simp [c72,c72_k7,c72_k6,hlx]
 refine fK (aKM x (.fn (.func g) first caps) rows p σ) (m:=rows.length) ⟨0,rfl,by omega,rfl,rfl,by simp⟩ ?_
 rintro m e σ' ⟨i,rfl,hi,rfl,rfl,hno⟩
 simp [c72_l5,c72_k4]
 by_cases hil:i<rows.length
 ·obtain⟨r,hr⟩ : ∃ r,rows[i]?=some r:=⟨rows[i],by simp [hil]⟩
  have hrm:=aL hr
  have hr32:=hfit r hrm
  have hia:=fun σ=>hx.iaddr σ (k:=.i64) (sz:=32) hr hr32
  have hii:(i:Int)<rows.length:=by omega
  have htk:rows.take (i+1)=rows.take i++[r]:=by
   obtain⟨h,rfl⟩:=aB.1 hr
   exact(aZ h).symm
  simp [hii,hil,c72_k3,c72_k2,c72_k1,hia,hr32,aK]
  have hf1:=hf r hrm
  simp at hf1
  refine jW hf1 ?_
  cases hp:p r with
  | true =>
   simp [c72_k0]
   exact⟨r,hrm,hp⟩
  | false =>
   simp [c72_k0,bY (n:=(i:Int)+1) (by omega) (by omega)]
   refine⟨rows.length-(i+1),by omega,i+1,rfl,by omega,rfl,rfl,fun q hq=>?_⟩
   rw [htk] at hq
   rcases aW.1 hq with h | h
   ·exact hno q h
   ·simp at h; subst h; exact hp
 ·obtain rfl:i=rows.length:=by omega
  rw [bC] at hno
  simp
  exact hno

theorem aC8 {σ:St}{x:V}{rows:List (List D)}(hx:LV x rows)(hfit : ∀ r∈rows,r.length=32)(hl:rows.length≤1000000){g:Nat}{first caps:List V}(p:List D→Bool) 
  (hf : ∀ r,r∈rows→Dn.Call Γ cx .rd g (first++[.da r]++caps) σ fun v _=>v=B (p r)) :
  Dn.Call Γ cx .raw 46 [x,.fn (.func g) first caps] σ fun v s=>v=B (rows.any p)∧s=σ:=by
 refine Dn.Call.body (fc:=c46) rfl ?_
 simp [c46,c46_k0]
 refine fF (aHp hx hfit hl p hf) fun v s ⟨n,hv,hn,hJ'⟩=>?_
 subst hv hJ'
 simp [hn]

theorem aIR {σ:St}{g qn qs ck ck2 put r:Nat}{es es2:List Ent}{M:List Nd}(h:Gr σ g qn qs es ck es2 ck2 M put)(hr:σ.objs[r]?=some (.cells [.ref g 0])){id:List UInt8}(hid:id.length=32) :
  Dn.Call Γ cx .rd 47 [.da (cG id),.ref r 0] σ fun v _=>v=B (!(fnd M id).isSome):=by
 refine Dn.Call.body (fc:=c47) rfl ?_
 have hrl:r<σ.objs.length:=(aB.1 hr).1
 simp [-aA,c47,iH]
 obtain⟨σ1,hσ1⟩ : ∃ s:St,(⟨σ.objs++[.cells (byV id)],σ.toks⟩:St)=s:=⟨_,rfl⟩
 rw [hσ1]
 have old : ∀ r,r<σ.objs.length→σ1.objs[r]?=σ.objs[r]?:=fun r hr=>by rw [← hσ1]; simp only; rw [aC hr]
 have h1:=h.more old
 have o3:σ1.objs[σ.objs.length]?=some (.cells (byV id)):=by rw [← hσ1]; simp
 have kp:lI σ σ1:=by rw [← hσ1]; exact⟨fun i hi=>by simp [aC hi],fun t k ht=>ht⟩
 have l3:loadAt σ1 true 32 (.ref σ.objs.length 0)=some (.da (cG id)):=by
  simp only [loadAt,o3,if_true,hU,hid,bF]
  rw [aK (by simp [hU,hid])]
  simp [bZ,nJ,cG]
 have lr:loadAt σ1 false 1 (.ref r 0)=some (.ref g 0):=by have:=(old r hrl).trans hr; simp only [loadAt,this]; rfl
 simp [-bZ,-loadAt,-aA,c47_k0,l3,lr]
 refine jW (uR h1 hid) ?_
 simp
 exact kp
end Go.Proofs.YtdfhfhcilfjdgaaGreatDoor.T

namespace Go.Proofs.YtdfhfhcilfjdgaaGreatDoor.T
open Go.Dn

def yY (M:List Nd)(k:V):Int:=match fnd M (aCN k) with
 | some n=>n.fee
 | none=>0
def wtK (M:List Nd)(k:V):Int:=match fnd M (aCN k) with
 | some n=>wtN n.ins n.outs n.f
 | none=>0
def kX:List Int→Int
 | []=>0
 | n::r=>n+kX r
theorem aBl {a b:List Int}(h:a.Perm b):kX a=kX b:=by
 induction h with
 | nil=>rfl
 | cons x _ ih=>simp only [kX,ih]
 | swap x y l=>simp only [kX]; omega
 | trans _ _ i j=>exact i.trans j
theorem aAw (a b:List Int):kX (a++b)=kX a+kX b:=by
 induction a with
 | nil=>simp [kX]
 | cons x r ih=>simp only [aE,kX,ih]; omega
theorem yD {l:List Int}{c:Int}(h : ∀ n∈l,0≤n∧n≤c):0≤kX l∧kX l≤c*l.length:=by
 induction l with
 | nil=>simp [kX]
 | cons a r ih =>
  have h1:=h a (by simp)
  have h2:=ih fun n hn=>h n (by simp [hn])
  simp only [kX,List.length_cons,Int.natCast_add,Int.mul_add]
  omega
theorem aDn : ∀ {l:List Int} {acc:Int},(∀ n∈l,0≤n∧n≤2100000000000000)→0≤acc→acc≤2100000000000000→mE acc l=if acc+kX l≤2100000000000000 then some (acc+kX l) else none
 | [],acc,h,h0,h1=>by simp [mE,kX,h1]
 | n::r,acc,h,h0,h1=>by
  have hn:=h n (by simp)
  have hr:=yD (l:=r) (c:=2100000000000000) fun x hx=>h x (List.mem_cons_of_mem _ hx)
  have hg:jM n=true:=by simp [jM,hn]
  have e:acc+kX (n::r)=acc+n+kX r:=by simp only [kX]; omega
  rw [e]
  simp only [mE,hg,Bool.true_and]
  by_cases h2:acc+n≤2100000000000000
  ·have hg2:jM (acc+n)=true:=by simp [jM,h2]; omega
   rw [if_pos hg2,aDn (fun x hx=>h x (by simp [hx])) (by omega) h2]
  ·have hg2 : ¬ jM (acc+n)=true:=by simp [jM,h2]
   rw [if_neg hg2,if_neg (by omega)]
theorem aCf {ins:List SpG}{outs:List CoG}{f:Bool}(h1:ins.length≤30)(h2:outs.length≤30)(h3 : ∀ s∈ins,s.Ok):0≤wtN ins outs f∧wtN ins outs f≤800000:=by
 have a:=pJ false f h1 h2 h3
 have b:=pJ true f h1 h2 h3
 unfold wtN
 omega
def oF (N:List Nd):Int:=kX (N.map (·.fee))
def sD (N:List Nd):Int:=kX (N.map fun n=>wtN n.ins n.outs n.f)
def mV (M:List Nd)(L:List (List UInt8)):Int:=if L=[]∨L.any (fun id=>!(fnd M id).isSome)=true then 4 else if oF (gX M L)≤2100000000000000 then 0 else 9
def xE (M:List Nd)(L:List (List UInt8)):V:=.tup [if mV M L=0 then .da [.int .i64 (oF (gX M L)),.int .i64 (sD (gX M L))] else .da [.int .i64 0,.int .i64 0],mS (mV M L)]

structure JR (σ s:St)(q p c:Nat)(es3:List Ent)(ck3:Nat)(vis:List Ent)(v:V)(M:List Nd):Prop where
 it:s.objs[p]?=some (.iter (some q) ck3 (vis.map (·.1)) ck3)
 mp:s.objs[q]?=some (.map es3 ck3)
 o:s.objs[c]?=some (.cells [I 0,I (kX (vis.map fun x=>wtK M x.2.1))])
 app:App s 1 v (mM (vis.map fun x=>yY M x.2.1))
 old : ∀ r,r<σ.objs.length→s.objs[r]?=σ.objs[r]?
 cl:c<p∧p<s.objs.length∧q≠p∧q≠c∧σ.objs.length≤c
 tk:Toks σ.toks s.toks none (Dn.own v)
def aHY (σ:St)(b q p c:Nat)(es3:List Ent)(ck3:Nat)(M:List Nd)(m:Nat)(e:Env)(s:St):Prop:=∃ (vis rest:List Ent) (v:V),e=[(2,.ref b 0),(4,.ref (b+1) 0),(7,v),(8,.ref c 0),(28,.iter p)]∧rest.length=m∧es3.Perm (vis++rest)∧JR σ s q p c es3 ck3 vis v M

theorem vJ (id:List UInt8):aCN (.da (cG id))=id:=sX id
end Go.Proofs.YtdfhfhcilfjdgaaGreatDoor.T

namespace Go.Proofs.YtdfhfhcilfjdgaaGreatDoor.T
open Go.Dn
attribute [local simp] dO dF GB aM aI aG dA eW cE dZ cS cK dY dX eM eP eS cM cW cX eN fD gD fQ fB dK fC gE cJ cY cZ dN eB eC gA eR eE eF eD cL cU cV fZ i_p dU fY eA eV dW eU dV eX gC t_p eY eH gB eJ cT eZ eI eG gM aE aH dC dM fP fO fR gR Opd.ev Env.get Env.set Env.pick eK dE cB eO eQ cF dD dG gO eL Res.ev fL cN dI gS fN fW fX gW fT fU fV cx Dn.newObj St.place St.push St.spot St.empty eT dP cO cR dS dQ dT cQ dR cP loadAt cH dL cI bZ ofD splice St.setObj fE

set_option maxHeartbeats 1000000 in
theorem aKk {σ:St}{g qn qs ck ck2 put:Nat}{es es2:List Ent}{M:List Nd}(h:Gr σ g qn qs es ck es2 ck2 M put){v:V}{L:List (List UInt8)}(hv:LV v (hH L))(h32:H32 L)(hn:L.length≤10000) :
  Dn.Call Γ cx .rd 11 [.ref g 0,v] σ fun w _=>w=xE M L:=by
 refine Dn.Call.body (fc:=c11) rfl ?_
 simp [-loadAt,c11]
 obtain⟨σ1,hσ1⟩ : ∃ s:St,(⟨σ.objs++[.cells [.ref g 0],.cells [I 0,I 0]],σ.toks⟩:St)=s:=⟨_,rfl⟩
 rw [hσ1]
 have old : ∀ r,r<σ.objs.length→σ1.objs[r]?=σ.objs[r]?:=fun r hr=>by rw [← hσ1]; simp only; rw [aC hr]
 have h1:=h.more old
 have hl1:σ1.objs.length=σ.objs.length+2:=by rw [← hσ1]; simp
 have o2:σ1.objs[σ.objs.length]?=some (.cells [.ref g 0]):=by rw [← hσ1]; simp
 have o4:σ1.objs[σ.objs.length+1]?=some (.cells [I 0,I 0]):=by rw [← hσ1]; simp
 have tk1:σ1.toks=σ.toks:=by rw [← hσ1]
 clear hσ1
 generalize hb:σ.objs.length=b at *
 have l2:loadAt σ1 false 1 (.ref b 0)=some (.ref g 0):=by simp only [loadAt,o2]; rfl
 simp [-loadAt,c11_k18,l2]
 have hlv:=(Hl.lv (σ:=σ1) hv h32)
 refine fF (aB1 h1 hlv h32 (by omega)) fun w s1 ⟨q,K,hw,hS⟩=>?_
 subst hw
 have hSl:=hS.len
 have hSq:=hS.q
 have h2:=h1.more hS.old
 have o2':s1.objs[b]?=some (.cells [.ref g 0]):=(hS.old b (by omega)).trans o2
 have o4':s1.objs[b+1]?=some (.cells [I 0,I 0]):=(hS.old (b+1) (by omega)).trans o4
 have hlen : ∀ s,gZ s .slice v=some L.length:=fun s=>by rw [hv.len,iN]
 have kp : ∀ {s:St},(∀ r,r<b→s.objs[r]?=s1.objs[r]?)→(∀ (t k:Nat),σ.toks[t]?=some k→s.toks[t]?=some k)→lI σ s:=fun ho ht=>⟨fun i hi=>by rw [ho i (by omega),hS.old i (by omega),old i (by omega)],ht⟩
 have bad:mV M L=4→gF (Dn.Call Γ cx) cx c11_k16 [(2,.ref b 0),(4,.ref (b+1) 0),(6,.map q),(23,B true)] s1 (oC (Dn.Call Γ cx) cx c11_k15 (tY .rd σ [.cell 4 true 2,.tmp 5] fun w _=>w=xE M L)):=fun he=>by
  simp [c11_k16,rT,o4',aO (show b+1<s1.objs.length by omega),xE,he,mS]
  exact kp (fun r hr=>by simp only; rw [aF (by omega)]) fun t k ht=>by simp only; rw [hS.tk,tk1]; exact ht
 by_cases hL0:L=[]
 ·subst hL0
  simp [-loadAt,c11_k17,hlen]
  exact bad (by simp [mV])
 have hL1 : ¬ (L.length:Int)=0:=by have:=List.length_pos_iff.2 hL0; omega
 simp [-loadAt,c11_k17,hlen,hL0]
 refine fF (aC8 hv (sK h32) (by rw [iN]; omega) (fun r=>!(fnd M (toB r)).isSome) fun r hr=>?_) fun w s2 ⟨hw,hs2⟩=>?_
 ·obtain⟨id,hid,rfl⟩:=aT.1 hr
  rw [sX]
  exact aIR h2 o2' (h32 id hid)
 subst hw hs2
 have hany:(hH L).any (fun r=>!(fnd M (toB r)).isSome)=L.any fun id=>!(fnd M id).isSome:=by
  unfold hH
  rw [List.any_map]
  refine congrArg (List.any L) (funext fun id=>?_)
  simp only [Function.comp,sX]
 rw [hany]
 cases ha:L.any fun id=>!(fnd M id).isSome with
 | true =>
  simp [-loadAt]
  exact bad (by simp only [mV,ha,or_true,if_true])
 | false =>
  obtain⟨es3,ck3,hm3,hM3⟩:=hS.m
  have hall : ∀ id∈L,(fnd M id).isSome=true:=fun id hid=>by
   have:=List.any_eq_false.1 ha id hid
   revert this
   cases fnd M id <;> simp
  have hnd:=h.nd
  have hKord:gX M K=gX M L:=zY fun id=>by rw [hS.k]; exact⟨fun h=>h.1,fun h=>⟨h,hall id h⟩⟩
  have hKp:=vO hnd hS.nodup fun id hi=>((hS.k id).1 hi).2
  have hkeys:(es3.map (·.2.1)).Perm (K.map fun id=>V.da (cG id)):=by
   have:=hM3.pm.map (·.1)
   rw [List.map_map] at this
   refine this.trans ?_
   unfold pB
   rw [List.map_map]
   exact List.Perm.refl _
  have hrv : ∀ s:St,s.objs[q]?=some (.map es3 ck3)→tM s none (.map q)=some (.iter s.objs.length,⟨s.objs++[.iter (some q) ck3 [] ck3],s.toks⟩):=fun s hs=>by
   simp [tM,hs,newObj,St.place,St.push,St.spot]
  have hql:q<s2.objs.length:=(aB.1 hm3).1
  have hrv1:=hrv ⟨s2.objs++[.cells [I 0,I 0]],s2.toks⟩ (by simp only; rw [aC hql]; exact hm3)
  simp [-loadAt,c11_k16,c11_k15,c11_k14]
  simp at hrv1
  simp [-loadAt,c11_k13,c11_k12,hrv1]
  have hml:=h.len
  have hbd:=hM3.bd
  generalize hc:s2.objs.length=c at *
  have hs0o : ∀ r,r<c→(⟨s2.objs++[.cells [I 0,I 0],.iter (some q) ck3 [] ck3],s2.toks⟩:St).objs[r]?=s2.objs[r]?:=fun r hr=>by simp only; rw [aC (by omega)]
  refine fK (aHY s2 b q (c+1) c es3 ck3 M) (m:=es3.length) ⟨[],es3,.d .nils,rfl,rfl,List.Perm.refl _,⟨by simp [← hc],(hs0o q (by omega)).trans hm3,by simp [← hc,kX],.nil,fun r hr=>hs0o r (by omega),⟨by omega,by simp [hc],by omega,by omega,by omega⟩,Toks.refl _ _⟩⟩ ?_
  rintro m e s ⟨vis,rest,v',rfl,rfl,hperm,hJ⟩
  obtain⟨cl1,cl2,cl3,cl4,cl5⟩:=hJ.cl
  have hvl:vis.length≤es3.length:=by have:=hperm.length_eq; simp at this; omega
  have hel:es3.length≤90:=by
   have e1:=hkeys.length_eq
   have e2:=hKp.length_eq
   have e3:(gX M K).length≤M.length:=List.length_filter_le _ _
   simp at e1 e2
   omega
  simp [-loadAt,c11_l11]
  have hnd2:((vis++rest).map (·.1)).Nodup:=(hperm.map (·.1)).nodup hbd
  rw [List.map_append,List.nodup_append] at hnd2
  obtain⟨d1,d2,d3⟩:=hnd2
  refine aCT hJ.it hJ.mp hM3.lt (fun x hx hns=>?_) (fun hall2=>?_)
  ·have hxr:x∈rest:=by
    rcases aW.1 (hperm.mem_iff.1 hx) with h | h
    ·exfalso
     have:(vis.map (·.1)).contains x.1=true:=by simpa using ⟨x.2.1,x.2.2,h⟩
     rw [this] at hns
     cases hns
    ·exact h
   obtain⟨ra,rb',hrest⟩:=List.append_of_mem hxr
   obtain⟨id,hidK,hkx⟩:=aT.1 (hkeys.mem_iff.1 (aT.2 ⟨x,hx,rfl⟩))
   obtain⟨n,hfn⟩:=Option.isSome_iff_exists.1 ((hS.k id).1 hidK).2
   have hn2:=h.ok n (jQ hfn).1
   have hid32:id.length=32:=by obtain⟨_,rfl⟩:=jQ hfn; exact hn2.id
   have hit2:(s.setObj (c+1) (.iter (some q) ck3 (vis.map (·.1)++[x.1]) ck3)).objs[c+1]?=some (.iter (some q) ck3 (vis.map (·.1)++[x.1]) ck3):=by simp [St.setObj,cl2]
   have hoth : ∀ r,r≠c+1→(s.setObj (c+1) (.iter (some q) ck3 (vis.map (·.1)++[x.1]) ck3)).objs[r]?=s.objs[r]?:=fun r hr=>by simp only [St.setObj]; rw [aF (by omega)]
   have htk2:(s.setObj (c+1) (.iter (some q) ck3 (vis.map (·.1)++[x.1]) ck3)).toks=s.toks:=rfl
   have hln2:(s.setObj (c+1) (.iter (some q) ck3 (vis.map (·.1)++[x.1]) ck3)).objs.length=s.objs.length:=by simp [St.setObj]
   have hent:eM (s.setObj (c+1) (.iter (some q) ck3 (vis.map (·.1)++[x.1]) ck3)) (.iter (c+1))=some (.tup [x.2.1,x.2.2]):=by
    simp only [eM,hit2,hoth q (by omega),hJ.mp,List.getLast?_append,List.getLast?_singleton]
    simp [aCD hbd hx]
   generalize s.setObj (c+1) (.iter (some q) ck3 (vis.map (·.1)++[x.1]) ck3)=s3 at *
   rw [← hkx] at hent
   have hnl:(cG id).length=32:=by rw [fG,hid32]
   have zl:(aD 32 (V.d (D.int .u8 0))).length=32:=bS
   simp [-eM,-splice,-bZ,-loadAt,-aA,c11_k10,c11_k9,c11_k8,hent,gK,hnl,zl]
   obtain⟨s4,hs4⟩ : ∃ t:St,(⟨s3.objs++[.cells (List.map V.d (cG id))],s3.toks⟩:St)=t:=⟨_,rfl⟩
   rw [hs4]
   have hl4:s4.objs.length=s.objs.length+1:=by rw [← hs4]; simp [hln2]
   have tk4:s4.toks=s.toks:=by rw [← hs4]; exact htk2
   have old4 : ∀ r,r<s.objs.length→r≠c+1→s4.objs[r]?=s.objs[r]?:=fun r hr hne=>by rw [← hs4]; simp only; rw [aC (by omega),hoth r hne]
   have it4:s4.objs[c+1]?=some (.iter (some q) ck3 (vis.map (·.1)++[x.1]) ck3):=by rw [← hs4]; simp only; rw [aC (by omega)]; exact hit2
   have o9:s4.objs[s.objs.length]?=some (.cells (List.map V.d (cG id))):=by rw [← hs4,← hln2]; simp
   rw [hln2]
   clear hs4 hent hoth hit2 htk2 hln2
   obtain⟨n4,hn4⟩ : ∃ k,s4.objs.length=k:=⟨_,rfl⟩
   obtain⟨σr,hσr⟩ : ∃ t:St,s4.room 1=t:=⟨_,rfl⟩
   have hr4 : ∀ r o,s4.objs[r]?=some o→σr.objs[r]?=some o:=fun r o ho=>by rw [← hσr]; exact lS ho
   have olr : ∀ r,r<n4→σr.objs[r]?=s4.objs[r]?:=fun r hr=>by rw [← hσr]; simp only [St.room]; rw [aC (by omega)]
   have ofr:σr.objs[n4]?=some .free:=by rw [← hσr,← hn4]; simp [St.room]
   have hlr:σr.objs.length=n4+1:=by rw [← hσr,← hn4]; simp [St.room]
   have tkr:σr.toks=s4.toks:=by rw [← hσr]; rfl
   have lb:loadAt σr false 1 (.ref b 0)=some (.ref g 0):=by
    have:σr.objs[b]?=some (.cells [.ref g 0]):=by rw [olr b (by omega),old4 b (by omega) (by omega),hJ.old b (by omega)]; exact o2'
    simp only [loadAt,this]; rfl
   have hGr:Gr σr g qn qs es ck es2 ck2 M put:=h2.more fun r hr=>by rw [olr r (by omega),old4 r (by omega) (by omega),hJ.old r (by omega)]
   have lg:loadAt σr false 1 (.ref g 0)=some (.map qn):=by have:=hGr.o; simp only [loadAt,this]; rfl
   have l9:loadAt σr true 32 (.ref s.objs.length 0)=some (.da (cG id)):=by
    have:=hr4 _ _ o9
    simp only [loadAt,this,if_true,aQ,hnl,bF]
    rw [aK (by simp [hnl])]
    exact congrArg some (iO _)
   have hnod:=hGr.nod hid32 hfn
   have hp3:dL true 3 2 (bZ n.cells)=some (.da [.int .i64 n.fee,.int .i64 (wtN n.ins n.outs n.f)]):=aCY (by simp [Nd.cells])
   have hset : ∀ o o',((σr.objs.set n4 o).set n4 o')=σr.objs.set n4 o':=fun o o'=>by simp
   have hget : ∀ o,(σr.objs.set n4 o)[n4]?=some o:=fun o=>by rw [aO (by omega)]
   simp [-loadAt,-bZ,-dL,-aA,c11_k7]
   refine gP (fun _=>.val) [] (by decide +kernel) ?_
   rw [hn4,hσr]
   simp [-loadAt,-bZ,-dL,-aA,lb,lg,l9,gQ,hnod,hp3,ofr,hget,hset]
   obtain⟨s5,hs5⟩ : ∃ t:St,(⟨σr.objs.set n4 (.cells [I n.fee,I (wtN n.ins n.outs n.f)]),σr.toks⟩:St)=t:=⟨_,rfl⟩
   rw [hs5]
   have o10:s5.objs[n4]?=some (.cells [I n.fee,I (wtN n.ins n.outs n.f)]):=by rw [← hs5]; exact hget _
   have old5 : ∀ r,r<n4→s5.objs[r]?=s4.objs[r]?:=fun r hr=>by rw [← hs5]; simp only; rw [aF (by omega),olr r hr]
   have hl5:s5.objs.length=n4+1:=by rw [← hs5]; simp [hlr]
   have tk5:s5.toks=s.toks:=by rw [← hs5]; exact tkr.trans tk4
   clear hs5 hset hget hnod hGr lb lg l9 hlr ofr olr hr4 hσr tkr
   have hwt:=aCf (f:=n.f) hn2.li hn2.lo hn2.si
   have hfK:yY M x.2.1=n.fee:=by rw [← hkx]; unfold yY; rw [vJ,hfn]
   have hwK:wtK M x.2.1=wtN n.ins n.outs n.f:=by rw [← hkx]; unfold wtK; rw [vJ,hfn]
   have hws:0≤kX (vis.map fun x=>wtK M x.2.1)∧kX (vis.map fun x=>wtK M x.2.1)≤800000*vis.length:=by
    have:=yD (l:=vis.map fun x=>wtK M x.2.1) (c:=800000) fun w hw=>by
     obtain⟨y,_,rfl⟩:=aT.1 hw
     unfold wtK
     cases hy:fnd M (aCN y.2.1) with
     | none=>simp
     | some n' =>
      have:=h.ok n' (jQ hy).1
      exact aCf this.li this.lo this.si
    simpa using this
   obtain⟨v2,s6,ap2,h6,o6,t6,-⟩:=App.push (σ:=s5) (sz:=1) (bytes:=8) (v:=v') (hJ.app.toks tk5) (by decide) (vI _) (ys:=[[.int .i64 n.fee]]) (by simp) (by rw [mI]; simp; omega) (by rw [mI]; simp; omega)
   have lf:loadAt s5 false 1 (.ref n4 0)=some (I n.fee):=by simp only [loadAt,o10]; rfl
   have lw:loadAt s6 false 1 (.ref n4 1)=some (I (wtN n.ins n.outs n.f)):=by simp only [loadAt,o6,o10]; rfl
   have oc:s6.objs[c]?=some (.cells [I 0,I (kX (vis.map fun x=>wtK M x.2.1))]):=by rw [o6,old5 c (by omega),old4 c (by omega) (by omega)]; exact hJ.o
   have lc:loadAt s6 false 1 (.ref c 1)=some (I (kX (vis.map fun x=>wtK M x.2.1))):=by simp only [loadAt,oc]; rfl
   have eww:aJ.wrap (kX (vis.map fun x=>wtK M x.2.1)+wtN n.ins n.outs n.f)=kX ((vis++[x]).map fun x=>wtK M x.2.1):=by
    rw [bY (by omega) (by omega),List.map_append,aAw]
    simp [kX,hwK]
   have efe:mM (vis.map fun x=>yY M x.2.1)++[[.int .i64 n.fee]]=mM ((vis++[x]).map fun x=>yY M x.2.1):=by simp [mM,hfK]
   rw [efe] at h6
   simp [-loadAt,c11_k6,lf,iL,gJ,oR]
   refine gN (v:=v2) (s:=s6) ?_ ?_
   ·simp [V.rows]
    exact ap2 none
   have hcl6:c<s6.objs.length:=by rw [o6]; omega
   simp [-loadAt,c11_k5,lc,lw,oc,eww]
   have hJ':JR s2 ⟨s6.objs.set c (.cells [I 0,I (kX ((vis++[x]).map fun x=>wtK M x.2.1))]),s6.toks⟩ q (c+1) c es3 ck3 (vis++[x]) v2 M :=
    ⟨by simp only; rw [aF (by omega),o6,old5 _ (by omega),it4]; simp,
     by simp only; rw [aF (by omega),o6,old5 _ (by omega),old4 _ (by omega) (by omega)]; exact hJ.mp,
     by simp only; rw [aO hcl6],
     h6.toks rfl,
     fun r hr=>by simp only; rw [aF (by omega),o6,old5 _ (by omega),old4 _ (by omega) (by omega)]; exact hJ.old r hr,
     ⟨by omega,by simp [o6]; omega,cl3,cl4,cl5⟩,
     (tk5▸hJ.tk:Toks s2.toks s5.toks none (Dn.own v')).trans t6⟩
   simp at hJ'
   refine⟨(ra++rb').length,by rw [hrest]; simp,vis++[x],ra++rb',v2,rfl,rfl,?_,by simpa using hJ'⟩
   rw [hrest] at hperm
   refine hperm.trans ?_
   rw [bV]
   exact List.Perm.append_left _ List.perm_middle
  ·have hre:rest=[]:=by
    cases rest with
    | nil=>rfl
    | cons y ys =>
     exfalso
     have hy:y∈es3:=hperm.mem_iff.2 (by simp)
     have:=hall2 y hy
     have hm2:y.1∈vis.map (·.1):=by simpa using this
     exact d3 _ hm2 y.1 (by simp) rfl
   subst hre
   rw [aG] at hperm
   simp [-loadAt,c11_k10,c11_k4]
   have key:(vis.map (·.2.1)).Perm ((gX M L).map fun n=>V.da (cG n.id)):=by
    have:=((hperm.map (·.2.1)).symm.trans hkeys).trans (hKp.map fun id=>V.da (cG id))
    rw [List.map_map,hKord] at this
    exact this
   have hof : ∀ n∈gX M L,fnd M (aCN (.da (cG n.id)))=some n:=fun n hn=>by
    rw [vJ]
    exact lR hnd (aY.1 hn).1
   have hF:kX (vis.map fun x=>yY M x.2.1)=oF (gX M L):=by
    have:=aBl (key.map (yY M))
    rw [List.map_map,List.map_map] at this
    refine this.trans (congrArg kX (List.map_congr_left fun n hn=>?_))
    simp only [Function.comp,yY,hof n hn]
   have hW:kX (vis.map fun x=>wtK M x.2.1)=sD (gX M L):=by
    have:=aBl (key.map (wtK M))
    rw [List.map_map,List.map_map] at this
    refine this.trans (congrArg kX (List.map_congr_left fun n hn=>?_))
    simp only [Function.comp,wtK,hof n hn]
   have hgood : ∀ n∈vis.map (fun x=>yY M x.2.1),0≤n∧n≤2100000000000000:=fun w hw=>by
    obtain⟨y,_,rfl⟩:=aT.1 hw
    unfold yY
    cases hy:fnd M (aCN y.2.1) with
    | none=>simp
    | some n'=>exact(h.ok n' (jQ hy).1).fee
   have htot:=aDn hgood (acc:=0) (by omega) (by omega)
   rw [Int.zero_add,hF] at htot
   obtain⟨d1,d2,⟨y,dx⟩,d4,d5⟩:=hJ.app.lv.dv s
   rw [dx] at d1 d2
   have hcl6:c<s.objs.length:=by omega
   have oc:=hJ.o
   rw [hW] at oc
   have ob:s.objs[b+1]?=some (.cells [I 0,I 0]):=(hJ.old _ (by omega)).trans o4'
   have kt : ∀ (t k:Nat),σ.toks[t]?=some k→s.toks[t]?=some k:=fun t k ht=>hJ.tk.other t k (by rw [hS.tk,tk1]; exact ht) (by simp)
   have hE:mV M L=if oF (gX M L)≤2100000000000000 then 0 else 9:=by
    unfold mV
    rw [if_neg (by rw [ha]; simp [hL0])]
   have hlv2:=hJ.app.lv.borrows
   refine gI (ds:=[.d y]) (by simp only [cN,d1]) (aET d2 (by simp; omega)) (by
    cases mE 0 (vis.map fun x=>yY M x.2.1) <;> simp [xV,V.pure,V.flatv,hlv2]) ?_
   rw [htot]
   have hne:b+1≠c:=by omega
   by_cases hle:oF (gX M L)≤2100000000000000
   ·rw [if_pos hle] at hE ⊢
    have lc2:loadAt ⟨s.objs.set c (.cells [I (oF (gX M L)),I (sD (gX M L))]),s.toks⟩ true 2 (.ref c 0)=some (.da [.int .i64 (oF (gX M L)),.int .i64 (sD (gX M L))]):=by
     simp only [loadAt,aO hcl6]
     rfl
    simp [-loadAt,xV,c11_k3,eqV,V.isNil,Opd.isC,c11_k2,c11_k1,oc,c11_k0,lc2,aF hne.symm,ob]
    simp [aO (show b+1<(s.objs.set c (Dn.Obj.cells [V.d (D.int aJ (oF (gX M L))),I (sD (gX M L))])).length by simp; omega),xE,hE,mS]
    exact kp (fun r hr=>by simp only; rw [aF (by omega),aF (by omega),hJ.old r (by omega)]) kt
   ·rw [if_neg hle] at hE ⊢
    simp [-loadAt,xV,c11_k3,eqV,V.isNil,Opd.isC,c11_k2,ob]
    simp [aO (show b+1<s.objs.length by omega),xE,hE,mS]
    exact kp (fun r hr=>by simp only; rw [aF (by omega),hJ.old r (by omega)]) kt

theorem CoV.nil? {σ:St}{vb:V}{outs:List CoG}(h:CoV σ vb outs):(vb = .d .nils∧outs=[])∨cB .eql .slice [] vb (.d .nils) false true=some (B false):=by
 rcases h with h | ⟨r,rfl,_,_⟩
 ·obtain⟨b,hb,hb2⟩:=h.isNil
  cases b with
  | true =>
   obtain⟨rfl,h0⟩:=hb2 rfl
   exact .inl ⟨rfl,by simpa [gH] using h0⟩
  | false=>exact .inr (aGW h hb)
 ·exact .inr rfl
theorem aGU {v:V}{rows:List (List D)}(h:LV v rows):lvD v=match Dn.dv v with | .d x=>x | _=>.nils:=by cases h <;> rfl
theorem aJh {v:V}{rows:List (List D)}(hv:LV v rows)(hb:V.isNil .slice v=some false):lvD v = .list rows:=by cases hv <;> first | rfl | cases hb
theorem CoV.nl {σ:St}{vb:V}{outs:List CoG}(h:CoV σ vb outs)(hb:cB .eql .slice [] vb (.d .nils) false true=some (B false)):coD vb outs = .list (gH outs):=by
 rcases h with h | ⟨r,rfl,_,_⟩
 ·rw [aGC h]
  obtain⟨b,h1,h2⟩:=h.isNil
  cases b with
  | false=>exact aJh h h1
  | true =>
   obtain⟨rfl,_⟩:=h2 rfl
   have:cB .eql .slice [] (.d .nils) (.d .nils) false true=some (B true):=rfl
   rw [this] at hb
   cases hb
 ·rfl
theorem aJ5 {σ:St}{va:V}{ins:List SpG}(h:LV va (fH ins))(hf : ∀ s∈ins,s.Ok)(hl:ins.length≤1000) :
  ∃ w0 s0,Dn.Call Γ cx .raw 75 [va] σ (fun w s=>w=w0∧s=s0)∧(LV w0 (fH ins)∧lvD w0=lvD va)∧s0.objs=σ.objs∧∀ (t k:Nat),σ.toks[t]?=some k→s0.toks[t]?=some k:=by
 have hrw:=fun s=>h.rows s
 obtain⟨b,hb,hb2⟩:=h.isNil
 cases b with
 | true =>
  obtain⟨rfl,h0⟩:=hb2 rfl
  rw [h0]
  refine⟨.d .nils,σ,Dn.Call.body (fc:=c75) rfl ?_,⟨.nil,rfl⟩,rfl,fun _ _ h=>h⟩
  simp [c75,c75_k2,c75_k1,eqV,V.isNil,Opd.isC]
 | false =>
  have hbn:=aGW h hb
  obtain⟨v1,σ1,hap,happ,ho,ht,hdv⟩:=(App.fl (σ:=σ) (sz:=35) []).push (bytes:=64) (by decide) (by simp) (ys:=fH ins) (oY hf) (by simp [fH]; omega) (by simp [fH]; omega)
  refine⟨v1,σ1,Dn.Call.body (fc:=c75) rfl ?_,⟨by simpa using happ.lv,?_⟩,ho,fun t k hk=>ht.other t k hk (by simp [Dn.own])⟩
  simp [-cB,hbn,-aA,c75,c75_k2,c75_k1,c75_k0,Opd.isC,iL,gJ]
  ·refine gN (v:=v1) (s:=σ1) ?_ ?_
   ·simp [hrw]
    exact hap none
   simp
  ·rw [aGU (by simpa using happ.lv),hdv (.inl (by simp)),aJh h hb]
   rfl
theorem aJ4 {σ:St}{vb:V}{outs:List CoG}(h:CoV σ vb outs)(hl:outs.length≤1000) :
  ∃ w0 s0,Dn.Call Γ cx .raw 76 [vb] σ (fun w s=>w=w0∧s=s0)∧(LV w0 (gH outs)∧lvD w0=coD vb outs)∧s0.objs=σ.objs∧∀ (t k:Nat),σ.toks[t]?=some k→s0.toks[t]?=some k:=by
 have hrw:=h.rows.1
 rcases h.nil? with⟨rfl,h0⟩ | hbn
 ·rw [h0]
  refine⟨.d .nils,σ,Dn.Call.body (fc:=c76) rfl ?_,⟨.nil,rfl⟩,rfl,fun _ _ h=>h⟩
  simp [c76,c76_k2,c76_k1,eqV,V.isNil,Opd.isC]
 ·obtain⟨v1,σ1,hap,happ,ho,ht,hdv⟩:=(App.fl (σ:=σ) (sz:=2) []).push (bytes:=16) (by decide) (by simp) (ys:=gH outs) (tG outs) (by simp [gH]; omega) (by simp [gH]; omega)
  refine⟨v1,σ1,Dn.Call.body (fc:=c76) rfl ?_,⟨by simpa using happ.lv,?_⟩,ho,fun t k hk=>ht.other t k hk (by simp [Dn.own])⟩
  simp [-cB,hbn,-aA,c76,c76_k2,c76_k1,c76_k0,Opd.isC,iL,gJ]
  ·refine gN (v:=v1) (s:=σ1) ?_ ?_
   ·simp [hrw]
    exact hap none
   simp
  ·rw [aGU (by simpa using happ.lv),hdv (.inl (by simp)),h.nl hbn]
   rfl

theorem aBr {σ s:St}(h : ∀ r,r<σ.objs.length→s.objs[r]?=σ.objs[r]?):σ.objs.length≤s.objs.length:=by
 by_cases hl:σ.objs.length≤s.objs.length
 ·exact hl
 ·have h1:=h s.objs.length (by omega)
  rw [aR (bB _)] at h1
  have:=List.getElem?_eq_none_iff.1 h1.symm
  omega
theorem aJk {f:Nat}{fc:FnC}(hf:Γ f=some fc)(h1:fc.res.length=1){vs:List V} {σ s0:St}{w0:V}{rows:List (List D)}(h:Dn.Call Γ cx .raw f vs σ fun w s=>w=w0∧s=s0)(hw:LV w0 rows)(ho:s0.objs=σ.objs)(ht : ∀ (t k:Nat),σ.toks[t]?=some k→s0.toks[t]?=some k):Dn.Call Γ cx .rd f vs σ fun v _=>v = .d (lvD w0) :=
 Call.as_rd hf h1 h fun v s ⟨a,b⟩=>by
  subst a b
  refine⟨⟨fun i hi=>by rw [ho],ht⟩,.d (lvD v),?_,rfl⟩
  rw [hw.byValN]
  cases hw <;> rfl
theorem aFO {σ:St}{va:V}{ins:List SpG}(h:LV va (fH ins))(hf : ∀ s∈ins,s.Ok)(hl:ins.length≤1000):Dn.Call Γ cx .rd 75 [va] σ fun v _=>v = .d (lvD va):=by
 obtain⟨w0,s0,a,⟨b,e⟩,c,d⟩:=aJ5 (σ:=σ) h hf hl
 rw [← e]
 exact aJk rfl rfl a b c d
theorem aFN {σ:St}{vb:V}{outs:List CoG}(h:CoV σ vb outs)(hl:outs.length≤1000):Dn.Call Γ cx .rd 76 [vb] σ fun v _=>v = .d (coD vb outs):=by
 obtain⟨w0,s0,a,⟨b,e⟩,c,d⟩:=aJ4 (σ:=σ) h hl
 rw [← e]
 exact aJk rfl rfl a b c d

theorem aFX {σ:St}{va vb:V}{ins:List SpG}{outs:List CoG}(f:Bool)(hT:TxV σ va vb ins outs) :
  Dn.Call Γ cx .rd 53 [bZ [va,vb,.d (.bool f)]] σ fun v _=>v = .da [lvD va,coD vb outs,.bool f]:=by
 refine Dn.Call.body (fc:=c53) rfl ?_
 have hcm:(bZ [va,vb,V.d (.bool f)]).cells=some [va,vb,.d (.bool f)]:=oO
 simp [-bZ,-loadAt,c53,hcm]
 obtain⟨σ1,hσ1⟩ : ∃ s:St,(⟨σ.objs++[.cells [va,vb,.d (.bool f)],.cells [.d .nils,.d .nils,.d (.bool false)]],σ.toks⟩:St)=s:=⟨_,rfl⟩
 rw [hσ1]
 have old : ∀ r,r<σ.objs.length→σ1.objs[r]?=σ.objs[r]?:=fun r hr=>by rw [← hσ1]; simp only; rw [aC hr]
 have hl1:σ1.objs.length=σ.objs.length+2:=by rw [← hσ1]; simp
 have o1:σ1.objs[σ.objs.length]?=some (.cells [va,vb,.d (.bool f)]):=by rw [← hσ1]; simp
 have o2:σ1.objs[σ.objs.length+1]?=some (.cells [.d .nils,.d .nils,.d (.bool false)]):=by rw [← hσ1]; simp
 have tk1:σ1.toks=σ.toks:=by rw [← hσ1]
 have hT1:=hT.more (s:=σ1) (by omega) old
 have hli:=hT.li
 have hlo:=hT.lo
 have la:loadAt σ1 false 1 (.ref σ.objs.length 0)=some va:=by simp only [loadAt,o1]; rfl
 have lb:loadAt σ1 false 1 (.ref σ.objs.length 1)=some vb:=by simp only [loadAt,o1]; rfl
 have kp : ∀ o o',lI σ ⟨(σ1.objs.set σ.objs.length o).set (σ.objs.length+1) o',σ1.toks⟩:=fun o o' =>
  ⟨fun r hr=>by simp only; rw [aF (by omega),aF (by omega),old r hr],fun t k ht=>by simp only; rw [tk1]; exact ht⟩
 simp [-bZ,-loadAt,c53_k1]
 refine gP (fun _=>.rd) [] (by decide +kernel) ?_
 simp [-bZ,-loadAt,dB,la]
 refine oH rfl (fun s ha=>aFO hT1.a hT.si (by omega)) ?_
 simp [-bZ,-loadAt,dB,lb]
 refine oH rfl (fun s ha=>aFN (hT1.more (s:=s) (aBr ha.1) ha.1).b (by omega)) ?_
 have s1 : ∀ o,(σ1.objs.set σ.objs.length o)[σ.objs.length]?=some o:=fun o=>by rw [aO (by omega)]
 have s2 : ∀ o,(σ1.objs.set σ.objs.length o)[σ.objs.length+1]?=some (.cells [.d .nils,.d .nils,.d (.bool false)]):=fun o=>by rw [aF (by omega)]; exact o2
 have s3 : ∀ o o',((σ1.objs.set σ.objs.length o).set (σ.objs.length+1) o')[σ.objs.length+1]?=some o':=fun o o'=>by rw [aO (by simp; omega)]
 simp [dB,o1,s1,c53_k0,s2,s3]
 exact kp _ _
end Go.Proofs.YtdfhfhcilfjdgaaGreatDoor.T

namespace Go.Dn
variable {K:iI} {cx:Cx}
theorem xK {n0:Nat}{kl:List Nat}{dst:Option Nat}{ka:Bool}{ks:List Lf}{m k x:Opd}{af:List Nat}{al:Nat}{r:List DOp}{e:Env} {σ s:St}{Q:Env→St→Prop}{v:V}(h:mA σ ka ks (m.ev e) (k.ev e) (x.ev e)=some (v,s))(hk:Kept kl e σ s)(hq:wtx K cx n0 kl r (eK e dst v) s Q):wtx K cx n0 kl (⟨none,.e dst (.mapUpdate ka ks m k x),af,al⟩::r) e σ Q:=by
 simp only [wtx,Adm,Dry,DOp.isP,aP,false_implies,true_and,Adm0,DOp.isN,AdmX,xGo,iB,or_false,Ins.dst]
 rw [dM,h]
 exact⟨fun _=>hk,hq⟩
theorem xJ {n0:Nat}{kl:List Nat}{dst:Option Nat}{ka:Bool}{ks:List Lf}{m k:Opd}{af:List Nat}{al:Nat}{r:List DOp}{e:Env} {σ s:St}{Q:Env→St→Prop}{v:V}(h:pE σ ka ks (m.ev e) (k.ev e)=some (v,s))(hk:Kept kl e σ s)(hq:wtx K cx n0 kl r (eK e dst v) s Q):wtx K cx n0 kl (⟨none,.e dst (.mapDelete ka ks m k),af,al⟩::r) e σ Q:=by
 simp only [wtx,Adm,Dry,DOp.isP,aP,false_implies,true_and,Adm0,DOp.isN,AdmX,xGo,iB,or_false,Ins.dst]
 rw [dM,h]
 exact⟨fun _=>hk,hq⟩
theorem Kept.nil {e:Env} {σ s:St}:Kept [] e σ s:=fun t ht=>by cases ht
end Go.Dn
namespace Go.Proofs.YtdfhfhcilfjdgaaGreatDoor.T
open Go.Dn

theorem aBm {l:List SpG} : ∀ {i:Nat},i≤l.length→twN l i=false→((l.take i).map fS).Nodup
 | 0,_,_=>by simp
 | i+1,hi,h=>by
  simp only [twN,Bool.or_eq_false_iff] at h
  have ih:=aBm (l:=l) (i:=i) (by omega) h.1
  have hl:l[i]?=some l[i]:=by simp
  rw [hl] at h
  rw [← aZ (show i<l.length by omega),List.map_append,List.nodup_append]
  refine⟨ih,by simp,fun a ha b hb=>?_⟩
  simp at hb
  subst hb
  obtain⟨o,ho,rfl⟩:=aT.1 ha
  have:=List.any_eq_false.1 h.2 o ho
  simpa using this
def kJ (M:List Nd)(ins:List SpG)(outs:List CoG)(f:Bool)(fee:Int):Int :=
 if lU ins outs≠0 then lU ins outs else if jM fee=false then 9 else if (fnd M (idB ins outs f)).isSome=true then 6 else if kE M ins (idB ins outs f)≠[] then 8 else 0
def aAE (va vb:V)(ins:List SpG)(outs:List CoG)(f:Bool)(fee:Int)(put:Nat):Nd:=⟨idB ins outs f,.d (lvD va),.d (coD vb outs),f,ins,outs,fee,put⟩
theorem tW {M:List Nd}(hn:(M.map (·.id)).Nodup){ins:List SpG}{me:List UInt8}:gX M (kE M ins me)=[]↔kE M ins me=[]:=by
 constructor
 ·intro h
  cases hc:kE M ins me with
  | nil=>rfl
  | cons x r =>
   exfalso
   have hx:x∈kE M ins me:=by rw [hc]; simp
   have:=aEy hn (aY.1 hx).1
   obtain⟨n,hf⟩:=Option.isSome_iff_exists.1 this
   obtain⟨h1,rfl⟩:=jQ hf
   have:n∈gX M (kE M ins me):=aY.2 ⟨h1,decide_eq_true hx⟩
   rw [h] at this
   cases this
 ·intro h
  rw [h]
  exact List.filter_eq_nil_iff.2 fun n _=>by simp
theorem aKe {M:List Nd}{ins:List SpG}{me:List UInt8}(hme:(fnd M me).isSome=false)(hc:kE M ins me=[]) : ∀ s∈ins,spn M (fS s)=none:=fun s hs=>by
 cases h:spn M (fS s) with
 | none=>rfl
 | some n =>
  exfalso
  have hm:n.id∈aBy M ins:=List.mem_filterMap.2 ⟨s,hs,by rw [h]; rfl⟩
  by_cases e:n.id=me
  ·have hf:(fnd M me).isSome=true:=by
    unfold fnd
    rw [List.find?_isSome]
    exact⟨n,List.mem_of_find?_eq_some h,by simp [e]⟩
   rw [hme] at hf
   cases hf
  ·have:n.id∈kE M ins me:=aY.2 ⟨hm,decide_eq_true e⟩
   rw [hc] at this
   cases this
end Go.Proofs.YtdfhfhcilfjdgaaGreatDoor.T
