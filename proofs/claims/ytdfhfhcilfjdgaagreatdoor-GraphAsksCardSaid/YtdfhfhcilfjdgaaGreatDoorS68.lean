import Derived.Test.YtdfhfhcilfjdgaaGreatDoorS58
set_option linter.unusedVariables false
set_option linter.unusedSimpArgs false
open List renaming reduceReplicate → aA,getElem?_eq_some_iff → aB,getElem?_append_left → aC,replicate → aD,cons_append → aE,getElem?_set_ne → aF,append_nil → aG,nil_append → aH,map_cons → aI,take_of_length_le → aK,mem_of_getElem? → aL,map_nil → aM,getElem?_set_self → aO,length_map → aQ,getElem?_eq_none → aR,mem_map → aT,mem_append → aW,length_append → aX,mem_filter → aY,take_append_getElem → aZ,getD_eq_getElem?_getD → bA,take_length → bC,drop_zero → bF,getElem?_map → bG,getElem?_append_right → bH,mem_singleton → bI,getElem?_eq_getElem → bO,eq_nil_of_length_eq_zero → bP,getElem?_of_mem → bQ,length_replicate → bS,drop_of_length_le → bT,mem_cons → bU,append_assoc → bV,mem_append_right → bX
open Go.IntKind renaming i64 → aJ,u64 → bL
open Option renaming some → aN
open Bool renaming false_eq_true → aP,and_eq_true → aS
open Go.Builtin renaming zeroCells → aU,append_ → bD,firstCells → bM
open Go.Result renaming andThen_ok → aV
open Nat renaming le_refl → bB,mul_le_mul_right → bE,add_mul → bJ,lt_or_ge → bR
open Array renaming getElem?_eq_some_iff → bW
namespace Go.Proofs.YtdfhfhcilfjdgaaGreatDoor.T
open Go.Dn
attribute [local simp] dO dF GB aM aI aG dA eW cE dZ cS cK dY dX eM eP eS cM cW cX eN fD gD fQ fB dK fC gE cJ cY cZ dN eB eC gA eR eE eF eD cL cU cV fZ i_p dU fY eA eV dW eU dV eX gC t_p eY eH gB eJ cT eZ eI eG gM aE aH dC dM fP fO fR gR Opd.ev Env.get Env.set Env.pick eK dE cB eO eQ cF dD dG gO eL Res.ev fL cN dI gS fN fW fX gW fT fU fV cx Dn.newObj St.place St.push St.spot St.empty eT dP cO cR dS dQ dT cQ dR cP loadAt cH dL cI bZ ofD splice St.setObj fE

structure ST (σ s:St):Prop where
 old : ∀ r,r<σ.objs.length→s.objs[r]?=σ.objs[r]?
 len:σ.objs.length≤s.objs.length
 tk : ∀ (t k:Nat),σ.toks[t]?=some k→s.toks[t]?=some k
theorem ST.refl (σ:St):ST σ σ:=⟨fun _ _=>rfl,bB _,fun _ _ h=>h⟩
theorem ST.trans {a b c:St}(h:ST a b)(h':ST b c):ST a c:=⟨fun r hr=>(h'.old r (by have:=h.len; omega)).trans (h.old r hr),Nat.le_trans h.len h'.len,fun t k hk=>h'.tk t k (h.tk t k hk)⟩
theorem ST.push (s:St)(o:Dn.Obj):ST s ⟨s.objs++[o],s.toks⟩:=⟨fun r hr=>by simp only; rw [aC hr],by simp,fun _ _ h=>h⟩

def mdS:Nat→Dn.Mode:=fun f=>if f=17∨f=19∨f=24∨f=26∨f=28 then .rd else .val
theorem nb2 {v w:V}(h1:v.borrows=false)(h2:w.borrows=false):([v,w]:List V).any V.borrows=false:=by simp only [List.any_cons,List.any_nil,h1,h2,Bool.or_false]
theorem aHa {M:List Nd}(h : ∀ n∈M,n.Ok)(nx:List UInt8→List (List UInt8))(L:List (List UInt8)):H32 (aAd M nx L)∧(aAd M nx L).length≤M.length:=⟨vH h _,pU _ _⟩

def z32:List UInt8:=aD 32 0
def alS1:SpG:=⟨z32,0,[],0⟩
def alC:CoG:=⟨0,0⟩
def idA:List UInt8:=[83,55,37,104,200,254,75,101,138,90,128,131,150,3,34,147,177,70,93,100,2,66,205,248,54,129,5,139,164,110,21,177]
theorem aBF:idB [alS1] [alC] false=idA:=by decide +kernel
def alS2:SpG:=⟨idA,0,[],0⟩
def idBB:List UInt8:=[187,232,183,121,174,71,70,90,76,22,131,254,14,70,61,214,27,111,28,49,9,184,169,187,158,52,71,191,160,225,237,197]
theorem aBG:idB [alS2] [alC] false=idBB:=by decide +kernel
def vaA:V:=.fl [alS1.row]
def vbA:V:=.fl [alC.row]
def vaB:V:=.fl [alS2.row]
def nA:Nd:=⟨idA,.d (lvD vaA),.d (coD vbA [alC]),false,[alS1],[alC],1,0⟩
def nB:Nd:=⟨idBB,.d (lvD vaB),.d (coD vbA [alC]),false,[alS2],[alC],2,1⟩
theorem aLb:aAE vaA vbA [alS1] [alC] false 1 0=nA:=by unfold aAE; rw [aBF]; rfl
theorem aLc:aAE vaB vbA [alS2] [alC] false 2 1=nB:=by unfold aAE; rw [aBG]; rfl
theorem aGs:idA.length=32:=rfl
theorem aDv:idBB.length=32:=rfl
theorem aEq:kJ [] [alS1] [alC] false 1=0:=by
 unfold kJ
 rw [aBF]
 decide +kernel
theorem aEr:kJ [nA] [alS2] [alC] false 2=0:=by
 unfold kJ
 rw [aBG]
 decide +kernel
theorem aH7:(mT [nA,nB] idBB).length=1:=by decide +kernel
theorem aJT:(gX [nA,nB] [idA]).length=1:=by decide +kernel
theorem aJU:rmL [nA,nB] [idA]=[nB]:=by
 have h1:nA.id∈[idA]:=by decide
 have h2:nB.id∉[idA]:=by decide
 simp [rmL,List.filter,h1,h2]
theorem aJS:(fnd [nB] idBB).isSome=true:=by decide +kernel
theorem aH8:(mT [nB] idBB).length=0:=by decide +kernel
theorem aH5:alS1.Ok:=⟨rfl,by decide,by decide,by decide,by decide,by decide⟩
theorem aH6:alS2.Ok:=⟨aGs,by decide,by decide,by decide,by decide,by decide⟩
theorem aJR:alC.Ok:=by simp only [CoG.Ok,alC]; omega
theorem TxV.mk1 {σ:St}{s:SpG}(h:s.Ok):TxV σ (.fl [s.row]) (.fl [alC.row]) [s] [alC]:=⟨.fl _,.inl (.fl _),by simp,by simp,by simpa using h,by simpa using aJR⟩

theorem aIQ {i o:D}{f:Bool}{ins:List SpG}{outs:List CoG}(h:TxD i o f ins outs){n:Nat} :
  Dn.Call Γ cx .val 39 [.da [i,o,.bool f],I n] St.empty fun v _=>v = .da (ptD (idB ins outs f,(n:Int))):=by
 refine Dn.Call.body (fc:=c39) rfl ?_
 have h1:(idB ins outs f).length=32:=Sha.sha_len _
 have hbu : ∀ (σ:St) (e:Env) (x y:Opd) (zs:List D),zs.length=33→x.ev e = .da (cG (idB ins outs f))→y.ev e=I n→dC (.build zs [(0,32,x),(32,1,y)]) e σ=some (.da (ptD (idB ins outs f,(n:Int)))):=fun σ e x y zs hz hx hy=>aCz hz (by rw [fG,h1]) hx hy
 have hid:=aHo h
 have hpl:(ptD (idB ins outs f,(n:Int))).length=33:=by simp [ptD,fG,h1]
 generalize idB ins outs f=me at *
 have l1 : ∀ t:St,t.objs[1]?=some (.cells ((ptD (me,(n:Int))).map .d))→loadAt t true 33 (.ref 1 0)=some (.da (ptD (me,(n:Int)))):=fun t ht=>by
  simp only [loadAt,ht,if_true,aQ,hpl,bF]
  rw [aK (by simp [hpl])]
  exact congrArg some (iO _)
 simp [-aA,c39,c39_k0,bZ]
 refine gI rfl hid (jF rfl (nI _)) ?_
 generalize ptD (me,(n:Int))=P at *
 simp [-loadAt,-aA,-splice,gK,↓hbu,hpl,l1]

theorem aBB {σ:St}{e:Env}{zs:List D}{x:Opd}{a:List D}{n:Nat}(hz:n≤zs.length)(ha:a.length=n)(hx:x.ev e = .da a):dC (.build zs [(0,n,x)]) e σ=some (.da (a++zs.drop n)):=by
 have h1:fE (zs.map .d) [(0,n,.da a)]=some ((a++zs.drop n).map .d):=by
  simp only [fE,V.cells,aQ,ha,Nat.zero_add,hz,and_self,if_true]
  unfold splice
  simp [ha]
 simp only [dC,aI,aM,hx]
 rw [h1]
 exact congrArg some (iO _)
theorem aLA : ∀ σ,V.byVal σ (bZ [vaA,vbA,.d (.bool false)])=some (.da [lvD vaA,coD vbA [alC],.bool false]):=fun σ=>rfl
set_option maxHeartbeats 2000000 in
theorem aIT:Dn.Call Γ cx .val 6 [] St.empty fun v _=>v=B true:=by
 refine Dn.Call.body (fc:=c6) rfl ?_
 have hb1 : ∀ (σ:St) (e:Env),dC (.build [.int .u8 0,.int .u8 0,.int .u8 0,.int .u8 0,.int .u8 0,.int .u8 0,.int .u8 0,.int .u8 0,.int .u8 0,.int .u8 0,.int .u8 0,.int .u8 0,.int .u8 0,.int .u8 0,.int .u8 0,.int .u8 0,.int .u8 0,.int .u8 0,.int .u8 0,.int .u8 0,.int .u8 0,.int .u8 0,.int .u8 0,.int .u8 0,.int .u8 0,.int .u8 0,.int .u8 0,.int .u8 0,.int .u8 0,.int .u8 0,.int .u8 0,.int .u8 0,.int .i64 0,.str [],.int .u64 0] []) e σ=some (.da alS1.row):=fun σ e=>rfl
 have hb2 : ∀ (σ:St) (e:Env),dC (.build [.int .i64 0,.int .u64 0] []) e σ=some (.da alC.row):=fun σ e=>rfl
 have hb3 : ∀ (σ:St) (e:Env) (x:Opd) (zs:List D),zs.length=35→zs.drop 33=[.str [],.int .u64 0]→x.ev e = .da (ptD (idA,0))→dC (.build zs [(0,33,x)]) e σ=some (.da alS2.row):=fun σ e x zs h1 h2 h3=>by
  rw [aBB (n:=33) (by omega) rfl h3,h2]; rfl
 have hs1 : ∀ (σ:St) (e:Env) (y:Opd) (zs:List D),zs.length=35→y.ev e = .da alS1.row→dC (.bslice 60 1 35 zs [(0,y)]) e σ=some vaA:=fun σ e y zs hz hy=>lK hy hz rfl
 have hs2 : ∀ (σ:St) (e:Env) (y:Opd) (zs:List D),zs.length=35→y.ev e = .da alS2.row→dC (.bslice 60 1 35 zs [(0,y)]) e σ=some vaB:=fun σ e y zs hz hy=>lK hy hz rfl
 have hs3 : ∀ (σ:St) (e:Env) (y:Opd) (zs:List D),zs.length=2→y.ev e = .da alC.row→dC (.bslice 72 1 2 zs [(0,y)]) e σ=some vbA:=fun σ e y zs hz hy=>lK hy hz rfl
 have hs4 : ∀ (σ:St) (e:Env) (y:Opd),y.ev e = .da (cG idA)→dC (.bslice 45 1 32 (aD 32 (.int .u8 0)) [(0,y)]) e σ=some (.fl [cG idA]):=fun σ e y hy=>lK hy (by simp) rfl
 have hT1 : ∀ (σ:St) (e:Env) (x y:Opd),x.ev e=vaA→y.ev e=vbA→dC (.build [.nils,.nils,.bool false] [(0,1,x),(1,1,y)]) e σ=some (bZ [vaA,vbA,.d (.bool false)]):=fun σ e x y hx hy=>by
  simp only [dC,aI,aM,hx,hy]
  rfl
 have hT2 : ∀ (σ:St) (e:Env) (x y:Opd),x.ev e=vaB→y.ev e=vbA→dC (.build [.nils,.nils,.bool false] [(0,1,x),(1,1,y)]) e σ=some (bZ [vaB,vbA,.d (.bool false)]):=fun σ e x y hx hy=>by
  simp only [dC,aI,aM,hx,hy]
  rfl
 have k1:vaA.cells=some [vaA]:=rfl
 have k2:vbA.cells=some [vbA]:=rfl
 have k3:vaB.cells=some [vaB]:=rfl
 have hcA:(bZ [vaA,vbA,V.d (.bool false)]).cells=some [vaA,vbA,.d (.bool false)]:=oO
 have hcB:(bZ [vaB,vbA,V.d (.bool false)]).cells=some [vaB,vbA,.d (.bool false)]:=oO
 have hTA : ∀ σ,TxV σ vaA vbA [alS1] [alC]:=fun σ=>TxV.mk1 aH5
 have hTB : ∀ σ,TxV σ vaB vbA [alS2] [alC]:=fun σ=>TxV.mk1 aH6
 have hpt:=aIQ ((hTA St.empty).tx false) (n:=0)
 rw [aBF] at hpt
 have hidA:=aHo ((hTA St.empty).tx false)
 rw [aBF] at hidA
 have hidB:=aHo ((hTB St.empty).tx false)
 rw [aBG] at hidB
 simp [-aA,c6,c6_k5]
 refine fF aHw fun w s ⟨hw,hG,_,hl,htk⟩=>?_
 have hw':w = .ref 2 0:=hw
 subst hw'
 replace hG:Gr s 2 0 1 [] 0 [] 0 [] 0:=hG
 replace hl:s.objs.length=3:=hl
 clear hw
 simp [-aA,-bZ,-splice,↓hb1,↓hb2,↓hs1,↓hs3,↓hT1,hcA,gK,c6_k4]
 obtain⟨s4,hs4'⟩ : ∃ t:St,(⟨s.objs++[.cells [vaA,vbA,.d (.bool false)]],s.toks⟩:St)=t:=⟨_,rfl⟩
 have old4 : ∀ r,r<s.objs.length→s4.objs[r]?=s.objs[r]?:=fun r hr=>by rw [← hs4']; simp only; rw [aC hr]
 have o4:s4.objs[3]?=some (.cells [vaA,vbA,.d (.bool false)]):=by rw [← hs4',← hl]; simp
 have hl4:s4.objs.length=4:=by rw [← hs4']; simp [hl]
 rw [hs4',hl]
 clear hs4'
 have ldA : ∀ t:St,t.objs[3]?=s4.objs[3]?→loadAt t true 3 (.ref 3 0)=some (bZ [vaA,vbA,.d (.bool false)]):=fun t ht=>by
  simp only [loadAt,ht,o4]; rfl
 have l4:=ldA s4 rfl
 have hbp:cN s4 [bZ [vaA,vbA,.d (.bool false)],I 0]=some [.da [lvD vaA,coD vbA [alC],.bool false],I 0]:=by simp only [cN,aLA,gS]
 have hb0:(bZ [vaA,vbA,V.d (.bool false)]).borrows=false:=rfl
 simp [-loadAt,-aA,-bZ,-splice,l4,c6_k3]
 refine gI hbp hpt (oS rfl (nb2 hb0 rfl)) ?_
 simp [-loadAt,-aA,-bZ,-splice,↓hb2,↓hb3,↓hs2,↓hs3,↓hT2,hcB,gK]
 obtain⟨s5,hs5⟩ : ∃ t:St,(⟨s4.objs++[.cells [vaB,vbA,.d (.bool false)]],s4.toks⟩:St)=t:=⟨_,rfl⟩
 have old5 : ∀ r,r<s4.objs.length→s5.objs[r]?=s4.objs[r]?:=fun r hr=>by rw [← hs5]; simp only; rw [aC hr]
 have o5:s5.objs[4]?=some (.cells [vaB,vbA,.d (.bool false)]):=by rw [← hs5,← hl4]; simp
 have hl5:s5.objs.length=5:=by rw [← hs5]; simp [hl4]
 rw [hs5,hl4]
 clear hs5
 have ldB : ∀ t:St,t.objs[4]?=s5.objs[4]?→loadAt t true 3 (.ref 4 0)=some (bZ [vaB,vbA,.d (.bool false)]):=fun t ht=>by
  simp only [loadAt,ht,o5]; rfl
 have hG5:Gr s5 2 0 1 [] 0 [] 0 [] 0:=hG.more fun r hr=>by rw [old5 r (by omega),old4 r hr]
 have lA5:=ldA s5 (old5 3 (by omega))
 have hz:mS 0 = .d .nili:=rfl
 have hnz : ∀ b,cB .neq .iface [] (V.d .nili) (.d .nili) b true=some (B false):=fun b=>by cases b <;> rfl
 simp [-loadAt,-cB,Opd.isC,-aA,-bZ,-splice,lA5,c6_k2]
 refine fF (aHs hG5 (by decide) (hTA s5) (f:=false) (fee:=1) (by simp) (by simp)) fun u s6 ⟨hu,hAf⟩=>?_
 rw [aEq,hz] at hu
 subst hu
 rw [aEq,if_pos rfl,if_pos rfl,aLb,aH] at hAf
 obtain⟨⟨es6,ck6,es6',ck6',hG6⟩,old6,hl6,_⟩:=hAf
 have lB6:=ldB s6 (old6 4 (by omega) (by omega) (by omega) (by omega))
 simp [-loadAt,-cB,Opd.isC,hnz,-aA,-bZ,-splice,lB6]
 refine fF (aHs hG6 (by decide) (hTB s6) (f:=false) (fee:=2) (by simp) (by simp)) fun u s7 ⟨hu,hAf⟩=>?_
 rw [aEr,hz] at hu
 subst hu
 rw [aEr,if_pos rfl,if_pos rfl,show(0+1:Nat)=1 from rfl,aLc] at hAf
 obtain⟨⟨es7,ck7,es7',ck7',hG7⟩,old7,hl7,_⟩:=hAf
 replace hG7:Gr s7 2 0 1 es7 ck7 es7' ck7' [nA,nB] 2:=hG7
 have lB7:=ldB s7 ((old7 4 (by omega) (by omega) (by omega) (by omega)).trans (old6 4 (by omega) (by omega) (by omega) (by omega)))
 have lA7:=ldA s7 (((old7 3 (by omega) (by omega) (by omega) (by omega)).trans (old6 3 (by omega) (by omega) (by omega) (by omega))).trans (old5 3 (by omega)))
 simp [-loadAt,-cB,Opd.isC,hnz,-aA,-bZ,-splice,lB7]
 refine gI ((hTB s7).bv false) hidB (jF rfl (nI _)) ?_
 simp [-loadAt,-cB,Opd.isC,hnz,-aA,-bZ,-splice]
 refine jW (qX hG7 aDv) ?_
 have hlp2 : ∀ s,gZ s .slice (.d (hlD (mT [nA,nB] idBB)))=some 1:=fun s=>by rw [(kG _).len,iN,aH7]
 have hn1 : ∀ b,cB .neq .int [] (I 1) (I 1) b true=some (B false):=fun b=>by cases b <;> rfl
 simp [-loadAt,-cB,Opd.isC,-aA,-bZ,-splice,hlp2,hn1,c6_k1,lA7,c6_k0]
 have h32:H32 [idA]:=fun x hx=>by obtain rfl:=bI.1 hx; exact aGs
 have hlv:LV (.fl [cG idA]) (hH [idA]):=.fl _
 refine gI ((hTA s7).bv false) hidA (jF rfl (nI _)) ?_
 simp [-loadAt,-aA,-bZ,-splice,↓hs4]
 refine fF (aDb hG7 (by decide) (Hl.lv hlv h32) h32 (by simp)) fun w s8 ⟨hw,hAf⟩=>?_
 rw [aJU] at hAf
 obtain⟨⟨es8,ck8,es8',ck8',hG8⟩,old8,hl8,_⟩:=hAf
 have hlw : ∀ s,gZ s .slice w=some 1:=fun s=>by rw [hw.len]; simp only [nZ,aQ,aJT]
 have lB8:=ldB s8 (((old8 4 (by omega) (by omega) (by omega) (by omega)).trans (old7 4 (by omega) (by omega) (by omega) (by omega))).trans (old6 4 (by omega) (by omega) (by omega) (by omega)))
 simp [-loadAt,-aA,-bZ,-splice,hlw,lB8]
 refine gI ((hTB s8).bv false) hidB (jF rfl (nI _)) ?_
 simp [-loadAt,-aA,-bZ,-splice]
 refine jW (uR hG8 aDv) ?_
 rw [aJS]
 simp [-loadAt,-aA,-bZ,-splice,lB8]
 refine gI ((hTB s8).bv false) hidB (jF rfl (nI _)) ?_
 simp [-loadAt,-aA,-bZ,-splice]
 refine jW (qX hG8 aDv) ?_
 have hlp3 : ∀ s,gZ s .slice (.d (hlD (mT [nB] idBB)))=some 0:=fun s=>by rw [(kG _).len,iN,aH8]
 simp [-loadAt,-aA,-bZ,-splice,hlp3]
 refine jW (aKp hG8) ?_
 simp [-loadAt,-aA,-bZ,-splice]

theorem aKd {v:V}(h:V.isNil .slice v=some false)(b c:Bool):cB .eql .slice [] v (.d .nils) b c=some (B false):=by
 have e:eqV .slice [] v (.d .nils) b c=some false:=by
  simp only [eqV,h]
  rfl
 cases v with
 | d d=>cases d <;> first | (simp only [cB,e]; rfl) | cases h
 | _=>simp only [cB,e]; rfl

abbrev rI (y:D)(g:Nat)(v:V)(p9 p11:Nat)(e1:V)(e2:Int)(r:Env):Env:=(1,.d y)::(5,.ref 0 0)::(7,.ref g 0)::(8,v)::(9,.ref p9 0)::(10,e1)::(11,.ref p11 0)::(12,I e2)::r
set_option maxHeartbeats 1000000 in
theorem aGw {σ:St}{g qn qs ck ck2 put:Nat}{es es2:List Ent}{M:List Nd}(h:Gr σ g qn qs es ck es2 ck2 M put){rows:List (List D)}{v:V}{d:D}(hd1 : ∀ s,V.byVal s v=some (.d d))(hvb:v.borrows=false)(hd2:LV (.d d) rows)(hR:RR M rows)
  {y:D} {p9 p11 p14 p15 p17:Nat} {e1:V} {e2:Int} {bb f:Bool} {id:List UInt8} (hid:id.length=32) {a1 b1 i o:D} {n k:Int}
  (l14:loadAt σ true 32 (.ref p14 0)=some (.da (cG id))) (l15:loadAt σ true 3 (.ref p15 0)=some (.da [a1,b1,.bool f])) (l17:loadAt σ true 3 (.ref p17 0)=some (.da [i,o,.bool f]))
  (hT:Dn.Call Γ cx .val 15 [.da [a1,b1,.bool f],.da [i,o,.bool f]] St.empty fun v _=>v=B true) {Q:gT}
  (hq:Q .normal (rI y g v p9 p11 e1 e2 [(58,.d y),(59,I n),(60,I k),(105,B false)]) σ) :
  gF (Dn.Call Γ cx) cx c3_k12 (rI y g v p9 p11 e1 e2 [(14,.ref p14 0),(15,.ref p15 0),(16,B bb),(17,.ref p17 0),(18,B bb),(58,.d y),(59,I n),(60,I k)]) σ Q:=by
 have hml:=h.len
 have hnd:=h.nd
 have hpt:=h.ms.nd
 have hok:=h.ok
 have hag : ∀ s,Agr σ.objs.length σ s→Gr s g qn qs es ck es2 ck2 M put:=fun s ha=>h.more ha.1
 have hbvp : ∀ s,cN s [v,.da (cG id)]=some [.d d,.da (cG id)]:=fun s=>by simp only [cN,hd1,fN]
 have hP32:=aG4 hok (by omega) id
 have hC32:=aGB hok (by omega) id
 have hnb : ∀ b1 b2,cB .neq .bool [] (B bb) (B bb) b1 b2=some (B false):=fun _ _=>by cases bb <;> rfl
 rw [c3_k12,fQ]
 refine gP mdS [] (by decide +kernel) ?_
 simp -implicitDefEqProofs [rI,-loadAt,-cB,-cH,hY,dB,hnb,l14,l15,l17]
 refine gY rfl rfl hT (jF rfl rfl) ?_
 simp -implicitDefEqProofs [-loadAt,-cB,-cH,hY,l14]
 refine oH rfl (fun s ha=>qX (hag s ha) hid) ?_
 simp -implicitDefEqProofs [-loadAt,-cB,-cH,hY,l14]
 refine gY rfl (hbvp _) (aAq hd2 hR (by omega) hnd hid) (oS rfl (nb2 hvb rfl)) ?_
 simp -implicitDefEqProofs [-loadAt,-cB,-cH,hY,l14]
 refine gY rfl rfl (rZ (kG _) (kG _) hP32.1 (by omega)) (jF rfl rfl) ?_
 simp -implicitDefEqProofs [-loadAt,-cB,-cH,hY,l14]
 refine oH rfl (fun s ha=>xG (hag s ha) hid) ?_
 simp -implicitDefEqProofs [-loadAt,-cB,-cH,hY,l14]
 refine gY rfl (hbvp _) (xI hd2 hR (by omega) hnd hpt hid) (oS rfl (nb2 hvb rfl)) ?_
 simp -implicitDefEqProofs [-loadAt,-cB,-cH,hY,l14]
 refine gY rfl rfl (rZ (kG _) (kG _) hC32.1 (by omega)) (jF rfl rfl) ?_
 simp -implicitDefEqProofs [-loadAt,-cB,-cH,hY,c3_k11]
 exact hq

def aDs (σ:St)(y:D)(g:Nat)(v:V)(p9 p11:Nat)(e1:V)(e2:Int)(n:Nat)(m:Nat)(e:Env)(s:St):Prop:=∃ k:Nat,e=rI y g v p9 p11 e1 e2 [(58,.d y),(59,I n),(60,I k)]∧k≤n∧m=n-k∧ST σ s
theorem aIo {s:St}{l:List D}{n:Nat}(hn:l.length=n){t:St}(ht:t.objs[s.objs.length]?=some (.cells (l.map .d))):loadAt t true n (.ref s.objs.length 0)=some (.da l):=by
 simp only [loadAt,ht,if_true,aQ,hn,bF,Nat.zero_add,bB]
 rw [aK (by simp [hn])]
 exact congrArg some (iO _)
theorem xZ {t:St}{p n:Nat}{row l3:List D}(h:t.objs[p]?=some (.cells (row.map .d)))(hn:n≤row.length)(h3:row.take n=l3):loadAt t true n (.ref p 0)=some (.da l3):=by
 simp only [loadAt,h,if_true,aQ,hn,bF,Nat.zero_add]
 rw [← List.map_take,h3]
 exact congrArg some (iO _)
set_option maxHeartbeats 2000000 in
theorem aGx {σ:St}{g qn qs ck ck2 put:Nat}{es es2:List Ent}{M:List Nd}(h:Gr σ g qn qs es ck es2 ck2 M put){rows:List (List D)}{v:V}{d:D}(hd1 : ∀ s,V.byVal s v=some (.d d))(hvb:v.borrows=false)(hd2:LV (.d d) rows)(hR:RR M rows)
  {y:D} {p9 p11:Nat} {e1:V} {e2:Int} {L:List (List UInt8)} (hy:LV (.d y) (hH L)) (h32:H32 L) (hL:L.length≤1000) {Q:gT}
  (hq : ∀ s,ST σ s→Q .normal (rI y g v p9 p11 e1 e2 [(58,.d y),(59,I L.length),(60,I L.length),(61,B false)]) s) :
  gF (Dn.Call Γ cx) cx c3_k19 (rI y g v p9 p11 e1 e2 [(58,.d y),(59,I L.length),(60,I 0)]) σ Q:=by
 have hml:=h.len
 have hok:=h.ok
 simp -implicitDefEqProofs [c3_k19]
 refine fK (aDs σ y g v p9 p11 e1 e2 L.length) (m:=L.length) ⟨0,rfl,by omega,rfl,ST.refl _⟩ ?_
 rintro m e s ⟨k,rfl,hk,rfl,hS⟩
 simp -implicitDefEqProofs [-loadAt,c3_l18,c3_k17]
 by_cases hkl:k<L.length
 ·obtain⟨id,ha⟩ : ∃ a,L[k]?=some a:=⟨L[k],by simp [hkl]⟩
  have hid:=h32 id (aL ha)
  have hla:=fun σ=>LV.load hy (nS ha) (show(cG id).length=32 by rw [fG,hid]) σ
  have ia:=fun σ=>(hla σ).1
  have la:=fun σ=>(hla σ).2
  have ew:aJ.wrap ((k:Int)+1)=((k+1:Nat):Int):=by rw [bY (by omega) (by omega)]; omega
  have hhl:(cG id).length=32:=by rw [fG,hid]
  have zl:(aD 32 (V.d (D.int .u8 0))).length=32:=bS
  simp -implicitDefEqProofs [-loadAt,-splice,-aA,gK,hkl,c3_k16,c3_k15,ia,la,hhl]
  obtain⟨s1,hs1⟩ : ∃ t:St,(⟨s.objs++[.cells ((cG id).map .d)],s.toks⟩:St)=t:=⟨_,rfl⟩
  have hS1:ST s s1:=by rw [← hs1]; exact ST.push _ _
  have o14:s1.objs[s.objs.length]?=some (.cells ((cG id).map .d)):=by rw [← hs1]; simp
  have hl1:s1.objs.length=s.objs.length+1:=by rw [← hs1]; simp
  rw [hs1]
  clear hs1
  have l14 : ∀ t,ST s1 t→loadAt t true 32 (.ref s.objs.length 0)=some (.da (cG id)):=fun t ht=>aIo hhl (by rw [ht.old _ (by omega)]; exact o14)
  have la1:=l14 s1 (ST.refl _)
  generalize hp14:s.objs.length=p14 at *
  have hG1:=h.more (hS.trans hS1).old
  -- the two ways join
  have join : ∀ (s4:St) (p15 p17:Nat) (bb f:Bool) (a1 b1 i o:D),ST s1 s4→loadAt s4 true 3 (.ref p15 0)=some (.da [a1,b1,.bool f])→loadAt s4 true 3 (.ref p17 0)=some (.da [i,o,.bool f])→Dn.Call Γ cx .val 15 [.da [a1,b1,.bool f],.da [i,o,.bool f]] St.empty (fun v _=>v=B true) →
    gF (Dn.Call Γ cx) cx c3_k12 (rI y g v p9 p11 e1 e2 [(14,.ref p14 0),(15,.ref p15 0),(16,B bb),(17,.ref p17 0),(18,B bb),(58,.d y),(59,I L.length),(60,I k)]) s4 (pA 1 (oC (Dn.Call Γ cx) cx (.ops [1,5,7,8,9,10,11,12,58,59,60] [.p (some 106) (.bin .add .int [] (.t 60) (.c (.int .i64 1))),.p (some 60) (.move (.t 106))]) (rS (aDs σ y g v p9 p11 e1 e2 L.length) (L.length-k) [1,5,7,8,9,10,11,12,58,59,60] (pA 0 Q)))):=fun s4 p15 p17 bb f a1 b1 i o h4 l15 l17 hT=>by
   refine aGw (h.more ((hS.trans hS1).trans h4).old) hd1 hvb hd2 hR hid (l14 s4 h4) l15 l17 hT ?_
   simp -implicitDefEqProofs [rI,ew]
   rw [show((k:Int)+1)=((k+1:Nat):Int) from by omega]
   exact⟨L.length-(k+1),by omega,k+1,rfl,by omega,rfl,(hS.trans hS1).trans h4⟩
  simp -implicitDefEqProofs [-loadAt,-cH,hY,-aA,c3_k14,la1]
  refine jW (aLo hG1 hid) ?_
  have h36:(aD 36 (V.d (D.int .u8 0))).length=36:=bS
  -- what the document answers
  have rest : ∀ (s2:St) (p15:Nat) (bb f:Bool) (a1 b1:D) (ins:List SpG) (outs:List CoG),ST s1 s2→s2.objs.length=p15+1→s2.objs[p15]?=some (.cells ([a1,b1,.bool f].map .d))→LV (.d a1) (fH ins)→LV (.d b1) (gH outs)→(∀ s∈ins,s.Ok)→(∀ c∈outs,c.Ok)→ins.length≤1000→outs.length≤1000 →
    (match fnd M id with
     | some n=>bb=true∧f=n.f∧ins=n.ins∧outs=n.outs
     | none=>bb=false∧f=false∧ins=[]∧outs=[]) →
    gF (Dn.Call Γ cx) cx c3_k13 (rI y g v p9 p11 e1 e2 [(14,.ref p14 0),(15,.ref p15 0),(16,B bb),(58,.d y),(59,I L.length),(60,I k)]) s2 (pA 1 (oC (Dn.Call Γ cx) cx (.ops [1,5,7,8,9,10,11,12,58,59,60] [.p (some 106) (.bin .add .int [] (.t 60) (.c (.int .i64 1))),.p (some 60) (.move (.t 106))]) (rS (aDs σ y g v p9 p11 e1 e2 L.length) (L.length-k) [1,5,7,8,9,10,11,12,58,59,60] (pA 0 Q)))):=fun s2 p15 bb f a1 b1 ins outs h2 hl2 o15 la1 lb1 hsi hso hli hlo hm=>by
   have l142:=l14 s2 h2
   have hbvp : ∀ s,cN s [v,.da (cG id)]=some [.d d,.da (cG id)]:=fun s=>by simp only [cN,hd1,fN]
   simp -implicitDefEqProofs [rI,-loadAt,-cH,hY,-aA,c3_k13,l142]
   refine kA (hbvp _) (aKv hd2 hR (by omega) hid) fun u t hu=>?_
   obtain⟨i,o,row,hrl,ht3,hi,ho,he⟩ : ∃ (i o:D) (row:List D),row.length=36∧row.take 3=[i,o,.bool f]∧LV (.d i) (fH ins)∧LV (.d o) (gH outs)∧u = .tup [.da row,B bb]:=by
    rcases hu with⟨q,n,i,o,row,he,hq',hf,G⟩ | ⟨he,hf⟩
    ·rw [hf] at hm
     obtain⟨rfl,rfl,rfl,rfl⟩:=hm
     exact⟨i,o,row,G.len,by rw [G.e]; rfl,G.i,G.o,he⟩
    ·rw [hf] at hm
     obtain⟨rfl,rfl,rfl,rfl⟩:=hm
     exact⟨.nils,.nils,nod36,rfl,rfl,.nil,.nil,he⟩
   subst he
   refine⟨rfl,fun hb=>?_,?_⟩
   ·rw [nb2 hvb rfl] at hb
    cases hb
   simp -implicitDefEqProofs [-loadAt,-splice,-aA,gK,hrl]
   obtain⟨s3,hs3⟩ : ∃ t:St,(⟨s2.objs++[.cells (row.map .d)],s2.toks⟩:St)=t:=⟨_,rfl⟩
   have hS3:ST s2 s3:=by rw [← hs3]; exact ST.push _ _
   have o17:s3.objs[p15+1]?=some (.cells (row.map .d)):=by rw [← hs3,← hl2]; simp
   have o153:s3.objs[p15]?=some (.cells ([a1,b1,.bool f].map .d)):=by rw [hS3.old _ (by omega)]; exact o15
   rw [hs3,hl2]
   exact join s3 p15 (p15+1) bb f a1 b1 i o (h2.trans hS3) (xZ o153 (by simp) rfl) (xZ o17 (by omega) ht3) (aBZ la1 lb1 hi ho hsi hso hli hlo)
  cases hf:fnd M id with
  | none =>
   rw [hf] at rest
   simp -implicitDefEqProofs [-loadAt,-splice,-aA,gK]
   obtain⟨s2,hs2⟩ : ∃ t:St,(⟨s1.objs++[.cells [.d .nils,.d .nils,.d (.bool false)]],s1.toks⟩:St)=t:=⟨_,rfl⟩
   have hS2:ST s1 s2:=by rw [← hs2]; exact ST.push _ _
   have o15:s2.objs[s1.objs.length]?=some (.cells [.d .nils,.d .nils,.d (.bool false)]):=by rw [← hs2]; simp
   have hl2:s2.objs.length=s1.objs.length+1:=by rw [← hs2]; simp
   rw [hs2]
   exact rest s2 s1.objs.length false false .nils .nils [] [] hS2 hl2 o15 .nil .nil (by simp) (by simp) (by simp) (by simp) ⟨rfl,rfl,rfl,rfl⟩
  | some n =>
   rw [hf] at rest
   obtain⟨hnM,hne⟩:=jQ hf
   have hnok:=hok n hnM
   have hdl:n.dat.length=3:=rfl
   have hli:=hnok.li
   have hlo:=hnok.lo
   simp -implicitDefEqProofs [-loadAt,-splice,-aA,gK,hdl]
   obtain⟨s2,hs2⟩ : ∃ t:St,(⟨s1.objs++[.cells (n.dat.map .d)],s1.toks⟩:St)=t:=⟨_,rfl⟩
   have hS2:ST s1 s2:=by rw [← hs2]; exact ST.push _ _
   have o15:s2.objs[s1.objs.length]?=some (.cells (n.dat.map .d)):=by rw [← hs2]; simp
   have hl2:s2.objs.length=s1.objs.length+1:=by rw [← hs2]; simp
   rw [hs2]
   exact rest s2 s1.objs.length true n.f _ _ n.ins n.outs hS2 hl2 o15 (LV.lvD hnok.a St.empty).2 (LV.lvD hnok.b St.empty).2 hnok.si hnok.so (by omega) (by omega) ⟨rfl,rfl,rfl,rfl⟩
 ·obtain rfl:k=L.length:=by omega
  simp -implicitDefEqProofs
  simpa [rI] using hq s hS

def aHM (σ:St)(y:D)(g:Nat)(v:V)(p9 p11:Nat)(e1:V)(e2:Int)(i:D)(n:Nat)(m:Nat)(e:Env)(s:St):Prop:=∃ k:Nat,e=rI y g v p9 p11 e1 e2 [(108,.d i),(109,I n),(110,I k)]∧k≤n∧m=n-k∧ST σ s
def wC (o:Option Nd):List D×Bool:=match o with
 | some n=>(cG n.id,true)
 | none=>(aD 32 (.int .u8 0),false)
theorem aKD (o:Option Nd):aAJ o = .tup [.da (wC o).1,B (wC o).2]:=by cases o <;> rfl
theorem aKc (b1 b2:Bool):cB .neq .flat (aD 32 (.int .u8)) (.da (aD 32 (.int .u8 0))) (.da (aD 32 (.int .u8 0))) b1 b2=some (B false):=by
 have e:aD 32 (D.int .u8 0)=cG z32:=by rfl
 rw [e]
 have:=zS (a:=z32) (b:=z32) rfl rfl b1 b2
 simpa using this
theorem aLd (o:Option Nd)(h : ∀ n,o=some n→n.id.length=32)(b1 b2:Bool):(wC o).1.length=32∧cB .neq .flat (aD 32 (.int .u8)) (.da (wC o).1) (.da (wC o).1) b1 b2=some (B false):=by
 cases o with
 | none=>exact⟨by simp [wC],aKc b1 b2⟩
 | some n =>
  have h1:=h n rfl
  refine⟨by simp only [wC,fG,h1],?_⟩
  have:=zS h1 h1 b1 b2
  simpa [wC] using this
set_option maxHeartbeats 2000000 in
theorem aCl {σ:St}{g qn qs ck ck2 put:Nat}{es es2:List Ent}{M:List Nd}(h:Gr σ g qn qs es ck es2 ck2 M put){rows:List (List D)}{v:V}{d:D}(hd1 : ∀ s,V.byVal s v=some (.d d))(hvb:v.borrows=false)(hd2:LV (.d d) rows)(hR:RR M rows)
  {y i:D} {p9 p11:Nat} {e1:V} {e2:Int} {ins:List SpG} (hi:LV (.d i) (fH ins)) (hsi : ∀ s∈ins,s.Ok) (hL:ins.length≤1000) {Q:gT}
  (hq : ∀ s,ST σ s→Q .normal (rI y g v p9 p11 e1 e2 [(108,.d i),(109,I ins.length),(110,I ins.length),(111,B false)]) s) :
  gF (Dn.Call Γ cx) cx c3_k9 (rI y g v p9 p11 e1 e2 [(108,.d i),(109,I ins.length),(110,I 0)]) σ Q:=by
 have hml:=h.len
 have hok:=h.ok
 simp -implicitDefEqProofs [c3_k9]
 refine fK (aHM σ y g v p9 p11 e1 e2 i ins.length) (m:=ins.length) ⟨0,rfl,by omega,rfl,ST.refl _⟩ ?_
 rintro m e s ⟨k,rfl,hk,rfl,hS⟩
 simp -implicitDefEqProofs [-loadAt,c3_l8,c3_k7]
 by_cases hkl:k<ins.length
 ·obtain⟨sp,hsp⟩ : ∃ sp,ins[k]?=some sp:=⟨ins[k],by simp [hkl]⟩
  have hspm:=aL hsp
  have hsk:=hsi sp hspm
  have hrow:(fH ins)[k]?=some sp.row:=by simp [fH,hsp]
  have hia:=fun s=>LV.load hi hrow (fM hsk) s
  have ew:aJ.wrap ((k:Int)+1)=((k+1:Nat):Int):=by rw [bY (by omega) (by omega)]; omega
  have hrl:=fM hsk
  simp -implicitDefEqProofs [-loadAt,-splice,-aA,hkl,c3_k6,c3_k5,(hia s).1,(hia s).2,hrl,gK]
  obtain⟨t,ht⟩ : ∃ u:St,(⟨s.objs++[.cells (List.map V.d sp.row)],s.toks⟩:St)=u:=⟨_,rfl⟩
  have hst:ST s t:=by rw [← ht]; exact ST.push _ _
  have o20:t.objs[s.objs.length]?=some (.cells (List.map V.d sp.row)):=by rw [← ht]; simp
  have hl1:t.objs.length=s.objs.length+1:=by rw [← ht]; simp
  rw [ht]
  clear ht
  generalize hp20:s.objs.length=p20 at *
  have l20 : ∀ u,ST t u→loadAt u true 33 (.ref p20 0)=some (.da (ptD (fS sp))):=fun u hu=>by
   have:u.objs[p20]?=some (.cells (List.map V.d sp.row)):=by rw [hu.old _ (by omega)]; exact o20
   simp only [loadAt,this,if_true,aQ,hrl,bF,uV hsk]
   exact congrArg some (iO _)
  have hG:=h.more (hS.trans hst).old
  have la:=l20 t (ST.refl _)
  have hw1:aAJ (spn M (fS sp)) = .tup [.da (wC (spn M (fS sp))).1,B (wC (spn M (fS sp))).2]:=aKD _
  have hn32 : ∀ b1 b2,_:=aLd (spn M (fS sp)) fun n hn=>(hok n (List.mem_of_find?_eq_some hn)).id
  have hs1:=vW hG (p:=fS sp) hsk.tx (aB8 hsk)
  have hs2:=aAr hd2 hR (by omega) (p:=fS sp) hsk.tx (aB8 hsk)
  have hs1':Dn.Call Γ cx .rd 21 [.ref g 0,.da (ptD (fS sp))] t fun v _=>v = .tup [.da (wC (spn M (fS sp))).1,B (wC (spn M (fS sp))).2]:=by
   refine Dn.Call.mono (fun v s hv=>?_) hs1
   rw [hv,← hw1]
   cases spn M (fS sp) <;> rfl
  rw [hw1] at hs2
  generalize wC (spn M (fS sp))=w at *
  obtain⟨w1,w2⟩:=w
  obtain⟨hwl,hne⟩:=(fun b1 b2=>hn32 b1 b2 : ∀ b1 b2,_) true true
  have zl:(aD 32 (V.d (D.int .u8 0))).length=32:=bS
  simp -implicitDefEqProofs [-loadAt,-cH,hY,-aA,c3_k4,la]
  refine jW hs1' ?_
  simp only at hwl hne hs2
  simp -implicitDefEqProofs [-loadAt,-splice,-aA,gK,hwl,zl]
  obtain⟨t2,ht2⟩ : ∃ u:St,(⟨t.objs++[.cells (w1.map .d)],t.toks⟩:St)=u:=⟨_,rfl⟩
  have hst2:ST t t2:=by rw [← ht2]; exact ST.push _ _
  have o21:t2.objs[p20+1]?=some (.cells (w1.map .d)):=by rw [← ht2,← hl1]; simp
  have hl2:t2.objs.length=p20+2:=by rw [← ht2]; simp [hl1]
  rw [ht2,hl1]
  clear ht2
  have la2:=l20 t2 hst2
  have hbvp : ∀ s,cN s [v,.da (ptD (fS sp))]=some [.d d,.da (ptD (fS sp))]:=fun s=>by simp only [cN,hd1,fN]
  simp -implicitDefEqProofs [-loadAt,-cH,hY,-aA,c3_k3,la2]
  refine gI (hbvp _) hs2 (oS rfl (nb2 hvb rfl)) ?_
  simp -implicitDefEqProofs [-loadAt,-splice,-aA,gK,hwl,zl]
  obtain⟨t3,ht3⟩ : ∃ u:St,(⟨t2.objs++[.cells (w1.map .d)],t2.toks⟩:St)=u:=⟨_,rfl⟩
  have hst3:ST t2 t3:=by rw [← ht3]; exact ST.push _ _
  have o23:t3.objs[p20+2]?=some (.cells (w1.map .d)):=by rw [← ht3,← hl2]; simp
  have o213:t3.objs[p20+1]?=some (.cells (w1.map .d)):=by rw [hst3.old _ (by omega)]; exact o21
  rw [ht3,hl2]
  clear ht3
  have l23:loadAt t3 true 32 (.ref (p20+2) 0)=some (.da w1):=xZ o23 (by omega) (by rw [aK (by omega)])
  have l21:loadAt t3 true 32 (.ref (p20+1) 0)=some (.da w1):=xZ o213 (by omega) (by rw [aK (by omega)])
  have hnb : ∀ b1 b2,cB .neq .bool [] (B w2) (B w2) b1 b2=some (B false):=fun _ _=>by cases w2 <;> rfl
  have hnh : ∀ b1 b2,cB .neq .flat (aD 32 (.int .u8)) (.da w1) (.da w1) b1 b2=some (B false):=fun b1 b2=>(hn32 b1 b2).2
  simp -implicitDefEqProofs [-loadAt,-cB,-cH,hY,-aA,c3_k2,hnb,l23,l21]
  rw [hnh]
  simp -implicitDefEqProofs [c3_k1,ew]
  rw [show((k:Int)+1)=((k+1:Nat):Int) from by omega]
  exact⟨ins.length-(k+1),by omega,k+1,rfl,by omega,rfl,((hS.trans hst).trans hst2).trans hst3⟩
 ·obtain rfl:k=ins.length:=by omega
  simp -implicitDefEqProofs
  simpa [rI] using hq s hS

theorem aIi {a b:Int}(ha : -9223372036854775808≤a∧a≤9223372036854775807)(hb : -9223372036854775808≤b∧b≤9223372036854775807)(x y:Bool):cB .eql .flat [.int .i64,.int .i64] (.da [.int .i64 a,.int .i64 b]) (.da [.int .i64 a,.int .i64 b]) x y=some (B true):=by
 have e3:aJ.min = -9223372036854775808:=rfl
 have e4:aJ.max=9223372036854775807:=rfl
 have hf:fI [.int .i64,.int .i64] [.int .i64 a,.int .i64 b]=true:=by simp [fI,Lf.fits,e3,e4,ha,hb]
 simp only [cB,eqV,hf,Bool.and_self,if_true,decide_true,Option.map_some]
theorem aG9 (M:List Nd)(L:List (List UInt8))(hok : ∀ n∈M,n.Ok)(hl:M.length≤90) : ∃ a b:Int,(-9223372036854775808≤a∧a≤9223372036854775807)∧(-9223372036854775808≤b∧b≤9223372036854775807)∧xE M L = .tup [.da [.int .i64 a,.int .i64 b],mS (mV M L)]∧rW M L = .tup [.da [.int .i64 a,.int .i64 b],I (mV M L)]:=by
 have hokO : ∀ n'∈gX M L,n'.Ok:=fun n' h'=>hok n' (aY.1 h').1
 have hF:=aEX hokO
 have hW:=aEY hokO
 have hOl:(gX M L).length≤M.length:=List.length_filter_le _ _
 by_cases h:mV M L=0
 ·exact⟨oF (gX M L),sD (gX M L),by omega,by omega,by unfold xE; rw [if_pos h],by unfold rW; rw [if_pos h]⟩
 ·exact⟨0,0,by omega,by omega,by unfold xE; rw [if_neg h],by unfold rW; rw [if_neg h]⟩
set_option maxHeartbeats 4000000 in
theorem aC9 {x y:D}{l:List Act}{L:List (List UInt8)}{t:TxG}(hx:LV (.d x) (nF l))(hr : ∀ a∈l,a.Raw)(hy:LV (.d y) (hH L))(h32:H32 L)(ht:t.Raw) :
  Dn.Call Γ cx .val 3 [.d x,.d y,.da t.row] St.empty fun v _=>v=B true:=by
 refine Dn.Call.body (fc:=c3) rfl ?_
 have hly : ∀ σ,gZ σ .slice (.d y)=some L.length:=fun σ=>by rw [hy.len,iN]
 have hl5 : ∀ t':St,t'.objs[0]?=some (.cells [.d t.i,.d t.o,.d (.bool t.f)])→loadAt t' true 3 (.ref 0 0)=some (.da [t.i,t.o,.bool t.f])∧loadAt t' false 1 (.ref 0 0)=some (.d t.i):=fun t' h=>by
  simp only [loadAt,h]
  refine⟨?_,?_⟩ <;> rfl
 obtain⟨s0,hs0⟩ : ∃ s:St,(⟨[.cells [.d t.i,.d t.o,.d (.bool t.f)]],[]⟩:St)=s:=⟨_,rfl⟩
 have o0:s0.objs[0]?=some (.cells [.d t.i,.d t.o,.d (.bool t.f)]):=by rw [← hs0]; rfl
 have hl0:s0.objs.length=1:=by rw [← hs0]; rfl
 have l50:=(hl5 s0 o0).1
 simp -implicitDefEqProofs [-loadAt,TxG.row,c3,c3_k30]
 rw [hs0]
 clear hs0
 refine gI rfl aIT (jF rfl rfl) ?_
 simp -implicitDefEqProofs [-loadAt,c3_k29,c3_k28]
 refine kA rfl (aKr hx hr) fun v s ⟨b,hv,hb⟩=>?_
 subst hv
 refine⟨rfl,fun _=>rfl,?_⟩
 cases b with
 | true=>simp -implicitDefEqProofs [-loadAt,c3_k27]
 | false =>
 obtain⟨hl31,hok⟩:=hb rfl
 by_cases hL30:(30:Int)<L.length
 ·simp -implicitDefEqProofs [-loadAt,hly,hL30,c3_k27]
 have hbs : ∀ (e:Env) (z:Opd),z.ev e = .da [t.i,t.o,.bool t.f]→dC (.bslice 27 1 3 [.nils,.nils,.bool false] [(0,z)]) e s0=some (.fl [[t.i,t.o,.bool t.f]]):=fun e z hz=>lK hz rfl rfl
 simp -implicitDefEqProofs [-loadAt,hly,hL30,l50,↓hbs]
 refine kA (ds:=[.d (.list [[t.i,t.o,.bool t.f]])]) rfl (aEP ht.txok (aA2 ht)) fun v s ⟨bb,hv,hbb⟩=>?_
 subst hv
 refine⟨rfl,fun _=>rfl,?_⟩
 cases bb with
 | true=>simp -implicitDefEqProofs [-loadAt,c3_k27]
 | false =>
 obtain⟨g1,g2,g3⟩:=hbb rfl
 have htk:t.Ok:=ht.good g1 g2 g3
 simp -implicitDefEqProofs [-loadAt,c3_k27,c3_k26]
 refine fF aHw fun w s ⟨hw,hG,hold,hl,_⟩=>?_
 rw [hl0] at hw hG hl
 subst hw
 have os:s.objs[0]?=some (.cells [.d t.i,.d t.o,.d (.bool t.f)]):=by rw [hold 0 (by omega)]; exact o0
 have hR0:RR [] []:=⟨by simp,by simp,by simp⟩
 have hP:PS s 3 1 2 [] 0 (.fl []):=⟨⟨_,_,_,_,hG⟩,⟨[],.fl [],hR0⟩,rfl⟩
 simp -implicitDefEqProofs [-loadAt,-aA,iL,fE,gJ,c3_k25]
 refine fF (aKu (by decide) hP hx hok (by simp; omega) (by simp; omega)) fun v s1 ⟨M,put,hQ⟩=>?_
 have hn:=aKd hQ.ps.nn
 have hml:=hQ.ml
 simp only [List.length_nil,Nat.zero_add] at hml
 have os1:s1.objs[0]?=some (.cells [.d t.i,.d t.o,.d (.bool t.f)]):=by rw [hQ.off.old 0 (by omega) (by decide) (by decide) (by decide)]; exact os
 have hs1l:0<s1.objs.length:=(aB.1 os1).1
 obtain⟨es,ck,es2,ck2,hG1⟩:=hQ.ps.gr
 obtain⟨rows,hv,hR⟩:=hQ.ps.m
 have hokM:=hG1.ok
 have hvb:=hv.borrows
 obtain⟨d,hd0,hd2⟩:=hv.byVal s1
 have hd1 : ∀ s,V.byVal s v=some (.d d):=fun s=>by rw [← hd0]; cases hv <;> rfl
 have hbv2 : ∀ s,cN s [v,.d y]=some [.d d,.d y]:=fun s=>by simp only [cN,hd1,gS]
 obtain⟨ra,rb,hra,hrb,hrv,hrrv⟩:=aG9 M L hokM (by omega)
 simp -implicitDefEqProofs [-loadAt,-cB,hn,c3_k24,c3_k23,c3_k22]
 refine jW (aKk hG1 hy h32 (by omega)) ?_
 rw [hrv]
 generalize hE:mV M L=E at *
 simp -implicitDefEqProofs [-loadAt]
 obtain⟨s2,hs2⟩ : ∃ u:St,(⟨s1.objs++[.cells [I ra,I rb]],s1.toks⟩:St)=u:=⟨_,rfl⟩
 have hS2:ST s1 s2:=by rw [← hs2]; exact ST.push _ _
 have o9:s2.objs[s1.objs.length]?=some (.cells [I ra,I rb]):=by rw [← hs2]; simp
 have hl2:s2.objs.length=s1.objs.length+1:=by rw [← hs2]; simp
 rw [hs2]
 clear hs2
 generalize hp9:s1.objs.length=p9 at *
 simp -implicitDefEqProofs [-loadAt,c3_k21]
 refine gI (hbv2 _) (aIX hd2 hR (by omega) hy h32 (by omega)) (oS (by rw [hrrv]; rfl) (nb2 hvb rfl)) ?_
 rw [hrrv]
 simp -implicitDefEqProofs [-loadAt]
 obtain⟨s3,hs3⟩ : ∃ u:St,(⟨s2.objs++[.cells [I ra,I rb]],s2.toks⟩:St)=u:=⟨_,rfl⟩
 have hS3:ST s2 s3:=by rw [← hs3]; exact ST.push _ _
 have o11:s3.objs[p9+1]?=some (.cells [I ra,I rb]):=by rw [← hs3,← hl2]; simp
 have o93:s3.objs[p9]?=some (.cells [I ra,I rb]):=by rw [hS3.old p9 (by omega)]; exact o9
 have hl3:s3.objs.length=p9+2:=by rw [← hs3]; simp [hl2]
 rw [hs3,hl2]
 clear hs3
 have hG3:=hG1.more (hS2.trans hS3).old
 have os3:s3.objs[0]?=some (.cells [.d t.i,.d t.o,.d (.bool t.f)]):=by rw [(hS2.trans hS3).old 0 (by omega)]; exact os1
 simp -implicitDefEqProofs [-loadAt,hly,c3_k20]
 refine aGx hG3 hd1 hvb hd2 hR hy h32 (by omega) fun s4 hS4=>?_
 have os4:s4.objs[0]?=some (.cells [.d t.i,.d t.o,.d (.bool t.f)]):=by rw [hS4.old 0 (by omega)]; exact os3
 have l54:=(hl5 s4 os4).2
 have hil : ∀ σ,gZ σ .slice (.d t.i)=some t.ins.length:=fun σ=>by rw [htk.i.len]; simp [fH]
 have hli:=htk.li
 simp -implicitDefEqProofs [rI,-loadAt,-cH,hY,c3_k10,l54,hil]
 refine aCl (hG3.more hS4.old) hd1 hvb hd2 hR htk.i htk.si (by omega) fun s5 hS5=>?_
 have h35:=hS4.trans hS5
 have hG5:=hG3.more h35.old
 have o95:s5.objs[p9]?=some (.cells [I ra,I rb]):=by rw [h35.old p9 (by omega)]; exact o93
 have o115:s5.objs[p9+1]?=some (.cells [I ra,I rb]):=by rw [h35.old (p9+1) (by omega)]; exact o11
 have os5:s5.objs[0]?=some (.cells [.d t.i,.d t.o,.d (.bool t.f)]):=by rw [h35.old 0 (by omega)]; exact os3
 have l95:loadAt s5 true 2 (.ref p9 0)=some (.da [.int .i64 ra,.int .i64 rb]):=by simp only [loadAt,o95]; rfl
 have l115:loadAt s5 true 2 (.ref (p9+1) 0)=some (.da [.int .i64 ra,.int .i64 rb]):=by simp only [loadAt,o115]; rfl
 have l55:=(hl5 s5 os5).1
 have he:=aIi hra hrb
 have hEE : ∀ b1 b2,cB .eql .int [] (I E) (I E) b1 b2=some (B true):=fun _ _=>by simp [cB,eO]
 have hag : ∀ s,Agr s5.objs.length s5 s→Gr s 3 1 2 es ck es2 ck2 M put:=fun s ha=>hG5.more ha.1
 have hnd:=hG1.nd
 have hpt:=hG1.ms.nd
 have hA32:=aHa hokM (mT M) L
 have hD32:=aHa hokM (oD M) L
 have hTV : ∀ s,TxV s (.d t.i) (.d t.o) t.ins t.outs:=fun s=>⟨htk.i,.inl htk.o,htk.li,htk.lo,htk.si,htk.so⟩
 have hC32:=vH hokM fun n=>decide (n.id∈kE M t.ins (idB t.ins t.outs t.f))
 have hCl:=pU M fun n=>decide (n.id∈kE M t.ins (idB t.ins t.outs t.f))
 have hcv : ∀ s,Agr s5.objs.length s5 s→Dn.Call Γ cx .rd 28 [.ref 3 0,.da [t.i,t.o,.bool t.f]] s fun v _=>v = .d (hlD ((gX M (kE M t.ins (idB t.ins t.outs t.f))).map (·.id))):=fun s ha=>uQ (hag s ha) (hTV s)
 have hcr:=uT hd2 hR (by omega) htk
 have hbv3 : ∀ s,cN s [v,.da [t.i,t.o,.bool t.f]]=some [.d d,.da [t.i,t.o,.bool t.f]]:=fun s=>by simp only [cN,hd1,fN]
 have hH3:Dn.Call Γ cx .val 16 [.d (hlD ((gX M (kE M t.ins (idB t.ins t.outs t.f))).map (·.id))),.d (hlD ((gX M (kE M t.ins (idB t.ins t.outs t.f))).map (·.id)))] St.empty fun v _=>v=B true:=rZ (kG _) (kG _) hC32 (by unfold gX; omega)
 generalize hlD ((gX M (kE M t.ins (idB t.ins t.outs t.f))).map (·.id))=X at *
 rw [cJ,c3_k0,fQ]
 refine gP mdS [] (by decide +kernel) ?_
 simp -implicitDefEqProofs [rI,-loadAt,-cB,-cH,hY,dB,l95,l115,he]
 refine gY rfl (tS (aGz E _)) (aJi E) (jF rfl rfl) ?_
 simp -implicitDefEqProofs [-loadAt,-cB,-cH,hY,hEE]
 refine oH rfl (fun s ha=>aC6 (hag s ha) hy h32 (by omega)) ?_
 simp -implicitDefEqProofs [-loadAt,-cB,-cH,hY]
 refine gY rfl (hbv2 _) (aB2 hd2 hR (by omega) hnd hpt hy h32 (by omega)) (oS rfl (nb2 hvb rfl)) ?_
 simp -implicitDefEqProofs [-loadAt,-cB,-cH,hY]
 refine gY rfl rfl (rZ (kG _) (kG _) hA32.1 (by omega)) (jF rfl rfl) ?_
 simp -implicitDefEqProofs [-loadAt,-cB,-cH,hY]
 refine oH rfl (fun s ha=>aAI (hag s ha) hy h32 (by omega)) ?_
 simp -implicitDefEqProofs [-loadAt,-cB,-cH,hY]
 refine gY rfl (hbv2 _) (aAo hd2 hR (by omega) hnd hpt hy h32 (by omega)) (oS rfl (nb2 hvb rfl)) ?_
 simp -implicitDefEqProofs [-loadAt,-cB,-cH,hY]
 refine gY rfl rfl (rZ (kG _) (kG _) hD32.1 (by omega)) (jF rfl rfl) ?_
 simp -implicitDefEqProofs [-loadAt,-cB,-cH,hY,l55]
 refine oH rfl hcv ?_
 simp -implicitDefEqProofs [-loadAt,-cB,-cH,hY,l55]
 refine gY rfl (hbv3 _) hcr (oS rfl (nb2 hvb rfl)) ?_
 simp -implicitDefEqProofs [-loadAt,-cB,-cH,hY,l55]
 refine gY rfl rfl hH3 (jF rfl rfl) ?_
 simp -implicitDefEqProofs [-loadAt,-cB,-cH,hY]
theorem aLG {x y:D}{z:List D}(hx:(Lk.list aGp).fits x)(hy:(Lk.list tT).fits y)(hz:Lks txK z):Dn.Call Γ cx .val 3 [.d x,.d y,.da z] St.empty fun v _=>v = .d (.bool true):=by
 obtain⟨rx,lx,fx⟩:=qU hx
 obtain⟨a,rfl,ha⟩:=aEn fx
 obtain⟨ry,ly,fy⟩:=qU hy
 obtain⟨L,rfl,h32⟩:=aGO fy
 obtain⟨t,rfl,ht⟩:=aLx hz
 exact aC9 lx ha ly h32 ht
end Go.Proofs.YtdfhfhcilfjdgaaGreatDoor.T
