import Derived.Test.YtdfhfhcilfjdgaaGreatDoorS39
set_option linter.unusedVariables false
set_option linter.unusedSimpArgs false
open List renaming reduceReplicate → aA,getElem?_eq_some_iff → aB,getElem?_append_left → aC,replicate → aD,cons_append → aE,getElem?_set_ne → aF,append_nil → aG,nil_append → aH,map_cons → aI,take_of_length_le → aK,mem_of_getElem? → aL,map_nil → aM,getElem?_set_self → aO,length_map → aQ,getElem?_eq_none → aR,mem_map → aT,mem_append → aW,length_append → aX,mem_filter → aY,take_append_getElem → aZ,getD_eq_getElem?_getD → bA,take_length → bC,drop_zero → bF,getElem?_map → bG,getElem?_append_right → bH,mem_singleton → bI,getElem?_eq_getElem → bO,eq_nil_of_length_eq_zero → bP,getElem?_of_mem → bQ,length_replicate → bS,drop_of_length_le → bT,mem_cons → bU,append_assoc → bV,mem_append_right → bX
open Go.IntKind renaming i64 → aJ,u64 → bL
open Option renaming some → aN
open Bool renaming false_eq_true → aP,and_eq_true → aS
open Go.Builtin renaming zeroCells → aU,append_ → bD,firstCells → bM
open Go.Result renaming andThen_ok → aV
open Nat renaming le_refl → bB,mul_le_mul_right → bE,add_mul → bJ,lt_or_ge → bR
open Array renaming getElem?_eq_some_iff → bW
namespace Go.Proofs.YtdfhfhcilfjdgaaGreatDoor.T
open Go.Dn
attribute [local simp] dO dF GB aM aI aG dA eW cE dZ cS cK dY dX eM eP eS cM cW cX eN fD gD fQ fB dK fC gE cJ cY cZ dN eB eC gA eR eE eF eD cL cU cV fZ i_p dU fY eA eV dW eU dV eX gC t_p eY eH gB eJ cT eZ eI eG gM aE aH dC dM fP fO fR gR Opd.ev Env.get Env.set Env.pick eK dE cB eO eQ cF dD dG gO eL Res.ev fL cN dI gS fN fW fX gW fT fU fV cx Dn.newObj St.place St.push St.spot St.empty eT dP cO cR dS dQ dT cQ dR cP loadAt cH dL cI bZ ofD splice St.setObj fE

structure After (σ s:St)(g qn qs:Nat)(M:List Nd)(put:Nat):Prop where
 gr : ∃ es ck es2 ck2,Gr s g qn qs es ck es2 ck2 M put
 old : ∀ r,r<σ.objs.length→r≠g→r≠qn→r≠qs→s.objs[r]?=σ.objs[r]?
 len:σ.objs.length≤s.objs.length
 tk : ∀ (t k:Nat),σ.toks[t]?=some k→s.toks[t]?=some k
theorem aIj {n:Int}(h:n≠0)(b:Bool):cB .neq .iface [] (mS n) (.d .nili) b true=some (B true):=by
 unfold mS
 rw [if_neg h]
 rfl
theorem aJ6 (b:Bool):cB .neq .iface [] (mS 0) (.d .nili) b true=some (B false):=by
 have:mS 0 = .d .nili:=rfl
 rw [this]
 cases b <;> rfl
theorem aFf (n:Int):(mS n).pure=true:=by unfold mS; split <;> rfl
theorem aIk (n:Int):(mS n).scalars=true:=by unfold mS; split <;> rfl
theorem Gr.ne {σ:St}{g qn qs ck ck2 put:Nat}{es es2:List Ent}{M:List Nd}(h:Gr σ g qn qs es ck es2 ck2 M put)(hq:qn≠qs):g≠qn∧g≠qs:=by
 refine⟨fun e=>?_,fun e=>?_⟩
 ·have h1:=h.o
  rw [e,h.n] at h1
  cases h1
 ·have h1:=h.o
  rw [e,h.s] at h1
  cases h1

structure JP (σ4 s:St)(qs:Nat)(M:List Nd)(me:List UInt8)(l:List SpG):Prop where
 m : ∃ es ck,s.objs[qs]?=some (Dn.Obj.map es ck)∧MpG true kP es ck (M.flatMap Nd.spent++l.map fun s=>(V.da (ptD (fS s)),V.da (cG me)))
 old : ∀ r,r<σ4.objs.length→r≠qs→s.objs[r]?=σ4.objs[r]?
 len:σ4.objs.length≤s.objs.length
 tk:s.toks=σ4.toks
def aJw (σ4:St)(g b qs:Nat)(va:V)(ins:List SpG)(M:List Nd)(me:List UInt8)(m:Nat)(e:Env)(s:St):Prop:=∃ j:Nat,e=[(0,.ref g 0),(8,.ref (b+1) 0),(62,va),(63,I ins.length),(64,I j)]∧j≤ins.length∧m=ins.length-j∧JP σ4 s qs M me (ins.take j)
theorem aIq (k:V)(a b:List (V×V)):lkG k (a++b)=match lkG k a with | some v=>some v | none=>lkG k b:=by
 induction a with
 | nil=>rfl
 | cons p r ih =>
  obtain⟨k',v'⟩:=p
  simp only [aE,lkG]
  split
  ·rfl
  ·exact ih
set_option maxHeartbeats 1000000 in
theorem aHs {σ:St}{g qn qs ck ck2 put:Nat}{es es2:List Ent}{M:List Nd}(h:Gr σ g qn qs es ck es2 ck2 M put)(hq:qn≠qs){va vb:V}{f:Bool}{ins:List SpG}{outs:List CoG}(hT:TxV σ va vb ins outs){fee:Int}(hM:M.length<90)(hput:put≤1000000) :
  Dn.Call Γ cx .raw 34 [.ref g 0,bZ [va,vb,.d (.bool f)],I fee] σ fun v s=>v=mS (kJ M ins outs f fee)∧After σ s g qn qs (if kJ M ins outs f fee=0 then M++[aAE va vb ins outs f fee put] else M) (if kJ M ins outs f fee=0 then put+1 else put):=by
 refine Dn.Call.body (fc:=c34) rfl ?_
 have hcm:(bZ [va,vb,V.d (.bool f)]).cells=some [va,vb,.d (.bool f)]:=oO
 simp [-bZ,-loadAt,c34,hcm]
 obtain⟨σ1,hσ1⟩ : ∃ s:St,(⟨σ.objs++[.cells [va,vb,.d (.bool f)]],σ.toks⟩:St)=s:=⟨_,rfl⟩
 rw [hσ1]
 have old : ∀ r,r<σ.objs.length→σ1.objs[r]?=σ.objs[r]?:=fun r hr=>by rw [← hσ1]; simp only; rw [aC hr]
 have h1:=h.more old
 have hl1:σ1.objs.length=σ.objs.length+1:=by rw [← hσ1]; simp
 have o4:σ1.objs[σ.objs.length]?=some (.cells [va,vb,.d (.bool f)]):=by rw [← hσ1]; simp
 have tk1:σ1.toks=σ.toks:=by rw [← hσ1]
 clear hσ1
 have hT1:=hT.more (s:=σ1) (by omega) old
 generalize hb:σ.objs.length=b at *
 have hgb:g<b:=by rw [← hb]; exact(aB.1 h.o).1
 have hnb:qn<b:=by rw [← hb]; exact(aB.1 h.n).1
 have hsb:qs<b:=by rw [← hb]; exact(aB.1 h.s).1
 obtain⟨hgn,hgs⟩:=h.ne hq
 have l4' : ∀ s:St,s.objs[b]?=σ1.objs[b]?→loadAt s true 3 (.ref b 0)=some (bZ [va,vb,.d (.bool f)])∧loadAt s false 1 (.ref b 0)=some va:=fun s hs=>by
  rw [o4] at hs
  simp only [loadAt,hs]
  exact⟨rfl,rfl⟩
 have l4:=(l4' σ1 rfl).1
 have hli:=hT.li
 have hlo:=hT.lo
 have stay : ∀ s:St,(∀ r,r<b→s.objs[r]?=σ1.objs[r]?)→b≤s.objs.length→s.toks=σ1.toks→After σ s g qn qs M put:=fun s h2 h3 h4 =>
  ⟨⟨_,_,_,_,h.more fun r hr=>(h2 r (by omega)).trans (old r (by omega))⟩,fun r hr _ _ _=>(h2 r (by omega)).trans (old r (by omega)),by omega,fun t k ht=>by rw [h4,tk1]; exact ht⟩
 simp [-bZ,-loadAt,c34_k21,c34_k20,eqV,V.isNil,Opd.isC,c34_k19,l4]
 have hTx:=hT1.tx f
 refine gI (hT1.bv f) (aIK hTx.i hTx.o (by omega) (by omega) hT.si) (jF (aFf _) (aIk _)) ?_
 by_cases hc0:lU ins outs=0
 rotate_left
 ·have he:kJ M ins outs f fee=lU ins outs:=by unfold kJ; rw [if_pos hc0]
  rw [he,if_neg hc0,if_neg hc0]
  simp [-cB,Opd.isC,aIj hc0,c34_k18,c34_k17]
  exact stay σ1 (fun _ _=>rfl) (by omega) rfl
 rw [hc0]
 have hme:(idB ins outs f).length=32:=Sha.sha_len _
 have hid:=aHo hTx
 have hpe:kJ M ins outs f fee=if jM fee=false then 9 else if (fnd M (idB ins outs f)).isSome=true then 6 else if kE M ins (idB ins outs f)≠[] then 8 else 0:=by
  unfold kJ
  rw [if_neg (by simpa using hc0)]
 have hmk:aAE va vb ins outs f fee put=⟨idB ins outs f,.d (lvD va),.d (coD vb outs),f,ins,outs,fee,put⟩:=rfl
 have hcon : ∀ s:St,(∀ r,r<σ1.objs.length→s.objs[r]?=σ1.objs[r]?)→Dn.Call Γ cx .rd 28 [.ref g 0,bZ [va,vb,.d (.bool f)]] s fun v _=>v = .d (hlD ((gX M (kE M ins (idB ins outs f))).map (·.id))):=fun s hs=>uQ (h1.more hs) (hT1.more (aBr hs) hs)
 have hidd:aAE va vb ins outs f fee put=⟨idB ins outs f,.d (lvD va),.d (coD vb outs),f,ins,outs,fee,put⟩:=rfl
 have hno:(fnd M (idB ins outs f)).isSome=false→kE M ins (idB ins outs f)=[]→∀ s∈ins,spn M (fS s)=none:=aKe
 have hide:idB ins outs f=idB ins outs f:=rfl
 generalize hmee:idB ins outs f=me at *
 simp [-bZ,-loadAt,-cB,Opd.isC,aJ6,c34_k18,c34_k17,c34_k16,l4]
 refine gI (hT1.bv f) hid (jF rfl (nI _)) ?_
 have hml:(cG me).length=32:=by rw [fG,hme]
 have zl:(aD 32 (V.d (D.int .u8 0))).length=32:=bS
 simp [-bZ,-loadAt,-splice,-aA,gK,hml,zl,c34_k15,c34_k14]
 obtain⟨σ2,hσ2⟩ : ∃ s:St,(⟨σ1.objs++[.cells (List.map V.d (cG me))],σ1.toks⟩:St)=s:=⟨_,rfl⟩
 rw [hσ2]
 have old2 : ∀ r,r<σ1.objs.length→σ2.objs[r]?=σ1.objs[r]?:=fun r hr=>by rw [← hσ2]; simp only; rw [aC hr]
 have hl2:σ2.objs.length=b+2:=by rw [← hσ2]; simp [hl1]
 have o8:σ2.objs[b+1]?=some (.cells (List.map V.d (cG me))):=by rw [← hσ2,← hl1]; simp
 have tk2:σ2.toks=σ1.toks:=by rw [← hσ2]
 clear hσ2
 rw [hl1]
 have l8' : ∀ s:St,s.objs[b+1]?=σ2.objs[b+1]?→loadAt s true 32 (.ref (b+1) 0)=some (.da (cG me)):=fun s hs=>by
  rw [o8] at hs
  simp only [loadAt,hs,if_true,aQ,hml,bF]
  rw [aK (by simp [hml])]
  exact congrArg some (iO _)
 have l8:=l8' σ2 rfl
 have l42:=(l4' σ2 (old2 b (by omega))).1
 have h2:=h1.more old2
 have stay2:=stay σ2 (fun r hr=>old2 r (by omega)) (by omega) tk2
 refine gI rfl (aD2 fee) rfl ?_
 by_cases hg:jM fee=false
 ·rw [hg] at hpe ⊢
  rw [hpe]
  simp [c34_k13,rT,mS]
  exact stay2
 have hg1:jM fee=true:=by simpa using hg
 rw [if_neg hg] at hpe
 simp [-bZ,-loadAt,-aA,hg1,c34_k13,c34_k12,l8]
 refine jW (uR h2 hme) ?_
 cases hf:(fnd M me).isSome with
 | true =>
  rw [hf,if_pos rfl] at hpe
  rw [hpe]
  simp [c34_k11,rT,mS]
  exact stay2
 | false =>
  rw [hf,if_neg (by simp)] at hpe
  simp [-bZ,-loadAt,-aA,c34_k11,c34_k10,l42]
  refine jW (hcon σ2 old2) ?_
  have hlc : ∀ s,gZ s .slice (.d (hlD ((gX M (kE M ins me)).map (·.id))))=some (gX M (kE M ins me)).length:=fun s=>by rw [(kG _).len]; simp [hH]
  simp [hlc]
  by_cases hcf:kE M ins me=[]
  rotate_left
  ·have hl0:0<(gX M (kE M ins me)).length:=by
    have:gX M (kE M ins me)≠[]:=fun e=>hcf ((tW h.nd).1 e)
    exact List.length_pos_iff.2 this
   rw [if_pos hcf] at hpe
   rw [hpe]
   simp [hl0,c34_k9,rT,mS]
   exact stay2
  have ho0:=(tW h.nd).2 hcf
  rw [if_neg (by simpa using hcf)] at hpe
  rw [hpe,ho0]
  simp [c34_k9]
  obtain⟨nd,hnd⟩ : ∃ n:Nd,n=aAE va vb ins outs f fee put:=⟨_,rfl⟩
  have hnid:nd.id=me:=by rw [hnd,hmk]
  have hncell:bZ nd.cells = .da [lvD va,coD vb outs,.bool f,.int .i64 fee,.int .i64 (wtN ins outs f),.int .i64 put]:=by rw [hnd,hmk]; rfl
  have hlk:lkG (.da (cG me)) (M.map Nd.ent)=none:=by
   rw [zP]
   cases hx:fnd M me with
   | none=>rfl
   | some n=>rw [hx] at hf; cases hf
  obtain⟨u1,u2⟩:=h2.mn.ins h2.n (mO hme) (x:=.da [lvD va,coD vb outs,.bool f,.int .i64 fee,.int .i64 (wtN ins outs f),.int .i64 put]) rfl hlk
  have lg0:loadAt σ2 false 1 (.ref g 0)=some (.map qn):=by have:=h2.o; simp only [loadAt,this]; rfl
  have lg2:loadAt σ2 false 1 (.ref g 2)=some (I put):=by have:=h2.o; simp only [loadAt,this]; rfl
  simp [-bZ,-loadAt,-aA,c34_k8]
  refine gP (fun f=>if f=53 then .rd else .val) [] (by decide +kernel) ?_
  simp [-bZ,-loadAt,-aA,dB,gQ,lg0,l8,l42]
  refine oH rfl (fun s ha=>aFX f (hT1.more (s:=s) (by have:=aBr ha.1; omega) fun r hr=>by rw [ha.1 r (by omega),old2 r hr])) ?_
  simp [-bZ,-loadAt,-aA,dB,gQ,lg0,l8,l42]
  refine gY rfl ((hT1.more (s:=σ2) (by omega) old2).bv f) (aHt hTx) (jF rfl rfl) ?_
  simp [-loadAt,-aA,dB,gQ,lg2]
  refine xK u1 Kept.nil ?_
  simp [-loadAt]
  have hent:nd.ent=(.da (cG me),.da [lvD va,coD vb outs,.bool f,.int .i64 fee,.int .i64 (wtN ins outs f),.int .i64 put]):=by unfold Nd.ent; rw [hncell,hnid]
  generalize es++[(ck,V.da (cG me),V.da [lvD va,coD vb outs,D.bool f,D.int .i64 fee,D.int .i64 (wtN ins outs f),D.int .i64 put])]=es6 at u2 ⊢
  generalize ck+1=ck6 at u2 ⊢
  rw [← hent] at u2
  clear u1
  obtain⟨σ3,hσ3⟩ : ∃ t:St,(⟨σ2.objs.set qn (.map es6 ck6),σ2.toks⟩:St)=t:=⟨_,rfl⟩
  rw [hσ3]
  have on3:σ3.objs[qn]?=some (.map es6 ck6):=by rw [← hσ3]; simp only; rw [aO (by omega)]
  have old3 : ∀ r,r≠qn→σ3.objs[r]?=σ2.objs[r]?:=fun r hr=>by rw [← hσ3]; simp only; rw [aF (by omega)]
  have hl3:σ3.objs.length=b+2:=by rw [← hσ3]; simp [hl2]
  have tk3:σ3.toks=σ2.toks:=by rw [← hσ3]
  clear hσ3
  have og3:σ3.objs[g]?=some (.cells [.map qn,.map qs,I put]):=by rw [old3 g hgn]; exact h2.o
  have lg3:loadAt σ3 false 1 (.ref g 2)=some (I put):=by simp only [loadAt,og3]; rfl
  have ewp:aJ.wrap ((put:Int)+1)=(put:Int)+1:=bY (by omega) (by omega)
  simp [-loadAt,c34_k7,gQ,lg3,og3,ewp]
  obtain⟨σ4,hσ4⟩ : ∃ t:St,(⟨σ3.objs.set g (.cells [.map qn,.map qs,I ((put:Int)+1)]),σ3.toks⟩:St)=t:=⟨_,rfl⟩
  rw [hσ4]
  have og4:σ4.objs[g]?=some (.cells [.map qn,.map qs,I ((put+1:Nat):Int)]):=by rw [← hσ4]; simp only; rw [aO (by omega)]; simp
  have old4 : ∀ r,r≠g→σ4.objs[r]?=σ3.objs[r]?:=fun r hr=>by rw [← hσ4]; simp only; rw [aF (by omega)]
  have hl4:σ4.objs.length=b+2:=by rw [← hσ4]; simp [hl3]
  have tk4:σ4.toks=σ3.toks:=by rw [← hσ4]
  clear hσ4
  have hva:=(l4' σ4 (by rw [old4 b (by omega),old3 b (by omega),old2 b (by omega)])).2
  have hlen : ∀ s,gZ s .slice va=some ins.length:=fun s=>by rw [hT.a.len]; simp [fH]
  simp [-loadAt,c34_k6,hva,hlen,c34_k5]
  have os4:σ4.objs[qs]?=some (.map es2 ck2):=by rw [old4 qs hgs.symm,old3 qs hq.symm]; exact h2.s
  have on4:σ4.objs[qn]?=some (.map es6 ck6):=by rw [old4 qn hgn.symm]; exact on3
  refine fK (aJw σ4 g b qs va ins M me) (m:=ins.length) ⟨0,rfl,by omega,rfl,⟨⟨es2,ck2,os4,by simpa using h.ms⟩,fun _ _ _=>rfl,bB _,rfl⟩⟩ ?_
  rintro m e s ⟨j,rfl,hj,rfl,hJ⟩
  have hJl:=hJ.len
  simp [-bZ,-loadAt,c34_l4,c34_k3]
  have hms:=hno hf hcf
  have htw:twN ins ins.length=false:=by
   have:=hc0
   unfold lU at this
   split at this
   ·cases this
   ·split at this
    ·cases this
    ·split at this
     ·cases this
     ·rename_i h; simpa using h
  have hndp:=aBm (bB _) htw
  rw [bC] at hndp
  by_cases hji:j<ins.length
  rotate_left
  ·obtain rfl:j=ins.length:=by omega
   rw [bC] at hJ
   simp
   obtain⟨es5,ck5,hm5,hM5⟩:=hJ.m
   have hfee:0≤fee∧fee≤2100000000000000:=by simpa [jM] using hg1
   have hndok:nd.Ok:=by
    rw [hnd,hmk]
    exact⟨hme,hTx.i,hTx.o,hli,hlo,hT.si,hT.so,hfee,hmee.symm⟩
   have hspent:nd.spent=ins.map fun s=>(V.da (ptD (fS s)),V.da (cG me)):=by rw [hnd,hmk]; rfl
   have hnum:nd.num=put:=by rw [hnd,hmk]
   rw [← hnd]
   refine⟨rfl,⟨⟨es6,ck6,es5,ck5,⟨(hJ.old g (by omega) hgs).trans og4,(hJ.old qn (by omega) hq).trans on4,hm5,by simpa using u2,?_,fun n hn=>?_,?_,fun n hn=>?_,by simp; omega⟩⟩,fun r hr h3 h4 h5=>?_,by omega,fun t k ht=>?_⟩⟩
   ·rw [List.flatMap_append]
    simp only [List.flatMap_cons,List.flatMap_nil,aG,hspent]
    exact hM5
   ·rcases aW.1 hn with h' | h'
    ·exact h.ok n h'
    ·obtain rfl:=bI.1 h'
     exact hndok
   ·rw [List.pairwise_append]
    refine⟨h.up,List.pairwise_singleton _ _,fun a ha b' hb'=>?_⟩
    obtain rfl:=bI.1 hb'
    have:=h.lt a ha
    omega
   ·rcases aW.1 hn with h' | h'
    ·have:=h.lt n h'
     omega
    ·obtain rfl:=bI.1 h'
     omega
   ·rw [hJ.old r (by omega) h5,old4 r h3,old3 r h4,old2 r (by omega),old r (by omega)]
   ·rw [hJ.tk,tk4,tk3,tk2,tk1]; exact ht
  obtain⟨sp,hsp⟩ : ∃ sp,ins[j]?=some sp:=⟨ins[j],by simp [hji]⟩
  have hok:=hT.si sp (aL hsp)
  have hrow:(fH ins)[j]?=some sp.row:=by simp [fH,hsp]
  have hia:=fun s=>LV.load hT.a hrow (fM hok) s
  have hjj:(j:Int)<ins.length:=by omega
  have ew:aJ.wrap ((j:Int)+1)=((j+1:Nat):Int):=by rw [bY (by omega) (by omega)]; omega
  simp [-bZ,-loadAt,-splice,-aA,hjj,hji,c34_k2,c34_k1,(hia s).1,(hia s).2,fM hok,gK]
  obtain⟨s2,hs2⟩ : ∃ t:St,(⟨s.objs++[.cells (List.map V.d sp.row)],s.toks⟩:St)=t:=⟨_,rfl⟩
  rw [hs2]
  have olds2 : ∀ r,r<s.objs.length→s2.objs[r]?=s.objs[r]?:=fun r hr=>by rw [← hs2]; simp only; rw [aC hr]
  have hls2:s2.objs.length=s.objs.length+1:=by rw [← hs2]; simp
  have o10:s2.objs[s.objs.length]?=some (.cells (List.map V.d sp.row)):=by rw [← hs2]; simp
  have tks2:s2.toks=s.toks:=by rw [← hs2]
  have l10:loadAt s2 true 33 (.ref s.objs.length 0)=some (.da (ptD (fS sp))):=by
   simp only [loadAt,o10,if_true,aQ,fM hok,bF,uV hok]
   exact congrArg some (iO _)
  have lg5:loadAt s2 false 1 (.ref g 1)=some (.map qs):=by
   have:s2.objs[g]?=_:=(olds2 g (by omega)).trans ((hJ.old g (by omega) hgs).trans og4)
   simp only [loadAt,this]; rfl
  have l85:=l8' s2 ((olds2 _ (by omega)).trans ((hJ.old _ (by omega) (by omega)).trans ((old4 _ (by omega)).trans (old3 _ (by omega)))))
  obtain⟨es5,ck5,hm5,hM5⟩:=hJ.m
  have hm6:s2.objs[qs]?=some (.map es5 ck5):=by rw [olds2 qs (by omega)]; exact hm5
  have hkey:jB true kP (.da (ptD (fS sp)))=true:=by simp only [jB,Bool.true_and]; exact mG hok
  have hnew:lkG (.da (ptD (fS sp))) (M.flatMap Nd.spent++(ins.take j).map fun s=>(V.da (ptD (fS s)),V.da (cG me)))=none:=by
   rw [aIq,uF,hms sp (aL hsp)]
   simp only [Option.map_none]
   have e:=vK (fS sp) (V.da (cG me)) [] (ins.take j)
   rw [aG] at e
   rw [e,if_neg]
   ·rfl
   ·have ht:(ins.take (j+1)).map fS=(ins.take j).map fS++[fS sp]:=by
     obtain⟨hi,rfl⟩:=aB.1 hsp
     rw [← aZ hi,List.map_append]
     rfl
    have h3:=hndp.sublist ((List.take_sublist (j+1) ins).map fS)
    rw [ht,List.nodup_append] at h3
    intro hin
    exact h3.2.2 _ hin _ (by simp) rfl
  obtain⟨w1,w2⟩:=hM5.ins hm6 hkey (x:=.da (cG me)) rfl hnew
  simp [-bZ,-loadAt,-aA,c34_k0]
  refine gP (fun _=>.raw) [] (by decide +kernel) ?_
  simp [-bZ,-loadAt,-aA,dB,gQ,lg5,l85,l10]
  refine xK w1 Kept.nil ?_
  simp [-loadAt,ew]
  rw [show((j:Int)+1)=((j+1:Nat):Int) from by omega]
  have htk:ins.take (j+1)=ins.take j++[sp]:=by
   obtain⟨hi,rfl⟩:=aB.1 hsp
   exact(aZ hi).symm
  refine⟨ins.length-(j+1),by omega,j+1,rfl,by omega,rfl,⟨⟨_,_,by simp only; rw [aO (by omega)],?_⟩,fun r hr hne=>?_,by simp; omega,by rw [← hJ.tk,← tks2]⟩⟩
  ·rw [htk,List.map_append,← bV]
   exact w2
  ·simp only
   rw [aF (by omega),olds2 r (by omega),hJ.old r hr hne]
end Go.Proofs.YtdfhfhcilfjdgaaGreatDoor.T

namespace Go.Proofs.YtdfhfhcilfjdgaaGreatDoor.T
open Go.Dn

def rmL (M:List Nd)(D:List (List UInt8)):List Nd:=M.filter fun n=>decide (n.id∉D)
theorem aIH (M:List Nd):rmL M []=M:=List.filter_eq_self.2 fun n _=>by simp
theorem aHc (M:List Nd)(D:List (List UInt8))(x:List UInt8):rmL M (D++[x])=(rmL M D).filter fun n=>decide (n.id≠x):=by
 unfold rmL
 rw [List.filter_filter]
 refine List.filter_congr fun n _=>?_
 by_cases h1:n.id∈D <;> by_cases h2:n.id=x <;> simp [h1,h2]
theorem zC {α β:Type}(p:α→Bool)(f:α→List β) : ∀ l:List α,((l.filter p).flatMap f).Sublist (l.flatMap f)
 | []=>List.Sublist.refl _
 | a::r=>by
  rw [List.filter_cons]
  split
  ·simp only [List.flatMap_cons]
   exact(List.Sublist.refl _).append (zC p f r)
  ·simp only [List.flatMap_cons]
   exact(zC p f r).trans (List.sublist_append_right _ _)
theorem aGP {M:List Nd}(hn:(M.map (·.id)).Nodup){a b:Nd}(ha:a∈M)(hb:b∈M)(h:a.id=b.id):a=b:=by
 have h1:=lR hn ha
 have h2:=lR hn hb
 rw [h,h2] at h1
 exact(aN.inj h1).symm
theorem aF1 {M:List Nd}(hn:(M.map (·.id)).Nodup)(hk:((M.flatMap Nd.spent).map (·.1)).Nodup){n:Nd}(hm:n∈M){L:List (V×V)}(hL:(L.map (·.1)).Nodup)(h : ∀ p,p∈L↔p∈M.flatMap Nd.spent∧∀ s∈n.ins,p.1 ≠ .da (ptD (fS s))) :
  L.Perm ((M.filter fun m=>decide (m.id≠n.id)).flatMap Nd.spent):=by
 have nd : ∀ {l:List (V×V)},(l.map (·.1)).Nodup→l.Nodup:=fun hl=>List.Pairwise.imp (fun h e=>h (by rw [e])) (List.pairwise_map.1 hl)
 refine(List.perm_ext_iff_of_nodup (nd hL) (nd (hk.sublist ((zC _ _ M).map _)))).2 fun p=>?_
 rw [h]
 constructor
 ·rintro ⟨h1,h2⟩
  obtain⟨m,hm1,hm2⟩:=List.mem_flatMap.1 h1
  refine List.mem_flatMap.2 ⟨m,aY.2 ⟨hm1,decide_eq_true fun e=>?_⟩,hm2⟩
  obtain rfl:=aGP hn hm1 hm e
  obtain⟨s,hs,rfl⟩:=aT.1 hm2
  exact h2 s hs rfl
 ·intro h1
  obtain⟨m,hm1,hm2⟩:=List.mem_flatMap.1 h1
  obtain⟨hm3,hm4⟩:=aY.1 hm1
  have hp:p∈M.flatMap Nd.spent:=List.mem_flatMap.2 ⟨m,hm3,hm2⟩
  refine⟨hp,fun s hs e=>?_⟩
  have hq:(V.da (ptD (fS s)),V.da (cG n.id))∈M.flatMap Nd.spent:=List.mem_flatMap.2 ⟨n,hm,aT.2 ⟨s,hs,rfl⟩⟩
  have h5:=aDS hk (k:=p.1) (v:=p.2) hp
  rw [e,aDS hk hq] at h5
  obtain⟨s',hs',rfl⟩:=aT.1 hm2
  have:=aN.inj h5
  simp only [V.da.injEq] at this
  have:=kY this
  simp [this] at hm4
theorem Gr.rem {σ s:St}{g qn qs ck ck2 put:Nat}{es es2:List Ent}{M:List Nd}(h:Gr σ g qn qs es ck es2 ck2 M put){n:Nd}(hm:n∈M){es3 es4:List Ent}{ck3 ck4:Nat}{Ln Ls:List (V×V)}
  (ho:s.objs[g]?=some (.cells [.map qn,.map qs,I put])) (hn:s.objs[qn]?=some (.map es3 ck3)) (hs:s.objs[qs]?=some (.map es4 ck4))
  (hMn:MpG true kH es3 ck3 Ln) (hMs:MpG true kP es4 ck4 Ls)
  (hLn:Ln.Perm ((M.filter fun m=>decide (m.id≠n.id)).map Nd.ent)) (hLs : ∀ p,p∈Ls↔p∈M.flatMap Nd.spent∧∀ s∈n.ins,p.1 ≠ .da (ptD (fS s))) :
  Gr s g qn qs es3 ck3 es4 ck4 (M.filter fun m=>decide (m.id≠n.id)) put :=
 ⟨ho,hn,hs,hMn.perm hLn,hMs.perm (aF1 h.nd h.ms.nd hm hMs.nd hLs),fun m hm=>h.ok m (aY.1 hm).1,h.up.sublist List.filter_sublist,fun m hm=>h.lt m (aY.1 hm).1,Nat.le_trans (List.length_filter_le _ _) h.len⟩
theorem aIh (M:List Nd)(id:List UInt8)(gd:V×V→Bool)(hg : ∀ p,gd p=true↔p.1 ≠ .da (cG id)):(M.map Nd.ent).filter gd=(M.filter fun m=>decide (m.id≠id)).map Nd.ent:=by
 rw [List.filter_map]
 congr 1
 refine List.filter_congr fun x _=>?_
 simp only [Function.comp]
 rw [Bool.eq_iff_iff,hg]
 by_cases e:x.id=id
 ·simp [Nd.ent,e]
 ·have : ¬ cG x.id=cG id:=fun h=>e (kY h)
  simp [Nd.ent,e,this]
def nZ (M:List Nd):List (List D):=M.map Nd.dat
end Go.Proofs.YtdfhfhcilfjdgaaGreatDoor.T

namespace Go.Proofs.YtdfhfhcilfjdgaaGreatDoor.T
open Go.Dn
attribute [local simp] dO dF GB aM aI aG dA eW cE dZ cS cK dY dX eM eP eS cM cW cX eN fD gD fQ fB dK fC gE cJ cY cZ dN eB eC gA eR eE eF eD cL cU cV fZ i_p dU fY eA eV dW eU dV eX gC t_p eY eH gB eJ cT eZ eI eG gM aE aH dC dM fP fO fR gR Opd.ev Env.get Env.set Env.pick eK dE cB eO eQ cF dD dG gO eL Res.ev fL cN dI gS fN fW fX gW fT fU fV cx Dn.newObj St.place St.push St.spot St.empty eT dP cO cR dS dQ dT cQ dR cP loadAt cH dL cI bZ ofD splice St.setObj fE

structure JO (σ s:St)(g qn qs:Nat)(M:List Nd)(put:Nat)(L:List (List UInt8))(DD:List (List UInt8))(vD v:V)(i:Nat):Prop where
 gr : ∃ es ck es2 ck2,Gr s g qn qs es ck es2 ck2 (rmL M (DD.take i)) put
 cD:ColB σ.objs.length s vD DD
 app:App s 3 v (nZ ((gX M L).take i))
 old : ∀ r,r<σ.objs.length→r≠g→r≠qn→r≠qs→s.objs[r]?=σ.objs[r]?
 len:σ.objs.length≤s.objs.length
 tk:Toks σ.toks s.toks none (Dn.own v)
def aJG (σ:St)(g qn qs:Nat)(M:List Nd)(put:Nat)(L:List (List UInt8))(DD:List (List UInt8))(vD:V)(m:Nat)(e:Env)(s:St):Prop:=∃ (i:Nat) (v:V),e=[(0,.ref g 0),(5,v),(15,vD),(16,I DD.length),(17,I i)]∧i≤DD.length∧m=DD.length-i∧JO σ s g qn qs M put L DD vD v i
structure JI (s3 s:St)(qs:Nat)(Mi:List Nd)(l:List SpG):Prop where
 m : ∃ es ck L,s.objs[qs]?=some (Dn.Obj.map es ck)∧MpG true kP es ck L∧∀ p,p∈L↔p∈Mi.flatMap Nd.spent∧∀ s∈l,p.1 ≠ .da (ptD (fS s))
 old : ∀ r,r<s3.objs.length→r≠qs→s.objs[r]?=s3.objs[r]?
 len:s3.objs.length≤s.objs.length
 tk:s.toks=s3.toks
def aHZ (s3:St)(g p7 qs:Nat)(v vD:V)(nD i:Nat)(va:V)(ins:List SpG)(Mi:List Nd)(m:Nat)(e:Env)(s:St):Prop:=∃ j:Nat,e=[(0,.ref g 0),(5,v),(7,.ref p7 0),(15,vD),(16,I nD),(17,I i),(35,va),(36,I ins.length),(37,I j)]∧j≤ins.length∧m=ins.length-j∧JI s3 s qs Mi (ins.take j)
theorem aII (M:List Nd)(L:List (List UInt8)):rmL M ((gX M L).map (·.id))=rmL M L:=by
 unfold rmL
 refine List.filter_congr fun n hn=>?_
 have:n.id∈(gX M L).map (·.id)↔n.id∈L:=by
  constructor
  ·intro h
   obtain⟨m,hm,e⟩:=aT.1 h
   have:=(aY.1 hm).2
   rw [← e]
   simpa using this
  ·intro h
   exact aT.2 ⟨n,aY.2 ⟨hn,decide_eq_true h⟩,rfl⟩
 by_cases h:n.id∈L <;> simp [this,h]
theorem aEc (M:List Nd) : ∀ r∈nZ M,r.length=3:=fun r hr=>by
 obtain⟨n,_,rfl⟩:=aT.1 hr
 rfl

set_option maxHeartbeats 1000000 in
theorem aDb {σ:St}{g qn qs ck ck2 put:Nat}{es es2:List Ent}{M:List Nd}(h:Gr σ g qn qs es ck es2 ck2 M put)(hq:qn≠qs){v:V}{L:List (List UInt8)}(hv:Hl σ v L)(h32:H32 L)(hn:L.length≤10000) :
  Dn.Call Γ cx .raw 38 [.ref g 0,v] σ fun w s=>LV w (nZ (gX M L))∧After σ s g qn qs (rmL M L) put:=by
 refine Dn.Call.body (fc:=c38) rfl ?_
 simp [-loadAt,c38,c38_k17,c38_k16]
 refine fF (aB1 h hv h32 (by omega)) fun w s1 ⟨q,K,hw,hS⟩=>?_
 subst hw
 have hnd:=h.nd
 have hg1:=h.more hS.old
 have ho:=uS hg1 hS.m fun id hid=>((hS.k id).1 hid).2
 rw [zZ hS.k hnd] at ho
 simp [-loadAt]
 refine fF ho fun vD s2 hv2=>?_
 obtain⟨a1,a2,a3,a4⟩:=pV hS hv2
 have hg2:=h.more a2
 generalize hD:(gX M L).map (·.id)=DD at *
 have hDl:DD.length=(gX M L).length:=by rw [← hD]; simp
 have hlD:gZ s2 .slice vD=some DD.length:=(a1.hl s2 fun _ _=>rfl).1
 have hgb:g<σ.objs.length:=(aB.1 h.o).1
 have hnb:qn<σ.objs.length:=(aB.1 h.n).1
 have hsb:qs<σ.objs.length:=(aB.1 h.s).1
 obtain⟨hgn,hgs⟩:=h.ne hq
 have hlim:DD.length≤90:=by
  rw [hDl]
  have:(gX M L).length≤M.length:=List.length_filter_le _ _
  have:=h.len
  omega
 simp [-loadAt,hlD,c38_k15]
 refine fK (aJG σ g qn qs M put L DD vD) (m:=DD.length) ⟨0,.d .nils,rfl,by omega,rfl,⟨⟨_,_,_,_,by rw [List.take_zero,aIH]; exact hg2⟩,a1,.nil,fun r hr _ _ _=>a2 r hr,a3,by rw [a4]; exact Toks.refl _ _⟩⟩ ?_
 clear hg2 a1 a2 a3 a4 hlD hv2 ho
 rintro m e s ⟨i,v5,rfl,hi,rfl,hJ⟩
 simp [-loadAt,c38_l14,c38_k13]
 by_cases hiD:i<DD.length
 rotate_left
 ·obtain rfl:i=DD.length:=by omega
  obtain⟨es',ck',es2',ck2',hG⟩:=hJ.gr
  have happ:=hJ.app
  rw [bC] at hG
  rw [hDl,bC] at happ
  rw [← hD,aII] at hG
  simp [c38_k0]
  exact⟨happ.lv,⟨⟨_,_,_,_,hG⟩,hJ.old,hJ.len,fun t k ht=>hJ.tk.other t k ht (by simp)⟩⟩
 obtain⟨n,hnO⟩ : ∃ n,(gX M L)[i]?=some n:=⟨(gX M L)[i]'(by omega),by simp [show i<(gX M L).length by omega]⟩
 have hDi:DD[i]?=some n.id:=by rw [← hD,bG,hnO]; rfl
 have hnM:n∈M:=(aY.1 (aL hnO)).1
 have hnok:=h.ok n hnM
 have hid:=hnok.id
 obtain⟨es5,ck5,es6,ck6,hG⟩:=hJ.gr
 have hsnoc:rmL M (DD.take (i+1))=(rmL M (DD.take i)).filter fun m=>decide (m.id≠n.id):=by
  have:DD.take (i+1)=DD.take i++[n.id]:=by
   obtain⟨hx,hy⟩:=aB.1 hDi
   rw [← hy]
   exact(aZ hx).symm
  rw [this,aHc]
 have hDn:DD.Nodup:=by rw [← hD]; exact hnd.sublist (List.filter_sublist.map _)
 have hnMi:n∈rmL M (DD.take i):=aY.2 ⟨hnM,decide_eq_true fun hin=>by
  obtain⟨k,hk⟩:=bQ hin
  have hki:k<i:=by have:=(aB.1 hk).1; simp at this; omega
  rw [List.getElem?_take_of_lt hki] at hk
  have:=(List.getElem?_inj (by omega) hDn).1 (hk.trans hDi.symm)
  omega⟩
 generalize hMi:rmL M (DD.take i)=Mi at *
 have hndi:=hG.nd
 have hfn:fnd Mi n.id=some n:=lR hndi hnMi
 obtain⟨p,hp1,hp2⟩:=(hJ.cD.hl s fun _ _=>rfl).2 i n.id hDi
 have hii:(i:Int)<DD.length:=by omega
 have hml:(cG n.id).length=32:=by rw [fG,hid]
 have zl:(aD 32 (V.d (D.int .u8 0))).length=32:=bS
 simp [-bZ,-loadAt,-splice,-aA,hii,hiD,c38_k12,c38_k11,hp1,hp2,gK,hml,zl]
 obtain⟨s3,hs3⟩ : ∃ t:St,(⟨s.objs++[.cells (List.map V.d (cG n.id))],s.toks⟩:St)=t:=⟨_,rfl⟩
 rw [hs3]
 have old3 : ∀ r,r<s.objs.length→s3.objs[r]?=s.objs[r]?:=fun r hr=>by rw [← hs3]; simp only; rw [aC hr]
 have hl3:s3.objs.length=s.objs.length+1:=by rw [← hs3]; simp
 have o7:s3.objs[s.objs.length]?=some (.cells (List.map V.d (cG n.id))):=by rw [← hs3]; simp
 have tk3:s3.toks=s.toks:=by rw [← hs3]
 clear hs3
 have hJl:=hJ.len
 obtain⟨n3,hn3⟩ : ∃ k,s3.objs.length=k:=⟨_,rfl⟩
 obtain⟨σr,hσr⟩ : ∃ t:St,s3.room 1=t:=⟨_,rfl⟩
 have olr : ∀ r,r<n3→σr.objs[r]?=s3.objs[r]?:=fun r hr=>by rw [← hσr]; simp only [St.room]; rw [aC (by omega)]
 have ofr:σr.objs[n3]?=some .free:=by rw [← hσr,← hn3]; simp [St.room]
 have hlr:σr.objs.length=n3+1:=by rw [← hσr,← hn3]; simp [St.room]
 have tkr:σr.toks=s3.toks:=by rw [← hσr]; rfl
 have hGr:Gr σr g qn qs es5 ck5 es6 ck6 Mi put:=hG.more fun r hr=>by rw [olr r (by omega),old3 r hr]
 have lg:loadAt σr false 1 (.ref g 0)=some (.map qn):=by have:=hGr.o; simp only [loadAt,this]; rfl
 have l7' : ∀ t:St,t.objs[s.objs.length]?=s3.objs[s.objs.length]?→loadAt t true 32 (.ref s.objs.length 0)=some (.da (cG n.id)):=fun t ht=>by
  rw [o7] at ht
  simp only [loadAt,ht,if_true,aQ,hml,bF]
  rw [aK (by simp [hml])]
  exact congrArg some (iO _)
 have l7:=l7' σr (olr _ (by omega))
 have hnod:=hGr.nod hid hfn
 have hcc:=vG n.cells
 have hc6:n.cells.length=6:=rfl
 have hset : ∀ o o',((σr.objs.set n3 o).set n3 o')=σr.objs.set n3 o':=fun o o'=>by simp
 have hget : ∀ o,(σr.objs.set n3 o)[n3]?=some o:=fun o=>by rw [aO (by omega)]
 simp [-loadAt,-bZ,-dL,-aA,c38_k10]
 refine gP (fun _=>.val) [] (by decide +kernel) ?_
 rw [hn3,hσr]
 simp [-loadAt,-bZ,-dL,-splice,-aA,lg,l7,gQ,hnod,ofr,hget,hset,hcc,hc6,gK]
 obtain⟨s4,hs4⟩ : ∃ t:St,(⟨σr.objs.set n3 (.cells n.cells),σr.toks⟩:St)=t:=⟨_,rfl⟩
 rw [hs4]
 have o8:s4.objs[n3]?=some (.cells n.cells):=by rw [← hs4]; exact hget _
 have old4 : ∀ r,r<n3→s4.objs[r]?=s3.objs[r]?:=fun r hr=>by rw [← hs4]; simp only; rw [aF (by omega),olr r hr]
 have hl4:s4.objs.length=n3+1:=by rw [← hs4]; simp [hlr]
 have tk4:s4.toks=s3.toks:=by rw [← hs4]; exact tkr
 clear hs4 hset hget hnod lg l7 hlr ofr olr hσr tkr hGr
 have l8:loadAt s4 true 3 (.ref n3 0)=some (bZ [n.a,n.b,.d (.bool n.f)]):=by simp only [loadAt,o8]; rfl
 have hbs : ∀ (e:Env) (x:Opd),x.ev e = .da [lvD n.a,lvD n.b,.bool n.f]→dC (.bslice 27 1 3 [.nils,.nils,.bool false] [(0,x)]) e s4=some (.fl [[lvD n.a,lvD n.b,.bool n.f]]):=fun e x hx=>lK hx rfl rfl
 simp [-loadAt,-bZ,-aA,c38_k9,l8]
 refine gI (tS (hnok.bv _)) (aDd hnok.txd.ok (by simp [fH]; have:=hnok.li; omega) (by simp [gH]; have:=hnok.lo; omega)) (hnok.hp (r:=.da n.dat) rfl) ?_
 have hil:i≤90:=by omega
 have htl:(nZ ((gX M L).take i)).length≤90:=by simp [nZ]; omega
 obtain⟨v6,s5,ap2,h6,o6,t6,-⟩:=App.push (σ:=s4) (sz:=3) (bytes:=56) (v:=v5) (hJ.app.toks (tk4.trans tk3)) (by decide) (aEc _) (ys:=[[lvD n.a,lvD n.b,.bool n.f]]) (by simp) (by simp; omega) (by simp; omega)
 have etx:nZ ((gX M L).take i)++[[lvD n.a,lvD n.b,.bool n.f]]=nZ ((gX M L).take (i+1)):=by
  obtain⟨hx,hy⟩:=aB.1 hnO
  rw [← aZ hx,hy]
  simp [nZ,Nd.dat]
 rw [etx] at h6
 simp only [eR,eK,Env.set]
 simp [-loadAt,-bZ,-aA,↓hbs]
 refine gN (v:=v6) (s:=s5) ?_ ?_
 ·simp [V.rows]
  exact ap2 none
 have hl5:s5.objs.length=n3+1:=by rw [o6,hl4]
 have la5:loadAt s5 false 1 (.ref n3 0)=some n.a:=by simp only [loadAt,o6,o8]; rfl
 have hlen : ∀ t,gZ t .slice n.a=some n.ins.length:=fun t=>by rw [hnok.a.len]; simp [fH]
 have old5 : ∀ r,r<s.objs.length→s5.objs[r]?=s.objs[r]?:=fun r hr=>by rw [o6,old4 r (by omega),old3 r hr]
 have hG5:Gr s5 g qn qs es5 ck5 es6 ck6 Mi put:=hG.more old5
 have hli:=hnok.li
 simp [-loadAt,c38_k8,la5,hlen,c38_k7]
 refine fK (aHZ s5 g s.objs.length qs v6 vD DD.length i n.a n.ins Mi) (m:=n.ins.length) ⟨0,rfl,by omega,rfl,⟨⟨es6,ck6,_,hG5.s,hG5.ms,fun p=>by simp⟩,fun _ _ _=>rfl,bB _,rfl⟩⟩ ?_
 rintro m e t ⟨j,rfl,hj,rfl,hI⟩
 have hIl:=hI.len
 obtain⟨es7,ck7,Lj,hm7,hM7,hLj⟩:=hI.m
 simp [-bZ,-loadAt,c38_l6,c38_k5]
 have l7t:=l7' t (by rw [hI.old _ (by omega) (by omega),o6,old4 _ (by omega)])
 have ogt:t.objs[g]?=some (.cells [.map qn,.map qs,I put]):=by rw [hI.old _ (by omega) hgs]; exact hG5.o
 have ont:t.objs[qn]?=some (.map es5 ck5):=by rw [hI.old _ (by omega) hq]; exact hG5.n
 have ewi:aJ.wrap ((i:Int)+1)=((i+1:Nat):Int):=by rw [bY (by omega) (by omega)]; omega
 by_cases hji:j<n.ins.length
 rotate_left
 ·obtain rfl:j=n.ins.length:=by omega
  rw [bC] at hLj
  have lg:loadAt t false 1 (.ref g 0)=some (.map qn):=by simp only [loadAt,ogt]; rfl
  obtain⟨u1,u2⟩:=hG5.mn.del ont (mO hid)
  simp [-bZ,-loadAt,-aA,c38_k1]
  refine gP (fun _=>.raw) [] (by decide +kernel) ?_
  simp [-bZ,-loadAt,-aA,dB,gQ,lg,l7t]
  refine xJ u1 Kept.nil ?_
  simp [-loadAt,ewi]
  rw [show((i:Int)+1)=((i+1:Nat):Int) from by omega]
  refine⟨DD.length-(i+1),by omega,i+1,v6,rfl,by omega,rfl,⟨⟨tX (.da (cG n.id)) es5,ck5,es7,ck7,?_⟩,?_,?_,fun r hr h3 h4 h5=>?_,by simp; omega,?_⟩⟩
  ·rw [hsnoc]
   refine hG5.rem hnMi ?_ ?_ ?_ u2 hM7 ?_ hLj
   ·simp only; rw [aF (by omega)]; exact ogt
   ·simp only; rw [aO (by omega)]
   ·simp only; rw [aF (by omega)]; exact hm7
   ·rw [aIh Mi n.id _ fun p=>by simp]
  ·refine hJ.cD.keep fun r hlo hr=>?_
   simp only
   rw [aF (by omega),hI.old r (by omega) (by omega),old5 r hr]
  ·exact h6.toks hI.tk
  ·simp only
   rw [aF (by omega),hI.old r (by omega) h5,old5 r (by omega),hJ.old r hr h3 h4 h5]
  ·have e1:Toks σ.toks s4.toks none (Dn.own v5):=by rw [tk4,tk3]; exact hJ.tk
   have e2:=e1.trans t6
   rw [← hI.tk] at e2
   exact e2
 obtain⟨sp,hsp⟩ : ∃ sp,n.ins[j]?=some sp:=⟨n.ins[j],by simp [hji]⟩
 have hok:=hnok.si sp (aL hsp)
 have hrow:(fH n.ins)[j]?=some sp.row:=by simp [fH,hsp]
 have hia:=fun s=>LV.load hnok.a hrow (fM hok) s
 have hjj:(j:Int)<n.ins.length:=by omega
 have ew:aJ.wrap ((j:Int)+1)=((j+1:Nat):Int):=by rw [bY (by omega) (by omega)]; omega
 simp [-bZ,-loadAt,-splice,-aA,hjj,hji,c38_k4,c38_k3,(hia t).1,(hia t).2,fM hok,gK]
 obtain⟨t2,ht2⟩ : ∃ u:St,(⟨t.objs++[.cells (List.map V.d sp.row)],t.toks⟩:St)=u:=⟨_,rfl⟩
 rw [ht2]
 have oldt2 : ∀ r,r<t.objs.length→t2.objs[r]?=t.objs[r]?:=fun r hr=>by rw [← ht2]; simp only; rw [aC hr]
 have hlt2:t2.objs.length=t.objs.length+1:=by rw [← ht2]; simp
 have o10:t2.objs[t.objs.length]?=some (.cells (List.map V.d sp.row)):=by rw [← ht2]; simp
 have tkt2:t2.toks=t.toks:=by rw [← ht2]
 have l10:loadAt t2 true 33 (.ref t.objs.length 0)=some (.da (ptD (fS sp))):=by
  simp only [loadAt,o10,if_true,aQ,fM hok,bF,uV hok]
  exact congrArg some (iO _)
 have lg5:loadAt t2 false 1 (.ref g 1)=some (.map qs):=by
  have:t2.objs[g]?=_:=(oldt2 g (by omega)).trans ogt
  simp only [loadAt,this]; rfl
 have hm8:t2.objs[qs]?=some (.map es7 ck7):=by rw [oldt2 qs (by omega)]; exact hm7
 have hkey:jB true kP (.da (ptD (fS sp)))=true:=by simp only [jB,Bool.true_and]; exact mG hok
 obtain⟨w1,w2⟩:=hM7.del hm8 hkey
 simp [-bZ,-loadAt,-aA,c38_k2]
 refine gP (fun _=>.raw) [] (by decide +kernel) ?_
 simp [-bZ,-loadAt,-aA,dB,gQ,lg5,l10]
 refine xJ w1 Kept.nil ?_
 simp [-loadAt,ew]
 rw [show((j:Int)+1)=((j+1:Nat):Int) from by omega]
 have htk:n.ins.take (j+1)=n.ins.take j++[sp]:=by
  obtain⟨hx,hy⟩:=aB.1 hsp
  rw [← hy]
  exact(aZ hx).symm
 refine⟨n.ins.length-(j+1),by omega,j+1,rfl,by omega,rfl,⟨⟨_,_,_,by simp only; rw [aO (by omega)],w2,fun p=>?_⟩,fun r hr hne=>?_,by simp; omega,by rw [← hI.tk,← tkt2]⟩⟩
 ·rw [aY,hLj,htk]
  simp only [aW,bI]
  constructor
  ·rintro ⟨⟨h1,h2⟩,h3⟩
   refine⟨h1,fun s hs=>?_⟩
   rcases hs with hs | rfl
   ·exact h2 s hs
   ·simpa using h3
  ·rintro ⟨h1,h2⟩
   exact⟨⟨h1,fun s hs=>h2 s (.inl hs)⟩,by simpa using h2 sp (.inr rfl)⟩
 ·simp only
  rw [aF (by omega),oldt2 r (by omega),hI.old r hr hne]

def xQ (i o:D)(n:Nd):List D:=[i,o,.bool n.f]++cG n.id++[.int .i64 n.fee]
structure RR (M:List Nd)(rows:List (List D)):Prop where
 len:rows.length=M.length
 at_ : ∀ (k:Nat) (n:Nd),M[k]?=some n→∃ i o,rows[k]?=some (xQ i o n)∧LV (.d i) (fH n.ins)∧LV (.d o) (gH n.outs)
 ok : ∀ n∈M,n.Ok
structure RG (x:D)(n:Nd)(k:Nat)(i o:D)(row:List D):Prop where
 e:row=xQ i o n
 len:row.length=36
 ia : ∀ σ,jA σ 36 (.d x) (I k)=some (.ro row)
 l36 : ∀ σ,loadAt σ true 36 (.ro row)=some (.da row)
 f3:cH 3 (.ro row)=some (.ro (row.drop 3))
 l3 : ∀ σ,loadAt σ true 32 (.ro (row.drop 3))=some (.da (cG n.id))
 f0:cH 0 (.ro row)=some (.ro row)
 l0 : ∀ σ,loadAt σ false 1 (.ro row)=some (.d i)
 lt : ∀ σ,loadAt σ true 3 (.ro row)=some (.da [i,o,.bool n.f])
 f1:cH 1 (.ro row)=some (.ro row.tail)
 l1 : ∀ σ,loadAt σ false 1 (.ro row.tail)=some (.d o)
 f35:cH 35 (.ro row)=some (.ro (row.drop 35))
 l35 : ∀ σ,loadAt σ false 1 (.ro (row.drop 35))=some (I n.fee)
 i:LV (.d i) (fH n.ins)
 o:LV (.d o) (gH n.outs)
theorem aCS {i o:D}{n:Nd}(h:n.id.length=32):(xQ i o n).length=36:=by simp [xQ,fG,h]
theorem RR.get {M:List Nd}{rows:List (List D)}(h:RR M rows){x:D}(hx:LV (.d x) rows){k:Nat}{n:Nd}(hk:M[k]?=some n) : ∃ i o row,rows[k]?=some row∧RG x n k i o row:=by
 obtain⟨i,o,h1,h2,h3⟩:=h.at_ k n hk
 have hid:=(h.ok n (aL hk)).id
 have hl:(xQ i o n).length=36:=aCS hid
 have hd35:(xQ i o n).drop 35=[.int .i64 n.fee]:=by
  unfold xQ
  exact List.drop_left' (by simp [fG,hid])
 have hd3:(xQ i o n).drop 3=cG n.id++[.int .i64 n.fee]:=rfl
 refine⟨i,o,xQ i o n,h1,⟨rfl,hl,fun σ=>hx.iaddr σ (k:=.i64) (sz:=36) h1 hl,fun σ=>?_,?_,fun σ=>?_,?_,fun σ=>rfl,fun σ=>?_,?_,fun σ=>rfl,?_,fun σ=>?_,h2,h3⟩⟩
 ·simp only [loadAt,if_true,hl,bB]
  rw [aK (by omega)]
 ·simp only [cH,hl]; rfl
 ·rw [hd3]
  simp only [loadAt,if_true,aX,fG,hid]
  rw [if_pos (by simp),List.take_append_of_le_length (by simp [fG,hid]),aK (by simp [fG,hid])]
 ·simp only [cH,Nat.zero_le,if_true,bF]
 ·simp only [loadAt,if_true,hl]
  rfl
 ·simp only [cH,hl]; rfl
 ·simp only [cH,hl]; rfl
 ·rw [hd35]; rfl
theorem hY (off r o:Nat):cH off (.ref r o)=some (.ref r (o+off)):=rfl
theorem yX {a b:List UInt8}(ha:a.length=32)(hb:b.length=32)(x y:Bool):cB .eql .flat (aD 32 (.int .u8)) (.da (cG a)) (.da (cG b)) x y=some (B (decide (a=b))):=by
 simp only [cB,aBA ha hb,Option.map_some]
theorem nP {id:List UInt8}(hid:id.length=32)(s:St)(r:Nat)(h:s.objs[r]?=some (.cells (byV id))):loadAt s true 32 (.ref r 0)=some (.da (cG id)):=by
 simp only [loadAt,h,if_true,hU,hid,bF]
 rw [aK (by simp [hU,hid])]
 simp [bZ,nJ,cG]

def aHP (x:D)(M:List Nd)(id:List UInt8)(m:Nat)(e:Env) (σ:St):Prop:=∃ k:Nat,e=[(0,.d x),(3,.ref 0 0),(5,I k)]∧k≤M.length∧m=M.length-k∧σ=⟨[.cells (byV id)],[]⟩∧∀ n∈M.take k,n.id≠id
theorem aFn {M:List Nd}{k:Nat}{n:Nd}{id:List UInt8}(hk:M[k]?=some n)(h:n.id=id)(hno : ∀ n∈M.take k,n.id≠id):fnd M id=some n:=by
 have e:M.take k++n::M.drop (k+1)=M:=by
  obtain⟨hl,rfl⟩:=aB.1 hk
  rw [← List.drop_eq_getElem_cons hl,List.take_append_drop]
 have:List.find? (fun n:Nd=>decide (n.id=id)) (M.take k++n::M.drop (k+1))=some n:=by
  rw [List.find?_append,List.find?_eq_none.2 (fun m hm=>by simpa using hno m hm),List.find?_cons]
  simp [h]
 rw [e] at this
 exact this
theorem aGK {M:List Nd}{id:List UInt8}(hno : ∀ n∈M,n.id≠id):fnd M id=none:=List.find?_eq_none.2 fun m hm=>by simpa using hno m hm

theorem aKn {x:D}{M:List Nd}{rows:List (List D)}(hx:LV (.d x) rows)(h:RR M rows)(hl:M.length≤1000){id:List UInt8}(hid:id.length=32) :
  Dn.Call Γ cx .val 54 [.d x,.da (cG id)] St.empty fun v _=>(∃ (k:Nat) (n:Nd),v=I k∧M[k]?=some n∧fnd M id=some n)∨(v=I (-1)∧fnd M id=none):=by
 refine Dn.Call.body (fc:=c54) rfl ?_
 have hlx : ∀ σ,gZ σ .slice (.d x)=some M.length:=fun σ=>by rw [hx.len,h.len]
 simp [-aA,c54,iH,c54_k7,c54_k6]
 refine fK (aHP x M id) (m:=M.length) ⟨0,rfl,by omega,rfl,rfl,by simp⟩ ?_
 rintro m e σ ⟨k,rfl,hk,rfl,rfl,hno⟩
 simp [-loadAt,c54_l5,hlx,c54_k4]
 by_cases hkl:k<M.length
 ·obtain⟨n,hn⟩ : ∃ n,M[k]?=some n:=⟨M[k],by simp [hkl]⟩
  obtain⟨i,o,row,hr,G⟩:=h.get hx hn
  have hnid:=(h.ok n (aL hn)).id
  have hb:=nP hid ⟨[.cells (byV id)],[]⟩ 0 rfl
  have ia:=G.ia
  have f3:=G.f3
  have l3:=G.l3
  have hcmp:=yX hnid hid
  simp [-loadAt,hkl,c54_k3,c54_k2,-aA]
  refine gP (fun _=>.val) [] (by decide +kernel) ?_
  simp [-loadAt,-cH,-cB,hY,dB,-aA,ia,f3,l3,hb,hcmp]
  by_cases e:n.id=id
  ·simp [e,c54_k1]
   exact⟨k,rfl,n,hn,aFn hn e hno⟩
  ·simp [e,c54_k1,c54_k0,bY (n:=(k:Int)+1) (by omega) (by omega)]
   refine⟨M.length-(k+1),by omega,k+1,rfl,by omega,rfl,rfl,fun n' hn'=>?_⟩
   obtain⟨hl',rfl⟩:=aB.1 hn
   rw [← aZ hl'] at hn'
   rcases aW.1 hn' with h' | h'
   ·exact hno n' h'
   ·obtain rfl:=bI.1 h'
    exact e
 ·obtain rfl:k=M.length:=by omega
  rw [bC] at hno
  simp
  exact aGK hno

theorem uY {x:D}{M:List Nd}{rows:List (List D)}(hx:LV (.d x) rows)(h:RR M rows)(hl:M.length≤1000){id:List UInt8}(hid:id.length=32) {σ:St}{Q:jD}
  (h1 : ∀ (k:Nat) (n:Nd),M[k]?=some n→fnd M id=some n→Q (I k) σ) (h2:fnd M id=none→Q (I (-1)) σ):callK (Dn.Call Γ cx) cx 54 [.d x,.da (cG id)] σ Q :=
 kA (ds:=[.d x,.da (cG id)]) rfl (aKn hx h hl hid) fun v s hv=>by
  rcases hv with⟨k,n,rfl,a,b⟩ | ⟨rfl,b⟩
  ·exact⟨rfl,fun h=>(by cases h),h1 k n a b⟩
  ·exact⟨rfl,fun h=>(by cases h),h2 b⟩
theorem aHz {x:D}{M:List Nd}{rows:List (List D)}(hx:LV (.d x) rows)(h:RR M rows)(hl:M.length≤1000){id:List UInt8}(hid:id.length=32) :
  Dn.Call Γ cx .val 49 [.d x,.da (cG id)] St.empty fun v _=>v=B (fnd M id).isSome:=by
 refine Dn.Call.body (fc:=c49) rfl ?_
 have hb:=nP hid ⟨[.cells (byV id)],[]⟩ 0 rfl
 simp [-loadAt,-aA,c49,iH,c49_k0,hb]
 refine uY hx h hl hid (fun k n hk hf=>?_) fun hf=>?_
 ·simp [hf]
 ·simp [hf]
def nod36:List D:=[.nils,.nils,.bool false]++aD 32 (.int .u8 0)++[.int .i64 0]
theorem aKv {x:D}{M:List Nd}{rows:List (List D)}(hx:LV (.d x) rows)(h:RR M rows)(hl:M.length≤1000){id:List UInt8}(hid:id.length=32) :
  Dn.Call Γ cx .val 14 [.d x,.da (cG id)] St.empty fun v _=>(∃ (k:Nat) (n:Nd) (i o:D) (row:List D),v = .tup [.da row,B true]∧M[k]?=some n∧fnd M id=some n∧RG x n k i o row)∨(v = .tup [.da nod36,B false]∧fnd M id=none):=by
 refine Dn.Call.body (fc:=c14) rfl ?_
 simp [-loadAt,-aA,c14,iH]
 obtain⟨zl,hzl⟩ : ∃ zl,zl=nod36.map V.d:=⟨_,rfl⟩
 have hz36:zl.length=36:=by rw [hzl]; rfl
 change gF _ _ _ _ ⟨[.cells (byV id),.cells (nod36.map V.d)],[]⟩ _
 rw [← hzl]
 have hb:=nP hid ⟨[.cells (byV id),.cells zl],[]⟩ 0 rfl
 simp [-loadAt,-aA,c14_k3,hb]
 refine uY hx h hl hid (fun k n hk hf=>?_) fun hf=>?_
 ·obtain⟨i,o,row,hr,G⟩:=h.get hx hk
  have ia:=G.ia
  have l36:=G.l36
  have hrl:=G.len
  have hl4:loadAt ⟨[.cells (byV id),.cells (row.map V.d)],[]⟩ true 36 (.ref 1 0)=some (.da row):=by
   simp only [loadAt,List.getElem?_cons_succ,List.getElem?_cons_zero,if_true,aQ,hrl,bF]
   rw [aK (by simp [hrl])]
   exact congrArg some (iO _)
  have hk0 : ¬ ((k:Int)<0):=by omega
  simp [-loadAt,-splice,-aA,c14_k2,c14_k1,c14_k0,hk0,ia,l36,gK,hrl,hz36,hl4]
  exact⟨k,n,hk,hf,i,o,G⟩
 ·simp [-loadAt,-splice,-aA,c14_k2,c14_k1,gK,hz36]
  exact⟨.tup [.da nod36,B false],rfl,.inr ⟨rfl,hf⟩⟩

def aKN (y:D)(L:List (List UInt8))(id:List UInt8)(m:Nat)(e:Env) (σ:St):Prop:=∃ k:Nat,e=[(0,.d y),(3,.ref 0 0),(5,I k)]∧k≤L.length∧m=L.length-k∧σ=⟨[.cells (byV id)],[]⟩∧id∉L.take k
theorem aES {y:D}{L:List (List UInt8)}(hy:LV (.d y) (hH L))(h32:H32 L)(hl:L.length≤100000){id:List UInt8}(hid:id.length=32) :
  Dn.Call Γ cx .val 50 [.d y,.da (cG id)] St.empty fun v _=>v=B (decide (id∈L)):=by
 refine Dn.Call.body (fc:=c50) rfl ?_
 have hly : ∀ σ,gZ σ .slice (.d y)=some L.length:=fun σ=>by rw [hy.len,iN]
 simp [-aA,c50,iH,c50_k7,c50_k6]
 refine fK (aKN y L id) (m:=L.length) ⟨0,rfl,by omega,rfl,rfl,by simp⟩ ?_
 rintro m e σ ⟨k,rfl,hk,rfl,rfl,hno⟩
 simp [-loadAt,c50_l5,hly,c50_k4]
 by_cases hkl:k<L.length
 ·obtain⟨a,ha⟩ : ∃ a,L[k]?=some a:=⟨L[k],by simp [hkl]⟩
  have ha32:=h32 a (aL ha)
  have hia:=fun σ=>LV.load hy (nS ha) (show(cG a).length=32 by rw [fG,ha32]) σ
  have ia:=fun σ=>(hia σ).1
  have la:=fun σ=>(hia σ).2
  have hb:=nP hid ⟨[.cells (byV id)],[]⟩ 0 rfl
  have hcmp:=yX ha32 hid
  simp [-loadAt,hkl,c50_k3,c50_k2,-aA]
  refine gP (fun _=>.val) [] (by decide +kernel) ?_
  simp [-loadAt,-cB,dB,-aA,ia,la,hb,hcmp]
  have htk:L.take (k+1)=L.take k++[a]:=by
   obtain⟨hx,hy⟩:=aB.1 ha
   rw [← hy]
   exact(aZ hx).symm
  by_cases e:a=id
  ·subst e
   simp [c50_k1]
   exact aL ha
  ·simp [e,c50_k1,c50_k0,bY (n:=(k:Int)+1) (by omega) (by omega)]
   refine⟨L.length-(k+1),by omega,k+1,rfl,by omega,rfl,rfl,?_⟩
   rw [htk]
   simp only [aW,bI,not_or]
   exact⟨hno,fun h=>e h.symm⟩
 ·obtain rfl:k=L.length:=by omega
  rw [bC] at hno
  simp
  exact hno

theorem aFq (a b:List (List UInt8)):hH (a++b)=hH a++hH b:=by simp [hH]
theorem App.hash {σ:St}{v:V}{L:List (List UInt8)}(h:App σ 32 v (hH L))(h32:H32 L)(hl:L.length≤1000000){id:List UInt8}(hid:id.length=32) :
  ∃ v' s',jE σ none 32 32 v [cG id]=some (v',s')∧App s' 32 v' (hH (L++[id]))∧s'.objs=σ.objs∧σ.toks.length≤s'.toks.length:=by
 obtain⟨v',s',a1,a2,a3,a4,_⟩:=h.push (bytes:=32) (by decide) (sK h32) (ys:=[cG id]) (by simp [fG,hid]) (by rw [iN]; simp; omega) (by rw [iN]; simp; omega)
 refine⟨v',s',a1 none,?_,a3,a4.len⟩
 rw [aFq]
 exact a2
theorem App.val {σ:St}{v:V}{L:List (List UInt8)}(h:App σ 32 v (hH L))(hn:L=[]→v = .d .nils):V.byVal σ v=some (.d (hlD L)):=by
 unfold hlD
 by_cases hL:L=[]
 ·rw [if_pos hL,hn hL]; rfl
 ·rw [if_neg hL]
  generalize hr:hH L=rows at *
  cases h with
  | nil=>exact absurd (by simpa [hH] using hr) hL
  | fl=>rfl
  | tl=>rfl
def aJu (σ0:St)(x y:D)(M:List Nd)(L:List (List UInt8))(m:Nat)(e:Env) (σ:St):Prop:=∃ (k:Nat) (v:V),e=[(0,.d x),(1,.d y),(5,v),(6,I k)]∧k≤M.length∧m=M.length-k∧(σ.objs=σ0.objs∧σ0.toks.length≤σ.toks.length)∧App σ 32 v (hH ((gX (M.take k) L).map (·.id)))∧((gX (M.take k) L).map (·.id)=[]→v = .d .nils)
theorem vP {M:List Nd}{k:Nat}{n:Nd}(hk:M[k]?=some n)(L:List (List UInt8)):gX (M.take (k+1)) L=gX (M.take k) L++(if n.id∈L then [n] else []):=by
 obtain⟨hl,rfl⟩:=aB.1 hk
 rw [← aZ hl]
 unfold gX
 rw [List.filter_append]
 congr 1
 by_cases h:M[k].id∈L <;> simp [h]
theorem aLg {M:List Nd}(h : ∀ n∈M,n.Ok)(L:List (List UInt8)):H32 ((gX M L).map (·.id)):=fun x hx=>by
 obtain⟨n,hn,rfl⟩:=aT.1 hx
 exact(h n (aY.1 hn).1).id
theorem aIA (M:List Nd)(L:List (List UInt8)):((gX M L).map (·.id)).length≤M.length:=by
 rw [aQ]
 exact List.length_filter_le _ _
theorem aBg {σ0:St}{x y:D}{M:List Nd}{rows:List (List D)}{L:List (List UInt8)}(hx:LV (.d x) rows)(h:RR M rows)(hl:M.length≤1000)(hy:LV (.d y) (hH L))(h32:H32 L)(hll:L.length≤100000) :
  Dn.Call Γ cx .raw 60 [.d x,.d y] σ0 fun v s=>App s 32 v (hH ((gX M L).map (·.id)))∧((gX M L).map (·.id)=[]→v = .d .nils)∧s.objs=σ0.objs∧σ0.toks.length≤s.toks.length:=by
 refine Dn.Call.body (fc:=c60) rfl ?_
 have hlx : ∀ σ,gZ σ .slice (.d x)=some M.length:=fun σ=>by rw [hx.len,h.len]
 simp [c60,c60_k9,c60_k8,c60_k7]
 refine fK (aJu σ0 x y M L) (m:=M.length) ⟨0,.d .nils,rfl,by omega,rfl,⟨rfl,bB _⟩,.nil,fun _=>rfl⟩ ?_
 rintro m e σ ⟨k,v,rfl,hk,rfl,ho,hv,hn0⟩
 simp [-loadAt,c60_l6,hlx,c60_k5]
 by_cases hkl:k<M.length
 ·obtain⟨n,hn⟩ : ∃ n,M[k]?=some n:=⟨M[k],by simp [hkl]⟩
  obtain⟨i,o,row,hr,G⟩:=h.get hx hn
  have hnid:=(h.ok n (aL hn)).id
  have ia:=G.ia
  have f3:=G.f3
  have l3:=G.l3
  have hs:=vP hn L
  have ew:aJ.wrap ((k:Int)+1)=(k:Int)+1:=bY (by omega) (by omega)
  simp [-loadAt,-cH,hY,hkl,-aA,c60_k4,c60_k3,ia,f3,l3]
  refine gI rfl (aES hy h32 hll hnid) rfl ?_
  by_cases e:n.id∈L
  ·have hbs : ∀ (e:Env) (y:Opd),y.ev e = .da (cG n.id)→dC (.bslice 45 1 32 (aD 32 (.int .u8 0)) [(0,y)]) e σ=some (.fl [cG n.id]):=fun e y hx=>lK hx (by simp) (by rw [fG,hnid])
   rw [if_pos e] at hs
   obtain⟨v',s',a1,a2,a3,a4⟩:=App.hash hv (aLg (fun n hn=>h.ok n (List.mem_of_mem_take hn)) L) (by have:=aIA (M.take k) L; simp at this ⊢; omega) hnid
   simp [-loadAt,-cH,hY,e,-aA,c60_k2,ia,f3,l3,↓hbs]
   refine gN (v:=v') (s:=s') ?_ ?_
   ·simp [V.rows]
    exact a1
   simp [c60_k1,ew]
   exact⟨M.length-(k+1),by omega,k+1,v',rfl,by omega,rfl,⟨a3.trans ho.1,by omega⟩,by rw [hs]; simpa using a2,fun h0=>by rw [hs] at h0; simp at h0⟩
  ·rw [if_neg e,aG] at hs
   simp [e,c60_k2,c60_k1,ew]
   exact⟨M.length-(k+1),by omega,k+1,v,rfl,by omega,rfl,ho,by rw [hs]; exact hv,fun h0=>hn0 (by rw [hs] at h0; exact h0)⟩
 ·obtain rfl:k=M.length:=by omega
  rw [bC] at hv hn0
  simp [c60_k0]
  exact⟨by simpa using hv,fun h0=>hn0 (by simpa using h0),ho.1,ho.2⟩
theorem aDc {x y:D}{M:List Nd}{rows:List (List D)}{L:List (List UInt8)}(hx:LV (.d x) rows)(h:RR M rows)(hl:M.length≤1000)(hy:LV (.d y) (hH L))(h32:H32 L)(hll:L.length≤100000) :
  Dn.Call Γ cx .val 60 [.d x,.d y] St.empty fun v _=>v = .d (hlD ((gX M L).map (·.id))) :=
 Call.as_val rfl rfl (aBg (σ0:=St.empty) hx h hl hy h32 hll) fun v s ⟨a,b,_,_⟩=>⟨_,App.val a b,rfl⟩

theorem aK9 {a b:List UInt8×Int}(ha:jB true kP (.da (ptD a))=true)(hb:jB true kP (.da (ptD b))=true)(x y:Bool):cB .eql .flat (aD 32 (.int .u8)++[.int .i64]) (.da (ptD a)) (.da (ptD b)) x y=some (B (decide (a=b))):=by
 have h1:fI (aD 32 (.int .u8)++[.int .i64]) (ptD a)=true:=by simp only [jB,Bool.true_and] at ha; exact ha
 have h2:fI (aD 32 (.int .u8)++[.int .i64]) (ptD b)=true:=by simp only [jB,Bool.true_and] at hb; exact hb
 simp only [cB,eqV,h1,h2,Bool.and_self,if_true,Option.map_some]
 by_cases e:a=b
 ·subst e; simp
 ·have : ¬ ptD a=ptD b:=fun h=>e (aEL h)
  simp [e,this]
theorem aB8 {s:SpG}(h:s.Ok):jB true kP (.da (ptD (fS s)))=true:=by simp only [jB,Bool.true_and]; exact mG h
theorem wA {s:SpG}(h:s.Ok) (σ:St):loadAt σ true 33 (.ro s.row)=some (.da (ptD (fS s))):=by
 have e:s.row.take 33=ptD (fS s):=yF h
 simp only [loadAt,if_true,fM h,e]
 rfl
theorem aJZ {p:List UInt8×Int}(hp:p.1.length=32)(s:St)(r:Nat)(h:s.objs[r]?=some (.cells ((ptD p).map V.d))):loadAt s true 33 (.ref r 0)=some (.da (ptD p)):=by
 simp only [loadAt,h,if_true,aQ,aBR hp,bF]
 rw [aK (by simp [aBR hp])]
 exact congrArg some (iO _)
def aJM (x:D)(M:List Nd)(p:List UInt8×Int)(m:Nat)(e:Env) (σ:St):Prop:=∃ k:Nat,e=[(0,.d x),(3,.ref 0 0),(4,.ref 1 0),(6,I k)]∧k≤M.length∧m=M.length-k∧σ=⟨[.cells ((ptD p).map V.d),.cells (aD 32 (.d (.int .u8 0)))],[]⟩∧∀ n∈M.take k,p∉n.ins.map fS
def aJL (x:D)(k:Nat)(ins:List SpG)(p:List UInt8×Int)(m:Nat)(e:Env) (σ:St):Prop:=∃ j:Nat,e=[(0,.d x),(3,.ref 0 0),(4,.ref 1 0),(6,I k),(7,I j)]∧j≤ins.length∧m=ins.length-j∧σ=⟨[.cells ((ptD p).map V.d),.cells (aD 32 (.d (.int .u8 0)))],[]⟩∧p∉(ins.take j).map fS
theorem aF3 {M:List Nd}{k:Nat}{n:Nd}{p:List UInt8×Int}(hk:M[k]?=some n)(h:p∈n.ins.map fS)(hno : ∀ n∈M.take k,p∉n.ins.map fS):spn M p=some n:=by
 have e:M.take k++n::M.drop (k+1)=M:=by
  obtain⟨hl,rfl⟩:=aB.1 hk
  rw [← List.drop_eq_getElem_cons hl,List.take_append_drop]
 have:List.find? (fun n:Nd=>decide (p∈n.ins.map fS)) (M.take k++n::M.drop (k+1))=some n:=by
  rw [List.find?_append,List.find?_eq_none.2 (fun m hm=>by simpa using hno m hm),List.find?_cons]
  rw [decide_eq_true h]
  rfl
 rw [e] at this
 exact this
theorem lE {α:Type}{l:List α}{k:Nat}{a:α}(h:l[k]?=some a):l.take (k+1)=l.take k++[a]:=by
 obtain⟨hl,rfl⟩:=aB.1 h
 exact(aZ hl).symm
def aAJ:Option Nd→V
 | some n=>.tup [.da (cG n.id),B true]
 | none=>.tup [.da (aD 32 (.int .u8 0)),B false]
set_option maxHeartbeats 1000000 in
theorem aAr {x:D}{M:List Nd}{rows:List (List D)}(hx:LV (.d x) rows)(h:RR M rows)(hl:M.length≤1000){p:List UInt8×Int}(hp:p.1.length=32)(hkey:jB true kP (.da (ptD p))=true) :
  Dn.Call Γ cx .val 22 [.d x,.da (ptD p)] St.empty fun v _=>v=aAJ (spn M p):=by
 refine Dn.Call.body (fc:=c22) rfl ?_
 have hlx : ∀ σ,gZ σ .slice (.d x)=some M.length:=fun σ=>by rw [hx.len,h.len]
 have hb:=aJZ hp ⟨[.cells ((ptD p).map V.d),.cells (aD 32 (.d (.int .u8 0)))],[]⟩ 0 rfl
 have zl:(aD 32 (V.d (D.int .u8 0))).length=32:=bS
 simp [-aA,c22,c22_k13,c22_k12]
 refine fK (aJM x M p) (m:=M.length) ⟨0,rfl,by omega,rfl,rfl,by simp⟩ ?_
 rintro m e σ ⟨k,rfl,hk,rfl,rfl,hno⟩
 simp [-loadAt,-aA,c22_l11,hlx,c22_k10]
 by_cases hkl:k<M.length
 ·obtain⟨n,hn⟩ : ∃ n,M[k]?=some n:=⟨M[k],by simp [hkl]⟩
  obtain⟨i,o,row,hr,G⟩:=h.get hx hn
  have hnok:=h.ok n (aL hn)
  have ia:=G.ia
  have f0:=G.f0
  have l0:=G.l0
  have f3:=G.f3
  have l3:=G.l3
  have hil : ∀ σ,gZ σ .slice (.d i)=some n.ins.length:=fun σ=>by rw [G.i.len]; simp [fH]
  have hli:=hnok.li
  have ewk:aJ.wrap ((k:Int)+1)=(k:Int)+1:=bY (by omega) (by omega)
  simp [-aA,hkl,c22_k9,c22_k8]
  refine fK (aJL x k n.ins p) (m:=n.ins.length) ⟨0,rfl,by omega,rfl,rfl,by simp⟩ ?_
  rintro m e σ ⟨j,rfl,hj,rfl,rfl,hnj⟩
  simp [-loadAt,-cH,hY,-aA,c22_l7,ia,f0,l0,hil,c22_k6]
  by_cases hji:j<n.ins.length
  ·obtain⟨sp,hsp⟩ : ∃ sp,n.ins[j]?=some sp:=⟨n.ins[j],by simp [hji]⟩
   have hok:=hnok.si sp (aL hsp)
   have hrow:(fH n.ins)[j]?=some sp.row:=by simp [fH,hsp]
   have hia:=fun s=>(LV.load G.i hrow (fM hok) s).1
   have l33:=fun s=>wA hok s
   have fs0:cH 0 (.ro sp.row)=some (.ro sp.row):=by simp only [cH,Nat.zero_le,if_true,bF]
   have hcmp:=aK9 (aB8 hok) hkey
   have ewj:aJ.wrap ((j:Int)+1)=(j:Int)+1:=bY (by omega) (by omega)
   simp [-aA,hji,c22_k5,c22_k4]
   refine gP (fun _=>.val) [] (by decide +kernel) ?_
   simp [-loadAt,-cH,hY,-cB,dB,-aA,ia,f0,l0,hia,fs0,l33,hb,hcmp]
   by_cases e:fS sp=p
   ·have hsn:spn M p=some n:=aF3 hn (by rw [← e]; exact aT.2 ⟨sp,aL hsp,rfl⟩) hno
    have hhl:(cG n.id).length=32:=by rw [fG,hnok.id]
    rw [hsn]
    have hl4:loadAt ⟨[.cells ((ptD p).map V.d),.cells ((cG n.id).map V.d)],[]⟩ true 32 (.ref 1 0)=some (.da (cG n.id)):=by
     simp only [loadAt,List.getElem?_cons_succ,List.getElem?_cons_zero,if_true,aQ,hhl,bF]
     rw [aK (by simp [hhl])]
     exact congrArg some (iO _)
    simp [-loadAt,-cH,hY,-splice,-aA,e,c22_k3,ia,f3,l3,gK,hhl,zl,hl4,aAJ]
   ·simp [-aA,e,c22_k3,c22_k2,ewj]
    refine⟨n.ins.length-(j+1),by omega,j+1,rfl,by omega,rfl,rfl,?_⟩
    rw [lE hsp,List.map_append]
    simp only [aW,aI,aM,bI,not_or]
    exact⟨hnj,fun h=>e h.symm⟩
  ·obtain rfl:j=n.ins.length:=by omega
   rw [bC] at hnj
   simp [-aA,c22_k1,ewk]
   refine⟨M.length-(k+1),by omega,k+1,rfl,by omega,rfl,rfl,fun n' hn'=>?_⟩
   rw [lE hn] at hn'
   rcases aW.1 hn' with h' | h'
   ·exact hno n' h'
   ·obtain rfl:=bI.1 h'
    exact hnj
 ·obtain rfl:k=M.length:=by omega
  rw [bC] at hno
  have hsn:spn M p=none:=List.find?_eq_none.2 fun n hn=>by simpa using hno n hn
  rw [hsn]
  simp [c22_k0,aAJ]

def spS (ins:List SpG)(id:List UInt8)(c:Int):Bool:=ins.any fun s=>decide (s.tx=id)&&(decide (0≤s.n)&&decide (s.n<c))
def aDt (i o:D)(f:Bool)(ins:List SpG)(id:List UInt8)(c:Int)(m:Nat)(e:Env) (σ:St):Prop:=∃ j:Nat,e=[(2,I c),(3,.ref 0 0),(4,.ref 1 0),(7,I j)]∧j≤ins.length∧m=ins.length-j∧σ.objs[0]?=some (.cells [.d i,.d o,.d (.bool f)])∧σ.objs[1]?=some (.cells (byV id))∧spS (ins.take j) id c=false
theorem aBi {i o:D}{f:Bool}{ins:List SpG}(hi:LV (.d i) (fH ins))(hok : ∀ s∈ins,s.Ok)(hl:ins.length≤1000){id:List UInt8}(hid:id.length=32){c:Int} :
  Dn.Call Γ cx .val 56 [.da [i,o,.bool f],.da (cG id),I c] St.empty fun v _=>v=B (spS ins id c):=by
 refine Dn.Call.body (fc:=c56) rfl ?_
 have hil : ∀ σ,gZ σ .slice (.d i)=some ins.length:=fun σ=>by rw [hi.len]; simp [fH]
 simp [-aA,c56,iH,c56_k8,c56_k7]
 refine fK (aDt i o f ins id c) (m:=ins.length) ⟨0,rfl,by omega,rfl,rfl,rfl,rfl⟩ ?_
 rintro m e σ ⟨j,rfl,hj,rfl,g0,g1,hno⟩
 have hl0:loadAt σ false 1 (.ref 0 0)=some (.d i):=by simp only [loadAt,g0]; rfl
 simp [-loadAt,-aA,c56_l6,hl0,hil,c56_k5]
 by_cases hji:j<ins.length
 ·obtain⟨sp,hsp⟩ : ∃ sp,ins[j]?=some sp:=⟨ins[j],by simp [hji]⟩
  have hspo:=hok sp (aL hsp)
  have hrow:(fH ins)[j]?=some sp.row:=by simp [fH,hsp]
  have hia:=fun s=>(LV.load hi hrow (fM hspo) s).1
  have l33:=fun s=>wA hspo s
  have fs0:cH 0 (.ro sp.row)=some (.ro sp.row):=by simp only [cH,Nat.zero_le,if_true,bF]
  have pl:=aBR (p:=fS sp) hspo.tx
  simp [-loadAt,-cH,hY,-splice,-aA,hji,c56_k4,c56_k3,hl0,hia,fs0,l33,pl,gK]
  obtain⟨σ2,hσ2⟩ : ∃ t:St,(⟨σ.objs++[.cells ((ptD (fS sp)).map V.d)],σ.toks⟩:St)=t:=⟨_,rfl⟩
  rw [hσ2]
  have old2 : ∀ r,r<σ.objs.length→σ2.objs[r]?=σ.objs[r]?:=fun r hr=>by rw [← hσ2]; simp only; rw [aC hr]
  have o8:σ2.objs[σ.objs.length]?=some (.cells ((ptD (fS sp)).map V.d)):=by rw [← hσ2]; simp
  have h0:=(aB.1 g0).1
  have h1:=(aB.1 g1).1
  have g02:=(old2 0 h0).trans g0
  have g12:=(old2 1 h1).trans g1
  have l8:loadAt σ2 true 32 (.ref σ.objs.length 0)=some (.da (cG sp.tx)):=by
   simp only [loadAt,o8,if_true,aQ,pl,bF,aEM (p:=fS sp) hspo.tx]
   exact congrArg some (iO _)
  have l8n:loadAt σ2 false 1 (.ref σ.objs.length 32)=some (I sp.n):=by
   simp only [loadAt,o8,bG,aJj (p:=fS sp) hspo.tx]; rfl
  have l4:=nP hid σ2 1 g12
  have hcmp:=yX hspo.tx hid
  have ew:aJ.wrap ((j:Int)+1)=(j:Int)+1:=bY (by omega) (by omega)
  have hsn : ∀ b,(decide (sp.tx=id)&&(decide (0≤sp.n)&&decide (sp.n<c)))=b→spS (ins.take (j+1)) id c=b:=fun b hb=>by
   unfold spS at hno ⊢
   rw [lE hsp,List.any_append,hno]
   simp only [List.any_cons,List.any_nil,Bool.or_false,Bool.false_or]
   exact hb
  have yes:(decide (sp.tx=id)&&(decide (0≤sp.n)&&decide (sp.n<c)))=true→spS ins id c=true:=fun hb=>by
   unfold spS
   rw [List.any_eq_true]
   exact⟨sp,aL hsp,hb⟩
  have fin:(decide (sp.tx=id)&&(decide (0≤sp.n)&&decide (sp.n<c)))=false→∃ m',m'<ins.length-j∧aDt i o f ins id c m' [(2,I c),(3,.ref 0 0),(4,.ref 1 0),(7,.d (.int .i64 ((j:Int)+1)))] σ2:=fun hb =>
   ⟨ins.length-(j+1),by omega,j+1,rfl,by omega,rfl,g02,g12,hsn _ hb⟩
  have hge : ∀ b1 b2,cB .geq .int [] (I sp.n) (I 0) b1 b2=some (B (decide (0≤sp.n))):=fun _ _=>rfl
  have hlt : ∀ b1 b2,cB .lss .int [] (I sp.n) (I c) b1 b2=some (B (decide (sp.n<c))):=fun _ _=>rfl
  clear hsn
  generalize decide (sp.tx=id)=b1 at *
  generalize decide (0≤sp.n)=b2 at *
  generalize decide (sp.n<c)=b3 at *
  have go : ∀ b,(b1&&(b2&&b3))=b→gF (Dn.Call Γ cx) cx c56_k1 [(2,I c),(3,.ref 0 0),(4,.ref 1 0),(7,I j),(36,B b)] σ2 (pA 1 (oC (Dn.Call Γ cx) cx c56_k0 (rS (aDt i o f ins id c) (ins.length-j) [2,3,4,7] (pA 0 (oC (Dn.Call Γ cx) cx (.seq (.ops [6] [.p (some 6) (.move (.c (.bool false)))]) .ret) (tY .val ⟨[],[]⟩ [.tmp 6] fun v x=>v=B (spS ins id c))))))):=fun b hb=>by
   cases b with
   | true=>simp [c56_k1,yes hb]
   | false =>
    simp [c56_k1,c56_k0,ew]
    exact fin hb
  cases b1 <;> cases b2 <;> cases b3 <;> (simp [-loadAt,-cB,-aA,c56_k2,l8,l4,l8n,hcmp,hge,hlt]; exact go _ rfl)
 ·obtain rfl:j=ins.length:=by omega
  rw [bC] at hno
  simp [hno]

theorem wS {M:List Nd}{k:Nat}{n:Nd}(hk:M[k]?=some n)(p:Nd→Bool):((M.take (k+1)).filter p).map (·.id)=((M.take k).filter p).map (·.id)++(if p n=true then [n.id] else []):=by
 rw [lE hk,List.filter_append,List.map_append]
 congr 1
 cases h:p n <;> simp [h]
theorem vH {M:List Nd}(h : ∀ n∈M,n.Ok)(p:Nd→Bool):H32 ((M.filter p).map (·.id)):=fun x hx=>by
 obtain⟨n,hn,rfl⟩:=aT.1 hx
 exact(h n (aY.1 hn).1).id
theorem pU (M:List Nd)(p:Nd→Bool):((M.filter p).map (·.id)).length≤M.length:=by
 rw [aQ]
 exact List.length_filter_le _ _
theorem aIB {M:List Nd}(hn:(M.map (·.id)).Nodup){id:List UInt8}{n:Nd}(hf:fnd M id=some n):mT M id=(M.filter fun m=>spS n.ins m.id m.outs.length).map (·.id):=by
 unfold mT
 rw [hf]
 simp only
 congr 1
 unfold gX
 refine List.filter_congr fun m hm=>?_
 rw [Bool.eq_iff_iff,decide_eq_true_eq]
 unfold aBP spS
 rw [List.mem_filterMap,List.any_eq_true]
 refine exists_congr fun s=>and_congr_right fun hs=>?_
 simp only [Option.map_eq_some_iff,aS,decide_eq_true_eq]
 unfold pT
 constructor
 ·rintro ⟨c,hc,e⟩
  have e1:(fS s).1=m.id:=e
  rw [e1,lR hn hm] at hc
  simp only at hc
  split at hc
  ·rename_i h0
   have hl:=(aB.1 hc).1
   have e2:(fS s).2=s.n:=rfl
   rw [e2] at h0 hl
   exact⟨e,h0,by omega⟩
  ·cases hc
 ·rintro ⟨e,h0,h1⟩
  have e1:(fS s).1=m.id:=e
  have e2:(fS s).2=s.n:=rfl
  rw [e1,lR hn hm]
  simp only [e2,h0,if_true]
  have hl:s.n.toNat<m.outs.length:=by omega
  exact⟨m.outs[s.n.toNat],by simp [hl],e⟩
theorem aIe {M:List Nd}(hn:(M.map (·.id)).Nodup)(hp:((M.flatMap Nd.spent).map (·.1)).Nodup){id:List UInt8}{n:Nd}(hf:fnd M id=some n):oD M id=(M.filter fun m=>spS m.ins id n.outs.length).map (·.id):=by
 unfold oD
 rw [hf]
 simp only
 congr 1
 unfold gX
 refine List.filter_congr fun m hm=>?_
 rw [Bool.eq_iff_iff,decide_eq_true_eq]
 unfold chL spS
 rw [List.mem_filterMap,List.any_eq_true]
 constructor
 ·rintro ⟨i,hi,h⟩
  obtain⟨m',hm',e⟩:=Option.map_eq_some_iff.1 h
  obtain rfl:=aGP hn (List.mem_of_find?_eq_some hm') hm e
  have:=List.find?_some hm'
  simp only [decide_eq_true_eq] at this
  obtain⟨s,hs,e2⟩:=aT.1 this
  refine⟨s,hs,?_⟩
  have e3:s.tx=id:=congrArg Prod.fst e2
  have e4:s.n=(i:Int):=congrArg Prod.snd e2
  have:=List.mem_range.1 hi
  simp only [aS,decide_eq_true_eq]
  exact⟨e3,by omega,by omega⟩
 ·rintro ⟨s,hs,h⟩
  simp only [aS,decide_eq_true_eq] at h
  obtain⟨h1,h2,h3⟩:=h
  refine⟨s.n.toNat,List.mem_range.2 (by omega),?_⟩
  have e:(id,((s.n.toNat:Nat):Int))=fS s:=by
   unfold fS
   rw [h1]
   congr 1
   omega
  rw [e]
  have hq:(V.da (ptD (fS s)),V.da (cG m.id))∈M.flatMap Nd.spent:=List.mem_flatMap.2 ⟨m,hm,aT.2 ⟨s,hs,rfl⟩⟩
  have h5:=aDS hp hq
  rw [uF] at h5
  obtain⟨m',hm',e5⟩:=Option.map_eq_some_iff.1 h5
  rw [hm']
  simp only [V.da.injEq] at e5
  simp only [Option.map_some,kY e5]
def aJE (x:D)(q:Nat)(M:List Nd)(p:Nd→Bool)(m:Nat)(e:Env) (σ:St):Prop:=∃ (k:Nat) (v:V),e=[(0,.d x),(5,I q),(6,v),(7,I k)]∧k≤M.length∧m=M.length-k∧App σ 32 v (hH (((M.take k).filter p).map (·.id)))∧(((M.take k).filter p).map (·.id)=[]→v = .d .nils)
def aJA (x:D)(id:List UInt8)(q:Nat)(M:List Nd)(p:Nd→Bool)(m:Nat)(e:Env) (σ:St):Prop:=∃ (k:Nat) (v:V),e=[(0,.d x),(3,.ref 0 0),(5,I q),(6,v),(7,I k)]∧k≤M.length∧m=M.length-k∧App σ 32 v (hH (((M.take k).filter p).map (·.id)))∧(((M.take k).filter p).map (·.id)=[]→v = .d .nils)∧σ.objs=[.cells (byV id)]
theorem aAq {x:D}{M:List Nd}{rows:List (List D)}(hx:LV (.d x) rows)(h:RR M rows)(hl:M.length≤1000)(hn:(M.map (·.id)).Nodup){id:List UInt8}(hid:id.length=32) :
  Dn.Call Γ cx .val 18 [.d x,.da (cG id)] St.empty fun v _=>v = .d (hlD (mT M id)):=by
 refine Dn.Call.body (fc:=c18) rfl ?_
 have hlx : ∀ σ,gZ σ .slice (.d x)=some M.length:=fun σ=>by rw [hx.len,h.len]
 have hb:=nP hid ⟨[.cells (byV id)],[]⟩ 0 rfl
 simp [-loadAt,-aA,c18,iH,c18_k10,hb]
 refine uY hx h hl hid (fun q n hq hf=>?_) fun hf=>?_
 ·obtain⟨iq,oq,rowq,hrq,Gq⟩:=h.get hx hq
  have hnok:=h.ok n (aL hq)
  have iaq:=Gq.ia
  have f0q:=Gq.f0
  have ltq:=Gq.lt
  have hnl:=hnok.li
  rw [aIB hn hf]
  simp [-loadAt,-aA,c18_k9,c18_k8,c18_k7]
  obtain⟨pr,hpr⟩ : ∃ pr:Nd→Bool,pr=fun m=>spS n.ins m.id m.outs.length:=⟨_,rfl⟩
  rw [← hpr]
  refine fK (aJE x q M pr) (m:=M.length) ⟨0,.d .nils,rfl,by omega,rfl,.nil,fun _=>rfl⟩ ?_
  rintro m e σ ⟨k,v,rfl,hk,rfl,hv,hn0⟩
  have hq0:(0:Int)≤q:=by omega
  simp [-loadAt,c18_l6,hlx,hq0,c18_k5]
  by_cases hkl:k<M.length
  ·obtain⟨m',hm'⟩ : ∃ m',M[k]?=some m':=⟨M[k],by simp [hkl]⟩
   obtain⟨i,o,row,hr,G⟩:=h.get hx hm'
   have hmok:=h.ok m' (aL hm')
   have ia:=G.ia
   have f3:=G.f3
   have l3:=G.l3
   have f0:=G.f0
   have f1:=G.f1
   have l1:=G.l1
   have hol : ∀ σ,gZ σ .slice (.d o)=some m'.outs.length:=fun σ=>by rw [G.o.len]; simp [gH]
   have hs:=wS hm' pr
   have hpm:pr m'=spS n.ins m'.id m'.outs.length:=by rw [hpr]
   rw [hpm] at hs
   have ew:aJ.wrap ((k:Int)+1)=(k:Int)+1:=bY (by omega) (by omega)
   simp [-loadAt,-aA,hkl,c18_k4,c18_k3]
   refine gP (fun _=>.val) [] (by decide +kernel) ?_
   simp [-loadAt,-cH,hY,dB,-aA,iaq,f0q,ltq,ia,f3,l3,f0,f1,l1,hol]
   refine gY rfl rfl (aBi (i:=iq) (o:=oq) (f:=n.f) (c:=m'.outs.length) Gq.i hnok.si (by omega) hmok.id) (jF rfl rfl) ?_
   cases e:spS n.ins m'.id m'.outs.length with
   | true =>
    have hbs : ∀ (e:Env) (y:Opd),y.ev e = .da (cG m'.id)→dC (.bslice 45 1 32 (aD 32 (.int .u8 0)) [(0,y)]) e σ=some (.fl [cG m'.id]):=fun e y hx=>lK hx (by simp) (by rw [fG,hmok.id])
    rw [e,if_pos rfl] at hs
    obtain⟨v',s',a1,a2,a3,_⟩:=App.hash hv (vH (fun n hn=>h.ok n (List.mem_of_mem_take hn)) _) (by have:=pU (M.take k) pr; rw [List.length_take] at this; omega) hmok.id
    simp [-loadAt,-cH,hY,e,-aA,c18_k2,ia,f3,l3,↓hbs]
    refine gN (v:=v') (s:=s') ?_ ?_
    ·simp [V.rows]
     exact a1
    simp [c18_k1,ew]
    exact⟨M.length-(k+1),by omega,k+1,v',rfl,by omega,rfl,by rw [hs]; exact a2,fun h0=>by rw [hs] at h0; simp at h0⟩
   | false =>
    rw [e,if_neg (by simp),aG] at hs
    simp [e,c18_k2,c18_k1,ew]
    exact⟨M.length-(k+1),by omega,k+1,v,rfl,by omega,rfl,by rw [hs]; exact hv,fun h0=>hn0 (by rw [← hs]; exact h0)⟩
  ·obtain rfl:k=M.length:=by omega
   rw [bC] at hv hn0
   have hval:=App.val hv hn0
   simp [c18_k0,hval]
 ·have hp:mT M id=[]:=by unfold mT; rw [hf]
  rw [hp]
  simp [c18_k9,c18_k8,c18_k7]
  refine fK (fun m e σ=>e=[(0,.d x),(5,I (-1)),(6,.d .nils),(7,I 0)]) (m:=0) rfl ?_
  rintro m e σ rfl
  simp [-loadAt,c18_l6,hlx,c18_k5]
  rcases Nat.eq_zero_or_pos M.length with h0 | h0 <;> simp [h0,c18_k0,hlD]
theorem xI {x:D}{M:List Nd}{rows:List (List D)}(hx:LV (.d x) rows)(h:RR M rows)(hl:M.length≤1000)(hn:(M.map (·.id)).Nodup)(hpt:((M.flatMap Nd.spent).map (·.1)).Nodup){id:List UInt8}(hid:id.length=32) :
  Dn.Call Γ cx .val 20 [.d x,.da (cG id)] St.empty fun v _=>v = .d (hlD (oD M id)):=by
 refine Dn.Call.body (fc:=c20) rfl ?_
 have hlx : ∀ σ,gZ σ .slice (.d x)=some M.length:=fun σ=>by rw [hx.len,h.len]
 have hb:=nP hid ⟨[.cells (byV id)],[]⟩ 0 rfl
 simp [-loadAt,-aA,c20,iH,c20_k10,hb]
 refine uY hx h hl hid (fun q n hq hf=>?_) fun hf=>?_
 ·obtain⟨iq,oq,rowq,hrq,Gq⟩:=h.get hx hq
  have hnok:=h.ok n (aL hq)
  have iaq:=Gq.ia
  have f0q:=Gq.f0
  have f1q:=Gq.f1
  have l1q:=Gq.l1
  have holq : ∀ σ,gZ σ .slice (.d oq)=some n.outs.length:=fun σ=>by rw [Gq.o.len]; simp [gH]
  have hnl:=hnok.li
  rw [aIe hn hpt hf]
  simp [-loadAt,-aA,c20_k9,c20_k8,c20_k7]
  obtain⟨pr,hpr⟩ : ∃ pr:Nd→Bool,pr=fun m=>spS m.ins id n.outs.length:=⟨_,rfl⟩
  rw [← hpr]
  refine fK (aJA x id q M pr) (m:=M.length) ⟨0,.d .nils,rfl,by omega,rfl,.nil,fun _=>rfl,rfl⟩ ?_
  rintro m e σ ⟨k,v,rfl,hk,rfl,hv,hn0,hσ⟩
  have hb2:=nP hid σ 0 (by rw [hσ]; rfl)
  have hq0:(0:Int)≤q:=by omega
  simp [-loadAt,c20_l6,hlx,hq0,c20_k5]
  by_cases hkl:k<M.length
  ·obtain⟨m',hm'⟩ : ∃ m',M[k]?=some m':=⟨M[k],by simp [hkl]⟩
   obtain⟨i,o,row,hr,G⟩:=h.get hx hm'
   have hmok:=h.ok m' (aL hm')
   have ia:=G.ia
   have f3:=G.f3
   have l3:=G.l3
   have f0:=G.f0
   have lt:=G.lt
   have hmli:=hmok.li
   have hs:=wS hm' pr
   have hpm:pr m'=spS m'.ins id n.outs.length:=by rw [hpr]
   rw [hpm] at hs
   have ew:aJ.wrap ((k:Int)+1)=(k:Int)+1:=bY (by omega) (by omega)
   simp [-loadAt,-aA,hkl,c20_k4,c20_k3]
   refine gP (fun _=>.val) [] (by decide +kernel) ?_
   simp [-loadAt,-cH,hY,dB,-aA,iaq,f0q,f1q,l1q,holq,ia,f3,l3,f0,lt,hb2]
   refine gY rfl rfl (aBi (i:=i) (o:=o) (f:=m'.f) (c:=n.outs.length) G.i hmok.si (by omega) hid) (jF rfl rfl) ?_
   cases e:spS m'.ins id n.outs.length with
   | true =>
    have hbs : ∀ (e:Env) (y:Opd),y.ev e = .da (cG m'.id)→dC (.bslice 45 1 32 (aD 32 (.int .u8 0)) [(0,y)]) e σ=some (.fl [cG m'.id]):=fun e y hx=>lK hx (by simp) (by rw [fG,hmok.id])
    rw [e,if_pos rfl] at hs
    obtain⟨v',s',a1,a2,a3,_⟩:=App.hash hv (vH (fun n hn=>h.ok n (List.mem_of_mem_take hn)) _) (by have:=pU (M.take k) pr; rw [List.length_take] at this; omega) hmok.id
    simp [-loadAt,-cH,hY,e,-aA,c20_k2,ia,f3,l3,↓hbs]
    refine gN (v:=v') (s:=s') ?_ ?_
    ·simp [V.rows]
     exact a1
    simp [c20_k1,ew]
    exact⟨M.length-(k+1),by omega,k+1,v',rfl,by omega,rfl,by rw [hs]; exact a2,fun h0=>by rw [hs] at h0; simp at h0,a3.trans hσ⟩
   | false =>
    rw [e,if_neg (by simp),aG] at hs
    simp [e,c20_k2,c20_k1,ew]
    exact⟨M.length-(k+1),by omega,k+1,v,rfl,by omega,rfl,by rw [hs]; exact hv,fun h0=>hn0 (by rw [← hs]; exact h0),hσ⟩
  ·obtain rfl:k=M.length:=by omega
   rw [bC] at hv hn0
   have hval:=App.val hv hn0
   simp [c20_k0,hval]
 ·have hp:oD M id=[]:=by unfold oD; rw [hf]
  rw [hp]
  simp [c20_k9,c20_k8,c20_k7]
  refine fK (fun m e σ=>e=[(0,.d x),(3,.ref 0 0),(5,I (-1)),(6,.d .nils),(7,I 0)]) (m:=0) rfl ?_
  rintro m e σ rfl
  simp [-loadAt,c20_l6,hlx,c20_k5]
  rcases Nat.eq_zero_or_pos M.length with h0 | h0 <;> simp [h0,c20_k0,hlD]

theorem oS {r:V}{l:List V}(h1:r.pure=true)(h2:l.any V.borrows=false):(r.pure&&(!l.any V.borrows||r.scalars))=true:=by
 rw [h1,h2]; rfl
theorem aF2 (o:Option Nd):(aAJ o).pure=true:=by cases o <;> rfl
theorem aI3 (o:Option Nd):(aAJ o).scalars=true:=by
 cases o with
 | none=>rfl
 | some n =>
  have:=nI n.id
  simp only [V.scalars,V.scalar] at this
  simp only [aAJ,V.scalars,List.all_cons,List.all_nil,V.scalar,this]
  rfl
theorem aFb {M:List Nd}{l:List SpG}{j:Nat}{s:SpG}{me:List UInt8}(h:l[j]?=some s):kE M (l.take (j+1)) me=kE M (l.take j) me++(match spn M (fS s) with | some n=>if n.id=me then [] else [n.id] | none=>[]):=by
 unfold kE
 rw [aAQ h,List.filter_append]
 congr 1
 cases spn M (fS s) with
 | none=>rfl
 | some n=>by_cases e:n.id=me <;> simp [e]
theorem zS {a b:List UInt8}(ha:a.length=32)(hb:b.length=32)(x y:Bool):cB .neq .flat (aD 32 (.int .u8)) (.da (cG a)) (.da (cG b)) x y=some (B (!decide (a=b))):=by
 simp only [cB,aBA ha hb,Option.map_some]
theorem aGD {M:List Nd}(h : ∀ n∈M,n.Ok)(l:List SpG)(me:List UInt8):H32 (kE M l me):=fun x hx=>by
 obtain⟨s,_,hs⟩:=List.mem_filterMap.1 (aY.1 hx).1
 obtain⟨n,hn,rfl⟩:=Option.map_eq_some_iff.1 hs
 exact(h n (List.mem_of_find?_eq_some hn)).id
theorem aCu (M:List Nd)(l:List SpG)(me:List UInt8):(kE M l me).length≤l.length:=Nat.le_trans (List.length_filter_le _ _) (List.length_filterMap_le _ _)
def aHT (x i o:D)(f:Bool)(M:List Nd)(ins:List SpG)(me:List UInt8)(m:Nat)(e:Env) (σ:St):Prop:=∃ (j:Nat) (v:V),e=[(0,.d x),(3,.ref 0 0),(5,.ref 1 0),(6,v),(7,I j)]∧j≤ins.length∧m=ins.length-j∧σ.objs[0]?=some (.cells [.d i,.d o,.d (.bool f)])∧σ.objs[1]?=some (.cells ((cG me).map .d))∧App σ 32 v (hH (kE M (ins.take j) me))∧(kE M (ins.take j) me=[]→v = .d .nils)
set_option maxHeartbeats 1000000 in
theorem uT {x:D}{M:List Nd}{rows:List (List D)}(hx:LV (.d x) rows)(h:RR M rows)(hl:M.length≤1000){i o:D}{f:Bool}{ins:List SpG}{outs:List CoG}(hT:TxD i o f ins outs) :
  Dn.Call Γ cx .val 29 [.d x,.da [i,o,.bool f]] St.empty fun v _=>v = .d (hlD ((gX M (kE M ins (idB ins outs f))).map (·.id))):=by
 refine Dn.Call.body (fc:=c29) rfl ?_
 have hil : ∀ σ,gZ σ .slice (.d i)=some ins.length:=fun σ=>by rw [hT.i.len]; simp [fH]
 have hme:(idB ins outs f).length=32:=Sha.sha_len _
 have hid:=aJn hT
 have hli:=hT.li
 generalize idB ins outs f=me at *
 have hml:(cG me).length=32:=by rw [fG,hme]
 have zl:(aD 32 (V.d (D.int .u8 0))).length=32:=bS
 simp [-aA,c29,c29_k11]
 refine gI rfl hid (jF rfl (nI _)) ?_
 simp [-bZ,-loadAt,-splice,-aA,gK,hml,zl,c29_k10,c29_k9,c29_k8]
 refine fK (aHT x i o f M ins me) (m:=ins.length) ⟨0,.d .nils,rfl,by omega,rfl,rfl,rfl,.nil,fun _=>rfl⟩ ?_
 rintro m e σ ⟨j,v,rfl,hj,rfl,g0,g1,hv,hn0⟩
 have hl0:loadAt σ false 1 (.ref 0 0)=some (.d i):=by simp only [loadAt,g0]; rfl
 simp [-loadAt,-aA,c29_l7,hl0,hil,c29_k6]
 by_cases hji:j<ins.length
 ·obtain⟨sp,hsp⟩ : ∃ sp,ins[j]?=some sp:=⟨ins[j],by simp [hji]⟩
  have hspo:=hT.si sp (aL hsp)
  have hrow:(fH ins)[j]?=some sp.row:=by simp [fH,hsp]
  have hia:=fun s=>(LV.load hT.i hrow (fM hspo) s).1
  have l33:=fun s=>wA hspo s
  have fs0:cH 0 (.ro sp.row)=some (.ro sp.row):=by simp only [cH,Nat.zero_le,if_true,bF]
  have hs:=aFb (M:=M) (me:=me) hsp
  have hcl:=aCu M (ins.take j) me
  have ew:aJ.wrap ((j:Int)+1)=(j:Int)+1:=bY (by omega) (by omega)
  simp [-loadAt,-cH,hY,-splice,-aA,hji,c29_k5,c29_k4,hl0,hia,fs0,l33]
  refine gI rfl (aAr hx h hl (p:=fS sp) hspo.tx (aB8 hspo)) (jF (aF2 _) (aI3 _)) ?_
  have h0:=(aB.1 g0).1
  have h1:=(aB.1 g1).1
  have push0 : ∀ ob:Dn.Obj,(σ.objs++[ob])[0]?=some (.cells [.d i,.d o,.d (.bool f)]):=fun ob=>by rw [aC h0]; exact g0
  have push1 : ∀ ob:Dn.Obj,(σ.objs++[ob])[1]?=some (.cells ((cG me).map .d)):=fun ob=>by rw [aC h1]; exact g1
  cases hsn:spn M (fS sp) with
  | none =>
   rw [hsn] at hs
   simp only [aG] at hs
   simp [-bZ,-loadAt,-splice,-aA,aAJ,gK,zl,c29_k3,c29_k2,c29_k1,ew]
   exact⟨ins.length-(j+1),by omega,j+1,v,rfl,by omega,rfl,push0 _,push1 _,by rw [hs]; exact hv.toks rfl,by rw [hs]; exact hn0⟩
  | some n =>
   rw [hsn] at hs
   have hnok:=h.ok n (List.mem_of_find?_eq_some hsn)
   have hnl:(cG n.id).length=32:=by rw [fG,hnok.id]
   simp [-bZ,-loadAt,-splice,-aA,aAJ,gK,hnl,zl]
   obtain⟨σ2,hσ2⟩ : ∃ t:St,(⟨σ.objs++[.cells ((cG n.id).map V.d)],σ.toks⟩:St)=t:=⟨_,rfl⟩
   rw [hσ2]
   have q0:σ2.objs[0]?=some (.cells [.d i,.d o,.d (.bool f)]):=by rw [← hσ2]; exact push0 _
   have q1:σ2.objs[1]?=some (.cells ((cG me).map .d)):=by rw [← hσ2]; exact push1 _
   have o8:σ2.objs[σ.objs.length]?=some (.cells ((cG n.id).map V.d)):=by rw [← hσ2]; simp
   have hv2:App σ2 32 v (hH (kE M (ins.take j) me)):=hv.toks (by rw [← hσ2])
   have bx : ∀ (id:List UInt8) (r:Nat),id.length=32→σ2.objs[r]?=some (.cells ((cG id).map V.d))→loadAt σ2 true 32 (.ref r 0)=some (.da (cG id)):=fun id r h32 hr=>by
    simp only [loadAt,hr,if_true,aQ,fG,h32,bF]
    rw [aK (by simp [fG,h32])]
    exact congrArg some (iO _)
   have l8:=bx n.id _ hnok.id o8
   have l5:=bx me _ hme q1
   have hcmp:=zS hnok.id hme
   simp [-bZ,-loadAt,-cB,-splice,-aA,c29_k3,l8,l5,hcmp]
   by_cases e:n.id=me
   ·simp only [e,if_true,aG] at hs
    simp [e,c29_k2,c29_k1,ew]
    exact⟨ins.length-(j+1),by omega,j+1,v,rfl,by omega,rfl,q0,q1,by rw [hs]; exact hv2,by rw [hs]; exact hn0⟩
   ·simp only [e,if_false] at hs
    have hbs : ∀ (e:Env) (y:Opd),y.ev e = .da (cG n.id)→dC (.bslice 45 1 32 (aD 32 (.int .u8 0)) [(0,y)]) e σ2=some (.fl [cG n.id]):=fun e y hx=>lK hx (by simp) hnl
    obtain⟨v',s',a1,a2,a3,_⟩:=App.hash hv2 (aGD h.ok _ _) (by rw [List.length_take] at hcl; omega) hnok.id
    simp [-loadAt,-aA,e,c29_k2,l8,↓hbs]
    refine gN (v:=v') (s:=s') ?_ ?_
    ·simp [V.rows]
     exact a1
    simp [c29_k1,ew]
    exact⟨ins.length-(j+1),by omega,j+1,v',rfl,by omega,rfl,by rw [a3]; exact q0,by rw [a3]; exact q1,by rw [hs]; exact a2,fun h0=>by rw [hs] at h0; simp at h0⟩
 ·obtain rfl:j=ins.length:=by omega
  rw [bC] at hv hn0
  have hval:=App.val hv hn0
  have hcl:=aCu M ins me
  simp [c29_k0]
  refine gI (ds:=[.d x,.d (hlD (kE M ins me))]) (by simp only [cN,gS,hval]) (aDc hx h hl (kG _) (aGD h.ok _ _) (by omega)) (oS rfl (by have h1:=hv.lv.borrows; have h2:(V.d x).borrows=false:=rfl; simp only [List.any_cons,List.any_nil,h1,h2,Bool.or_false])) ?_
  simp
end Go.Proofs.YtdfhfhcilfjdgaaGreatDoor.T

namespace Go.Dn
theorem aED {cs a b xs:List V}(hc:cs=a++b){off:Nat}(ha:a.length=off)(_:xs.length≤b.length):splice cs off xs=a++xs++b.drop xs.length:=by
 subst hc ha
 unfold splice
 rw [List.take_left' rfl,List.drop_append]
 simp
theorem aFg {σ:St}{e:Env}{zs:List D}{x y z:Opd}{a h:List D}{b:D}{n k:Nat}(hz:zs.length=n+k+1)(ha:a.length=n)(hh:h.length=k)(hx:x.ev e = .da a)(hy:y.ev e = .da h)(hz2:z.ev e = .d b):dC (.build zs [(0,n,x),(n,k,y),(n+k,1,z)]) e σ=some (.da (a++h++[b])):=by
 have h1:fE (zs.map .d) [(0,n,.da a),(n,k,.da h),(n+k,1,.d b)]=some ((a++h++[b]).map .d):=by
  simp only [fE,V.cells,aQ,ha,hz,hh,Nat.zero_add]
  rw [if_pos ⟨trivial,by omega⟩]
  have e1:splice (zs.map V.d) 0 (a.map V.d)=a.map V.d++(zs.map V.d).drop n:=by
   unfold splice
   simp [ha]
  rw [e1,if_pos ⟨trivial,by simp [ha,hz]; omega⟩]
  have e2:splice (a.map V.d++(zs.map V.d).drop n) n (h.map V.d)=a.map V.d++h.map V.d++(zs.map V.d).drop (n+k):=by
   rw [aED (a:=a.map V.d) (b:=(zs.map V.d).drop n) rfl (by simp [ha]) (by simp [hh,hz]; omega),List.drop_drop]
   simp [hh]
  rw [e2,if_pos ⟨rfl,by simp [ha,hz,hh]; omega⟩]
  have e3:splice (a.map V.d++h.map V.d++(zs.map V.d).drop (n+k)) (n+k) [V.d b]=a.map V.d++h.map V.d++[V.d b]:=by
   rw [aED (a:=a.map V.d++h.map V.d) (b:=(zs.map V.d).drop (n+k)) rfl (by simp [ha,hh]) (by simp [hz]),List.drop_drop,bT (by simp [hz])]
   simp
  rw [e3]
  simp
 have h2:dC (.build zs [(0,n,x),(n,k,y),(n+k,1,z)]) e σ=(match fE (zs.map .d) [(0,n,x.ev e),(n,k,y.ev e),(n+k,1,z.ev e)] with
  | some cs=>some (bZ cs)
  | none=>none):=rfl
 rw [h2,hx,hy,hz2,h1]
 have h3:ofD ((a++h++[b]).map V.d)=some (a++h++[b]):=by
  generalize a++h++[b]=l
  induction l with
  | nil=>rfl
  | cons a r ih=>simp [ofD,ih]
 simp only [bZ,h3]
end Go.Dn
namespace Go.Proofs.YtdfhfhcilfjdgaaGreatDoor.T
open Go.Dn
attribute [local simp] dO dF GB aM aI aG dA eW cE dZ cS cK dY dX eM eP eS cM cW cX eN fD gD fQ fB dK fC gE cJ cY cZ dN eB eC gA eR eE eF eD cL cU cV fZ i_p dU fY eA eV dW eU dV eX gC t_p eY eH gB eJ cT eZ eI eG gM aE aH dC dM fP fO fR gR Opd.ev Env.get Env.set Env.pick eK dE cB eO eQ cF dD dG gO eL Res.ev fL cN dI gS fN fW fX gW fT fU fV cx Dn.newObj St.place St.push St.spot St.empty eT dP cO cR dS dQ dT cQ dR cP loadAt cH dL cI bZ ofD splice St.setObj fE

theorem aA1 {ks:List Nat}{e:Env} {σ s:St}(h:s.objs=σ.objs):Kept ks e σ s:=fun t ht r hr=>by rw [h]
theorem RR.fit {M:List Nd}{rows:List (List D)}(h:RR M rows) : ∀ r∈rows,r.length=36:=fun r hr=>by
 obtain⟨k,hk⟩:=bQ hr
 have hkl:k<M.length:=by have:=(aB.1 hk).1; rw [h.len] at this; exact this
 obtain⟨i,o,h1,_,_⟩:=h.at_ k M[k] (by simp [hkl])
 rw [hk] at h1
 cases h1
 exact aCS (h.ok _ (List.getElem_mem hkl)).id
theorem RR.snoc {M:List Nd}{rows:List (List D)}(h:RR M rows){n:Nd}(hn:n.Ok){i o:D}(hi:LV (.d i) (fH n.ins))(ho:LV (.d o) (gH n.outs)):RR (M++[n]) (rows++[xQ i o n]):=by
 refine⟨by simp [h.len],fun k m hk=>?_,fun m hm=>?_⟩
 ·rw [List.getElem?_append] at hk ⊢
  rw [h.len]
  split at hk
  ·rename_i hl
   rw [if_pos hl]
   exact h.at_ k m hk
  ·rename_i hl
   rw [if_neg hl]
   obtain⟨h1,h2⟩:=aB.1 hk
   have h0:k-M.length=0:=by simpa using h1
   rw [h0] at hk ⊢
   simp at hk
   subst hk
   exact⟨i,o,rfl,hi,ho⟩
 ·rcases aW.1 hm with h' | h'
  ·exact h.ok m h'
  ·obtain rfl:=bI.1 h'
   exact hn
def aE6 (x:D)(M:List Nd)(ins:List SpG)(outs:List CoG)(f:Bool)(fee:Int)(v:V):Prop :=
 ∃ x':D,v = .tup [.d x',I (kJ M ins outs f fee)]∧(kJ M ins outs f fee≠0→x'=x)∧(kJ M ins outs f fee=0→∀ n:Nd,n.Ok→n.id=idB ins outs f→n.ins=ins→n.outs=outs→n.f=f→n.fee=fee→∃ rows',LV (.d x') rows'∧RR (M++[n]) rows')
set_option maxHeartbeats 1000000 in
theorem aKw {x:D}{M:List Nd}{rows:List (List D)}(hx:LV (.d x) rows)(h:RR M rows)(hl:M.length≤1000)(hnd:(M.map (·.id)).Nodup){i o:D}{f:Bool}{ins:List SpG}{outs:List CoG}(hT:TxD i o f ins outs){fee:Int} :
  Dn.Call Γ cx .val 44 [.d x,.da [i,o,.bool f],I fee] St.empty fun v _=>aE6 x M ins outs f fee v:=by
 refine Dn.Call.body (fc:=c44) rfl ?_
 have hli:=hT.li
 have hlo:=hT.lo
 simp [-aA,c44]
 have l4:loadAt ⟨[.cells [.d i,.d o,.d (.bool f)]],[]⟩ true 3 (.ref 0 0)=some (.da [i,o,.bool f]):=rfl
 simp [-loadAt,-aA,c44_k10,l4]
 refine gI rfl (aHy hT.i hT.o (by omega) (by omega) hT.si) (jF rfl rfl) ?_
 have bad : ∀ n:Int,kJ M ins outs f fee=n→n≠0→aE6 x M ins outs f fee (.tup [.d x,I n]):=fun n h1 h2=>⟨x,by rw [h1],fun _=>rfl,fun h0=>absurd (h1▸h0) h2⟩
 by_cases hc0:lU ins outs=0
 rotate_left
 ·have hb:=bad (lU ins outs) (by unfold kJ; rw [if_pos hc0]) hc0
  simp [hc0,c44_k9,c44_k8]
  exact hb
 have hme:(idB ins outs f).length=32:=Sha.sha_len _
 have hid:=aJn hT
 have hpe:kJ M ins outs f fee=if jM fee=false then 9 else if (fnd M (idB ins outs f)).isSome=true then 6 else if kE M ins (idB ins outs f)≠[] then 8 else 0:=by
  unfold kJ
  rw [if_neg (by simpa using hc0)]
 have hcon:=uT hx h hl hT
 have hR : ∀ v,aE6 x M ins outs f fee v=aE6 x M ins outs f fee v:=fun _=>rfl
 have good : ∀ rows',kJ M ins outs f fee=0→rows'=rows++[[i,o,.bool f]++cG (idB ins outs f)++[.int .i64 fee]]→aE6 x M ins outs f fee (.tup [.d (.list rows'),I 0]):=fun rows' h0 hr=>by
  refine⟨.list rows',by rw [h0],fun hne=>absurd h0 hne,fun _ n hn e1 e2 e3 e4 e5=>⟨rows',.list _,?_⟩⟩
  rw [hr]
  have:[i,o,D.bool f]++cG (idB ins outs f)++[D.int .i64 fee]=xQ i o n:=by unfold xQ; rw [e1,e4,e5]
  rw [this]
  exact h.snoc hn (by rw [e2]; exact hT.i) (by rw [e3]; exact hT.o)
 generalize idB ins outs f=me at *
 generalize aE6 x M ins outs f fee=PR at *
 simp [hc0,c44_k9,c44_k8,c44_k7]
 refine gI rfl (yC fee) (jF rfl rfl) ?_
 by_cases hg:jM fee=false
 ·rw [hg,if_pos rfl] at hpe
  have hb:=bad 9 hpe (by decide)
  simp [hg,c44_k6]
  exact hb
 have hg1:jM fee=true:=by simpa using hg
 rw [if_neg hg] at hpe
 have hml:(cG me).length=32:=by rw [fG,hme]
 have zl:(aD 32 (V.d (D.int .u8 0))).length=32:=bS
 simp [-loadAt,-aA,hg1,c44_k6,c44_k5,l4]
 refine gI rfl hid (jF rfl (nI _)) ?_
 have l42:loadAt ⟨[.cells [.d i,.d o,.d (.bool f)],.cells ((cG me).map .d)],[]⟩ true 3 (.ref 0 0)=some (.da [i,o,.bool f]):=rfl
 have l92:loadAt ⟨[.cells [.d i,.d o,.d (.bool f)],.cells ((cG me).map .d)],[]⟩ true 32 (.ref 1 0)=some (.da (cG me)):=by
  simp only [loadAt,List.getElem?_cons_succ,List.getElem?_cons_zero,if_true,aQ,hml,bF]
  rw [aK (by simp [hml])]
  exact congrArg some (iO _)
 simp [-loadAt,-splice,-bZ,-aA,gK,hml,zl,c44_k4,l92]
 refine gI rfl (aHz hx h hl hme) (jF rfl rfl) ?_
 cases hf:(fnd M me).isSome with
 | true =>
  rw [hf,if_pos rfl] at hpe
  have hb:=bad 6 hpe (by decide)
  simp [c44_k3]
  exact hb
 | false =>
  rw [hf,if_neg (by simp)] at hpe
  simp [-loadAt,-aA,c44_k3,c44_k2,l42]
  refine gI rfl hcon (oS rfl rfl) ?_
  have hlc : ∀ s,gZ s .slice (.d (hlD ((gX M (kE M ins me)).map (·.id))))=some (gX M (kE M ins me)).length:=fun s=>by rw [(kG _).len]; simp [hH]
  simp [hlc]
  by_cases hcf:kE M ins me=[]
  rotate_left
  ·have hl0:0<(gX M (kE M ins me)).length:=by
    have:gX M (kE M ins me)≠[]:=fun e=>hcf ((tW hnd).1 e)
    exact List.length_pos_iff.2 this
   rw [if_pos hcf] at hpe
   have hb:=bad 8 hpe (by decide)
   simp [hl0,c44_k1]
   exact hb
  have ho0:=(tW hnd).2 hcf
  rw [if_neg (by simpa using hcf)] at hpe
  rw [ho0]
  simp [-aA,c44_k1,c44_k0]
  refine gP (fun _=>.val) [4,9] (by decide +kernel) ?_
  simp [-loadAt,-aA,iL,gJ]
  have hrl:rows.length=M.length:=h.len
  have hrw : ∀ s,V.rows s (.d x)=some rows:=fun s=>hx.rows s
  obtain⟨σr,hσr⟩ : ∃ t:St,(⟨[.cells [.d i,.d o,.d (.bool f)],.cells ((cG me).map .d)],[]⟩:St).room 2=t:=⟨_,rfl⟩
  rw [hσr]
  obtain⟨v1,s1,ap1,h1,o1,t1,-⟩:=(App.fl (σ:=σr) (sz:=36) []).push (bytes:=96) (by decide) (by simp) (ys:=rows) h.fit (by simp; omega) (by simp; omega)
  rw [aH] at h1
  have hrn:([i,o,D.bool f]++cG me++[D.int .i64 fee]).length=36:=by simp [hml]
  obtain⟨v2,s2,ap2,h2,o2,t2,dv2⟩:=h1.push (bytes:=96) (by decide) h.fit (ys:=[[i,o,D.bool f]++cG me++[D.int .i64 fee]]) (by simp; exact hml) (by simp; omega) (by simp; omega)
  have hdv:=dv2 (.inr (by simp))
  refine yE (v:=v1) (s:=s1) ?_ ?_ fun _=>aA1 o1
  ·simp [hrw]
   exact ap1 _
  have m4:loadAt s1 true 3 (.ref 0 0)=some (.da [i,o,.bool f]):=by simp only [loadAt,o1,← hσr]; rfl
  have m9:loadAt s1 true 32 (.ref 1 0)=some (.da (cG me)):=by
   have:s1.objs[1]?=some (.cells ((cG me).map .d)):=by rw [o1,← hσr]; rfl
   simp only [loadAt,this,if_true,aQ,hml,bF]
   rw [aK (by simp [hml])]
   exact congrArg some (iO _)
  have hbu : ∀ (e:Env) (a b c:Opd) (zs:List D),zs.length=36→a.ev e = .da [i,o,.bool f]→b.ev e = .da (cG me)→c.ev e=I fee→dC (.build zs [(0,3,a),(3,32,b),(35,1,c)]) e s1=some (.da ([i,o,D.bool f]++cG me++[D.int .i64 fee])):=fun e a b c zs hz ha hb hc=>aFg (n:=3) (k:=32) hz rfl hml ha hb hc
  have hbs : ∀ (e:Env) (y:Opd) (zs:List D),zs.length=36→y.ev e = .da ([i,o,D.bool f]++cG me++[D.int .i64 fee])→dC (.bslice 49 1 36 zs [(0,y)]) e s1=some (.fl [[i,o,D.bool f]++cG me++[D.int .i64 fee]]):=fun e y zs hz hx=>lK hx hz hrn
  generalize hrow:[i,o,D.bool f]++cG me++[D.int .i64 fee]=row at *
  simp [-loadAt,-aA,m4,m9,↓hbu,↓hbs]
  refine yE (v:=v2) (s:=s2) ?_ ?_ fun _=>aA1 o2
  ·simp [V.rows]
   exact ap2 _
  have hbv:V.byVal s2 v2=some (.d (.list (rows++[row]))):=by rw [(h2.lv.dv s2).1,hdv]
  simp [hbv]
  exact good _ hpe rfl
end Go.Proofs.YtdfhfhcilfjdgaaGreatDoor.T

namespace Go.Proofs.YtdfhfhcilfjdgaaGreatDoor.T
open Go.Dn
attribute [local simp] dO dF GB aM aI aG dA eW cE dZ cS cK dY dX eM eP eS cM cW cX eN fD gD fQ fB dK fC gE cJ cY cZ dN eB eC gA eR eE eF eD cL cU cV fZ i_p dU fY eA eV dW eU dV eX gC t_p eY eH gB eJ cT eZ eI eG gM aE aH dC dM fP fO fR gR Opd.ev Env.get Env.set Env.pick eK dE cB eO eQ cF dD dG gO eL Res.ev fL cN dI gS fN fW fX gW fT fU fV cx Dn.newObj St.place St.push St.spot St.empty eT dP cO cR dS dQ dT cQ dR cP loadAt cH dL cI bZ ofD splice St.setObj fE

theorem App.own_lt {σ:St}{sz:Nat}{v:V}{rows:List (List D)}(h:App σ sz v rows){t:Nat}(ht:Dn.own v=some t):t<σ.toks.length:=by
 cases h with
 | nil=>cases ht
 | fl=>cases ht
 | tl rows t' st h =>
  cases ht
  exact(aB.1 h).1
structure Two (σ:St)(a b:Nat)(v w:V)(A B:List (List D)):Prop where
 a:App σ a v A
 b:App σ b w B
 ne : ∀ t,Dn.own v=some t→Dn.own w≠some t
theorem Two.pushB {σ:St}{a b:Nat}{v w:V}{A B:List (List D)}(h:Two σ a b v w A B){bytes:Nat}(hpos:0<b)(hfr : ∀ r∈B,r.length=b){y:List D}(hy:y.length=b)(hb:(B.length+1)*bytes≤140737488355328)(hl:B.length+1≤9223372036854775807) :
  ∃ w' s',(∀ tg,jE σ tg b bytes w [y]=some (w',s'))∧Two s' a b v w' A (B++[y])∧s'.objs=σ.objs:=by
 obtain⟨w',s',h1,h2,h3,h4,_⟩:=h.b.push (bytes:=bytes) hpos hfr (ys:=[y]) (by simpa using hy) hb hl
 refine⟨w',s',h1,⟨h.a.other h4 fun t ht e=>h.ne t ht e,h2,fun t ht e=>?_⟩,h3⟩
 rcases h4.own with h5 | ⟨t',h5,h6⟩
 ·exact h.ne t ht (h5▸e)
 ·have:=App.own_lt h.a ht
  rw [h5] at e
  cases e
  omega
theorem Two.swap {σ:St}{a b:Nat}{v w:V}{A B:List (List D)}(h:Two σ a b v w A B):Two σ b a w v B A:=⟨h.b,h.a,fun t ht e=>h.ne t e ht⟩
structure TR (N:List Nd)(rows:List (List D)):Prop where
 len:rows.length=N.length
 at_ : ∀ (k:Nat) (n:Nd),N[k]?=some n→∃ i o,rows[k]?=some [i,o,.bool n.f]∧LV (.d i) (fH n.ins)∧LV (.d o) (gH n.outs)
theorem TR.fit {N:List Nd}{rows:List (List D)}(h:TR N rows) : ∀ r∈rows,r.length=3:=fun r hr=>by
 obtain⟨k,hk⟩:=bQ hr
 have hkl:k<N.length:=by have:=(aB.1 hk).1; rw [h.len] at this; exact this
 obtain⟨i,o,h1,_,_⟩:=h.at_ k N[k] (by simp [hkl])
 rw [hk] at h1
 cases h1
 rfl
theorem TR.nil:TR [] []:=⟨rfl,fun k n h=>by simp at h⟩
theorem RR.nil:RR [] []:=⟨rfl,fun k n h=>by simp at h,fun n hn=>by cases hn⟩
theorem TR.snoc {N:List Nd}{rows:List (List D)}(h:TR N rows){n:Nd}{i o:D}(hi:LV (.d i) (fH n.ins))(ho:LV (.d o) (gH n.outs)):TR (N++[n]) (rows++[[i,o,.bool n.f]]):=by
 refine⟨by simp [h.len],fun k m hk=>?_⟩
 rw [List.getElem?_append] at hk ⊢
 rw [h.len]
 split at hk
 ·rename_i hl
  rw [if_pos hl]
  exact h.at_ k m hk
 ·rename_i hl
  rw [if_neg hl]
  obtain⟨h1,h2⟩:=aB.1 hk
  have h0:k-N.length=0:=by simpa using h1
  rw [h0] at hk ⊢
  simp at hk
  subst hk
  exact⟨i,o,rfl,hi,ho⟩
theorem aHd {M:List Nd}{k:Nat}{n:Nd}(hk:M[k]?=some n)(L:List (List UInt8)):rmL (M.take (k+1)) L=rmL (M.take k) L++(if n.id∈L then [] else [n]):=by
 rw [lE hk]
 unfold rmL
 rw [List.filter_append]
 congr 1
 by_cases h:n.id∈L <;> simp [h]
def aHW (x y:D)(M:List Nd)(L:List (List UInt8))(m:Nat)(e:Env) (σ:St):Prop:=∃ (k:Nat) (v w:V) (A B:List (List D)),e=[(0,.d x),(1,.d y),(6,v),(7,w),(8,I k)]∧k≤M.length∧m=M.length-k∧Two σ 36 3 v w A B∧RR (rmL (M.take k) L) A∧TR (gX (M.take k) L) B
set_option maxHeartbeats 1000000 in
theorem aFS {x y:D}{M:List Nd}{rows:List (List D)}{L:List (List UInt8)}(hx:LV (.d x) rows)(h:RR M rows)(hl:M.length≤1000)(hy:LV (.d y) (hH L))(h32:H32 L)(hll:L.length≤100000) :
  Dn.Call Γ cx .val 41 [.d x,.d y] St.empty fun v _=>∃ (x' y':D) (A B:List (List D)),v = .tup [.d x',.d y']∧LV (.d x') A∧RR (rmL M L) A∧LV (.d y') B∧TR (gX M L) B:=by
 refine Dn.Call.body (fc:=c41) rfl ?_
 have hlx : ∀ σ,gZ σ .slice (.d x)=some M.length:=fun σ=>by rw [hx.len,h.len]
 simp [c41,c41_k10,c41_k9,c41_k8,c41_k7]
 refine fK (aHW x y M L) (m:=M.length) ⟨0,.d .nils,.d .nils,[],[],rfl,by omega,rfl,⟨.nil,.nil,fun t ht=>by cases ht⟩,RR.nil,TR.nil⟩ ?_
 rintro m e σ ⟨k,v,w,A,Bb,rfl,hk,rfl,hT,hA,hB⟩
 have hAl:=hA.len
 have hBl:=hB.len
 have hA2:(rmL (M.take k) L).length≤k:=Nat.le_trans (List.length_filter_le _ _) (by simp; omega)
 have hB2:(gX (M.take k) L).length≤k:=Nat.le_trans (List.length_filter_le _ _) (by simp; omega)
 simp [-loadAt,c41_l6,hlx,c41_k5]
 by_cases hkl:k<M.length
 ·obtain⟨n,hn⟩ : ∃ n,M[k]?=some n:=⟨M[k],by simp [hkl]⟩
  obtain⟨i,o,row,hr,G⟩:=h.get hx hn
  have hnok:=h.ok n (aL hn)
  have ia:=G.ia
  have f3:=G.f3
  have l3:=G.l3
  have f0:=G.f0
  have lt:=G.lt
  have l36:=G.l36
  have hrl:=G.len
  have h1:=aHd hn L
  have h2:=vP hn L
  have ew:aJ.wrap ((k:Int)+1)=(k:Int)+1:=bY (by omega) (by omega)
  simp [-loadAt,-cH,hY,hkl,-aA,c41_k4,c41_k3,ia,f3,l3]
  refine gI rfl (aES hy h32 hll hnok.id) (jF rfl rfl) ?_
  by_cases e:n.id∈L
  ·rw [if_pos e,aG] at h1
   rw [if_pos e] at h2
   have hbs : ∀ (e:Env) (z:Opd),z.ev e = .da [i,o,.bool n.f]→dC (.bslice 27 1 3 [.nils,.nils,.bool false] [(0,z)]) e σ=some (.fl [[i,o,.bool n.f]]):=fun e z hz=>lK hz rfl rfl
   obtain⟨w',s',a1,a2,a3⟩:=hT.pushB (bytes:=56) (by decide) hB.fit (y:=[i,o,.bool n.f]) rfl (by omega) (by omega)
   simp [-loadAt,-cH,hY,e,-aA,c41_k2,ia,f0,lt,↓hbs]
   refine gN (v:=w') (s:=s') ?_ ?_
   ·simp [V.rows]
    exact a1 none
   simp [c41_k1,ew]
   exact⟨M.length-(k+1),by omega,k+1,v,w',A,_,rfl,by omega,rfl,a2,by rw [h1]; exact hA,by rw [h2]; exact hB.snoc G.i G.o⟩
  ·rw [if_neg e] at h1
   rw [if_neg e,aG] at h2
   have hbs : ∀ (e:Env) (z:Opd) (zs:List D),zs.length=36→z.ev e = .da row→dC (.bslice 49 1 36 zs [(0,z)]) e σ=some (.fl [row]):=fun e z zs hz hx=>lK hx hz hrl
   obtain⟨v',s',a1,a2,a3⟩:=hT.swap.pushB (bytes:=96) (by decide) hA.fit (y:=row) hrl (by omega) (by omega)
   simp [-loadAt,-cH,hY,e,-aA,c41_k2,ia,l36,↓hbs]
   refine gN (v:=v') (s:=s') ?_ ?_
   ·simp [V.rows]
    exact a1 none
   simp [c41_k1,ew]
   exact⟨M.length-(k+1),by omega,k+1,v',w,_,Bb,rfl,by omega,rfl,a2.swap,by rw [h1,G.e]; exact hA.snoc hnok G.i G.o,by rw [h2]; exact hB⟩
 ·obtain rfl:k=M.length:=by omega
  rw [bC] at hA hB
  obtain⟨x',v1,v2⟩:=hT.a.lv.byVal σ
  obtain⟨y',w1,w2⟩:=hT.b.lv.byVal σ
  simp [c41_k0,v1,w1]
  exact⟨x',y',by simp,A,v2,hA,Bb,w2,hB⟩

structure RK (M:List Nd)(nx:List UInt8→List (List UInt8))(L K:List (List UInt8)):Prop where
 r : ∀ id∈K,Reach M nx L id
 nd:K.Nodup
 b : ∀ id∈L,(fnd M id).isSome=true→id∈K
def aDr (nx:List UInt8→List (List UInt8))(K:List (List UInt8))(i:Nat):Prop:=∀ a∈K.take i,∀ b∈nx a,b∈K
theorem RK.len {M:List Nd}(hn:(M.map (·.id)).Nodup){nx:List UInt8→List (List UInt8)}{L K:List (List UInt8)}(h:RK M nx L K):K.length≤M.length:=aCa hn h.nd fun id hi=>(h.r id hi).is
theorem RK.done {M:List Nd}{nx:List UInt8→List (List UInt8)}{L K:List (List UInt8)}(h:RK M nx L K)(hc:aDr nx K K.length) : ∀ id,id∈K↔Reach M nx L id:=fun id=>by
 unfold aDr at hc
 rw [bC] at hc
 refine⟨h.r id,fun hr=>?_⟩
 induction hr with
 | base h1 h2=>exact h.b _ h1 h2
 | step h1 h2 h3 ih=>exact hc _ ih _ h2
theorem RK.add {M:List Nd}{nx:List UInt8→List (List UInt8)}{L K:List (List UInt8)}(h:RK M nx L K){a b:List UInt8}(ha:a∈K)(hb:b∈nx a)(hf:(fnd M b).isSome=true)(hk:b∉K):RK M nx L (K++[b]):=by
 refine⟨fun id hi=>?_,mY h.nd hk,fun id hi hf=>by simp [h.b id hi hf]⟩
 rcases aW.1 hi with h1 | h1
 ·exact h.r id h1
 ·obtain rfl:=bI.1 h1
  exact .step (h.r a ha) hb hf
def aGl (x:D)(up:Bool)(M:List Nd)(nx:List UInt8→List (List UInt8))(L:List (List UInt8))(m:Nat)(e:Env) (σ:St):Prop:=∃ (i:Nat) (v:V) (K:List (List UInt8)),e=[(0,.d x),(2,B up),(7,v),(8,I i)]∧i≤K.length∧m=M.length-i∧App σ 32 v (hH K)∧(K=[]→v = .d .nils)∧RK M nx L K∧aDr nx K i
def aJF (x y:D)(up:Bool)(M:List Nd)(nx:List UInt8→List (List UInt8))(L K0 N:List (List UInt8))(i:Nat)(m:Nat)(e:Env) (σ:St):Prop:=∃ (k:Nat) (v:V) (X:List (List UInt8)),e=[(0,.d x),(2,B up),(7,v),(8,I i),(9,.d y),(10,I k)]∧k≤N.length∧m=N.length-k∧App σ 32 v (hH (K0++X))∧RK M nx L (K0++X)∧∀ b∈N.take k,b∈K0++X
set_option maxHeartbeats 1000000 in
theorem aAs {x z:D}{M:List Nd}{rows:List (List D)}(hx:LV (.d x) rows)(h:RR M rows)(hl:M.length≤1000)(hn:(M.map (·.id)).Nodup)(hpt:((M.flatMap Nd.spent).map (·.1)).Nodup){L:List (List UInt8)}(hz:LV (.d z) (hH L))(h32:H32 L)(hll:L.length≤100000)(up:Bool){nx:List UInt8→List (List UInt8)}(hnx:nx=if up then mT M else oD M)
  (hn32 : ∀ id,H32 (nx id)∧(nx id).length≤1000) (hin : ∀ a b,b∈nx a→(fnd M b).isSome=true) :
  Dn.Call Γ cx .val 58 [.d x,.d z,B up] St.empty fun v _=>v = .d (hlD (aAd M nx L)):=by
 refine Dn.Call.body (fc:=c58) rfl ?_
 simp [c58,c58_k18]
 refine fF (aBg hx h hl hz h32 hll) fun v s ⟨hv,hv0,ho,ht⟩=>?_
 simp [c58_k17,c58_k16]
 have hL0:RK M nx L ((gX M L).map (·.id)):=by
  refine⟨fun id hi=>?_,hn.sublist (List.filter_sublist.map _),fun id hi hf=>?_⟩
  ·obtain⟨n,hn1,rfl⟩:=aT.1 hi
   obtain⟨a1,a2⟩:=aY.1 hn1
   exact .base (by simpa using a2) (by rw [lR hn a1]; rfl)
  ·obtain⟨n,hfn⟩:=Option.isSome_iff_exists.1 hf
   obtain⟨a1,rfl⟩:=jQ hfn
   exact aT.2 ⟨n,aY.2 ⟨a1,decide_eq_true hi⟩,rfl⟩
 refine fK (aGl x up M nx L) (m:=M.length) ⟨0,v,_,rfl,by omega,rfl,hv,hv0,hL0,fun a ha=>by simp at ha⟩ ?_
 rintro m e σ ⟨i,v,K,rfl,hi,rfl,hv,hv0,hK,hC⟩
 have hKl:=hK.len hn
 have hK32:H32 K:=fun id hi=>by
  obtain⟨n,hfn⟩:=Option.isSome_iff_exists.1 (hK.r id hi).is
  obtain⟨a1,rfl⟩:=jQ hfn
  exact(h.ok n a1).id
 have hvl : ∀ σ,gZ σ .slice v=some K.length:=fun σ=>by rw [hv.lv.len,iN]
 simp [-loadAt,c58_l15,hvl,c58_k14]
 by_cases hiK:i<K.length
 rotate_left
 ·obtain rfl:i=K.length:=by omega
  have hval:=App.val hv hv0
  have hd:=hK.done hC
  simp [c58_k0]
  refine gI (ds:=[.d x,.d (hlD K)]) (by simp only [cN,gS,hval]) (aDc hx h hl (kG _) hK32 (by omega)) (oS rfl (by have h1:=hv.lv.borrows; have h2:(V.d x).borrows=false:=rfl; simp only [List.any_cons,List.any_nil,h1,h2,Bool.or_false])) ?_
  rw [aEN hd]
  simp
 obtain⟨a,ha⟩ : ∃ a,K[i]?=some a:=⟨K[i],by simp [hiK]⟩
 have haK:=aL ha
 have ha32:=hK32 a haK
 have hla:=fun σ=>LV.load hv.lv (nS ha) (show(cG a).length=32 by rw [fG,ha32]) σ
 have ia:=fun σ=>(hla σ).1
 have la:=fun σ=>(hla σ).2
 have ewi:aJ.wrap ((i:Int)+1)=((i+1:Nat):Int):=by rw [bY (by omega) (by omega)]; omega
 simp [-loadAt,hiK,c58_k13,c58_k12,ia,la]
 refine gI rfl (xI hx h hl hn hpt ha32) (oS rfl rfl) ?_
 obtain⟨n32,nl⟩:=hn32 a
 have inner : ∀ y:D,LV (.d y) (hH (nx a))→gF (Dn.Call Γ cx) cx c58_k9 [(0,.d x),(2,B up),(7,v),(8,I i),(9,.d y)] σ (pA 1 (oC (Dn.Call Γ cx) cx c58_k1 (rS (aGl x up M nx L) (M.length-i) [0,2,7,8] (pA 0 (oC (Dn.Call Γ cx) cx c58_k0 (tY .val ⟨[],[]⟩ [.tmp 6] fun v x=>v = .d (hlD (aAd M nx L)))))))):=fun y hy=>by
  have hyl : ∀ σ,gZ σ .slice (.d y)=some (nx a).length:=fun σ=>by rw [hy.len,iN]
  simp [c58_k9,c58_k8]
  refine fK (aJF x y up M nx L K (nx a) i) (m:=(nx a).length) ⟨0,v,[],rfl,by omega,rfl,by simpa using hv,by simpa using hK,by simp⟩ ?_
  rintro m e σ ⟨k,w,X,rfl,hk,rfl,hw,hR,hN⟩
  have hRl:=hR.len hn
  have hR32:H32 (K++X):=fun id hi=>by
   obtain⟨n,hfn⟩:=Option.isSome_iff_exists.1 (hR.r id hi).is
   obtain⟨a1,rfl⟩:=jQ hfn
   exact(h.ok n a1).id
  simp [-loadAt,c58_l7,hyl,c58_k6]
  by_cases hkn:k<(nx a).length
  rotate_left
  ·obtain rfl:k=(nx a).length:=by omega
   rw [bC] at hN
   simp [c58_k1,ewi]
   rw [show((i:Int)+1)=((i+1:Nat):Int) from by omega]
   refine⟨M.length-(i+1),by omega,i+1,w,K++X,rfl,by simp; omega,rfl,hw,fun h0=>by have:=List.append_eq_nil_iff.1 h0; rw [this.1] at hiK; simp at hiK,hR,fun a' ha' b' hb'=>?_⟩
   rw [List.take_append_of_le_length (by omega),lE ha] at ha'
   rcases aW.1 ha' with h1 | h1
   ·exact List.mem_append_left _ (hC a' h1 b' hb')
   ·obtain rfl:=bI.1 h1
    exact hN b' hb'
  obtain⟨b,hb⟩ : ∃ b,(nx a)[k]?=some b:=⟨(nx a)[k],by simp [hkn]⟩
  have hbn:=aL hb
  have hb32:=n32 b hbn
  have hlb:=fun σ=>LV.load hy (nS hb) (show(cG b).length=32 by rw [fG,hb32]) σ
  have ib:=fun σ=>(hlb σ).1
  have lb:=fun σ=>(hlb σ).2
  have ewk:aJ.wrap ((k:Int)+1)=((k+1:Nat):Int):=by rw [bY (by omega) (by omega)]; omega
  have hne:K++X≠[]:=fun h0=>by have:=List.append_eq_nil_iff.1 h0; rw [this.1] at hiK; simp at hiK
  have hval:=App.val hw fun h0=>absurd h0 hne
  simp [-loadAt,hkn,c58_k5,c58_k4,ib,lb]
  refine gI (ds:=[.d (hlD (K++X)),.da (cG b)]) (by simp only [cN,hval,fN]) (aES (kG _) hR32 (by omega) hb32) (jF rfl rfl) ?_
  obtain⟨bb,hbb⟩ : ∃ bb,decide (b∈K++X)=bb:=⟨_,rfl⟩
  rw [hbb]
  cases bb
  rotate_left
  ·have e:b∈K++X:=of_decide_eq_true hbb
   simp [c58_k3,c58_k2,ewk]
   rw [show((k:Int)+1)=((k+1:Nat):Int) from by omega]
   refine⟨(nx a).length-(k+1),by omega,k+1,w,X,rfl,by omega,rfl,hw,hR,fun b' hb'=>?_⟩
   rw [lE hb] at hb'
   rcases aW.1 hb' with h1 | h1
   ·exact hN b' h1
   ·obtain rfl:=bI.1 h1
    exact e
  ·have e : ¬ b∈K++X:=of_decide_eq_false hbb
   have hbs : ∀ (e:Env) (z:Opd),z.ev e = .da (cG b)→dC (.bslice 45 1 32 (aD 32 (.int .u8 0)) [(0,z)]) e σ=some (.fl [cG b]):=fun e z hz=>lK hz (by simp) (by rw [fG,hb32])
   obtain⟨w',s',a1,a2,a3,_⟩:=App.hash hw hR32 (by omega) hb32
   simp [-loadAt,-aA,c58_k3,ib,lb,↓hbs]
   refine gN (v:=w') (s:=s') ?_ ?_
   ·simp [V.rows]
    exact a1
   simp [c58_k2,ewk]
   rw [show((k:Int)+1)=((k+1:Nat):Int) from by omega]
   have hadd:=hR.add (List.mem_append_left X haK) hbn (hin a b hbn) e
   refine⟨(nx a).length-(k+1),by omega,k+1,w',X++[b],rfl,by omega,rfl,by rw [← bV]; exact a2,by rw [← bV]; exact hadd,fun b' hb'=>?_⟩
   rw [lE hb] at hb'
   rcases aW.1 hb' with h1 | h1
   ·have:=hN b' h1
    simp only [aW] at this ⊢
    rcases this with h | h
    ·exact .inl h
    ·exact .inr (.inl h)
   ·obtain rfl:=bI.1 h1
    simp
 cases up with
 | false =>
  simp only [aP,if_false] at hnx
  subst hnx
  simp [c58_k11,c58_k10]
  exact inner _ (kG _)
 | true =>
  simp only [if_true] at hnx
  subst hnx
  simp [-loadAt,c58_k11,c58_k10,ia,la]
  refine gI rfl (aAq hx h hl hn ha32) (oS rfl rfl) ?_
  simp
  exact inner _ (kG _)

theorem aIC {M:List Nd}(hn:(M.map (·.id)).Nodup)(a b:List UInt8)(h:b∈mT M a):(fnd M b).isSome=true:=by
 unfold mT at h
 split at h
 ·obtain⟨n,h1,rfl⟩:=aT.1 h
  rw [lR hn (aY.1 h1).1]; rfl
 ·cases h
theorem aIf {M:List Nd}(hn:(M.map (·.id)).Nodup)(a b:List UInt8)(h:b∈oD M a):(fnd M b).isSome=true:=by
 unfold oD at h
 split at h
 ·obtain⟨n,h1,rfl⟩:=aT.1 h
  rw [lR hn (aY.1 h1).1]; rfl
 ·cases h
theorem aG4 {M:List Nd}(h : ∀ n∈M,n.Ok)(hl:M.length≤1000)(a:List UInt8):H32 (mT M a)∧(mT M a).length≤1000:=by
 unfold mT
 split
 ·exact⟨vH h _,Nat.le_trans (pU _ _) hl⟩
 ·exact⟨xY,by simp⟩
theorem aGB {M:List Nd}(h : ∀ n∈M,n.Ok)(hl:M.length≤1000)(a:List UInt8):H32 (oD M a)∧(oD M a).length≤1000:=by
 unfold oD
 split
 ·exact⟨vH h _,Nat.le_trans (pU _ _) hl⟩
 ·exact⟨xY,by simp⟩
theorem aB2 {x z:D}{M:List Nd}{rows:List (List D)}(hx:LV (.d x) rows)(h:RR M rows)(hl:M.length≤1000)(hn:(M.map (·.id)).Nodup)(hpt:((M.flatMap Nd.spent).map (·.1)).Nodup){L:List (List UInt8)}(hz:LV (.d z) (hH L))(h32:H32 L)(hll:L.length≤100000) :
  Dn.Call Γ cx .val 25 [.d x,.d z] St.empty fun v _=>v = .d (hlD (aAd M (mT M) L)):=by
 refine Dn.Call.body (fc:=c25) rfl ?_
 simp [c25,c25_k0]
 refine gI rfl (aAs hx h hl hn hpt hz h32 hll true (nx:=mT M) rfl (aG4 h.ok hl) (aIC hn)) (oS rfl rfl) ?_
 simp
theorem aAo {x z:D}{M:List Nd}{rows:List (List D)}(hx:LV (.d x) rows)(h:RR M rows)(hl:M.length≤1000)(hn:(M.map (·.id)).Nodup)(hpt:((M.flatMap Nd.spent).map (·.1)).Nodup){L:List (List UInt8)}(hz:LV (.d z) (hH L))(h32:H32 L)(hll:L.length≤100000) :
  Dn.Call Γ cx .val 27 [.d x,.d z] St.empty fun v _=>v = .d (hlD (aAd M (oD M) L)):=by
 refine Dn.Call.body (fc:=c27) rfl ?_
 simp [c27,c27_k0]
 refine gI rfl (aAs hx h hl hn hpt hz h32 hll false (nx:=oD M) rfl (aGB h.ok hl) (aIf hn)) (oS rfl rfl) ?_
 simp

def rW (M:List Nd)(L:List (List UInt8)):V:=.tup [if mV M L=0 then .da [.int .i64 (oF (gX M L)),.int .i64 (sD (gX M L))] else .da [.int .i64 0,.int .i64 0],I (mV M L)]
theorem aF5 (A:List Nd)(n:Nd):oF (A++[n])=oF A+n.fee:=by unfold oF; rw [List.map_append,aAw]; simp [kX]
theorem aF6 (A:List Nd)(n:Nd):sD (A++[n])=sD A+wtN n.ins n.outs n.f:=by unfold sD; rw [List.map_append,aAw]; simp [kX]
theorem aEX {A:List Nd}(h : ∀ n∈A,n.Ok):0≤oF A∧oF A≤2100000000000000*A.length:=by
 have:=yD (l:=A.map (·.fee)) (c:=2100000000000000) fun w hw=>by
  obtain⟨n,hn,rfl⟩:=aT.1 hw
  exact(h n hn).fee
 simpa [oF] using this
theorem aEY {A:List Nd}(h : ∀ n∈A,n.Ok):0≤sD A∧sD A≤800000*A.length:=by
 have:=yD (l:=A.map fun n=>wtN n.ins n.outs n.f) (c:=800000) fun w hw=>by
  obtain⟨n,hn,rfl⟩:=aT.1 hw
  have:=h n hn
  exact aCf this.li this.lo this.si
 simpa [sD] using this
def aJH (x z:D)(M:List Nd)(L:List (List UInt8))(m:Nat)(e:Env) (σ:St):Prop:=∃ k:Nat,e=[(0,.d x),(1,.d z),(4,.ref 0 0),(6,I k)]∧k≤L.length∧m=L.length-k∧σ=⟨[.cells [I 0,I 0]],[]⟩∧∀ id∈L.take k,(fnd M id).isSome=true
def aJI (x z:D)(M:List Nd)(L:List (List UInt8))(m:Nat)(e:Env) (σ:St):Prop:=∃ k:Nat,e=[(0,.d x),(1,.d z),(4,.ref 0 0),(7,.ref 1 0),(8,I k)]∧k≤M.length∧m=M.length-k∧σ=⟨[.cells [I 0,I 0],.cells [I (oF (gX (M.take k) L)),I (sD (gX (M.take k) L))]],[]⟩
set_option maxHeartbeats 1000000 in
theorem aIX {x z:D}{M:List Nd}{rows:List (List D)}(hx:LV (.d x) rows)(h:RR M rows)(hl:M.length≤1000){L:List (List UInt8)}(hz:LV (.d z) (hH L))(h32:H32 L)(hll:L.length≤100000) :
  Dn.Call Γ cx .val 12 [.d x,.d z] St.empty fun v _=>v=rW M L:=by
 refine Dn.Call.body (fc:=c12) rfl ?_
 have hlz : ∀ σ,gZ σ .slice (.d z)=some L.length:=fun σ=>by rw [hz.len,iN]
 have hlx : ∀ σ,gZ σ .slice (.d x)=some M.length:=fun σ=>by rw [hx.len,h.len]
 simp [c12,c12_k23,hlz]
 by_cases hL0:L=[]
 ·subst hL0
  simp [c12_k22,rW,mV]
 simp [hL0,c12_k22,c12_k21,c12_k20]
 refine fK (aJH x z M L) (m:=L.length) ⟨0,rfl,by omega,rfl,rfl,by simp⟩ ?_
 rintro m e σ ⟨k,rfl,hk,rfl,rfl,hall⟩
 simp [-loadAt,c12_l19,hlz,c12_k18]
 by_cases hkl:k<L.length
 ·obtain⟨a,ha⟩ : ∃ a,L[k]?=some a:=⟨L[k],by simp [hkl]⟩
  have haL:=aL ha
  have ha32:=h32 a haL
  have hla:=fun σ=>LV.load hz (nS ha) (show(cG a).length=32 by rw [fG,ha32]) σ
  have ia:=fun σ=>(hla σ).1
  have la:=fun σ=>(hla σ).2
  have ew:aJ.wrap ((k:Int)+1)=(k:Int)+1:=bY (by omega) (by omega)
  simp [-loadAt,hkl,c12_k17,c12_k16,ia,la]
  refine gI rfl (aHz hx h hl ha32) (jF rfl rfl) ?_
  cases hf:(fnd M a).isSome with
  | false =>
   have he:mV M L=4:=by
    unfold mV
    rw [if_pos (.inr (List.any_eq_true.2 ⟨a,haL,by rw [hf]; rfl⟩))]
   simp [c12_k15,rW,he]
  | true =>
   simp [c12_k15,c12_k14,ew]
   refine⟨L.length-(k+1),by omega,k+1,rfl,by omega,rfl,rfl,fun id hid=>?_⟩
   rw [lE ha] at hid
   rcases aW.1 hid with h1 | h1
   ·exact hall id h1
   ·obtain rfl:=bI.1 h1
    exact hf
 obtain rfl:k=L.length:=by omega
 rw [bC] at hall
 have hE:mV M L=if oF (gX M L)≤2100000000000000 then 0 else 9:=by
  unfold mV
  rw [if_neg]
  rintro (h1 | h1)
  ·exact hL0 h1
  ·obtain⟨id,hid,h2⟩:=List.any_eq_true.1 h1
   rw [hall id hid] at h2
   cases h2
 simp [c12_k13,c12_k12,c12_k11]
 refine fK (aJI x z M L) (m:=M.length) ⟨0,rfl,by omega,rfl,rfl⟩ ?_
 rintro m e σ ⟨k,rfl,hk,rfl,rfl⟩
 have hok : ∀ n∈gX (M.take k) L,n.Ok:=fun n hn=>h.ok n (List.mem_of_mem_take (aY.1 hn).1)
 have hF:=aEX hok
 have hW:=aEY hok
 have hkl2:(gX (M.take k) L).length≤k:=Nat.le_trans (List.length_filter_le _ _) (by simp; omega)
 simp [-loadAt,c12_l10,hlx,c12_k9]
 by_cases hkl:k<M.length
 ·obtain⟨n,hn⟩ : ∃ n,M[k]?=some n:=⟨M[k],by simp [hkl]⟩
  obtain⟨i,o,row,hr,G⟩:=h.get hx hn
  have hnok:=h.ok n (aL hn)
  have ia:=G.ia
  have f3:=G.f3
  have l3:=G.l3
  have f0:=G.f0
  have lt:=G.lt
  have f35:=G.f35
  have l35:=G.l35
  have hs:=vP hn L
  have hfee:=hnok.fee
  have hwt:=aCf (f:=n.f) hnok.li hnok.lo hnok.si
  have ew:aJ.wrap ((k:Int)+1)=(k:Int)+1:=bY (by omega) (by omega)
  simp [-loadAt,-cH,hY,hkl,-aA,c12_k8,c12_k7,ia,f3,l3]
  refine gI rfl (aES hz h32 hll hnok.id) (jF rfl rfl) ?_
  by_cases e:n.id∈L
  ·rw [if_pos e] at hs
   have e1:oF (gX (M.take (k+1)) L)=oF (gX (M.take k) L)+n.fee:=by rw [hs,aF5]
   have e2:sD (gX (M.take (k+1)) L)=sD (gX (M.take k) L)+wtN n.ins n.outs n.f:=by rw [hs,aF6]
   generalize oF (gX (M.take k) L)=F at *
   generalize sD (gX (M.take k) L)=W at *
   have ewF:aJ.wrap (F+n.fee)=F+n.fee:=bY (by omega) (by omega)
   have ewW:aJ.wrap (W+wtN n.ins n.outs n.f)=W+wtN n.ins n.outs n.f:=bY (by omega) (by omega)
   have lF:loadAt ⟨[.cells [I 0,I 0],.cells [I F,I W]],[]⟩ false 1 (.ref 1 0)=some (I F):=rfl
   have lW:loadAt ⟨[.cells [I 0,I 0],.cells [I (F+n.fee),I W]],[]⟩ false 1 (.ref 1 1)=some (I W):=rfl
   simp [-loadAt,e,c12_k6,c12_k5]
   refine gP (fun _=>.val) [] (by decide +kernel) ?_
   simp [-loadAt,-cH,hY,dB,ia,f35,l35,lF,ewF,c12_k4]
   refine gP (fun _=>.val) [] (by decide +kernel) ?_
   simp [-loadAt,-cH,hY,dB,ia,f0,lt,lW]
   refine gY rfl rfl (aFT ⟨G.i,G.o,hnok.li,hnok.lo,hnok.si,hnok.so⟩) (jF rfl rfl) ?_
   simp [-loadAt,-cH,hY,ewW,c12_k3,ew]
   refine⟨M.length-(k+1),by omega,k+1,rfl,by omega,rfl,by rw [e1,e2]⟩
  ·rw [if_neg e,aG] at hs
   simp [e,c12_k6,c12_k3,ew]
   exact⟨M.length-(k+1),by omega,k+1,rfl,by omega,rfl,by rw [hs]⟩
 ·obtain rfl:k=M.length:=by omega
  rw [bC] at *
  simp [c12_k2]
  refine gI rfl (yC _) (jF rfl rfl) ?_
  by_cases hle:oF (gX M L)≤2100000000000000
  ·have hg:jM (oF (gX M L))=true:=by simp only [jM,decide_eq_true_eq]; exact⟨hF.1,hle⟩
   rw [if_pos hle] at hE
   simp [hg,c12_k1,c12_k0,rW,hE]
  ·have hg:jM (oF (gX M L))=false:=by simp only [jM,decide_eq_false_iff_not]; exact fun h=>hle h.2
   rw [if_neg hle] at hE
   simp [hg,c12_k1,rW,hE]

def tT:List Lk:=aD 32 (.int .u8)
def inK:List Lk:=tT++[.int .i64,.str,.int .u64]
def aG0:List Lk:=[.int .i64,.int .u64]

theorem qU {ls:List Lk}{d:D}(h:(Lk.list ls).fits d) : ∃ rows,LV (.d d) rows∧∀ r∈rows,Lks ls r:=by
 simp only [Lk.fits] at h
 rcases h with rfl | ⟨rows,rfl,_,h⟩
 ·exact⟨[],.nil,by simp⟩
 ·exact⟨rows,.list _,h⟩

theorem Lks.split : ∀ {a b:List Lk} {x:List D},Lks (a++b) x→∃ y z,x=y++z∧Lks a y∧Lks b z
 | [],b,x,h=>⟨[],x,rfl,rfl,h⟩
 | k::a,b,x,h=>by
  simp only [aE,Lks] at h
  obtain⟨d,r,rfl,h1,h2⟩:=h
  obtain⟨y,z,rfl,h3,h4⟩:=Lks.split h2
  exact⟨d::y,z,rfl,⟨d,y,rfl,h1,h3⟩,h4⟩
theorem Lks.bytes : ∀ {n:Nat} {x:List D},Lks (aD n (.int .u8)) x→∃ l:List UInt8,x=hd l∧l.length=n
 | 0,x,h=>by
  simp only [aD,Lks] at h
  subst h
  exact⟨[],rfl,rfl⟩
 | n+1,x,h=>by
  simp only [List.replicate_succ,Lks,Lk.fits] at h
  obtain⟨d,r,rfl,⟨v,rfl,h1,h2⟩,h3⟩:=h
  obtain⟨l,rfl,hl⟩:=Lks.bytes h3
  have e1:IntKind.u8.min=0:=rfl
  have e2:IntKind.u8.max=255:=rfl
  refine⟨UInt8.ofNat v.toNat::l,?_,by simp [hl]⟩
  simp only [hd,aI]
  congr 2
  simp [UInt8.toNat_ofNat]
  omega

theorem aHH {r:List D}(h:Lks inK r) : ∃ s:SpG,r=s.row∧s.tx.length=32∧0≤s.sl∧s.sl≤18446744073709551615 ∧ -9223372036854775808≤s.n∧s.n≤9223372036854775807:=by
 obtain⟨y,z,rfl,h1,h2⟩:=Lks.split h
 obtain⟨l,rfl,hl⟩:=Lks.bytes h1
 simp only [Lks,Lk.fits] at h2
 obtain⟨_,_,rfl,⟨n,rfl,n0,n1⟩,_,_,rfl,⟨k,rfl,_⟩,_,_,rfl,⟨q,rfl,h3,h4⟩,rfl⟩:=h2
 have e1:bL.min=0:=rfl
 have e2:bL.max=18446744073709551615:=rfl
 have e3:aJ.min = -9223372036854775808:=rfl
 have e4:aJ.max=9223372036854775807:=rfl
 exact⟨⟨l,n,k,q⟩,rfl,hl,by simp only; omega,by simp only; omega,by simp only; omega,by simp only; omega⟩
theorem wB : ∀ {rows:List (List D)},(∀ r∈rows,Lks inK r)→∃ l:List SpG,rows=fH l∧∀ s∈l,s.tx.length=32∧0≤s.sl∧s.sl≤18446744073709551615 ∧ -9223372036854775808≤s.n∧s.n≤9223372036854775807
 | [],_=>⟨[],rfl,by simp⟩
 | r::rows,h=>by
  obtain⟨s,rfl,hs⟩:=aHH (h r (by simp))
  obtain⟨l,rfl,hl⟩:=wB (rows:=rows) fun r hr=>h r (by simp [hr])
  exact⟨s::l,rfl,fun x hx=>by
   simp at hx
   rcases hx with rfl | hx
   ·exact hs
   ·exact hl x hx⟩
theorem aIg {r:List D}(h:Lks aG0 r) : ∃ c:CoG,r=c.row∧c.Ok:=by
 simp only [aG0,Lks,Lk.fits] at h
 obtain⟨_,_,rfl,⟨n,rfl,n0,n1⟩,_,_,rfl,⟨q,rfl,h3,h4⟩,rfl⟩:=h
 have e3:aJ.min = -9223372036854775808:=rfl
 have e4:aJ.max=9223372036854775807:=rfl
 have e1:bL.min=0:=rfl
 have e2:bL.max=18446744073709551615:=rfl
 exact⟨⟨n,q⟩,rfl,by simp only [CoG.Ok]; omega⟩
theorem yS : ∀ {rows:List (List D)},(∀ r∈rows,Lks aG0 r)→∃ l:List CoG,rows=gH l∧∀ c∈l,c.Ok
 | [],_=>⟨[],rfl,by simp⟩
 | r::rows,h=>by
  obtain⟨s,rfl,hs⟩:=aIg (h r (by simp))
  obtain⟨l,rfl,hl⟩:=yS (rows:=rows) fun r hr=>h r (by simp [hr])
  exact⟨s::l,rfl,fun x hx=>by
   simp at hx
   rcases hx with rfl | hx
   ·exact hs
   ·exact hl x hx⟩

theorem aGO : ∀ {rows:List (List D)},(∀ row∈rows,Lks tT row)→∃ l,rows=hH l∧H32 l
 | [],_=>⟨[],rfl,fun x hx=>by cases hx⟩
 | r::rows,h=>by
  obtain⟨l,rfl,hl⟩:=aGO (rows:=rows) fun row hr=>h row (by simp [hr])
  obtain⟨b,rfl,hb⟩:=Lks.bytes (h r (by simp))
  exact⟨b::l,rfl,fun x hx=>by
   simp at hx
   rcases hx with rfl | hx
   ·exact hb
   ·exact hl x hx⟩

structure TxG where
 i:D
 o:D
 f:Bool
 ins:List SpG
 outs:List CoG
structure TxG.Raw (t:TxG):Prop where
 i:LV (.d t.i) (fH t.ins)
 o:LV (.d t.o) (gH t.outs)
 si : ∀ s∈t.ins,s.tx.length=32∧0≤s.sl∧s.sl≤18446744073709551615 ∧ -9223372036854775808≤s.n∧s.n≤9223372036854775807
 so : ∀ c∈t.outs,c.Ok
structure Act where
 t:TxG
 fee:Int
 idsD:D
 ids:List (List UInt8)
def TxG.row (t:TxG):List D:=[t.i,t.o,.bool t.f]
def Act.row (a:Act):List D:=[a.t.i,a.t.o,.bool a.t.f,.int .i64 a.fee,a.idsD]
structure Act.Raw (a:Act):Prop where
 t:a.t.Raw
 ids:LV (.d a.idsD) (hH a.ids)
 h32:H32 a.ids
def txK:List Lk:=[.list inK,.list aG0,.bool]
def aGp:List Lk:=[.list inK,.list aG0,.bool,.int .i64,.list tT]
theorem aLx {r:List D}(h:Lks txK r) : ∃ t:TxG,r=t.row∧t.Raw:=by
 simp only [txK,Lks] at h
 obtain⟨d1,_,rfl,k1,d2,_,rfl,k2,d3,_,rfl,k3,rfl⟩:=h
 simp only [Lk.fits] at k3
 obtain⟨b,rfl⟩:=k3
 obtain⟨r1,l1,f1⟩:=qU k1
 obtain⟨r2,l2,f2⟩:=qU k2
 obtain⟨ins,rfl,hi⟩:=wB f1
 obtain⟨outs,rfl,ho⟩:=yS f2
 exact⟨⟨d1,d2,b,ins,outs⟩,rfl,⟨l1,l2,hi,ho⟩⟩
theorem aJQ {r:List D}(h:Lks aGp r) : ∃ a:Act,r=a.row∧a.Raw:=by
 simp only [aGp,Lks] at h
 obtain⟨d1,_,rfl,k1,d2,_,rfl,k2,d3,_,rfl,k3,d4,_,rfl,k4,d5,_,rfl,k5,rfl⟩:=h
 simp only [Lk.fits] at k3 k4
 obtain⟨b,rfl⟩:=k3
 obtain⟨n,rfl,_,_⟩:=k4
 obtain⟨r1,l1,f1⟩:=qU k1
 obtain⟨r2,l2,f2⟩:=qU k2
 obtain⟨r5,l5,f5⟩:=qU k5
 obtain⟨ins,rfl,hi⟩:=wB f1
 obtain⟨outs,rfl,ho⟩:=yS f2
 obtain⟨ids,rfl,h5⟩:=aGO f5
 exact⟨⟨⟨d1,d2,b,ins,outs⟩,n,d5,ids⟩,rfl,⟨⟨l1,l2,hi,ho⟩,l5,h5⟩⟩
def nF (l:List Act):List (List D):=l.map Act.row
theorem aEn : ∀ {rows:List (List D)},(∀ r∈rows,Lks aGp r)→∃ l:List Act,rows=nF l∧∀ a∈l,a.Raw
 | [],_=>⟨[],rfl,by simp⟩
 | r::rows,h=>by
  obtain⟨s,rfl,hs⟩:=aJQ (h r (by simp))
  obtain⟨l,rfl,hl⟩:=aEn (rows:=rows) fun r hr=>h r (by simp [hr])
  exact⟨s::l,rfl,fun x hx=>by
   simp at hx
   rcases hx with rfl | hx
   ·exact hs
   ·exact hl x hx⟩
def TxG.Ok (t:TxG):Prop:=TxD t.i t.o t.f t.ins t.outs
theorem TxG.Raw.txok {t:TxG}(h:t.Raw):aH2 t.i t.o (fH t.ins) (gH t.outs):=⟨h.i,h.o,fun r hr=>by
 obtain⟨s,hs,rfl⟩:=aT.1 hr
 simp [SpG.row,pM,(h.si s hs).1],fun r hr=>by
 obtain⟨s,hs,rfl⟩:=aT.1 hr
 rfl⟩
theorem aDh (s:SpG)(h:s.tx.length=32):s.row[33]?=some (.str s.key):=by
 have:(hd s.tx).length=32:=by simp [pM,h]
 simp only [SpG.row]
 rw [bH (by omega),this]; rfl
theorem TxG.Raw.good {t:TxG}(h:t.Raw)(h1:(fH t.ins).length≤30)(h2:(gH t.outs).length≤30)(h3:aAK (fH t.ins) 5000):t.Ok :=
 ⟨h.i,h.o,by simpa [fH] using h1,by simpa [gH] using h2,fun s hs=>by
  obtain⟨a,b,c,d,e⟩:=h.si s hs
  have:=h3 s.row (aT.2 ⟨s,hs,rfl⟩) s.key (aDh s a)
  exact⟨a,by omega,b,c,d,e⟩,h.so⟩
theorem aA2 {t:TxG}(h:t.Raw) : ∀ r∈fH t.ins,∃ s:List UInt8,r[33]?=some (.str s):=fun r hr=>by
 obtain⟨s,hs,rfl⟩:=aT.1 hr
 exact⟨_,aDh s (h.si s hs).1⟩
structure Act.Ok (a:Act):Prop where
 t:a.t.Ok
 ids:LV (.d a.idsD) (hH a.ids)
 h32:H32 a.ids
 li:a.ids.length≤30
def aHR (x:D)(l:List Act)(m:Nat)(e:Env) (σ:St):Prop:=∃ k:Nat,e=[(5,.d x),(6,I l.length),(7,I k)]∧k≤l.length∧m=l.length-k∧k≤31∧∀ a∈l.take k,a.Ok
theorem aKr {x:D}{l:List Act}(hx:LV (.d x) (nF l))(hr : ∀ a∈l,a.Raw) :
  Dn.Call Γ cx .val 7 [.d x] St.empty fun v _=>∃ b,v=B b∧(b=false→l.length≤31∧∀ a∈l,a.Ok):=by
 refine Dn.Call.body (fc:=c7) rfl ?_
 have hlx : ∀ σ,gZ σ .slice (.d x)=some l.length:=fun σ=>by rw [hx.len]; simp [nF]
 simp [c7,c7_k7,hlx,c7_k6]
 refine fK (aHR x l) (m:=l.length) ⟨0,rfl,by omega,rfl,by omega,by simp⟩ ?_
 rintro m e σ ⟨k,rfl,hk,rfl,hk31,hall⟩
 simp [c7_l5,c7_k4]
 by_cases hkl:k<l.length
 ·obtain⟨a,ha⟩ : ∃ a,l[k]?=some a:=⟨l[k],by simp [hkl]⟩
  have haR:=hr a (aL ha)
  have hrow:(nF l)[k]?=some a.row:=by simp [nF,ha]
  have hla:=fun σ=>LV.load hx hrow (show a.row.length=5 from rfl) σ
  have ia:=fun σ=>(hla σ).1
  have la:=fun σ=>(hla σ).2
  have hkk:(k:Int)<l.length:=by omega
  have ew:aJ.wrap ((k:Int)+1)=((k+1:Nat):Int):=by rw [bY (by omega) (by omega)]; omega
  have hrl:a.row.length=5:=rfl
  simp [-loadAt,-splice,gK,hrl,hkk,hkl,c7_k3,c7_k2,ia,la]
  obtain⟨σ2,hσ2⟩ : ∃ t:St,(⟨σ.objs++[.cells (a.row.map .d)],σ.toks⟩:St)=t:=⟨_,rfl⟩
  have o4:σ2.objs[σ.objs.length]?=some (.cells (a.row.map .d)):=by rw [← hσ2]; simp
  have l3:loadAt σ2 true 3 (.ref σ.objs.length 0)=some (.da [a.t.i,a.t.o,.bool a.t.f]):=by simp only [loadAt,o4]; rfl
  have l4:loadAt σ2 false 1 (.ref σ.objs.length 4)=some (.d a.idsD):=by simp only [loadAt,o4]; rfl
  have hbs : ∀ (e:Env) (z:Opd),z.ev e = .da [a.t.i,a.t.o,.bool a.t.f]→dC (.bslice 27 1 3 [.nils,.nils,.bool false] [(0,z)]) e σ2=some (.fl [[a.t.i,a.t.o,.bool a.t.f]]):=fun e z hz=>lK hz rfl rfl
  have hil : ∀ σ,gZ σ .slice (.d a.idsD)=some a.ids.length:=fun σ=>by rw [haR.ids.len,iN]
  rw [hσ2]
  by_cases hk30:(30:Int)<k
  ·simp [hk30,c7_k1,c7_k0]
  simp [-loadAt,hk30,c7_k1,l3,↓hbs]
  refine kA (ds:=[.d (.list [[a.t.i,a.t.o,.bool a.t.f]])]) rfl (aEP haR.t.txok (aA2 haR.t)) fun v s ⟨bb,hv,hbb⟩=>?_
  subst hv
  refine⟨rfl,fun _=>rfl,?_⟩
  cases bb with
  | true=>simp [c7_k0]
  | false =>
   obtain⟨g1,g2,g3⟩:=hbb rfl
   simp [-loadAt,l4,hil]
   by_cases hi:(30:Int)<a.ids.length
   ·simp [hi,c7_k0]
   ·simp [hi,c7_k0,ew]
    rw [show((k:Int)+1)=((k+1:Nat):Int) from by omega]
    refine⟨l.length-(k+1),by omega,k+1,rfl,by omega,rfl,by omega,fun b hb=>?_⟩
    rw [lE ha] at hb
    rcases aW.1 hb with h1 | h1
    ·exact hall b h1
    ·obtain rfl:=bI.1 h1
     exact⟨haR.t.good g1 g2 g3,haR.ids,haR.h32,by omega⟩
 ·obtain rfl:k=l.length:=by omega
  rw [bC] at hall
  simp
  exact⟨hk31,hall⟩

theorem aJi (n:Int):Dn.Call Γ cx .val 23 [mS n] St.empty fun v _=>v=I n:=by
 refine Dn.Call.body (fc:=c23) rfl ?_
 unfold mS
 by_cases h:n=0
 ·subst h
  simp [c23,c23_k4,c23_k3,eqV,V.isNil,Opd.isC]
 ·simp [h,c23,c23_k4,c23_k3,c23_k2,c23_k1,c23_k0,eqV,V.isNil,Opd.isC,xX,yG]
theorem aGz (n:Int) (σ:St):V.byVal σ (mS n)=some (mS n):=by unfold mS; split <;> rfl
theorem zA : ∀ {a b:List Lf} {x y:List D},fI a x=true→fI b y=true→fI (a++b) (x++y)=true
 | [],b,[],y,_,h=>h
 | [],b,_::_,y,h,_=>by simp [fI] at h
 | k::a,b,[],y,h,_=>by simp [fI] at h
 | k::a,b,d::x,y,h,h2=>by
  simp only [fI,aS,aE] at h ⊢
  exact⟨h.1,zA h.2 h2⟩
theorem aGJ {s:SpG}(h:s.Ok):fI (aD 32 (.int .u8)++[.int .i64]++[.str]++[.int .u64]) s.row=true:=by
 have e:s.row=mH s++[.str s.key]++[.int .u64 s.sl]:=by simp [SpG.row,mH]
 rw [e]
 have e1:bL.min=0:=rfl
 have e2:bL.max=18446744073709551615:=rfl
 have h1:=h.key
 have h2:=h.sl0
 have h3:=h.sl1
 refine zA (zA (mG h) ?_) ?_
 ·simp [fI,Lf.fits]; omega
 ·simp [fI,Lf.fits,e1,e2,h2,h3]
theorem aKb {s:SpG}(h:s.Ok)(x y:Bool):cB .neq .flat (aD 32 (.int .u8)++[.int .i64,.str,.int .u64]) (.da s.row) (.da s.row) x y=some (B false):=by
 have h1:fI (aD 32 (.int .u8)++[.int .i64,.str,.int .u64]) s.row=true:=aGJ h
 simp only [cB,eqV,h1,Bool.and_self,if_true,decide_true,Option.map_some,Bool.not_true]
theorem aIv {c:CoG}(h:c.Ok)(x y:Bool):cB .neq .flat [.int .i64,.int .u64] (.da c.row) (.da c.row) x y=some (B false):=by
 obtain⟨h1,h2,h3,h4⟩:=h
 have e1:bL.min=0:=rfl
 have e2:bL.max=18446744073709551615:=rfl
 have e3:aJ.min = -9223372036854775808:=rfl
 have e4:aJ.max=9223372036854775807:=rfl
 have hf:fI [.int .i64,.int .u64] c.row=true:=by simp [CoG.row,fI,Lf.fits,e1,e2,e3,e4,h1,h2,h3,h4]
 simp only [cB,eqV,hf,Bool.and_self,if_true,decide_true,Option.map_some,Bool.not_true]
def aJr (σ0:St)(n:Nat)(m:Nat)(e:Env) (σ:St):Prop:=∃ j:Nat,e=[(2,.ref 0 0),(3,.ref 1 0),(32,I n),(33,I j)]∧j≤n∧m=n-j∧σ=σ0
def aJs (σ0:St)(n:Nat)(m:Nat)(e:Env) (σ:St):Prop:=∃ j:Nat,e=[(2,.ref 0 0),(3,.ref 1 0),(50,I n),(51,I j)]∧j≤n∧m=n-j∧σ=σ0
theorem aBZ {i1 o1 i2 o2:D}{f:Bool}{ins:List SpG}{outs:List CoG}(hi1:LV (.d i1) (fH ins))(ho1:LV (.d o1) (gH outs))(hi2:LV (.d i2) (fH ins))(ho2:LV (.d o2) (gH outs))(hsi : ∀ s∈ins,s.Ok)(hso : ∀ c∈outs,c.Ok)(hl1:ins.length≤1000)(hl2:outs.length≤1000) :
  Dn.Call Γ cx .val 15 [.da [i1,o1,.bool f],.da [i2,o2,.bool f]] St.empty fun v _=>v=B true:=by
 refine Dn.Call.body (fc:=c15) rfl ?_
 have hil1 : ∀ σ,gZ σ .slice (.d i1)=some ins.length:=fun σ=>by rw [hi1.len]; simp [fH]
 have hil2 : ∀ σ,gZ σ .slice (.d i2)=some ins.length:=fun σ=>by rw [hi2.len]; simp [fH]
 have hol1 : ∀ σ,gZ σ .slice (.d o1)=some outs.length:=fun σ=>by rw [ho1.len]; simp [gH]
 have hol2 : ∀ σ,gZ σ .slice (.d o2)=some outs.length:=fun σ=>by rw [ho2.len]; simp [gH]
 simp [-aA,c15]
 obtain⟨σ0,hσ0⟩ : ∃ t:St,(⟨[.cells [.d i1,.d o1,.d (.bool f)],.cells [.d i2,.d o2,.d (.bool f)]],[]⟩:St)=t:=⟨_,rfl⟩
 rw [hσ0]
 have l10:loadAt σ0 false 1 (.ref 0 0)=some (.d i1):=by rw [← hσ0]; rfl
 have l11:loadAt σ0 false 1 (.ref 0 1)=some (.d o1):=by rw [← hσ0]; rfl
 have l12:loadAt σ0 false 1 (.ref 0 2)=some (B f):=by rw [← hσ0]; rfl
 have l20:loadAt σ0 false 1 (.ref 1 0)=some (.d i2):=by rw [← hσ0]; rfl
 have l21:loadAt σ0 false 1 (.ref 1 1)=some (.d o2):=by rw [← hσ0]; rfl
 have l22:loadAt σ0 false 1 (.ref 1 2)=some (B f):=by rw [← hσ0]; rfl
 simp [-loadAt,-aA,c15_k17,l10,l11,l12,l20,l21,l22,hil1,hil2,hol1,hol2,eqV,c15_k16,c15_k15,c15_k14]
 refine fK (aJr σ0 ins.length) (m:=ins.length) ⟨0,rfl,by omega,rfl,rfl⟩ ?_
 rintro m e σ ⟨j,rfl,hj,rfl,rfl⟩
 simp [-aA,c15_l13,c15_k12]
 by_cases hji:j<ins.length
 ·obtain⟨sp,hsp⟩ : ∃ sp,ins[j]?=some sp:=⟨ins[j],by simp [hji]⟩
  have hok:=hsi sp (aL hsp)
  have hrow:(fH ins)[j]?=some sp.row:=by simp [fH,hsp]
  have ha1:=fun σ=>(LV.load hi1 hrow (fM hok) σ).1
  have ha2:=fun σ=>(LV.load hi2 hrow (fM hok) σ).1
  have hl:=fun σ=>(LV.load hi1 hrow (fM hok) σ).2
  have hne:=aKb hok
  have ew:aJ.wrap ((j:Int)+1)=((j+1:Nat):Int):=by rw [bY (by omega) (by omega)]; omega
  simp [-aA,hji,c15_k11,c15_k10,c15_k9]
  refine gP (fun _=>.val) [] (by decide +kernel) ?_
  simp [-loadAt,-cB,-aA,dB,l10,l20,ha1,ha2,hl]
  rw [hne]
  simp [c15_k8,ew]
  rw [show((j:Int)+1)=((j+1:Nat):Int) from by omega]
  exact⟨ins.length-(j+1),by omega,j+1,rfl,by omega,rfl,rfl⟩
 ·obtain rfl:j=ins.length:=by omega
  simp [-loadAt,-aA,c15_k7,l11,hol1,c15_k6]
  refine fK (aJs σ outs.length) (m:=outs.length) ⟨0,rfl,by omega,rfl,rfl⟩ ?_
  rintro m e σ ⟨j,rfl,hj,rfl,rfl⟩
  simp [-aA,c15_l5,c15_k4]
  by_cases hjo:j<outs.length
  ·obtain⟨c,hc⟩ : ∃ c,outs[j]?=some c:=⟨outs[j],by simp [hjo]⟩
   have hok:=hso c (aL hc)
   have hrow:(gH outs)[j]?=some c.row:=by simp [gH,hc]
   have ha1:=fun σ=>(LV.load ho1 hrow (sz:=2) rfl σ).1
   have ha2:=fun σ=>(LV.load ho2 hrow (sz:=2) rfl σ).1
   have hl:=fun σ=>(LV.load ho1 hrow (sz:=2) rfl σ).2
   have hne:=aIv hok
   have ew:aJ.wrap ((j:Int)+1)=((j+1:Nat):Int):=by rw [bY (by omega) (by omega)]; omega
   simp [-aA,hjo,c15_k3,c15_k2,c15_k1]
   refine gP (fun _=>.val) [] (by decide +kernel) ?_
   simp [-loadAt,-cB,-aA,dB,l11,l21,ha1,ha2,hl]
   rw [hne]
   simp [c15_k0,ew]
   rw [show((j:Int)+1)=((j+1:Nat):Int) from by omega]
   exact⟨outs.length-(j+1),by omega,j+1,rfl,by omega,rfl,rfl⟩
  ·obtain rfl:j=outs.length:=by omega
   simp

def aJP (y1 y2:D)(n:Nat)(m:Nat)(e:Env) (σ:St):Prop:=∃ k:Nat,e=[(0,.d y1),(1,.d y2),(12,I n),(13,I k)]∧k≤n∧m=n-k
theorem aHr {y1 y2:D}{N:List Nd}{A Bb:List (List D)}(h1:LV (.d y1) A)(h2:LV (.d y2) Bb)(t1:TR N A)(t2:TR N Bb)(hok : ∀ n∈N,n.Ok)(hl:N.length≤1000) :
  Dn.Call Γ cx .val 42 [.d y1,.d y2] St.empty fun v _=>v=B true:=by
 refine Dn.Call.body (fc:=c42) rfl ?_
 have hl1 : ∀ σ,gZ σ .slice (.d y1)=some N.length:=fun σ=>by rw [h1.len,t1.len]
 have hl2 : ∀ σ,gZ σ .slice (.d y2)=some N.length:=fun σ=>by rw [h2.len,t2.len]
 simp [c42,c42_k9,hl1,hl2,c42_k8,c42_k7,c42_k6]
 refine fK (aJP y1 y2 N.length) (m:=N.length) ⟨0,rfl,by omega,rfl⟩ ?_
 rintro m e σ ⟨k,rfl,hk,rfl⟩
 simp [c42_l5,c42_k4]
 by_cases hkl:k<N.length
 ·obtain⟨n,hn⟩ : ∃ n,N[k]?=some n:=⟨N[k],by simp [hkl]⟩
  have hnok:=hok n (aL hn)
  obtain⟨i1,o1,r1,a1,b1⟩:=t1.at_ k n hn
  obtain⟨i2,o2,r2,a2,b2⟩:=t2.at_ k n hn
  have ia1:=fun σ=>(LV.load h1 r1 (sz:=3) rfl σ).1
  have la1:=fun σ=>(LV.load h1 r1 (sz:=3) rfl σ).2
  have ia2:=fun σ=>(LV.load h2 r2 (sz:=3) rfl σ).1
  have la2:=fun σ=>(LV.load h2 r2 (sz:=3) rfl σ).2
  have hli:=hnok.li
  have hlo:=hnok.lo
  have ew:aJ.wrap ((k:Int)+1)=((k+1:Nat):Int):=by rw [bY (by omega) (by omega)]; omega
  simp [hkl,c42_k3,c42_k2,c42_k1]
  refine gP (fun _=>.val) [] (by decide +kernel) ?_
  simp [-loadAt,dB,ia1,la1,ia2,la2]
  refine gY rfl rfl (aBZ a1 b1 a2 b2 hnok.si hnok.so (by omega) (by omega)) (jF rfl rfl) ?_
  simp [c42_k0,ew]
  rw [show((k:Int)+1)=((k+1:Nat):Int) from by omega]
  exact⟨N.length-(k+1),by omega,k+1,rfl,by omega,rfl⟩
 ·obtain rfl:k=N.length:=by omega
  simp
theorem TR.of {N:List Nd}(h : ∀ n∈N,n.Ok):TR N (nZ N):=⟨by simp [nZ],fun k n hk=>⟨lvD n.a,lvD n.b,by simp [nZ,hk,Nd.dat],(LV.lvD (h n (aL hk)).a St.empty).2,(LV.lvD (h n (aL hk)).b St.empty).2⟩⟩

def CoO (lo:Nat)(s:St)(vb:V)(outs:List CoG):Prop:=(outs=[]∧vb = .fl [])∨∃ r,vb = .sl r 0 outs.length 2∧lo≤r∧s.objs[r]?=some (.cells ((gH outs).flatten.map .d))∧outs≠[]
theorem CoO.cov {lo:Nat}{s:St}{vb:V}{outs:List CoG}(h:CoO lo s vb outs):CoV s vb outs:=by
 rcases h with⟨rfl,rfl⟩ | ⟨r,rfl,_,h,_⟩
 ·exact .inl (.fl [])
 ·exact .inr ⟨r,rfl,(aB.1 h).1,h⟩
theorem aFL {σ:St}{i o:D}{f:Bool}{ins:List SpG}{outs:List CoG}(hT:TxD i o f ins outs) :
  Dn.Call Γ cx .raw 43 [.da [i,o,.bool f]] σ fun w s=>∃ va vb,w=bZ [va,vb,.d (.bool f)]∧LV va (fH ins)∧CoO σ.objs.length s vb outs∧(∀ r,r<σ.objs.length→s.objs[r]?=σ.objs[r]?)∧σ.objs.length≤s.objs.length:=by
 refine Dn.Call.body (fc:=c43) rfl ?_
 have hrs:=fun s=>hT.i.rows s
 have hro:=fun s=>hT.o.rows s
 have hli:=hT.li
 have hlo:=hT.lo
 simp [c43]
 obtain⟨σ1,hσ1⟩ : ∃ t:St,(⟨σ.objs++[.cells [.d i,.d o,.d (.bool f)],.cells [.d .nils,.d .nils,.d (.bool false)]],σ.toks⟩:St)=t:=⟨_,rfl⟩
 rw [hσ1]
 have old : ∀ r,r<σ.objs.length→σ1.objs[r]?=σ.objs[r]?:=fun r hr=>by rw [← hσ1]; simp only; rw [aC hr]
 have hl1:σ1.objs.length=σ.objs.length+2:=by rw [← hσ1]; simp
 have o1:σ1.objs[σ.objs.length]?=some (.cells [.d i,.d o,.d (.bool f)]):=by rw [← hσ1]; simp
 have o2:σ1.objs[σ.objs.length+1]?=some (.cells [.d .nils,.d .nils,.d (.bool false)]):=by rw [← hσ1]; simp
 clear hσ1
 have l1:loadAt σ1 false 1 (.ref σ.objs.length 0)=some (.d i):=by simp only [loadAt,o1]; rfl
 obtain⟨va,s1,ap1,happ,oa,ta,-⟩:=(App.fl (σ:=σ1) (sz:=35) []).push (bytes:=64) (by decide) (by simp) (ys:=fH ins) (oY hT.si) (by simp [fH]; omega) (by simp [fH]; omega)
 rw [aH] at happ
 have hca:=happ.lv.cells
 simp [-loadAt,-aA,c43_k2,l1,iL,gJ]
 refine gN (v:=va) (s:=s1) ?_ ?_
 ·simp [hrs]
  exact ap1 none
 have o1':s1.objs[σ.objs.length]?=some (.cells [.d i,.d o,.d (.bool f)]):=by rw [oa]; exact o1
 simp [-loadAt,hca,o1',c43_k1,iL,gJ]
 obtain⟨s2,hs2⟩ : ∃ t:St,(⟨s1.objs.set σ.objs.length (.cells [va,.d o,.d (.bool f)]),s1.toks⟩:St)=t:=⟨_,rfl⟩
 rw [hs2]
 have p1:s2.objs[σ.objs.length]?=some (.cells [va,.d o,.d (.bool f)]):=by rw [← hs2]; simp only; rw [aO (by rw [oa]; omega)]
 have old2 : ∀ r,r≠σ.objs.length→s2.objs[r]?=σ1.objs[r]?:=fun r hr=>by rw [← hs2]; simp only; rw [aF (by omega),oa]
 have hl2:s2.objs.length=σ.objs.length+2:=by rw [← hs2]; simp [oa,hl1]
 clear hs2
 have l2:loadAt s2 false 1 (.ref σ.objs.length 1)=some (.d o):=by simp only [loadAt,p1]; rfl
 simp [-loadAt,l2]
 have rest : ∀ (vb:V) (s3:St),vb.cells=some [vb]→(∀ r,r<s2.objs.length→s3.objs[r]?=s2.objs[r]?)→s2.objs.length≤s3.objs.length→(∀ s4:St,(∀ r,σ.objs.length+2≤r→s4.objs[r]?=s3.objs[r]?)→CoO σ.objs.length s4 vb outs)→iD (Dn.Call Γ cx) cx [.p (some 12) (.faddr 1 (.t 1)),.e none (.store 1 (.t 12) (.t 11))] [(1,.ref σ.objs.length 0),(2,.ref (σ.objs.length+1) 0),(8,.fl []),(9,.ref σ.objs.length 1),(10,.d o),(11,vb)] s3 (aFz [1,2] (oC (Dn.Call Γ cx) cx c43_k0 (tY .raw σ [.cell 2 true 3] fun w s=>∃ va vb,w=bZ [va,vb,.d (.bool f)]∧LV va (fH ins)∧CoO σ.objs.length s vb outs∧(∀ r,r<σ.objs.length→s.objs[r]?=σ.objs[r]?)∧σ.objs.length≤s.objs.length))):=fun vb s3 hcb h3 h3l hco=>by
  have q1:s3.objs[σ.objs.length]?=some (.cells [va,.d o,.d (.bool f)]):=by rw [h3 _ (by omega)]; exact p1
  have q2:s3.objs[σ.objs.length+1]?=some (.cells [.d .nils,.d .nils,.d (.bool false)]):=by rw [h3 _ (by omega),old2 _ (by omega)]; exact o2
  have s11 : ∀ ob,(s3.objs.set σ.objs.length ob)[σ.objs.length]?=some ob:=fun ob=>by rw [aO (by omega)]
  have s12 : ∀ ob,(s3.objs.set σ.objs.length ob)[σ.objs.length+1]?=some (.cells [.d .nils,.d .nils,.d (.bool false)]):=fun ob=>by rw [aF (by omega)]; exact q2
  have s22 : ∀ ob ob',((s3.objs.set σ.objs.length ob).set (σ.objs.length+1) ob')[σ.objs.length+1]?=some ob':=fun ob ob'=>by rw [aO (by simp; omega)]
  have hcm:(bZ [va,vb,V.d (.bool f)]).cells=some [va,vb,.d (.bool f)]:=oO
  have ll : ∀ t:St,t.objs[σ.objs.length]?=some (.cells [va,vb,.d (.bool f)])→loadAt t true 3 (.ref σ.objs.length 0)=some (bZ [va,vb,.d (.bool f)]):=fun t ht=>by simp only [loadAt,ht]; rfl
  have ll2 : ∀ t:St,t.objs[σ.objs.length+1]?=some (.cells [va,vb,.d (.bool f)])→loadAt t true 3 (.ref (σ.objs.length+1) 0)=some (bZ [va,vb,.d (.bool f)]):=fun t ht=>by simp only [loadAt,ht]; rfl
  have l3:=ll ⟨s3.objs.set σ.objs.length (.cells [va,vb,.d (.bool f)]),s3.toks⟩ (s11 _)
  have l4:=ll2 ⟨(s3.objs.set σ.objs.length (.cells [va,vb,.d (.bool f)])).set (σ.objs.length+1) (.cells [va,vb,.d (.bool f)]),s3.toks⟩ (s22 _ _)
  simp [-loadAt,-bZ,hcb,q1,c43_k0,l3,hcm,s12,l4]
  refine⟨va,vb,rfl,happ.lv,hco _ fun r hr=>?_,fun r hr=>?_,by omega⟩
  ·simp only
   rw [aF (by omega),aF (by omega)]
  ·rw [aF (by omega),aF (by omega),h3 _ (by omega),old2 _ (by omega),old r hr]
 by_cases ho0:outs=[]
 ·subst ho0
  refine gN (v:=.fl []) (s:=s2) ?_ ?_
  ·have hfl:V.rows s2 (.fl [])=some []:=rfl
   simp [hro,gH,jE,kV,hfl]
  simp only [eK,Env.set]
  exact rest _ _ rfl (fun _ _=>rfl) (bB _) fun s4 _=>.inl ⟨rfl,rfl⟩
 ·have hne:gH outs≠[]:=by simpa [gH] using ho0
  have hap:=yJ (σ:=s2) (sz:=2) (bytes:=16) (rows:=[]) (ys:=gH outs) (by decide) (by simp) (tG outs) hne (by simp [gH]; omega) (by simp [gH]; omega)
  have hcl:(gH outs).length=outs.length:=by simp [gH]
  refine sM (v:=.sl s2.objs.length 0 outs.length 2) (s:=s2.push (.cells ((gH outs).flatten.map .d))) ?_ ?_
  ·simp [iB,hro]
   simpa [hcl,St.push] using hap
  simp only [eK,Env.set]
  exact rest _ _ rfl (fun r hr=>by simp only [St.push]; rw [aC hr]) (by simp [St.push]) fun s4 h4=>.inr ⟨_,rfl,by omega,by rw [h4 _ (by omega)]; simp [St.push],ho0⟩

structure PS (s:St)(g qn qs:Nat)(M:List Nd)(put:Nat)(v:V):Prop where
 gr : ∃ es ck es2 ck2,Gr s g qn qs es ck es2 ck2 M put
 m : ∃ rows,LV v rows∧RR M rows
 nn:V.isNil .slice v=some false
theorem aGV {v:V}{rows:List (List D)}(h:LV v rows)(hd:Dn.dv v = .d (.list rows)):V.isNil .slice v=some false:=by
 cases h with
 | nil=>cases hd
 | _=>rfl
theorem aEs {s:St}{x:D}{A:List (List D)}(hx:LV (.d x) A)(hf : ∀ r∈A,r.length=36)(hl:A.length≤1000) :
  ∃ v' s',jE s none 36 96 (.fl []) A=some (v',s')∧LV v' A∧V.isNil .slice v'=some false∧s'.objs=s.objs:=by
 obtain⟨v',s',a1,a2,a3,_,a5⟩:=(App.fl (σ:=s) (sz:=36) []).push (bytes:=96) (by decide) (by simp) (ys:=A) hf (by simp; omega) (by simp; omega)
 rw [aH] at a2 a5
 exact⟨v',s',a1 none,a2.lv,aGV a2.lv (a5 (.inl (by simp))),a3⟩
theorem PS.keep {s s':St}{g qn qs:Nat}{M:List Nd}{put:Nat}{v:V}(h:PS s g qn qs M put v)(hf : ∀ r,r<s.objs.length→s'.objs[r]?=s.objs[r]?):PS s' g qn qs M put v:=by
 obtain⟨es,ck,es2,ck2,hG⟩:=h.gr
 exact⟨⟨_,_,_,_,hG.more hf⟩,h.m,h.nn⟩
structure Off (σ s:St)(g qn qs:Nat):Prop where
 old : ∀ r,r<σ.objs.length→r≠g→r≠qn→r≠qs→s.objs[r]?=σ.objs[r]?
 len:σ.objs.length≤s.objs.length
theorem Off.refl (σ:St)(g qn qs:Nat):Off σ σ g qn qs:=⟨fun _ _ _ _ _=>rfl,bB _⟩
theorem Off.trans {a b c:St}{g qn qs:Nat}(h:Off a b g qn qs)(h':Off b c g qn qs):Off a c g qn qs:=⟨fun r hr h1 h2 h3=>(h'.old r (by have:=h.len; omega) h1 h2 h3).trans (h.old r hr h1 h2 h3),Nat.le_trans h.len h'.len⟩
theorem Off.of {σ s:St}{g qn qs:Nat}(hl:σ.objs.length≤s.objs.length)(hf : ∀ r,r<σ.objs.length→s.objs[r]?=σ.objs[r]?):Off σ s g qn qs:=⟨fun r hr _ _ _=>hf r hr,hl⟩
theorem After.off {σ s:St}{g qn qs:Nat}{M:List Nd}{put:Nat}(h:After σ s g qn qs M put):Off σ s g qn qs:=⟨h.old,h.len⟩

def aJK (s0:St)(r g:Nat)(v w:V)(p12 n len k:Nat)(m:Nat)(e:Env)(s:St):Prop:=∃ j:Nat,e=[(0,.ref g 0),(1,v),(12,.ref p12 0),(17,w),(18,I len),(19,I k),(78,I n),(79,I j)]∧j≤n∧m=n-j∧(∀ q,q≠r→s.objs[q]?=s0.objs[q]?)∧s.objs.length=s0.objs.length∧∃ cs,s.objs[r]?=some (.cells cs)∧cs.length=2*n
theorem aG6 {s0:St}{g p12 len k:Nat}{v w va vb:V}{f:Bool}{outs:List CoG}{lo:Nat}(hlo:outs.length≤30)(hc:CoO lo s0 vb outs)(h12:s0.objs[p12]?=some (.cells [va,vb,.d (.bool f)])){Q:gT}
  (hq : ∀ (n:Nat) (s:St),(∀ q,q<lo∨(∃ es ck,s0.objs[q]?=some (.map es ck))→s.objs[q]?=s0.objs[q]?)→s.objs.length=s0.objs.length→Q .normal [(0,.ref g 0),(1,v),(12,.ref p12 0),(17,w),(18,I len),(19,I k),(78,I n),(79,I n),(80,B false)] s) :
  gF (Dn.Call Γ cx) cx c10_k6 [(0,.ref g 0),(1,v),(12,.ref p12 0),(17,w),(18,I len),(19,I k)] s0 Q:=by
 have l12:loadAt s0 false 1 (.ref p12 1)=some vb:=by simp only [loadAt,h12]; rfl
 rcases hc with⟨rfl,rfl⟩ | ⟨r,rfl,hr,ho,hne⟩
 ·have hlen:gZ s0 .slice (.fl [])=some 0:=rfl
  simp [-loadAt,c10_k6,l12,hlen,c10_k5]
  refine fK (fun m e s=>e=[(0,.ref g 0),(1,v),(12,.ref p12 0),(17,w),(18,I len),(19,I k),(78,I 0),(79,I 0)]∧s=s0) (m:=0) ⟨rfl,rfl⟩ ?_
  rintro m e s ⟨rfl,rfl⟩
  simp [c10_l4,c10_k3]
  exact hq 0 _ (fun _ _=>rfl) rfl
 ·have hlen:gZ s0 .slice (.sl r 0 outs.length 2)=some outs.length:=rfl
  have hr12:p12≠r:=fun e=>by
   rw [e,ho] at h12
   have h2:=congrArg (fun o=>match o with | some (Dn.Obj.cells (V.sl _ _ _ _::_))=>true | some (Dn.Obj.cells (_::V.sl _ _ _ _::_))=>true | _=>false) h12
   cases outs with
   | nil=>exact hne rfl
   | cons c cs=>simp [gH,CoG.row] at h12
  have hfl:(((gH outs).flatten).map V.d).length=2*outs.length:=by
   rw [aQ]
   clear hlen ho hne hq l12 h12 hlo
   induction outs with
   | nil=>rfl
   | cons c cs ih=>simp [gH,CoG.row] at ih ⊢; omega
  simp [-loadAt,c10_k6,l12,hlen,c10_k5]
  refine fK (aJK s0 r g v w p12 outs.length len k) (m:=outs.length) ⟨0,rfl,by omega,rfl,fun _ _=>rfl,rfl,_,ho,hfl⟩ ?_
  rintro m e s ⟨j,rfl,hj,rfl,hold,hsl,cs,hcs,hcl⟩
  simp [-loadAt,c10_l4,c10_k3]
  by_cases hjo:j<outs.length
  ·have l12s:loadAt s false 1 (.ref p12 1)=some (.sl r 0 outs.length 2):=by simp only [loadAt,hold p12 hr12,h12]; rfl
   have ia:jA s 2 (.sl r 0 outs.length 2) (I j)=some (.ref r (2*j)):=by
    have:(j:Int)<outs.length:=by omega
    simp [jA,jX,this]
    omega
   have hrl:r<s.objs.length:=(aB.1 hcs).1
   have ew:aJ.wrap ((j:Int)+1)=((j+1:Nat):Int):=by rw [bY (by omega) (by omega)]; omega
   have hle:2*j+2≤cs.length:=by omega
   simp [-loadAt,-splice,hjo,c10_k2,c10_k1,l12s,ia,hcs,hle,ew]
   rw [show((j:Int)+1)=((j+1:Nat):Int) from by omega]
   refine⟨outs.length-(j+1),by omega,j+1,rfl,by omega,rfl,fun q hq=>?_,by simp [hsl],_,by simp only; rw [aO hrl],?_⟩
   ·simp only
    rw [aF (fun e=>hq e.symm)]
    exact hold q hq
   ·unfold splice
    simp
    omega
  ·obtain rfl:j=outs.length:=by omega
   simp
   refine hq _ _ (fun q hq=>hold q ?_) hsl
   rcases hq with hq | ⟨es,ck,hq⟩
   ·omega
   ·exact fun e=>by rw [e,ho] at hq; cases hq

structure PQ (σ s:St)(g qn qs:Nat)(M0:List Nd)(put0 k:Nat)(M:List Nd)(put:Nat)(v:V):Prop where
 ps:PS s g qn qs M put v
 ml:M.length≤M0.length+k
 pl:put≤put0+k
 off:Off σ s g qn qs
def aEk (σ:St)(g qn qs:Nat)(M0:List Nd)(put0:Nat)(w:V)(len:Nat)(m:Nat)(e:Env)(s:St):Prop:=∃ (k:Nat) (M:List Nd) (put:Nat) (v:V),e=[(0,.ref g 0),(1,v),(17,w),(18,I len),(19,I k)]∧k≤len∧m=len-k∧PQ σ s g qn qs M0 put0 k M put v
theorem LV.bvd {v:V}{rows:List (List D)}(h:LV v rows) (σ:St) : ∃ d,V.byVal σ v=some (.d d)∧LV (.d d) rows∧v.borrows=false:=by
 obtain⟨d,h1,h2⟩:=h.byVal σ
 exact⟨d,h1,h2,h.borrows⟩

set_option maxHeartbeats 2000000 in
theorem aKu {σ:St}{g qn qs put:Nat}{M:List Nd}{v w:V}{l:List Act}(hq:qn≠qs)(hP:PS σ g qn qs M put v)(hw:LV w (nF l))(hok : ∀ a∈l,a.Ok)(hlen:M.length+l.length≤90)(hput:put+l.length≤1000000) :
  Dn.Call Γ cx .raw 10 [.ref g 0,v,w] σ fun v' s=>∃ M' put',PQ σ s g qn qs M put l.length M' put' v':=by
 refine Dn.Call.body (fc:=c10) rfl ?_
 have hlw : ∀ σ,gZ σ .slice w=some l.length:=fun σ=>by rw [hw.len]; simp [nF]
 obtain⟨es0,ck0,es02,ck02,hG0⟩:=hP.gr
 have hgb:g<σ.objs.length:=(aB.1 hG0.o).1
 have hnb:qn<σ.objs.length:=(aB.1 hG0.n).1
 have hsb:qs<σ.objs.length:=(aB.1 hG0.s).1
 simp [c10,c10_k25,hlw,c10_k24]
 refine fK (aEk σ g qn qs M put w l.length) (m:=l.length) ⟨0,M,put,v,rfl,by omega,rfl,⟨hP,by omega,by omega,Off.refl _ _ _ _⟩⟩ ?_
 rintro m e s ⟨k,M',put',v',rfl,hk,rfl,hQ⟩
 simp [-loadAt,c10_l23,c10_k22]
 by_cases hkl:k<l.length
 rotate_left
 ·obtain rfl:k=l.length:=by omega
  simp [c10_k0]
  exact⟨M',put',hQ⟩
 obtain⟨a,ha⟩ : ∃ a,l[k]?=some a:=⟨l[k],by simp [hkl]⟩
 have hA:=hok a (aL ha)
 have hrow:(nF l)[k]?=some a.row:=by simp [nF,ha]
 have hla:=fun σ=>LV.load hw hrow (show a.row.length=5 from rfl) σ
 have ia:=fun σ=>(hla σ).1
 have la:=fun σ=>(hla σ).2
 have hrl:a.row.length=5:=rfl
 have hsl:=hQ.off.len
 have hml:=hQ.ml
 have hpl:=hQ.pl
 have ew:aJ.wrap ((k:Int)+1)=((k+1:Nat):Int):=by rw [bY (by omega) (by omega)]; omega
 simp [-loadAt,-splice,gK,hrl,hkl,c10_k21,c10_k20,ia,la]
 obtain⟨s2,hs2⟩ : ∃ t:St,(⟨s.objs++[.cells (a.row.map .d)],s.toks⟩:St)=t:=⟨_,rfl⟩
 rw [hs2]
 have old2 : ∀ r,r<s.objs.length→s2.objs[r]?=s.objs[r]?:=fun r hr=>by rw [← hs2]; simp only; rw [aC hr]
 have hl2:s2.objs.length=s.objs.length+1:=by rw [← hs2]; simp
 have o8:s2.objs[s.objs.length]?=some (.cells (a.row.map .d)):=by rw [← hs2]; simp
 clear hs2
 have hP2:=hQ.ps.keep old2
 have off2:Off s s2 g qn qs:=Off.of (by omega) old2
 have l8 : ∀ t:St,t.objs[s.objs.length]?=s2.objs[s.objs.length]?→loadAt t false 1 (.ref s.objs.length 4)=some (.d a.idsD)∧loadAt t true 3 (.ref s.objs.length 0)=some (.da [a.t.i,a.t.o,.bool a.t.f])∧loadAt t false 1 (.ref s.objs.length 3)=some (I a.fee):=fun t ht=>by
  rw [o8] at ht
  simp only [loadAt,ht]
  exact⟨rfl,rfl,rfl⟩
 obtain⟨l84,l80,l83⟩:=l8 s2 rfl
 have hil : ∀ σ,gZ σ .slice (.d a.idsD)=some a.ids.length:=fun σ=>by rw [hA.ids.len,iN]
 simp [-loadAt,c10_k19,l84,hil,c10_k18]
 obtain⟨es,ck,es2,ck2,hG⟩:=hP2.gr
 obtain⟨rows,hv,hR⟩:=hP2.m
 have hRl:=hR.len
 have hnd:=hG.nd
 have step : ∀ (M'':List Nd) (put'':Nat) (v'':V) (t:St),PS t g qn qs M'' put'' v''→M''.length≤M'.length+1→put''≤put'+1→Off s t g qn qs→∃ m',m'<l.length-k∧aEk σ g qn qs M put w l.length m' [(0,.ref g 0),(1,v''),(17,w),(18,I l.length),(19,I (k+1:Nat))] t:=fun M'' put'' v'' t h1 h2 h3 h4 =>
  ⟨l.length-(k+1),by omega,k+1,M'',put'',v'',rfl,by omega,rfl,h1,by omega,by omega,hQ.off.trans h4⟩
 by_cases hids:0<a.ids.length
 ·have hli:=hA.li
  simp [-loadAt,hids,c10_k17,l84]
  refine fF (aDb hG hq (Hl.lv hA.ids hA.h32) hA.h32 (by omega)) fun w1 s3 ⟨hw1,hAf⟩=>?_
  have hs3l:=hAf.len
  have o83:s3.objs[s.objs.length]?=s2.objs[s.objs.length]?:=hAf.old _ (by omega) (by omega) (by omega) (by omega)
  have l843:=(l8 s3 o83).1
  obtain⟨d,hd1,hd2,hd3⟩:=LV.bvd hv s3
  simp [-loadAt,c10_k16,l843]
  refine kA (ds:=[.d d,.d a.idsD]) (by simp only [cN,hd1,gS]) (aFS hd2 hR (by omega) hA.ids hA.h32 (by omega)) fun u t ⟨x',y',A,Bb,hu,hA1,hA2,hB1,hB2⟩=>?_
  subst hu
  refine⟨rfl,fun hb=>?_,?_⟩
  ·have:(V.d a.idsD).borrows=false:=rfl
   simp only [List.any_cons,List.any_nil,hd3,this,Bool.or_false] at hb
   cases hb
  have hrm:(rmL M' a.ids).length≤M'.length:=List.length_filter_le _ _
  obtain⟨v5,s5,p1,p2,p3,p4⟩:=aEs (s:=s3) hA1 hA2.fit (by rw [hA2.len]; omega)
  have hrx:=hA1.rows
  simp [c10_k15,iL,gJ]
  refine gN (v:=v5) (s:=s5) ?_ ?_
  ·simp [hrx]
   exact p1
  obtain⟨d2,hd4,hd5,hd6⟩:=LV.bvd hw1 s5
  have hokN : ∀ n∈gX M' a.ids,n.Ok:=fun n hn=>hG.ok n (aY.1 hn).1
  have hNl:(gX M' a.ids).length≤M'.length:=List.length_filter_le _ _
  simp [c10_k14]
  refine gI (ds:=[.d d2,.d y']) (by simp only [cN,hd4,gS]) (aHr hd5 hB1 (TR.of hokN) hB2 hokN (by omega)) (jF rfl rfl) ?_
  simp [c10_k13,ew]
  rw [show((k:Int)+1)=((k+1:Nat):Int) from by omega]
  refine step (rmL M' a.ids) put' v5 s5 ?_ (by omega) (by omega) ?_
  ·have hps:PS s3 g qn qs (rmL M' a.ids) put' v5:=⟨hAf.gr,⟨A,p2,hA2⟩,p3⟩
   exact hps.keep fun r _=>by rw [p4]
  ·exact(off2.trans hAf.off).trans (Off.of (by rw [p4]; omega) fun r _=>by rw [p4])
 ·have hmn:M'.length<90:=by omega
  have hT:=hA.t
  have hcmt:=hA.t
  simp [-loadAt,hids,c10_k12,l80]
  refine fF (aFL hT) fun w2 s3 ⟨va,vb,hw2,hva,hvb,h3old,h3len⟩=>?_
  subst hw2
  have hcm:(bZ [va,vb,V.d (.bool a.t.f)]).cells=some [va,vb,.d (.bool a.t.f)]:=oO
  simp [-loadAt,-bZ,-splice,gK,hcm]
  obtain⟨s4,hs4⟩ : ∃ t:St,(⟨s3.objs++[.cells [va,vb,.d (.bool a.t.f)]],s3.toks⟩:St)=t:=⟨_,rfl⟩
  rw [hs4]
  have old4 : ∀ r,r<s3.objs.length→s4.objs[r]?=s3.objs[r]?:=fun r hr=>by rw [← hs4]; simp only; rw [aC hr]
  have hl4:s4.objs.length=s3.objs.length+1:=by rw [← hs4]; simp
  have o12:s4.objs[s3.objs.length]?=some (.cells [va,vb,.d (.bool a.t.f)]):=by rw [← hs4]; simp
  clear hs4
  generalize hp12:s3.objs.length=p12 at *
  have old24 : ∀ r,r<s2.objs.length→s4.objs[r]?=s2.objs[r]?:=fun r hr=>by rw [old4 r (by omega),h3old r hr]
  have l12 : ∀ t:St,t.objs[p12]?=s4.objs[p12]?→loadAt t true 3 (.ref p12 0)=some (bZ [va,vb,.d (.bool a.t.f)]):=fun t ht=>by
   rw [o12] at ht
   simp only [loadAt,ht]
   rfl
  have l124:=l12 s4 rfl
  have l834:=(l8 s4 (old24 _ (by omega))).2.2
  have hT4:TxV s4 va vb a.t.ins a.t.outs:=⟨hva,(show TxV s4 va vb a.t.ins a.t.outs from TxV.more (σ:=s3) ⟨hva,hvb.cov,hT.li,hT.lo,hT.si,hT.so⟩ (by omega) (fun r hr=>old4 r (by omega))).b,hT.li,hT.lo,hT.si,hT.so⟩
  have hG4:=hG.more old24
  simp [-loadAt,-bZ,c10_k11,l124,l834]
  refine fF (aHs hG4 hq hT4 (f:=a.t.f) (fee:=a.fee) hmn (by omega)) fun u s5 ⟨hu,hAf⟩=>?_
  subst hu
  have h5l:=hAf.len
  have o5 : ∀ r,r<s4.objs.length→r≠g→r≠qn→r≠qs→s5.objs[r]?=s4.objs[r]?:=hAf.old
  have hp8:s5.objs[s.objs.length]?=s2.objs[s.objs.length]?:=by rw [o5 _ (by omega) (by omega) (by omega) (by omega),old24 _ (by omega)]
  obtain⟨_,l805,l835⟩:=l8 s5 hp8
  obtain⟨d,hd1,hd2,hd3⟩:=LV.bvd hv s5
  simp [-loadAt,-bZ,c10_k10,l805,l835]
  refine kA (ds:=[.d d,.da [a.t.i,a.t.o,.bool a.t.f],I a.fee]) (by simp only [cN,hd1,gS,fN]) (aKw hd2 hR (by omega) hnd hT (fee:=a.fee)) fun u t ⟨x',hu,hx1,hx2⟩=>?_
  subst hu
  refine⟨rfl,fun hb=>?_,?_⟩
  ·have h1:(V.da [a.t.i,a.t.o,.bool a.t.f]).borrows=false:=rfl
   have h2:(I a.fee).borrows=false:=rfl
   simp only [List.any_cons,List.any_nil,hd3,h1,h2,Bool.or_false] at hb
   cases hb
  obtain⟨E,hE⟩ : ∃ E,kJ M' a.t.ins a.t.outs a.t.f a.fee=E:=⟨_,rfl⟩
  rw [hE] at hx1 hx2 hAf ⊢
  obtain⟨M'',hM''⟩ : ∃ M'',M''=if E=0 then M'++[aAE va vb a.t.ins a.t.outs a.t.f a.fee put'] else M':=⟨_,rfl⟩
  obtain⟨put'',hp''⟩ : ∃ p,p=if E=0 then put'+1 else put':=⟨_,rfl⟩
  rw [← hM'',← hp''] at hAf
  have hnew : ∃ A,LV (.d x') A∧RR M'' A:=by
   by_cases hE0:E=0
   ·rw [if_pos hE0] at hM''
    obtain⟨e1,e2,e3,e4,hGn⟩:=hAf.gr
    obtain⟨A,h1,h2⟩:=hx2 hE0 (aAE va vb a.t.ins a.t.outs a.t.f a.fee put') (hGn.ok _ (by rw [hM'']; simp)) rfl rfl rfl rfl rfl
    exact⟨A,h1,by rw [hM'']; exact h2⟩
   ·rw [if_neg hE0] at hM''
    rw [hx1 hE0]
    exact⟨rows,hd2,by rw [hM'']; exact hR⟩
  obtain⟨A,hA1,hA2⟩:=hnew
  have hM2l:M''.length≤M'.length+1:=by rw [hM'']; split <;> simp
  have hp2l:put''≤put'+1:=by rw [hp'']; split <;> omega
  obtain⟨v6,s6,p1,p2,p3,p4⟩:=aEs (s:=s5) hA1 hA2.fit (by rw [hA2.len]; omega)
  have hrx:=hA1.rows
  simp [-loadAt,-bZ,c10_k9,iL,gJ]
  refine gN (v:=v6) (s:=s6) ?_ ?_
  ·simp [hrx]
   exact p1
  have o126:s6.objs[p12]?=s4.objs[p12]?:=by rw [p4,o5 _ (by omega) (by omega) (by omega) (by omega)]
  have l126:=l12 s6 o126
  have l806:=(l8 s6 (by rw [p4]; exact hp8)).2.1
  have hvb6:CoO s2.objs.length s6 vb a.t.outs:=by
   rcases hvb with h | ⟨r,h1,h2,h3,h4⟩
   ·exact .inl h
   ·have hr3:r<p12:=by rw [← hp12]; exact(aB.1 h3).1
    exact .inr ⟨r,h1,h2,by rw [p4,o5 r (by omega) (by omega) (by omega) (by omega),old4 r hr3]; exact h3,h4⟩
  have hT6:TxV s6 va vb a.t.ins a.t.outs:=⟨hva,hvb6.cov,hT.li,hT.lo,hT.si,hT.so⟩
  have hbv6:=hT6.bv a.t.f
  have hTd:=hT6.tx a.t.f
  simp [-loadAt,-bZ,c10_k8]
  refine gI (tS (aGz E _)) (aJi E) (jF rfl rfl) ?_
  simp [-loadAt,-bZ,l126,l806]
  refine gI (ds:=[.da [lvD va,coD vb a.t.outs,.bool a.t.f],.da [a.t.i,a.t.o,.bool a.t.f]]) (by
   have hb1:V.byVal s6 (bZ [va,vb,.d (.bool a.t.f)])=some (.da [lvD va,coD vb a.t.outs,.bool a.t.f]):=by
    have:=hbv6
    simp only [cN] at this
    cases hx:V.byVal s6 (bZ [va,vb,.d (.bool a.t.f)]) with
    | none=>rw [hx] at this; cases this
    | some y=>rw [hx] at this; simp at this; rw [this]
   simp only [cN,hb1,fN]) (aBZ hTd.i hTd.o hT.i hT.o hT.si hT.so (by have:=hT.li; omega) (by have:=hT.lo; omega)) (jF rfl rfl) ?_
  simp [c10_k7]
  refine aG6 (va:=va) (vb:=vb) (f:=a.t.f) (lo:=s2.objs.length) hT.lo hvb6 (o126.trans o12) fun n t hold htl=>?_
  simp [ew]
  rw [show((k:Int)+1)=((k+1:Nat):Int) from by omega]
  refine step M'' put'' v6 t ?_ hM2l hp2l ?_
  ·have hps:PS s5 g qn qs M'' put'' v6:=⟨hAf.gr,⟨A,p2,hA2⟩,p3⟩
   obtain⟨e1,e2,e3,e4,hGn⟩:=hAf.gr
   refine⟨⟨e1,e2,e3,e4,?_⟩,⟨A,p2,hA2⟩,p3⟩
   have hk2 : ∀ q,q<s2.objs.length→t.objs[q]?=s5.objs[q]?:=fun q hq=>by rw [hold q (.inl hq),p4]
   exact { hGn with o:=(hk2 g (by omega)).trans hGn.o,n:=(hk2 qn (by omega)).trans hGn.n,s:=(hk2 qs (by omega)).trans hGn.s }
  ·refine⟨fun r hr h1 h2 h3=>?_,by rw [htl,p4]; omega⟩
   rw [hold r (.inl (by omega)),p4,o5 r (by omega) h1 h2 h3,old24 r (by omega),old2 r hr]
end Go.Proofs.YtdfhfhcilfjdgaaGreatDoor.T
