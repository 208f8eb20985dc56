import Derived.Test.YtdfhfhcilfjdgaaGreatDoorS57
set_option linter.unusedVariables false
set_option linter.unusedSimpArgs false
open List renaming reduceReplicate → aA,getElem?_eq_some_iff → aB,getElem?_append_left → aC,replicate → aD,getElem?_set_ne → aE,cons_append → aF,append_nil → aG,map_cons → aH,nil_append → aI,take_of_length_le → aK,mem_of_getElem? → aL,map_nil → aM,getElem?_set_self → aO,mem_map → aQ,getElem?_eq_none → aR,length_map → aS,mem_append → aU,mem_filter → aX,length_append → aY,take_append_getElem → aZ,getD_eq_getElem?_getD → bA,take_length → bC,mem_singleton → bD,getElem?_map → bG,getElem?_append_right → bH,drop_zero → bJ,getElem?_eq_getElem → bO,eq_nil_of_length_eq_zero → bP,take_append_of_le_length → bQ,getElem?_of_mem → bR,drop_of_length_le → bS,append_assoc → bU,mem_cons → bV,map_append → bX,map_map → bY,mem_append_right → bZ
open Go.IntKind renaming i64 → aJ,u64 → bL
open Option renaming some → aN
open Bool renaming false_eq_true → aP,and_eq_true → aT
open Go.Builtin renaming zeroCells → aV,append_ → bE,firstCells → bM
open Go.Result renaming andThen_ok → aW
open Nat renaming le_refl → bB,mul_le_mul_right → bF,add_mul → bI,lt_or_ge → bT
open Array renaming getElem?_eq_some_iff → bW
namespace Go.Proofs.YtdfhfhcilfjdgaaGreatDoor.T
open Go.Dn
attribute [local simp] dQ dJ GB aM aH aG dC fB cH eB cU cO eA dZ eO eT eW cL cY cZ eQ fH gH fS fF dM fG gI cM dA dB dP eD eE gE eV eG eH eF cP cW cX gC i_p dW gB eC eZ dY eY dX fC gG t_p fD eJ gF eL cV fE eK eI gO aF aI dE dN fQ fP fU gT Opd.ev Env.get Env.set Env.pick eM dI cE eS eU cI dG dK gS eN Res.ev fO dD dL gU fR fW gA hH fX fY fZ cx Dn.newObj St.place St.push St.spot St.empty eX dR cQ cT dU dS dV cS dT cR loadAt cJ dO cK cC ofD splice St.setObj fI

structure PQ (σ s:St)(g qn qs:Nat)(M0:List Nd)(put0 k:Nat)(M:List Nd)(put:Nat)(v:V):Prop where
 ps:PS s g qn qs M put v
 ml:M.length≤M0.length+k
 pl:put≤put0+k
 off:Off σ s g qn qs
def aEl (σ:St)(g qn qs:Nat)(M0:List Nd)(put0:Nat)(w:V)(len:Nat)(m:Nat)(e:Env)(s:St):Prop:=∃ (k:Nat) (M:List Nd) (put:Nat) (v:V),e=[(0,.ref g 0),(1,v),(17,w),(18,I len),(19,I k)]∧k≤len∧m=len-k∧PQ σ s g qn qs M0 put0 k M put v
theorem LV.bvd {v:V}{rows:List (List D)}(h:LV v rows) (σ:St) : ∃ d,V.byVal σ v=some (.d d)∧LV (.d d) rows∧v.borrows=false:=by
 obtain⟨d,h1,h2⟩:=h.byVal σ
 exact⟨d,h1,h2,h.borrows⟩

set_option maxHeartbeats 2000000 in
theorem aKv {σ:St}{g qn qs put:Nat}{M:List Nd}{v w:V}{l:List Act}(hq:qn≠qs)(hP:PS σ g qn qs M put v)(hw:LV w (kJ l))(hok : ∀ a∈l,a.Ok)(hlen:M.length+l.length≤90)(hput:put+l.length≤1000000) :
  Dn.Call Γ cx .raw 10 [.ref g 0,v,w] σ fun v' s=>∃ M' put',PQ σ s g qn qs M put l.length M' put' v':=by
 refine Dn.Call.body (fc:=c10) rfl ?_
 have hlw : ∀ σ,gZ σ .slice w=some l.length:=fun σ=>by rw [hw.len]; simp [kJ]
 obtain⟨es0,ck0,es02,ck02,hG0⟩:=hP.gr
 have hgb:g<σ.objs.length:=(aB.1 hG0.o).1
 have hnb:qn<σ.objs.length:=(aB.1 hG0.n).1
 have hsb:qs<σ.objs.length:=(aB.1 hG0.s).1
 simp [c10,c10_k25,hlw,c10_k24]
 refine fJ (aEl σ g qn qs M put w l.length) (m:=l.length) ⟨0,M,put,v,rfl,by omega,rfl,⟨hP,by omega,by omega,Off.refl _ _ _ _⟩⟩ ?_
 rintro m e s ⟨k,M',put',v',rfl,hk,rfl,hQ⟩
 simp [-loadAt,c10_l23,c10_k22]
 by_cases hkl:k<l.length
 rotate_left
 ·obtain rfl:k=l.length:=by omega
  simp [c10_k0]
  exact⟨M',put',hQ⟩
 obtain⟨a,ha⟩ : ∃ a,l[k]?=some a:=⟨l[k],by simp [hkl]⟩
 have hA:=hok a (aL ha)
 have hrow:(kJ l)[k]?=some a.row:=by simp [kJ,ha]
 have hla:=fun σ=>LV.load hw hrow (show a.row.length=5 from rfl) σ
 have ia:=fun σ=>(hla σ).1
 have la:=fun σ=>(hla σ).2
 have hrl:a.row.length=5:=rfl
 have hsl:=hQ.off.len
 have hml:=hQ.ml
 have hpl:=hQ.pl
 have ew:aJ.wrap ((k:Int)+1)=((k+1:Nat):Int):=by rw [cB (by omega) (by omega)]; omega
 simp [-loadAt,-splice,gQ,hrl,hkl,c10_k21,c10_k20,ia,la]
 obtain⟨s2,hs2⟩ : ∃ t:St,(⟨s.objs++[.cells (a.row.map .d)],s.toks⟩:St)=t:=⟨_,rfl⟩
 rw [hs2]
 have old2 : ∀ r,r<s.objs.length→s2.objs[r]?=s.objs[r]?:=fun r hr=>by rw [← hs2]; simp only; rw [aC hr]
 have hl2:s2.objs.length=s.objs.length+1:=by rw [← hs2]; simp
 have o8:s2.objs[s.objs.length]?=some (.cells (a.row.map .d)):=by rw [← hs2]; simp
 clear hs2
 have hP2:=hQ.ps.keep old2
 have off2:Off s s2 g qn qs:=Off.of (by omega) old2
 have l8 : ∀ t:St,t.objs[s.objs.length]?=s2.objs[s.objs.length]?→loadAt t false 1 (.ref s.objs.length 4)=some (.d a.idsD)∧loadAt t true 3 (.ref s.objs.length 0)=some (.da [a.t.i,a.t.o,.bool a.t.f])∧loadAt t false 1 (.ref s.objs.length 3)=some (I a.fee):=fun t ht=>by
  rw [o8] at ht
  simp only [loadAt,ht]
  exact⟨rfl,rfl,rfl⟩
 obtain⟨l84,l80,l83⟩:=l8 s2 rfl
 have hil : ∀ σ,gZ σ .slice (.d a.idsD)=some a.ids.length:=fun σ=>by rw [hA.ids.len,iQ]
 simp [-loadAt,c10_k19,l84,hil,c10_k18]
 obtain⟨es,ck,es2,ck2,hG⟩:=hP2.gr
 obtain⟨rows,hv,hR⟩:=hP2.m
 have hRl:=hR.len
 have hnd:=hG.nd
 have step : ∀ (M'':List Nd) (put'':Nat) (v'':V) (t:St),PS t g qn qs M'' put'' v''→M''.length≤M'.length+1→put''≤put'+1→Off s t g qn qs→∃ m',m'<l.length-k∧aEl σ g qn qs M put w l.length m' [(0,.ref g 0),(1,v''),(17,w),(18,I l.length),(19,I (k+1:Nat))] t:=fun M'' put'' v'' t h1 h2 h3 h4 =>
  ⟨l.length-(k+1),by omega,k+1,M'',put'',v'',rfl,by omega,rfl,h1,by omega,by omega,hQ.off.trans h4⟩
 by_cases hids:0<a.ids.length
 ·have hli:=hA.li
  simp [-loadAt,hids,c10_k17,l84]
  refine eR (aC9 hG hq (Hl.lv hA.ids hA.h32) hA.h32 (by omega)) fun w1 s3 ⟨hw1,hAf⟩=>?_
  have hs3l:=hAf.len
  have o83:s3.objs[s.objs.length]?=s2.objs[s.objs.length]?:=hAf.old _ (by omega) (by omega) (by omega) (by omega)
  have l843:=(l8 s3 o83).1
  obtain⟨d,hd1,hd2,hd3⟩:=LV.bvd hv s3
  simp [-loadAt,c10_k16,l843]
  refine lA (ds:=[.d d,.d a.idsD]) (by simp only [dD,hd1,gU]) (aFU hd2 hR (by omega) hA.ids hA.h32 (by omega)) fun u t ⟨x',y',A,Bb,hu,hA1,hA2,hB1,hB2⟩=>?_
  subst hu
  refine⟨rfl,fun hb=>?_,?_⟩
  ·have:(V.d a.idsD).borrows=false:=rfl
   simp only [List.any_cons,List.any_nil,hd3,this,Bool.or_false] at hb
   cases hb
  have hrm:(rmL M' a.ids).length≤M'.length:=List.length_filter_le _ _
  obtain⟨v5,s5,p1,p2,p3,p4⟩:=aEt (s:=s3) hA1 hA2.fit (by rw [hA2.len]; omega)
  have hrx:=hA1.rows
  simp [c10_k15,iM,gL]
  refine gN (v:=v5) (s:=s5) ?_ ?_
  ·simp [hrx]
   exact p1
  obtain⟨d2,hd4,hd5,hd6⟩:=LV.bvd hw1 s5
  have hokN : ∀ n∈gY M' a.ids,n.Ok:=fun n hn=>hG.ok n (aX.1 hn).1
  have hNl:(gY M' a.ids).length≤M'.length:=List.length_filter_le _ _
  simp [c10_k14]
  refine fV (ds:=[.d d2,.d y']) (by simp only [dD,hd4,gU]) (aHp hd5 hB1 (TR.of hokN) hB2 hokN (by omega)) (jJ rfl rfl) ?_
  simp [c10_k13,ew]
  rw [show((k:Int)+1)=((k+1:Nat):Int) from by omega]
  refine step (rmL M' a.ids) put' v5 s5 ?_ (by omega) (by omega) ?_
  ·have hps:PS s3 g qn qs (rmL M' a.ids) put' v5:=⟨hAf.gr,⟨A,p2,hA2⟩,p3⟩
   exact hps.keep fun r _=>by rw [p4]
  ·exact(off2.trans hAf.off).trans (Off.of (by rw [p4]; omega) fun r _=>by rw [p4])
 ·have hmn:M'.length<90:=by omega
  have hT:=hA.t
  have hcmt:=hA.t
  simp [-loadAt,hids,c10_k12,l80]
  refine eR (aFN hT) fun w2 s3 ⟨va,vb,hw2,hva,hvb,h3old,h3len⟩=>?_
  subst hw2
  have hcm:(cC [va,vb,V.d (.bool a.t.f)]).cells=some [va,vb,.d (.bool a.t.f)]:=oN
  simp [-loadAt,-cC,-splice,gQ,hcm]
  obtain⟨s4,hs4⟩ : ∃ t:St,(⟨s3.objs++[.cells [va,vb,.d (.bool a.t.f)]],s3.toks⟩:St)=t:=⟨_,rfl⟩
  rw [hs4]
  have old4 : ∀ r,r<s3.objs.length→s4.objs[r]?=s3.objs[r]?:=fun r hr=>by rw [← hs4]; simp only; rw [aC hr]
  have hl4:s4.objs.length=s3.objs.length+1:=by rw [← hs4]; simp
  have o12:s4.objs[s3.objs.length]?=some (.cells [va,vb,.d (.bool a.t.f)]):=by rw [← hs4]; simp
  clear hs4
  generalize hp12:s3.objs.length=p12 at *
  have old24 : ∀ r,r<s2.objs.length→s4.objs[r]?=s2.objs[r]?:=fun r hr=>by rw [old4 r (by omega),h3old r hr]
  have l12 : ∀ t:St,t.objs[p12]?=s4.objs[p12]?→loadAt t true 3 (.ref p12 0)=some (cC [va,vb,.d (.bool a.t.f)]):=fun t ht=>by
   rw [o12] at ht
   simp only [loadAt,ht]
   rfl
  have l124:=l12 s4 rfl
  have l834:=(l8 s4 (old24 _ (by omega))).2.2
  have hT4:TxV s4 va vb a.t.ins a.t.outs:=⟨hva,(show TxV s4 va vb a.t.ins a.t.outs from TxV.more (σ:=s3) ⟨hva,hvb.cov,hT.li,hT.lo,hT.si,hT.so⟩ (by omega) (fun r hr=>old4 r (by omega))).b,hT.li,hT.lo,hT.si,hT.so⟩
  have hG4:=hG.more old24
  simp [-loadAt,-cC,c10_k11,l124,l834]
  refine eR (aHq hG4 hq hT4 (f:=a.t.f) (fee:=a.fee) hmn (by omega)) fun u s5 ⟨hu,hAf⟩=>?_
  subst hu
  have h5l:=hAf.len
  have o5 : ∀ r,r<s4.objs.length→r≠g→r≠qn→r≠qs→s5.objs[r]?=s4.objs[r]?:=hAf.old
  have hp8:s5.objs[s.objs.length]?=s2.objs[s.objs.length]?:=by rw [o5 _ (by omega) (by omega) (by omega) (by omega),old24 _ (by omega)]
  obtain⟨_,l805,l835⟩:=l8 s5 hp8
  obtain⟨d,hd1,hd2,hd3⟩:=LV.bvd hv s5
  simp [-loadAt,-cC,c10_k10,l805,l835]
  refine lA (ds:=[.d d,.da [a.t.i,a.t.o,.bool a.t.f],I a.fee]) (by simp only [dD,hd1,gU,fR]) (aKx hd2 hR (by omega) hnd hT (fee:=a.fee)) fun u t ⟨x',hu,hx1,hx2⟩=>?_
  subst hu
  refine⟨rfl,fun hb=>?_,?_⟩
  ·have h1:(V.da [a.t.i,a.t.o,.bool a.t.f]).borrows=false:=rfl
   have h2:(I a.fee).borrows=false:=rfl
   simp only [List.any_cons,List.any_nil,hd3,h1,h2,Bool.or_false] at hb
   cases hb
  obtain⟨E,hE⟩ : ∃ E,kN M' a.t.ins a.t.outs a.t.f a.fee=E:=⟨_,rfl⟩
  rw [hE] at hx1 hx2 hAf ⊢
  obtain⟨M'',hM''⟩ : ∃ M'',M''=if E=0 then M'++[aAD va vb a.t.ins a.t.outs a.t.f a.fee put'] else M':=⟨_,rfl⟩
  obtain⟨put'',hp''⟩ : ∃ p,p=if E=0 then put'+1 else put':=⟨_,rfl⟩
  rw [← hM'',← hp''] at hAf
  have hnew : ∃ A,LV (.d x') A∧RR M'' A:=by
   by_cases hE0:E=0
   ·rw [if_pos hE0] at hM''
    obtain⟨e1,e2,e3,e4,hGn⟩:=hAf.gr
    obtain⟨A,h1,h2⟩:=hx2 hE0 (aAD va vb a.t.ins a.t.outs a.t.f a.fee put') (hGn.ok _ (by rw [hM'']; simp)) rfl rfl rfl rfl rfl
    exact⟨A,h1,by rw [hM'']; exact h2⟩
   ·rw [if_neg hE0] at hM''
    rw [hx1 hE0]
    exact⟨rows,hd2,by rw [hM'']; exact hR⟩
  obtain⟨A,hA1,hA2⟩:=hnew
  have hM2l:M''.length≤M'.length+1:=by rw [hM'']; split <;> simp
  have hp2l:put''≤put'+1:=by rw [hp'']; split <;> omega
  obtain⟨v6,s6,p1,p2,p3,p4⟩:=aEt (s:=s5) hA1 hA2.fit (by rw [hA2.len]; omega)
  have hrx:=hA1.rows
  simp [-loadAt,-cC,c10_k9,iM,gL]
  refine gN (v:=v6) (s:=s6) ?_ ?_
  ·simp [hrx]
   exact p1
  have o126:s6.objs[p12]?=s4.objs[p12]?:=by rw [p4,o5 _ (by omega) (by omega) (by omega) (by omega)]
  have l126:=l12 s6 o126
  have l806:=(l8 s6 (by rw [p4]; exact hp8)).2.1
  have hvb6:CoO s2.objs.length s6 vb a.t.outs:=by
   rcases hvb with h | ⟨r,h1,h2,h3,h4⟩
   ·exact .inl h
   ·have hr3:r<p12:=by rw [← hp12]; exact(aB.1 h3).1
    exact .inr ⟨r,h1,h2,by rw [p4,o5 r (by omega) (by omega) (by omega) (by omega),old4 r hr3]; exact h3,h4⟩
  have hT6:TxV s6 va vb a.t.ins a.t.outs:=⟨hva,hvb6.cov,hT.li,hT.lo,hT.si,hT.so⟩
  have hbv6:=hT6.bv a.t.f
  have hTd:=hT6.tx a.t.f
  simp [-loadAt,-cC,c10_k8]
  refine fV (tW (aJ1 E _)) (aLi E) (jJ rfl rfl) ?_
  simp [-loadAt,-cC,l126,l806]
  refine fV (ds:=[.da [lvD va,coD vb a.t.outs,.bool a.t.f],.da [a.t.i,a.t.o,.bool a.t.f]]) (by
   have hb1:V.byVal s6 (cC [va,vb,.d (.bool a.t.f)])=some (.da [lvD va,coD vb a.t.outs,.bool a.t.f]):=by
    have:=hbv6
    simp only [dD] at this
    cases hx:V.byVal s6 (cC [va,vb,.d (.bool a.t.f)]) with
    | none=>rw [hx] at this; cases this
    | some y=>rw [hx] at this; simp at this; rw [this]
   simp only [dD,hb1,fR]) (aB3 hTd.i hTd.o hT.i hT.o hT.si hT.so (by have:=hT.li; omega) (by have:=hT.lo; omega)) (jJ rfl rfl) ?_
  simp [c10_k7]
  refine aG3 (va:=va) (vb:=vb) (f:=a.t.f) (lo:=s2.objs.length) hT.lo hvb6 (o126.trans o12) fun n t hold htl=>?_
  simp [ew]
  rw [show((k:Int)+1)=((k+1:Nat):Int) from by omega]
  refine step M'' put'' v6 t ?_ hM2l hp2l ?_
  ·have hps:PS s5 g qn qs M'' put'' v6:=⟨hAf.gr,⟨A,p2,hA2⟩,p3⟩
   obtain⟨e1,e2,e3,e4,hGn⟩:=hAf.gr
   refine⟨⟨e1,e2,e3,e4,?_⟩,⟨A,p2,hA2⟩,p3⟩
   have hk2 : ∀ q,q<s2.objs.length→t.objs[q]?=s5.objs[q]?:=fun q hq=>by rw [hold q (.inl hq),p4]
   exact { hGn with o:=(hk2 g (by omega)).trans hGn.o,n:=(hk2 qn (by omega)).trans hGn.n,s:=(hk2 qs (by omega)).trans hGn.s }
  ·refine⟨fun r hr h1 h2 h3=>?_,by rw [htl,p4]; omega⟩
   rw [hold r (.inl (by omega)),p4,o5 r (by omega) h1 h2 h3,old24 r (by omega),old2 r hr]

theorem aG6 {M:List Nd}(hn:(M.map (·.id)).Nodup){n:Nd}(hm:n∈M)(hok:n.Ok):oD M [n.id]=0:=by
 have e:gY M [n.id]=[n]:=by
  have h1:(gY M [n.id]).map (·.id)=[n.id]:=by
   have:=(sT hn (K:=[n.id]) (by simp) (fun id hid=>by
    obtain rfl:=bD.1 hid
    rw [kC hn hm]; rfl)).symm
   exact List.perm_singleton.1 this
  obtain⟨m,r,h2⟩ : ∃ m r,gY M [n.id]=m::r:=by
   cases h:gY M [n.id] with
   | nil=>rw [h] at h1; cases h1
   | cons m r=>exact⟨m,r,rfl⟩
  rw [h2] at h1
  simp only [aH,List.cons.injEq,List.map_eq_nil_iff] at h1
  have hmM:m∈M:=(aX.1 (by rw [← gY,h2]; simp:m∈M.filter fun n'=>decide (n'.id∈[n.id]))).1
  rw [h2,h1.2,aBI hn hmM hm h1.1]
 unfold oD
 rw [e]
 have hf:=hok.fee
 have h1 : ¬ ([n.id]=[]∨([n.id].any fun id=>!(fnd M id).isSome)=true):=by
  simp [kC hn hm]
 rw [if_neg h1,if_pos (by simp [nG,kZ]; omega)]
theorem aIs {a b:Int}(ha : -9223372036854775808≤a∧a≤9223372036854775807)(hb : -9223372036854775808≤b∧b≤9223372036854775807)(x y:Bool):cE .neq .flat [.int .i64,.int .i64] (.da [.int .i64 a,.int .i64 b]) (.da [.int .i64 a,.int .i64 b]) x y=some (B false):=by
 have e3:aJ.min = -9223372036854775808:=rfl
 have e4:aJ.max=9223372036854775807:=rfl
 have hf:fK [.int .i64,.int .i64] [.int .i64 a,.int .i64 b]=true:=by simp [fK,Lf.fits,e3,e4,ha,hb]
 simp only [cE,eqV,hf,Bool.and_self,if_true,decide_true,Option.map_some,Bool.not_true]
structure ST (σ s:St):Prop where
 old : ∀ r,r<σ.objs.length→s.objs[r]?=σ.objs[r]?
 len:σ.objs.length≤s.objs.length
theorem ST.refl (σ:St):ST σ σ:=⟨fun _ _=>rfl,bB _⟩
theorem ST.trans {a b c:St}(h:ST a b)(h':ST b c):ST a c:=⟨fun r hr=>(h'.old r (by have:=h.len; omega)).trans (h.old r hr),Nat.le_trans h.len h'.len⟩
theorem ST.push (s:St)(o:Dn.Obj):ST s ⟨s.objs++[o],s.toks⟩:=⟨fun r hr=>by simp only; rw [aC hr],by simp⟩
def aGo (σ:St)(g p7:Nat)(v:V)(n k c:Nat)(m:Nat)(e:Env)(s:St):Prop:=∃ j:Nat,e=[(0,.ref g 0),(1,v),(7,.ref p7 0),(35,v),(36,I n),(37,I k),(143,I c),(144,I j)]∧j≤c∧m=c-j∧ST σ s
def aJO (σ:St)(g p7:Nat)(v:V)(i:D)(n k c:Nat)(m:Nat)(e:Env)(s:St):Prop:=∃ j:Nat,e=[(0,.ref g 0),(1,v),(7,.ref p7 0),(35,v),(36,I n),(37,I k),(180,.d i),(181,I c),(182,I j)]∧j≤c∧m=c-j∧ST σ s

theorem aCd {σ:St}{g qn qs ck ck2 put p7 len k:Nat}{es es2:List Ent}{M:List Nd}(h:Gr σ g qn qs es ck es2 ck2 M put){n:Nd}(hn:n∈M){v:V}{i o:D}(ho:LV (.d o) (fT n.outs))(h7:σ.objs[p7]?=some (.cells ((nY i o n).map .d))){Q:gX}
  (hq : ∀ s,ST σ s→Q .normal [(0,.ref g 0),(1,v),(7,.ref p7 0),(35,v),(36,I len),(37,I k),(143,I (n.outs.length+1:Nat)),(144,I (n.outs.length+1:Nat)),(145,B false)] s) :
  gJ (Dn.Call Γ cx) cx (.seq (.ops [0,1,7,35,36,37,143,144] [.p (some 139) (.faddr 0 (.t 7)),.p (some 140) (.faddr 1 (.t 139)),.p (some 141) (.load false 1 (.t 140)),.p (some 142) (.len .slice (.t 141)),.p (some 143) (.bin .add .int [] (.t 142) (.c (.int .i64 1))),.p (some 144) (.move (.c (.int .i64 0)))]) c30_k16) [(0,.ref g 0),(1,v),(7,.ref p7 0),(35,v),(36,I len),(37,I k)] σ Q:=by
 have hnok:=h.ok n hn
 have hid:=hnok.id
 have hlo:=hnok.lo
 have hol : ∀ σ,gZ σ .slice (.d o)=some n.outs.length:=fun σ=>by rw [ho.len]; simp [fT]
 have hfn:fnd M n.id=some n:=kC h.nd hn
 have p7l:p7<σ.objs.length:=(aB.1 h7).1
 have l7 : ∀ s:St,ST σ s→loadAt s false 1 (.ref p7 1)=some (.d o)∧loadAt s true 32 (.ref p7 3)=some (.da (cG n.id)):=fun s hs=>by
  have:=(hs.old p7 p7l).trans h7
  simp only [loadAt,this]
  refine⟨rfl,?_⟩
  rw [if_pos trivial,if_pos (by simp [nY,eP,hid])]
  have:(List.drop 3 ((nY i o n).map V.d)).take 32=(cG n.id).map V.d:=by
   rw [← List.map_drop,← List.map_take]
   congr 1
   show List.take 32 (cG n.id++[.int .i64 n.fee])=cG n.id
   rw [bQ (by simp [eP,hid]),aK (by simp [eP,hid])]
  rw [this]
  exact congrArg some (iP _)
 have e1:aJ.wrap ((n.outs.length:Int)+1)=((n.outs.length+1:Nat):Int):=by rw [cB (by omega) (by omega)]; omega
 have l71:=(l7 σ (ST.refl _)).1
 simp [-loadAt,-cJ,hX,l71,hol,e1,c30_k16]
 rw [show((n.outs.length:Int)+1)=((n.outs.length+1:Nat):Int) from by omega]
 refine fJ (aGo σ g p7 v len k (n.outs.length+1)) (m:=n.outs.length+1) ⟨0,rfl,by omega,rfl,ST.refl _⟩ ?_
 rintro m e s ⟨j,rfl,hj,rfl,hS⟩
 simp [-loadAt,c30_l15,c30_k14]
 by_cases hjl:j<n.outs.length+1
 ·have hji:(j:Int)<(n.outs.length:Int)+1:=by omega
  have hG:=h.more hS.old
  obtain⟨l7o,l7h⟩:=l7 s hS
  have hbu : ∀ (e:Env) (x y:Opd) (zs:List D),zs.length=33→x.ev e = .da (cG n.id)→y.ev e=I j→dE (.build zs [(0,32,x),(32,1,y)]) e s=some (.da (ptD (n.id,(j:Int)))):=fun e x y zs hz hx hy=>yR hz (by rw [eP,hid]) hx hy
  have ew:aJ.wrap ((j:Int)+1)=((j+1:Nat):Int):=by rw [cB (by omega) (by omega)]; omega
  have hc:oO M (n.id,(j:Int))=n.outs[j]?:=by
   unfold oO
   simp only [hfn]
   rw [if_pos (by omega)]
   rfl
  simp [-loadAt,-cJ,hX,-splice,-aA,hji,hjl,c30_k13,c30_k12,c30_k11,l7h,↓hbu]
  refine jH (aHj hG (p:=(n.id,(j:Int))) hid) ?_
  rw [hc]
  have step : ∀ t,ST s t→∃ m',m'<n.outs.length+1-j∧aGo σ g p7 v len k (n.outs.length+1) m' [(0,.ref g 0),(1,v),(7,.ref p7 0),(35,v),(36,I len),(37,I k),(143,I (n.outs.length+1:Nat)),(144,I (j+1:Nat))] t:=fun t ht =>
   ⟨n.outs.length+1-(j+1),by omega,j+1,rfl,by omega,rfl,hS.trans ht⟩
  cases ho2:n.outs[j]? with
  | none =>
   have hjn:n.outs.length≤j:=List.getElem?_eq_none_iff.1 ho2
   have hj2 : ¬ j<n.outs.length:=by omega
   simp [tZ]
   obtain⟨t,ht⟩ : ∃ t:St,(⟨s.objs++[.cells [.d (.int .i64 0),.d (.int .u64 0)]],s.toks⟩:St)=t:=⟨_,rfl⟩
   have hst:ST s t:=by rw [← ht]; exact ST.push _ _
   rw [ht]
   have l7t:=(l7 t (hS.trans hst)).1
   simp [c30_k10]
   refine gP (fun _=>.val) [] (by decide +kernel) ?_
   simp [-loadAt,-cJ,hX,cN,l7t,hol,hj2,eqV]
   simp [c30_k9,ew]
   exact step t hst
  | some c =>
   have hjn:j<n.outs.length:=(aB.1 ho2).1
   have hcok:=hnok.so c (aL ho2)
   have hrow:(fT n.outs)[j]?=some c.row:=by simp [fT,ho2]
   have hia:=fun s=>(LV.load ho hrow (sz:=2) rfl s).1
   have hlc:=fun s=>(LV.load ho hrow (sz:=2) rfl s).2
   have hne:=aEK hcok
   have hrl:c.row.length=2:=rfl
   simp [-splice,gQ,hrl,tZ]
   obtain⟨t,ht⟩ : ∃ t:St,(⟨s.objs++[.cells (c.row.map .d)],s.toks⟩:St)=t:=⟨_,rfl⟩
   have hst:ST s t:=by rw [← ht]; exact ST.push _ _
   have o15:t.objs[s.objs.length]?=some (.cells (c.row.map .d)):=by rw [← ht]; simp
   rw [ht]
   have l7t:=(l7 t (hS.trans hst)).1
   have l15:loadAt t true 2 (.ref s.objs.length 0)=some (.da c.row):=by simp only [loadAt,o15]; rfl
   simp [c30_k10]
   refine gP (fun _=>.val) [] (by decide +kernel) ?_
   have hlss : ∀ b1 b2,cE .lss .int [] (I j) (I n.outs.length) b1 b2=some (B true):=fun _ _=>by
    have:decide ((j:Int)<n.outs.length)=true:=decide_eq_true (by omega)
    simp only [cE,eS,if_true,this]
   have hnb : ∀ b1 b2,cE .neq .bool [] (B true) (B true) b1 b2=some (B false):=fun _ _=>rfl
   simp [-loadAt,-cJ,-cE,hX,cN,l7t,hol,hlss,hnb,l15,hia,hlc]
   rw [hne]
   simp [c30_k9,ew]
   exact step t hst
 ·obtain rfl:j=n.outs.length+1:=by omega
  have hji : ¬ ((n.outs.length+1:Nat):Int)<((n.outs.length+1:Nat):Int):=by omega
  simp
  simpa using hq s hS

theorem aI4 {M:List Nd}(hp:((M.flatMap Nd.spent).map (·.1)).Nodup)(hn:(M.map (·.id)).Nodup){n:Nd}(hm:n∈M){s:SpG}(hs:s∈n.ins):spn M (gK s)=some n:=by
 have hq:(V.da (ptD (gK s)),V.da (cG n.id))∈M.flatMap Nd.spent:=List.mem_flatMap.2 ⟨n,hm,aQ.2 ⟨s,hs,rfl⟩⟩
 have h5:=aBO hp hq
 rw [rU] at h5
 obtain⟨m',hm',e5⟩:=Option.map_eq_some_iff.1 h5
 simp only [V.da.injEq] at e5
 rw [hm',aBI hn (List.mem_of_find?_eq_some hm') hm (kL e5)]
theorem aKi {σ:St}{p7:Nat}{i o:D}{n:Nd}(hid:n.id.length=32)(h7:σ.objs[p7]?=some (.cells ((nY i o n).map .d))):loadAt σ false 1 (.ref p7 0)=some (.d i)∧loadAt σ false 1 (.ref p7 1)=some (.d o)∧loadAt σ true 32 (.ref p7 3)=some (.da (cG n.id))∧loadAt σ true 3 (.ref p7 0)=some (.da [i,o,.bool n.f]):=by
 simp only [loadAt,h7]
 refine⟨rfl,rfl,?_,?_⟩
 ·rw [if_pos trivial,if_pos (by simp [nY,eP,hid])]
  have:(List.drop 3 ((nY i o n).map V.d)).take 32=(cG n.id).map V.d:=by
   rw [← List.map_drop,← List.map_take]
   congr 1
   show List.take 32 (cG n.id++[.int .i64 n.fee])=cG n.id
   rw [bQ (by simp [eP,hid]),aK (by simp [eP,hid])]
  rw [this]
  exact congrArg some (iP _)
 ·rw [if_pos trivial,if_pos (by simp [nY])]
  rfl
theorem aAI {a b:Int} {σ:St}{g qn qs ck ck2 put p7 len k:Nat}{es es2:List Ent}{M:List Nd}(h:Gr σ g qn qs es ck es2 ck2 M put){n:Nd}(hn:n∈M){v:V}{i o:D}(hi:LV (.d i) (fM n.ins))(h7:σ.objs[p7]?=some (.cells ((nY i o n).map .d))){Q:gX}
  (hq : ∀ s,ST σ s→Q .normal [(0,.ref g 0),(1,v),(7,.ref p7 0),(35,v),(36,I len),(37,I k),(180,.d i),(181,I n.ins.length),(182,I n.ins.length),(183,B false)] s) :
  gJ (Dn.Call Γ cx) cx c30_k8 [(0,.ref g 0),(1,v),(7,.ref p7 0),(35,v),(36,I len),(37,I k),(143,I a),(144,I b),(145,B false)] σ Q:=by
 have hnok:=h.ok n hn
 have hid:=hnok.id
 have hli:=hnok.li
 have hil : ∀ σ,gZ σ .slice (.d i)=some n.ins.length:=fun σ=>by rw [hi.len]; simp [fM]
 have p7l:p7<σ.objs.length:=(aB.1 h7).1
 have l70:=(aKi hid h7).1
 simp [-loadAt,-cJ,hX,c30_k8,l70,hil,c30_k7]
 refine fJ (aJO σ g p7 v i len k n.ins.length) (m:=n.ins.length) ⟨0,rfl,by omega,rfl,ST.refl _⟩ ?_
 rintro m e s ⟨j,rfl,hj,rfl,hS⟩
 simp [-loadAt,c30_l6,c30_k5]
 by_cases hji:j<n.ins.length
 ·obtain⟨sp,hsp⟩ : ∃ sp,n.ins[j]?=some sp:=⟨n.ins[j],by simp [hji]⟩
  have hspm:=aL hsp
  have hok:=hnok.si sp hspm
  have hrow:(fM n.ins)[j]?=some sp.row:=by simp [fM,hsp]
  have hia:=fun s=>LV.load hi hrow (fN hok) s
  have ew:aJ.wrap ((j:Int)+1)=((j+1:Nat):Int):=by rw [cB (by omega) (by omega)]; omega
  simp [-loadAt,-splice,-aA,hji,c30_k4,c30_k3,(hia s).1,(hia s).2,fN hok,gQ]
  obtain⟨t,ht⟩ : ∃ u:St,(⟨s.objs++[.cells (List.map V.d sp.row)],s.toks⟩:St)=u:=⟨_,rfl⟩
  have hst:ST s t:=by rw [← ht]; exact ST.push _ _
  have o18:t.objs[s.objs.length]?=some (.cells (List.map V.d sp.row)):=by rw [← ht]; simp
  rw [ht]
  have l18:loadAt t true 33 (.ref s.objs.length 0)=some (.da (ptD (gK sp))):=by
   simp only [loadAt,o18,if_true,aS,fN hok,bJ,uW hok]
   exact congrArg some (iP _)
  have hG:=h.more (hS.trans hst).old
  have hsn:=aI4 h.ms.nd h.nd hn hspm
  simp [-loadAt,-cJ,hX,-aA,c30_k2,l18]
  refine jH (vV hG (p:=gK sp) hok.tx (aD7 hok)) ?_
  rw [hsn]
  have hnl:(cG n.id).length=32:=by rw [eP,hid]
  have zl:(aD 32 (V.d (D.int .u8 0))).length=32:=List.length_replicate
  simp [-cC,-loadAt,-splice,-aA,gQ,hnl,zl]
  obtain⟨u,hu⟩ : ∃ u:St,(⟨t.objs++[.cells (List.map V.d (cG n.id))],t.toks⟩:St)=u:=⟨_,rfl⟩
  have htu:ST t u:=by rw [← hu]; exact ST.push _ _
  have o19:u.objs[t.objs.length]?=some (.cells (List.map V.d (cG n.id))):=by rw [← hu]; simp
  rw [hu]
  have hall:=(hS.trans hst).trans htu
  have l19:loadAt u true 32 (.ref t.objs.length 0)=some (.da (cG n.id)):=by
   simp only [loadAt,o19,if_true,aS,hnl,bJ]
   rw [aK (by simp [hnl])]
   exact congrArg some (iP _)
  have l7u:=(aKi hid ((hall.old p7 p7l).trans h7)).2.2.1
  have hcmp:=aCT hid hid
  simp [-loadAt,-cJ,-cE,-aA,hX,c30_k1,l19,l7u]
  rw [hcmp]
  simp [c30_k0,ew]
  rw [show((j:Int)+1)=((j+1:Nat):Int) from by omega]
  exact⟨n.ins.length-(j+1),by omega,j+1,rfl,by omega,rfl,hall⟩
 ·obtain rfl:j=n.ins.length:=by omega
  simp
  exact hq s hS

def mdS:Nat→Dn.Mode:=fun f=>if f=17∨f=19∨f=24∨f=26∨f=28 then .rd else .val
def aK1 (σ:St)(g:Nat)(v:V)(n:Nat)(m:Nat)(e:Env)(s:St):Prop:=∃ k:Nat,e=[(0,.ref g 0),(1,v),(35,v),(36,I n),(37,I k)]∧k≤n∧m=n-k∧ST σ s
theorem nb2 {v w:V}(h1:v.borrows=false)(h2:w.borrows=false):([v,w]:List V).any V.borrows=false:=by simp only [List.any_cons,List.any_nil,h1,h2,Bool.or_false]
theorem aG7 {M:List Nd}(h : ∀ n∈M,n.Ok)(nx:List UInt8→List (List UInt8))(L:List (List UInt8)):H32 (aAa M nx L)∧(aAa M nx L).length≤M.length:=⟨yT h _,rM _ _⟩
set_option maxHeartbeats 4000000 in
theorem aHE {σ:St}{g qn qs put:Nat}{M:List Nd}{v:V}(hP:PS σ g qn qs M put v) :
  Dn.Call Γ cx .raw 30 [.ref g 0,v] σ fun w s=>w=B true∧ST σ s:=by
 refine Dn.Call.body (fc:=c30) rfl ?_
 obtain⟨es,ck,es2,ck2,hG⟩:=hP.gr
 obtain⟨rows,hv,hR⟩:=hP.m
 have hml:=hG.len
 have hnd:=hG.nd
 have hpt:=hG.ms.nd
 have hok:=hG.ok
 have hvl : ∀ s,gZ s .slice v=some M.length:=fun s=>by rw [hv.len,hR.len]
 have hvb:=hv.borrows
 obtain⟨d,hd0,hd2⟩:=hv.byVal σ
 have hd1 : ∀ s,V.byVal s v=some (.d d):=fun s=>by rw [← hd0]; cases hv <;> rfl
 have hid32:H32 (M.map (·.id)):=fun x hx=>by
  obtain⟨n,hn,rfl⟩:=aQ.1 hx
  exact(hok n hn).id
 have hbv1 : ∀ s,dD s [v]=some [.d d]:=fun s=>tW (hd1 s)
 simp [c30,c30_k33]
 refine fV (hbv1 _) (aKw hd2 hR (by omega)) (pE rfl (by simp only [List.any_cons,List.any_nil,hvb,Bool.or_false])) ?_
 simp [c30_k32]
 refine jH (aKk hG) ?_
 simp
 refine fV rfl (sB (kM _) (kM _) hid32 (by simp; omega)) (jJ rfl rfl) ?_
 simp
 refine jH (aHu hG) ?_
 simp [hvl,c30_k31,c30_k30,c30_k29]
 refine fJ (aK1 σ g v M.length) (m:=M.length) ⟨0,rfl,by omega,rfl,ST.refl _⟩ ?_
 rintro m e s ⟨k,rfl,hk,rfl,hS⟩
 simp [-loadAt,c30_l28,c30_k27]
 by_cases hkl:k<M.length
 rotate_left
 ·obtain rfl:k=M.length:=by omega
  simp
  exact hS
 obtain⟨n,hn⟩ : ∃ n,M[k]?=some n:=⟨M[k],by simp [hkl]⟩
 have hnM:=aL hn
 have hnok:=hok n hnM
 have hid:=hnok.id
 obtain⟨i,o,hrow,hi,ho⟩:=hR.at_ k n hn
 have hrl:(nY i o n).length=36:=zO hid
 have hla:=fun s=>LV.load hv hrow hrl s
 have ia:=fun s=>(hla s).1
 have la:=fun s=>(hla s).2
 have ew:aJ.wrap ((k:Int)+1)=((k+1:Nat):Int):=by rw [cB (by omega) (by omega)]; omega
 simp [-loadAt,-splice,-aA,gQ,hrl,hkl,c30_k26,c30_k25,ia,la]
 obtain⟨s7,hs7⟩ : ∃ t:St,(⟨s.objs++[.cells ((nY i o n).map .d)],s.toks⟩:St)=t:=⟨_,rfl⟩
 have hS7:ST σ s7:=hS.trans (by rw [← hs7]; exact ST.push _ _)
 have o7:s7.objs[s.objs.length]?=some (.cells ((nY i o n).map .d)):=by rw [← hs7]; simp
 have hl7:s7.objs.length=s.objs.length+1:=by rw [← hs7]; simp
 rw [hs7]
 clear hs7
 obtain⟨p7,hp7⟩ : ∃ p,s.objs.length=p:=⟨_,rfl⟩
 rw [hp7] at o7 hl7 ⊢
 have hr7 : ∀ t,ST s7 t→loadAt t false 1 (.ref p7 0)=some (.d i)∧loadAt t false 1 (.ref p7 1)=some (.d o)∧loadAt t true 32 (.ref p7 3)=some (.da (cG n.id))∧loadAt t true 3 (.ref p7 0)=some (.da [i,o,.bool n.f]):=fun t ht=>aKi hid ((ht.old p7 (by omega)).trans o7)
 have hfn:fnd M n.id=some n:=kC hnd hnM
 have l73:=(hr7 s7 (ST.refl _)).2.2.1
 -- Get
 simp [-loadAt,-cJ,hX,-aA,c30_k24,l73]
 refine jH (aLt (hG.more hS7.old) hid) ?_
 rw [hfn]
 have hdl:n.dat.length=3:=rfl
 simp [-loadAt,-splice,gQ,hdl]
 obtain⟨s8,hs8⟩ : ∃ t:St,(⟨s7.objs++[.cells (n.dat.map .d)],s7.toks⟩:St)=t:=⟨_,rfl⟩
 have hS8:ST s7 s8:=by rw [← hs8]; exact ST.push _ _
 have o8:s8.objs[s7.objs.length]?=some (.cells (n.dat.map .d)):=by rw [← hs8]; simp
 have hl8:s8.objs.length=p7+2:=by rw [← hs8]; simp [hl7]
 rw [hs8,hl7]
 rw [hl7] at o8
 clear hs8
 have l838:=(hr7 s8 hS8).2.2.1
 -- Rate
 have hbs : ∀ (t:St) (e:Env) (y:Opd),y.ev e = .da (cG n.id)→dE (.bslice 45 1 32 (aD 32 (.int .u8 0)) [(0,y)]) e t=some (.fl [cG n.id]):=fun t e y hx=>lJ hx (by simp) (by rw [eP,hid])
 have hlv1:LV (.fl [cG n.id]) (hO [n.id]):=.fl _
 have hlv2:LV (.d (.list [cG n.id])) (hO [n.id]):=.list _
 have h321:H32 [n.id]:=fun x hx=>by obtain rfl:=bD.1 hx; exact hid
 have hE:=aG6 hnd hnM hnok
 simp [-loadAt,-cJ,hX,-aA,c30_k23,l838,↓hbs]
 refine jH (aKm (hG.more (hS7.trans hS8).old) hlv1 h321 (by simp)) ?_
 have hrv:zZ M [n.id] = .tup [.da [.int .i64 (nG (gY M [n.id])),.int .i64 (qZ (gY M [n.id]))],mP 0]:=by unfold zZ; rw [hE,if_pos rfl]
 have hrrv:tQ M [n.id] = .tup [.da [.int .i64 (nG (gY M [n.id])),.int .i64 (qZ (gY M [n.id]))],I 0]:=by unfold tQ; rw [hE,if_pos rfl]
 have hokO : ∀ n'∈gY M [n.id],n'.Ok:=fun n' h'=>hok n' (aX.1 h').1
 have hF:=aEY hokO
 have hW:=aEZ hokO
 have hOl:(gY M [n.id]).length≤M.length:=List.length_filter_le _ _
 rw [hrv]
 generalize nG (gY M [n.id])=F at *
 generalize qZ (gY M [n.id])=W at *
 simp [-loadAt]
 obtain⟨s10,hs10⟩ : ∃ t:St,(⟨s8.objs++[.cells [I F,I W]],s8.toks⟩:St)=t:=⟨_,rfl⟩
 have hS10:ST s8 s10:=by rw [← hs10]; exact ST.push _ _
 have o10:s10.objs[p7+2]?=some (.cells [I F,I W]):=by rw [← hs10,← hl8]; simp
 have hl10:s10.objs.length=p7+3:=by rw [← hs10]; simp [hl8]
 rw [hs10,hl8]
 clear hs10
 have l8310:=(hr7 s10 (hS8.trans hS10)).2.2.1
 have hbv2 : ∀ s,dD s [v,.fl [cG n.id]]=some [.d d,.d (.list [cG n.id])]:=fun s=>by simp only [dD,hd1,fW]
 simp [-loadAt,-cJ,hX,-aA,c30_k22,l8310,↓hbs]
 refine fV (hbv2 _) (aIX hd2 hR (by omega) hlv2 h321 (by simp)) (pE (by rw [hrrv]; rfl) (nb2 hvb rfl)) ?_
 rw [hrrv]
 simp [-loadAt]
 obtain⟨s12,hs12⟩ : ∃ t:St,(⟨s10.objs++[.cells [I F,I W]],s10.toks⟩:St)=t:=⟨_,rfl⟩
 have hS12:ST s10 s12:=by rw [← hs12]; exact ST.push _ _
 have o12:s12.objs[p7+3]?=some (.cells [I F,I W]):=by rw [← hs12,← hl10]; simp
 have hl12:s12.objs.length=p7+4:=by rw [← hs12]; simp [hl10]
 rw [hs12,hl10]
 clear hs12
 have hS712:=(hS8.trans hS10).trans hS12
 have hG12:=hG.more (hS7.trans hS712).old
 obtain⟨m0,m1,m3,mt⟩:=hr7 s12 hS712
 have l812:loadAt s12 true 3 (.ref (p7+1) 0)=some (.da n.dat):=by
  have:s12.objs[p7+1]?=some (.cells (n.dat.map .d)):=by rw [(hS10.trans hS12).old _ (by omega)]; exact o8
  simp only [loadAt,this]
  rfl
 have l1012:loadAt s12 true 2 (.ref (p7+2) 0)=some (.da [.int .i64 F,.int .i64 W]):=by
  have:s12.objs[p7+2]?=some (.cells [I F,I W]):=by rw [hS12.old _ (by omega)]; exact o10
  simp only [loadAt,this]
  rfl
 have l1212:loadAt s12 true 2 (.ref (p7+3) 0)=some (.da [.int .i64 F,.int .i64 W]):=by simp only [loadAt,o12]; rfl
 have hli:=hnok.li
 have hlo:=hnok.lo
 have hne:=aIs (a:=F) (b:=W) (by omega) (by omega)
 have hz:mP 0 = .d .nili:=rfl
 have hnz : ∀ b,cE .neq .iface [] (V.d .nili) (.d .nili) b true=some (B false):=fun b=>by cases b <;> rfl
 rw [hz]
 simp [-loadAt,-cE,-cJ,hX,-aA,c30_k21,m3]
 refine jH (tG hG12 hid) ?_
 rw [hfn]
 simp [-loadAt,-cE,-cJ,hX,-aA,l812,mt]
 refine fV rfl (aB3 (LV.lvD hnok.a St.empty).2 (LV.lvD hnok.b St.empty).2 hi ho hnok.si hnok.so (by omega) (by omega)) (jJ rfl rfl) ?_
 simp [-loadAt,-cE,-cJ,hX,Opd.isC,hnz,l1012,l1212]
 rw [hne]
 simp [c30_k20]
 rw [c30_k19,fS,fS]
 refine gP mdS [] (by decide +kernel) ?_
 have hag : ∀ s,Agr s12.objs.length s12 s→Gr s g qn qs es ck es2 ck2 M put:=fun s ha=>hG12.more ha.1
 have hbvp : ∀ s,dD s [v,.da (cG n.id)]=some [.d d,.da (cG n.id)]:=fun s=>by simp only [dD,hd1,fR]
 have hP32:=aG1 hok (by omega) n.id
 have hC32:=aGA hok (by omega) n.id
 have hA32:=aG7 hok (mW M) [n.id]
 have hD32:=aG7 hok (oE M) [n.id]
 simp [-loadAt,-cE,-cJ,hX,cN,-aA,m3]
 refine pK rfl (fun s ha=>qY (hag s ha) hid) ?_
 simp [-loadAt,-cE,-cJ,hX,-aA,m3]
 refine hU rfl (hbvp _) (aAo hd2 hR (by omega) hnd hid) (pE rfl (nb2 hvb rfl)) ?_
 simp [-loadAt,-cE,-cJ,hX,-aA,m3]
 refine hU rfl rfl (sB (kM _) (kM _) hP32.1 (by omega)) (jJ rfl rfl) ?_
 simp [-loadAt,-cE,-cJ,hX,-aA,m3]
 refine pK rfl (fun s ha=>xC (hag s ha) hid) ?_
 simp [-loadAt,-cE,-cJ,hX,-aA,m3]
 refine hU rfl (hbvp _) (xE hd2 hR (by omega) hnd hpt hid) (pE rfl (nb2 hvb rfl)) ?_
 simp [-loadAt,-cE,-cJ,hX,-aA,m3]
 refine hU rfl rfl (sB (kM _) (kM _) hC32.1 (by omega)) (jJ rfl rfl) ?_
 simp [-loadAt,-cE,-cJ,hX,-aA,m3,↓hbs]
 refine pK rfl (fun s ha=>aC5 (hag s ha) hlv1 h321 (by simp)) ?_
 simp [-loadAt,-cE,-cJ,hX,-aA,m3,↓hbs]
 refine hU rfl (hbv2 _) (aB5 hd2 hR (by omega) hnd hpt hlv2 h321 (by simp)) (pE rfl (nb2 hvb rfl)) ?_
 simp [-loadAt,-cE,-cJ,hX,-aA,m3,↓hbs]
 refine hU rfl rfl (sB (kM _) (kM _) hA32.1 (by omega)) (jJ rfl rfl) ?_
 simp [-loadAt,-cE,-cJ,hX,-aA,m3,↓hbs]
 refine pK rfl (fun s ha=>aAH (hag s ha) hlv1 h321 (by simp)) ?_
 simp [-loadAt,-cE,-cJ,hX,-aA,m3,↓hbs]
 refine hU rfl (hbv2 _) (aAm hd2 hR (by omega) hnd hpt hlv2 h321 (by simp)) (pE rfl (nb2 hvb rfl)) ?_
 simp [-loadAt,-cE,-cJ,hX,-aA,m3,↓hbs]
 refine hU rfl rfl (sB (kM _) (kM _) hD32.1 (by omega)) (jJ rfl rfl) ?_
 simp [-loadAt,-cE,-cJ,hX,-aA,c30_k18]
 rw [c30_k17,fS]
 have o712:s12.objs[p7]?=some (.cells ((nY i o n).map .d)):=(hS712.old p7 (by omega)).trans o7
 refine aCd hG12 hnM ho o712 fun t ht=>?_
 rw [cM]
 have o7t:t.objs[p7]?=some (.cells ((nY i o n).map .d)):=(ht.old p7 (by omega)).trans o712
 refine aAI (hG12.more ht.old) hnM hi o7t fun u hu=>?_
 simp [-loadAt,ew]
 have hall:=((hS7.trans hS712).trans ht).trans hu
 rw [show((k:Int)+1)=((k+1:Nat):Int) from by omega]
 exact⟨M.length-(k+1),by omega,k+1,rfl,by omega,rfl,hall⟩

def z32:List UInt8:=aD 32 0
def alS1:SpG:=⟨z32,0,[],0⟩
def alC:CoG:=⟨0,0⟩
def idA:List UInt8:=[83,55,37,104,200,254,75,101,138,90,128,131,150,3,34,147,177,70,93,100,2,66,205,248,54,129,5,139,164,110,21,177]
theorem aBG:idB [alS1] [alC] false=idA:=by decide +kernel
def alS2:SpG:=⟨idA,0,[],0⟩
def idBB:List UInt8:=[187,232,183,121,174,71,70,90,76,22,131,254,14,70,61,214,27,111,28,49,9,184,169,187,158,52,71,191,160,225,237,197]
theorem aBH:idB [alS2] [alC] false=idBB:=by decide +kernel
def vaA:V:=.fl [alS1.row]
def vbA:V:=.fl [alC.row]
def vaB:V:=.fl [alS2.row]
def nA:Nd:=⟨idA,.d (lvD vaA),.d (coD vbA [alC]),false,[alS1],[alC],1,0⟩
def nB:Nd:=⟨idBB,.d (lvD vaB),.d (coD vbA [alC]),false,[alS2],[alC],2,1⟩
theorem aLg:aAD vaA vbA [alS1] [alC] false 1 0=nA:=by unfold aAD; rw [aBG]; rfl
theorem aLh:aAD vaB vbA [alS2] [alC] false 2 1=nB:=by unfold aAD; rw [aBH]; rfl
theorem aGu:idA.length=32:=rfl
theorem aDt:idBB.length=32:=rfl
theorem aEr:kN [] [alS1] [alC] false 1=0:=by
 unfold kN
 rw [aBG]
 decide +kernel
theorem aEs:kN [nA] [alS2] [alC] false 2=0:=by
 unfold kN
 rw [aBH]
 decide +kernel
theorem aH5:(mW [nA,nB] idBB).length=1:=by decide +kernel
theorem aJV:(gY [nA,nB] [idA]).length=1:=by decide +kernel
theorem aJW:rmL [nA,nB] [idA]=[nB]:=by
 have h1:nA.id∈[idA]:=by decide
 have h2:nB.id∉[idA]:=by decide
 simp [rmL,List.filter,h1,h2]
theorem aJU:(fnd [nB] idBB).isSome=true:=by decide +kernel
theorem aH6:(mW [nB] idBB).length=0:=by decide +kernel
theorem aH3:alS1.Ok:=⟨rfl,by decide,by decide,by decide,by decide,by decide⟩
theorem aH4:alS2.Ok:=⟨aGu,by decide,by decide,by decide,by decide,by decide⟩
theorem aJT:alC.Ok:=by simp only [CoG.Ok,alC]; omega
theorem TxV.mk1 {σ:St}{s:SpG}(h:s.Ok):TxV σ (.fl [s.row]) (.fl [alC.row]) [s] [alC]:=⟨.fl _,.inl (.fl _),by simp,by simp,by simpa using h,by simpa using aJT⟩

theorem aIQ {i o:D}{f:Bool}{ins:List SpG}{outs:List CoG}(h:TxD i o f ins outs){n:Nat} :
  Dn.Call Γ cx .val 39 [.da [i,o,.bool f],I n] St.empty fun v _=>v = .da (ptD (idB ins outs f,(n:Int))):=by
 refine Dn.Call.body (fc:=c39) rfl ?_
 have h1:(idB ins outs f).length=32:=Sha.sha_len _
 have hbu : ∀ (σ:St) (e:Env) (x y:Opd) (zs:List D),zs.length=33→x.ev e = .da (cG (idB ins outs f))→y.ev e=I n→dE (.build zs [(0,32,x),(32,1,y)]) e σ=some (.da (ptD (idB ins outs f,(n:Int)))):=fun σ e x y zs hz hx hy=>yR hz (by rw [eP,h1]) hx hy
 have hid:=aHm h
 have hpl:(ptD (idB ins outs f,(n:Int))).length=33:=by simp [ptD,eP,h1]
 generalize idB ins outs f=me at *
 have l1 : ∀ t:St,t.objs[1]?=some (.cells ((ptD (me,(n:Int))).map .d))→loadAt t true 33 (.ref 1 0)=some (.da (ptD (me,(n:Int)))):=fun t ht=>by
  simp only [loadAt,ht,if_true,aS,hpl,bJ]
  rw [aK (by simp [hpl])]
  exact congrArg some (iP _)
 simp [-aA,c39,c39_k0,cC]
 refine fV rfl hid (jJ rfl (nK _)) ?_
 generalize ptD (me,(n:Int))=P at *
 simp [-loadAt,-aA,-splice,gQ,↓hbu,hpl,l1]

theorem aBC {σ:St}{e:Env}{zs:List D}{x:Opd}{a:List D}{n:Nat}(hz:n≤zs.length)(ha:a.length=n)(hx:x.ev e = .da a):dE (.build zs [(0,n,x)]) e σ=some (.da (a++zs.drop n)):=by
 have h1:fI (zs.map .d) [(0,n,.da a)]=some ((a++zs.drop n).map .d):=by
  simp only [fI,V.cells,aS,ha,Nat.zero_add,hz,and_self,if_true]
  unfold splice
  simp [ha]
 simp only [dE,aH,aM,hx]
 rw [h1]
 exact congrArg some (iP _)
theorem aLF : ∀ σ,V.byVal σ (cC [vaA,vbA,.d (.bool false)])=some (.da [lvD vaA,coD vbA [alC],.bool false]):=fun σ=>rfl
set_option maxHeartbeats 2000000 in
theorem aIT:Dn.Call Γ cx .val 6 [] St.empty fun v _=>v=B true:=by
 refine Dn.Call.body (fc:=c6) rfl ?_
 have hb1 : ∀ (σ:St) (e:Env),dE (.build [.int .u8 0,.int .u8 0,.int .u8 0,.int .u8 0,.int .u8 0,.int .u8 0,.int .u8 0,.int .u8 0,.int .u8 0,.int .u8 0,.int .u8 0,.int .u8 0,.int .u8 0,.int .u8 0,.int .u8 0,.int .u8 0,.int .u8 0,.int .u8 0,.int .u8 0,.int .u8 0,.int .u8 0,.int .u8 0,.int .u8 0,.int .u8 0,.int .u8 0,.int .u8 0,.int .u8 0,.int .u8 0,.int .u8 0,.int .u8 0,.int .u8 0,.int .u8 0,.int .i64 0,.str [],.int .u64 0] []) e σ=some (.da alS1.row):=fun σ e=>rfl
 have hb2 : ∀ (σ:St) (e:Env),dE (.build [.int .i64 0,.int .u64 0] []) e σ=some (.da alC.row):=fun σ e=>rfl
 have hb3 : ∀ (σ:St) (e:Env) (x:Opd) (zs:List D),zs.length=35→zs.drop 33=[.str [],.int .u64 0]→x.ev e = .da (ptD (idA,0))→dE (.build zs [(0,33,x)]) e σ=some (.da alS2.row):=fun σ e x zs h1 h2 h3=>by
  rw [aBC (n:=33) (by omega) rfl h3,h2]; rfl
 have hs1 : ∀ (σ:St) (e:Env) (y:Opd) (zs:List D),zs.length=35→y.ev e = .da alS1.row→dE (.bslice 60 1 35 zs [(0,y)]) e σ=some vaA:=fun σ e y zs hz hy=>lJ hy hz rfl
 have hs2 : ∀ (σ:St) (e:Env) (y:Opd) (zs:List D),zs.length=35→y.ev e = .da alS2.row→dE (.bslice 60 1 35 zs [(0,y)]) e σ=some vaB:=fun σ e y zs hz hy=>lJ hy hz rfl
 have hs3 : ∀ (σ:St) (e:Env) (y:Opd) (zs:List D),zs.length=2→y.ev e = .da alC.row→dE (.bslice 72 1 2 zs [(0,y)]) e σ=some vbA:=fun σ e y zs hz hy=>lJ hy hz rfl
 have hs4 : ∀ (σ:St) (e:Env) (y:Opd),y.ev e = .da (cG idA)→dE (.bslice 45 1 32 (aD 32 (.int .u8 0)) [(0,y)]) e σ=some (.fl [cG idA]):=fun σ e y hy=>lJ hy (by simp) rfl
 have hT1 : ∀ (σ:St) (e:Env) (x y:Opd),x.ev e=vaA→y.ev e=vbA→dE (.build [.nils,.nils,.bool false] [(0,1,x),(1,1,y)]) e σ=some (cC [vaA,vbA,.d (.bool false)]):=fun σ e x y hx hy=>by
  simp only [dE,aH,aM,hx,hy]
  rfl
 have hT2 : ∀ (σ:St) (e:Env) (x y:Opd),x.ev e=vaB→y.ev e=vbA→dE (.build [.nils,.nils,.bool false] [(0,1,x),(1,1,y)]) e σ=some (cC [vaB,vbA,.d (.bool false)]):=fun σ e x y hx hy=>by
  simp only [dE,aH,aM,hx,hy]
  rfl
 have k1:vaA.cells=some [vaA]:=rfl
 have k2:vbA.cells=some [vbA]:=rfl
 have k3:vaB.cells=some [vaB]:=rfl
 have hcA:(cC [vaA,vbA,V.d (.bool false)]).cells=some [vaA,vbA,.d (.bool false)]:=oN
 have hcB:(cC [vaB,vbA,V.d (.bool false)]).cells=some [vaB,vbA,.d (.bool false)]:=oN
 have hTA : ∀ σ,TxV σ vaA vbA [alS1] [alC]:=fun σ=>TxV.mk1 aH3
 have hTB : ∀ σ,TxV σ vaB vbA [alS2] [alC]:=fun σ=>TxV.mk1 aH4
 have hpt:=aIQ ((hTA St.empty).tx false) (n:=0)
 rw [aBG] at hpt
 have hidA:=aHm ((hTA St.empty).tx false)
 rw [aBG] at hidA
 have hidB:=aHm ((hTB St.empty).tx false)
 rw [aBH] at hidB
 simp [-aA,c6,c6_k5]
 refine eR aHv fun w s ⟨hw,hG,_,hl,htk⟩=>?_
 have hw':w = .ref 2 0:=hw
 subst hw'
 replace hG:Gr s 2 0 1 [] 0 [] 0 [] 0:=hG
 replace hl:s.objs.length=3:=hl
 clear hw
 simp [-aA,-cC,-splice,↓hb1,↓hb2,↓hs1,↓hs3,↓hT1,hcA,gQ,c6_k4]
 obtain⟨s4,hs4'⟩ : ∃ t:St,(⟨s.objs++[.cells [vaA,vbA,.d (.bool false)]],s.toks⟩:St)=t:=⟨_,rfl⟩
 have old4 : ∀ r,r<s.objs.length→s4.objs[r]?=s.objs[r]?:=fun r hr=>by rw [← hs4']; simp only; rw [aC hr]
 have o4:s4.objs[3]?=some (.cells [vaA,vbA,.d (.bool false)]):=by rw [← hs4',← hl]; simp
 have hl4:s4.objs.length=4:=by rw [← hs4']; simp [hl]
 rw [hs4',hl]
 clear hs4'
 have ldA : ∀ t:St,t.objs[3]?=s4.objs[3]?→loadAt t true 3 (.ref 3 0)=some (cC [vaA,vbA,.d (.bool false)]):=fun t ht=>by
  simp only [loadAt,ht,o4]; rfl
 have l4:=ldA s4 rfl
 have hbp:dD s4 [cC [vaA,vbA,.d (.bool false)],I 0]=some [.da [lvD vaA,coD vbA [alC],.bool false],I 0]:=by simp only [dD,aLF,gU]
 have hb0:(cC [vaA,vbA,V.d (.bool false)]).borrows=false:=rfl
 simp [-loadAt,-aA,-cC,-splice,l4,c6_k3]
 refine fV hbp hpt (pE rfl (nb2 hb0 rfl)) ?_
 simp [-loadAt,-aA,-cC,-splice,↓hb2,↓hb3,↓hs2,↓hs3,↓hT2,hcB,gQ]
 obtain⟨s5,hs5⟩ : ∃ t:St,(⟨s4.objs++[.cells [vaB,vbA,.d (.bool false)]],s4.toks⟩:St)=t:=⟨_,rfl⟩
 have old5 : ∀ r,r<s4.objs.length→s5.objs[r]?=s4.objs[r]?:=fun r hr=>by rw [← hs5]; simp only; rw [aC hr]
 have o5:s5.objs[4]?=some (.cells [vaB,vbA,.d (.bool false)]):=by rw [← hs5,← hl4]; simp
 have hl5:s5.objs.length=5:=by rw [← hs5]; simp [hl4]
 rw [hs5,hl4]
 clear hs5
 have ldB : ∀ t:St,t.objs[4]?=s5.objs[4]?→loadAt t true 3 (.ref 4 0)=some (cC [vaB,vbA,.d (.bool false)]):=fun t ht=>by
  simp only [loadAt,ht,o5]; rfl
 have hG5:Gr s5 2 0 1 [] 0 [] 0 [] 0:=hG.more fun r hr=>by rw [old5 r (by omega),old4 r hr]
 have lA5:=ldA s5 (old5 3 (by omega))
 have hz:mP 0 = .d .nili:=rfl
 have hnz : ∀ b,cE .neq .iface [] (V.d .nili) (.d .nili) b true=some (B false):=fun b=>by cases b <;> rfl
 simp [-loadAt,-cE,Opd.isC,-aA,-cC,-splice,lA5,c6_k2]
 refine eR (aHq hG5 (by decide) (hTA s5) (f:=false) (fee:=1) (by simp) (by simp)) fun u s6 ⟨hu,hAf⟩=>?_
 rw [aEr,hz] at hu
 subst hu
 rw [aEr,if_pos rfl,if_pos rfl,aLg,aI] at hAf
 obtain⟨⟨es6,ck6,es6',ck6',hG6⟩,old6,hl6,_⟩:=hAf
 have lB6:=ldB s6 (old6 4 (by omega) (by omega) (by omega) (by omega))
 simp [-loadAt,-cE,Opd.isC,hnz,-aA,-cC,-splice,lB6]
 refine eR (aHq hG6 (by decide) (hTB s6) (f:=false) (fee:=2) (by simp) (by simp)) fun u s7 ⟨hu,hAf⟩=>?_
 rw [aEs,hz] at hu
 subst hu
 rw [aEs,if_pos rfl,if_pos rfl,show(0+1:Nat)=1 from rfl,aLh] at hAf
 obtain⟨⟨es7,ck7,es7',ck7',hG7⟩,old7,hl7,_⟩:=hAf
 replace hG7:Gr s7 2 0 1 es7 ck7 es7' ck7' [nA,nB] 2:=hG7
 have lB7:=ldB s7 ((old7 4 (by omega) (by omega) (by omega) (by omega)).trans (old6 4 (by omega) (by omega) (by omega) (by omega)))
 have lA7:=ldA s7 (((old7 3 (by omega) (by omega) (by omega) (by omega)).trans (old6 3 (by omega) (by omega) (by omega) (by omega))).trans (old5 3 (by omega)))
 simp [-loadAt,-cE,Opd.isC,hnz,-aA,-cC,-splice,lB7]
 refine fV ((hTB s7).bv false) hidB (jJ rfl (nK _)) ?_
 simp [-loadAt,-cE,Opd.isC,hnz,-aA,-cC,-splice]
 refine jH (qY hG7 aDt) ?_
 have hlp2 : ∀ s,gZ s .slice (.d (hlD (mW [nA,nB] idBB)))=some 1:=fun s=>by rw [(kM _).len,iQ,aH5]
 have hn1 : ∀ b,cE .neq .int [] (I 1) (I 1) b true=some (B false):=fun b=>by cases b <;> rfl
 simp [-loadAt,-cE,Opd.isC,-aA,-cC,-splice,hlp2,hn1,c6_k1,lA7,c6_k0]
 have h32:H32 [idA]:=fun x hx=>by obtain rfl:=bD.1 hx; exact aGu
 have hlv:LV (.fl [cG idA]) (hO [idA]):=.fl _
 refine fV ((hTA s7).bv false) hidA (jJ rfl (nK _)) ?_
 simp [-loadAt,-aA,-cC,-splice,↓hs4]
 refine eR (aC9 hG7 (by decide) (Hl.lv hlv h32) h32 (by simp)) fun w s8 ⟨hw,hAf⟩=>?_
 rw [aJW] at hAf
 obtain⟨⟨es8,ck8,es8',ck8',hG8⟩,old8,hl8,_⟩:=hAf
 have hlw : ∀ s,gZ s .slice w=some 1:=fun s=>by rw [hw.len]; simp only [oA,aS,aJV]
 have lB8:=ldB s8 (((old8 4 (by omega) (by omega) (by omega) (by omega)).trans (old7 4 (by omega) (by omega) (by omega) (by omega))).trans (old6 4 (by omega) (by omega) (by omega) (by omega)))
 simp [-loadAt,-aA,-cC,-splice,hlw,lB8]
 refine fV ((hTB s8).bv false) hidB (jJ rfl (nK _)) ?_
 simp [-loadAt,-aA,-cC,-splice]
 refine jH (tG hG8 aDt) ?_
 rw [aJU]
 simp [-loadAt,-aA,-cC,-splice,lB8]
 refine fV ((hTB s8).bv false) hidB (jJ rfl (nK _)) ?_
 simp [-loadAt,-aA,-cC,-splice]
 refine jH (qY hG8 aDt) ?_
 have hlp3 : ∀ s,gZ s .slice (.d (hlD (mW [nB] idBB)))=some 0:=fun s=>by rw [(kM _).len,iQ,aH6]
 simp [-loadAt,-aA,-cC,-splice,hlp3]
 refine jH (aHu hG8) ?_
 simp [-loadAt,-aA,-cC,-splice]

theorem LV.one {x:D}{rows:List (List D)}(h:LV (.d x) rows){sz k:Nat}{row:List D}(hf : ∀ r∈rows,r.length=sz)(hk:rows[k]?=some row):jY sz (.d x) k (k+1) none=some (.d (.list [row])):=by
 cases h with
 | nil=>simp at hk
 | list rows =>
  obtain⟨hl,rfl⟩:=aB.1 hk
  have h1:(rows.drop k).take 1=[rows[k]]:=by rw [List.drop_eq_getElem_cons hl,List.take_succ_cons,List.take_zero]
  have hf':kS sz rows=true:=by
   simp only [kS,List.all_eq_true]
   intro r hr
   simp [hf r hr]
  have h2:k+1-k=1:=by omega
  have h3:k+1≤rows.length:=by omega
  simp only [jY,hf',h2,h3,h1,and_self,if_true]
theorem aKe {v:V}(h:V.isNil .slice v=some false)(b c:Bool):cE .eql .slice [] v (.d .nils) b c=some (B false):=by
 have e:eqV .slice [] v (.d .nils) b c=some false:=by
  simp only [eqV,h]
  rfl
 cases v with
 | d d=>cases d <;> first | (simp only [cE,e]; rfl) | cases h
 | _=>simp only [cE,e]; rfl
def aKI (x:D)(n:Nat)(m:Nat)(e:Env)(s:St):Prop:=∃ (k:Nat) (M:List Nd) (put:Nat) (v:V),e=[(0,.d x),(3,.ref 2 0),(4,v),(13,I n),(14,I k)]∧k≤n∧m=n-k∧PS s 2 0 1 M put v∧M.length≤k∧put≤k
theorem aB2 {x:D}{l:List Act}(hx:LV (.d x) (kJ l))(hr : ∀ a∈l,a.Raw) :
  Dn.Call Γ cx .val 4 [.d x] St.empty fun v _=>v=B true:=by
 refine Dn.Call.body (fc:=c4) rfl ?_
 have hlx : ∀ σ,gZ σ .slice (.d x)=some l.length:=fun σ=>by rw [hx.len]; simp [kJ]
 simp [c4,c4_k15]
 refine fV rfl aIT (jJ rfl rfl) ?_
 simp [c4_k14,c4_k13]
 refine lA rfl (aKs hx hr) fun v s ⟨b,hv,hb⟩=>?_
 subst hv
 refine⟨rfl,fun _=>rfl,?_⟩
 cases b with
 | true=>simp [c4_k12]
 | false =>
 obtain⟨hl31,hok⟩:=hb rfl
 simp [c4_k12,c4_k11]
 refine eR aHv fun w s ⟨hw,hG,_,hl,htk⟩=>?_
 have hw':w = .ref 2 0:=hw
 subst hw'
 replace hG:Gr s 2 0 1 [] 0 [] 0 [] 0:=hG
 clear hw
 simp [-aA,iM,fI,gL,c4_k10,c4_k9,hlx,c4_k8]
 have hR0:RR [] []:=⟨by simp,by simp,by simp⟩
 refine fJ (aKI x l.length) (m:=l.length) ⟨0,[],0,.fl [],rfl,by omega,rfl,⟨⟨_,_,_,_,hG⟩,⟨[],.fl [],hR0⟩,rfl⟩,by simp,by omega⟩ ?_
 rintro m e t ⟨k,M,put,v,rfl,hk,rfl,hP,hMl,hpl⟩
 simp [-loadAt,c4_l7,c4_k6]
 by_cases hkl:k<l.length
 ·obtain⟨a,ha⟩ : ∃ a,l[k]?=some a:=⟨l[k],by simp [hkl]⟩
  have hA:=hok a (aL ha)
  have hrow:(kJ l)[k]?=some a.row:=by simp [kJ,ha]
  have hfit : ∀ r∈kJ l,r.length=5:=fun r hr=>by
   obtain⟨a,_,rfl⟩:=aQ.1 hr
   rfl
  have hsx : ∀ σ,mA σ 5 (.d x) (some (I k)) (some (I (k+1:Nat))) none=some (.d (.list [a.row])):=fun σ=>aBi hx σ hfit (LV.one hx hfit hrow) (by omega) (by simp [kJ]; omega)
  have hkk:(k:Int)<l.length:=by omega
  have ew:aJ.wrap ((k:Int)+1)=((k+1:Nat):Int):=by rw [cB (by omega) (by omega)]; omega
  simp [-loadAt,hkk,hkl,c4_k5,c4_k4,c4_k3]
  rw [ew,hsx]
  simp [-loadAt]
  have hlv:LV (.d (.list [a.row])) (kJ [a]):=.list _
  refine eR (aKv (by decide) hP hlv (fun b hb=>by obtain rfl:=bD.1 hb; exact hA) (by simp; omega) (by simp; omega)) fun v' t' ⟨M',put',hQ⟩=>?_
  have hn:=aKe hQ.ps.nn
  have h1:=hQ.ml
  have h2:=hQ.pl
  simp only [List.length_cons,List.length_nil] at h1 h2
  simp [-cE,hn,c4_k2,c4_k1]
  simp [ew]
  rw [show((k:Int)+1)=((k+1:Nat):Int) from by omega]
  exact⟨l.length-(k+1),by omega,k+1,M',put',v',rfl,by omega,rfl,hQ.ps,by omega,by omega⟩
 ·obtain rfl:k=l.length:=by omega
  simp [c4_k0]
  refine eR (aHE hP) fun w s ⟨hw,_⟩=>?_
  subst hw
  simp
theorem aLJ {x:D}(hx:(Lk.list aGr).fits x):Dn.Call Γ cx .val 4 [.d x] St.empty fun v _=>v = .d (.bool true):=by
 obtain⟨rx,lx,fx⟩:=xU hx
 obtain⟨a,rfl,ha⟩:=aEo fx
 exact aB2 lx ha
end Go.Proofs.YtdfhfhcilfjdgaaGreatDoor.T
