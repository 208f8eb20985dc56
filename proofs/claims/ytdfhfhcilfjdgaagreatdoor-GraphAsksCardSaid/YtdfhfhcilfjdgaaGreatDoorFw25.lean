import Derived.Test.YtdfhfhcilfjdgaaGreatDoorFw21
import Derived.Laws.Externs
import Derived.KernelRfl
import Derived.OrdersIn
import Derived.RangeFuncRecord
set_option linter.unusedVariables false
set_option linter.unusedSimpArgs false
open List renaming reduceReplicate → aA,getElem?_eq_some_iff → aB,getElem?_append_left → aC,replicate → aD,cons_append → aE,getElem?_set_ne → aF,append_nil → aG,nil_append → aH,map_cons → aI,take_of_length_le → aK,mem_of_getElem? → aL,map_nil → aM,getElem?_set_self → aO,length_map → aQ,getElem?_eq_none → aR,mem_map → aT,mem_append → aW,length_append → aX,mem_filter → aY,take_append_getElem → aZ,getD_eq_getElem?_getD → bA,take_length → bC,drop_zero → bF,getElem?_map → bG,getElem?_append_right → bH,mem_singleton → bI,getElem?_eq_getElem → bO,eq_nil_of_length_eq_zero → bP,getElem?_of_mem → bQ,length_replicate → bS,drop_of_length_le → bT,mem_cons → bU,append_assoc → bV,mem_append_right → bX
open Go.IntKind renaming i64 → aJ,u64 → bL
open Option renaming some → aN
open Bool renaming false_eq_true → aP,and_eq_true → aS
open Go.Builtin renaming zeroCells → aU,append_ → bD,firstCells → bM
open Go.Result renaming andThen_ok → aV
open Nat renaming le_refl → bB,mul_le_mul_right → bE,add_mul → bJ,lt_or_ge → bR
open Array renaming getElem?_eq_some_iff → bW
/- A slice of an object, appended to: the object is let go, a new one has all. -/
namespace Go.Dn
open Go.Lib

variable {P:Program} {g:Gh} {σ:St} {w:World}

theorem Sim.drop (hs:Sim g σ w){r:Nat}{o:Obj}(hr:σ.objs[r]?=some o)(hf:o ≠ .free):Sim g (σ.setObj r .dead) w∧Ev g σ w g (σ.setObj r .dead) w∧(∀ q o',(σ.setObj r .dead).objs[q]?=some o'→o'.live→q≠r∧σ.objs[q]?=some o'):=by
 have hrl:r<σ.objs.length:=(aB.1 hr).1
 have obj : ∀ (q:Nat) (o':Obj),(σ.setObj r .dead).objs[q]?=some o'→(q=r∧o' = .dead)∨(q≠r∧σ.objs[q]?=some o'):=by
  intro q o' h
  simp only [St.setObj] at h
  by_cases hq:q=r
  ·subst hq
   rw [aO hrl] at h
   cases h
   exact .inl ⟨rfl,rfl⟩
  ·rw [aF (fun e=>hq e.symm)] at h
   exact .inr ⟨hq,h⟩
 have live : ∀ (q:Nat) (o':Obj),(σ.setObj r .dead).objs[q]?=some o'→o'.live→q≠r∧σ.objs[q]?=some o':=by
  intro q o' h hl
  rcases obj q o' h with⟨_,rfl⟩ | h
  ·exact hl.elim
  ·exact h
 have hm : ∀ b,rE g (σ.setObj r .dead) b→rE g σ b:=fun b h=>by
  rcases h with⟨q,o',h1,h2,h3⟩ | h
  ·exact .inl ⟨q,o',(live q o' h1 h2).2,h2,h3⟩
  ·exact .inr h
 refine⟨⟨fun q o' h1 h2=>hs.has q o' (live q o' h1 h2).2 h2,fun q hq=>by simpa [St.setObj] using hs.bound q hq,fun q hq=>?_,fun q cs h=>hs.cells q cs (live q _ h trivial).2,fun q o' h ho=>hs.oth q o' (live q o' h ho.live).2 ho,
  fun q q' o1 o2 h1 h2 h3 h4 hne=>hs.dist q q' o1 o2 (live q o1 h1 h2).2 h2 (live q' o2 h3 h4).2 h4 hne,fun q o' h1 h2=>hs.nofrz q o' (live q o' h1 h2).2 h2,hs.tok,hs.tdist,fun t k q o' h1 h2 h3=>hs.tobj t k q o' h1 (live q o' h2 h3).2 h3,hs.frzb,fun q cs h=>hs.lims q cs (live q _ h trivial).2⟩,
  ⟨Later.refl _ _ _,bB _,rfl,rfl,rfl,fun _ _ _=>rfl,fun b h=>.inl (hm b h),fun _ _ h=>.inl h⟩,live⟩
 rcases obj q _ hq with⟨_,h⟩ | ⟨_,h⟩
 ·cases h
 ·exact hs.free q h

def Gh.own (g:Gh)(r b o n m:Nat):Gh :=
 { g with has:=fun q=>g.has q∨q=r,obj:=fun q=>if q=r then(b,o) else g.obj q,len:=fun q=>if q=r then n else g.len q,lim:=fun q=>if q=r then m else g.lim q }

theorem Sim.reown (hs:Sim g σ w){tg:Option Nat}{cs:List V} {σ':St}(hp:σ.place tg (.cells cs)=some σ'){b:Nat}{o:Nat}{c c':Array Value}{e:TypeId}{fz:Nat×Nat}(hb:w.heap[b]?=some (.cells c e fz))(hn:aGn c fz)(hc':c'.size=c.size)
  (hun : ¬ rE g σ b) (hfz : ∀ q,¬ g.frz b q) {m:Nat} (hlm:cs.length≤m) (hm:o+m≤c.size) (hrel : ∀ (j:Nat) (v:V),cs[j]?=some v→∃ cv,c'[o+j]?=some cv∧iE cv=true∧VR g σ.toks w v cv) :
  Sim (g.own (σ.spot tg) b o cs.length m) σ' (jS w b (.cells c' e fz))∧Later g σ.toks w (g.own (σ.spot tg) b o cs.length m) σ'.toks (jS w b (.cells c' e fz))∧(∀ b',rE (g.own (σ.spot tg) b o cs.length m) σ' b'→rE g σ b'∨b'=b):=by
 obtain⟨p1,p2,p3,p4,p5⟩:=vQ hp
 have hnh : ¬ g.has (σ.spot tg):=by
  intro hh
  rcases p5 with h | h
  ·have:=hs.bound _ hh
   rw [List.getElem?_eq_none_iff] at h
   omega
  ·exact hs.free _ h hh
 have hcell : ∀ b' q,g.frz b' q→(jS w b (.cells c' e fz)).cell? ⟨b',q,none⟩=w.cell? ⟨b',q,none⟩:=fun b' q hf=>qD w _ (fun e=>hfz q (by rw [e]; exact hf)) q
 have keep : ∀ r,g.has r→r≠σ.spot tg:=fun r hr e=>hnh (e▸hr)
 have hl:Later g σ.toks w (g.own (σ.spot tg) b o cs.length m) σ'.toks (jS w b (.cells c' e fz)):=by
  refine⟨⟨fun b q hf=>hf,hcell⟩,fun r hr=>⟨.inl hr,?_,?_⟩,fun t k ht=>⟨k,by rw [p1]; exact ht,bB _,fun _=>rfl,rfl⟩,rfl,fun r hr=>by simp [Gh.own,keep r hr]⟩
  ·simp [Gh.own,keep r hr]
  ·simp [Gh.own,keep r hr]
 have hob : ∀ (q:Nat) (o':Obj),σ.objs[q]?=some o'→o'.live→b≠(g.obj q).1:=fun q o' h1 h2 e=>hun (.inl ⟨q,o',h1,h2,e.symm⟩)
 refine⟨⟨fun r o' h1 h2=>?_,fun r hr=>?_,fun r hr=>?_,fun r cs' hr'=>?_,fun r o' hr' hoth=>?_,fun r r' o1 o2 h1 h2 h3 h4 hne=>?_,fun r o' h1 h2 q=>?_,fun t k ht=>?_,fun t t' k k' h1 h2 h3=>?_,fun t k r o' h1 h2 h3=>?_,fun b' q hf=>?_,fun r cs' hr'=>?_⟩,hl,fun b' hb'=>?_⟩
 ·by_cases hq:r=σ.spot tg
  ·exact .inr hq
  ·exact .inl (hs.has r o' (by rw [← p2 r hq]; exact h1) h2)
 ·rcases hr with hr | rfl
  ·exact Nat.lt_of_lt_of_le (hs.bound r hr) p4
  ·exact(aB.1 p3).1
 ·intro hh
  by_cases hq:r=σ.spot tg
  ·subst hq; rw [p3] at hr; cases hr
  ·rcases hh with hh | hh
   ·exact hs.free r (by rw [← p2 r hq]; exact hr) hh
   ·exact hq hh
 ·by_cases hq:r=σ.spot tg
  ·subst hq
   rw [p3] at hr'
   cases hr'
   refine⟨by simp [Gh.own],c',e,fz,by simp only [Gh.own,if_true]; exact lB w _ (hO hb),fun o' ho'=>hn o' (by omega),fun j v hj=>?_⟩
   obtain⟨cv,r1,r2,r3⟩:=hrel j v hj
   exact⟨cv,by simpa [Gh.own] using r1,r2,r3.later hl⟩
  ·have hr2:σ.objs[r]?=some (.cells cs'):=by rw [← p2 r hq]; exact hr'
   obtain⟨h1,c2,e2,fz2,hb2,hn2,hc2⟩:=hs.cells r cs' hr2
   refine⟨by simp [Gh.own,hq,h1],c2,e2,fz2,by simp only [Gh.own,hq,if_false]; rw [gV w _ (hob r _ hr2 trivial)]; exact hb2,hn2,fun j v hj=>?_⟩
   obtain⟨cv,r1,r2,r3⟩:=hc2 j v hj
   exact⟨cv,by simp only [Gh.own,hq,if_false]; exact r1,r2,r3.later hl⟩
 ·by_cases hq:r=σ.spot tg
  ·subst hq; rw [p3] at hr'; cases hr'; exact hoth.elim
  ·have hr2:σ.objs[r]?=some o':=by rw [← p2 r hq]; exact hr'
   obtain⟨x,a1,a2⟩:=hs.oth r o' hr2 hoth
   exact⟨x,by simp only [Gh.own,hq,if_false]; rw [gV w _ (hob r _ hr2 hoth.live)]; exact a1,a2.later hl⟩
 ·by_cases hq:r=σ.spot tg
  ·by_cases hq':r'=σ.spot tg
   ·exact absurd (hq.trans hq'.symm) hne
   ·simp only [Gh.own,hq,hq',if_true,if_false]
    exact hob r' o2 (by rw [← p2 r' hq']; exact h3) h4
  ·by_cases hq':r'=σ.spot tg
   ·simp only [Gh.own,hq,hq',if_true,if_false]
    exact fun e=>hob r o1 (by rw [← p2 r hq]; exact h1) h2 e.symm
   ·simp only [Gh.own,hq,hq',if_false]
    exact hs.dist r r' o1 o2 (by rw [← p2 r hq]; exact h1) h2 (by rw [← p2 r' hq']; exact h3) h4 hne
 ·by_cases hq:r=σ.spot tg
  ·simp only [Gh.own,hq,if_true]
   exact hfz q
  ·simp only [Gh.own,hq,if_false]
   exact hs.nofrz r o' (by rw [← p2 r hq]; exact h1) h2 q
 ·rw [p1] at ht
  obtain⟨h0,c2,e2,fz2,hb2,rest⟩:=hs.tok t k ht
  exact⟨h0,c2,e2,fz2,by rw [show((g.own (σ.spot tg) b o cs.length m).tok t)=g.tok t from rfl,gV w _ (fun e=>hun (.inr ⟨t,k,ht,e.symm⟩))]; exact hb2,rest⟩
 ·rw [p1] at h1 h2
  exact hs.tdist t t' k k' h1 h2 h3
 ·rw [p1] at h1
  by_cases hq:r=σ.spot tg
  ·simp only [Gh.own,hq,if_true]
   exact fun e=>hun (.inr ⟨t,k,h1,e⟩)
  ·simp only [Gh.own,hq,if_false]
   exact hs.tobj t k r o' h1 (by rw [← p2 r hq]; exact h2) h3
 ·obtain⟨v,hv⟩:=hs.frzb b' q hf
  exact⟨v,by rw [hcell b' q hf]; exact hv⟩
 ·by_cases hq:r=σ.spot tg
  ·subst hq
   rw [p3] at hr'
   cases hr'
   refine⟨by simpa [Gh.own] using hlm,fun c2 e2 fz2 hb2=>?_⟩
   simp only [Gh.own,if_true] at hb2 ⊢
   rw [lB w _ (hO hb)] at hb2
   cases hb2
   omega
  ·have hr2:σ.objs[r]?=some (.cells cs'):=by rw [← p2 r hq]; exact hr'
   refine⟨by simp only [Gh.own,hq,if_false]; exact(hs.lims r cs' hr2).1,fun c2 e2 fz2 hb2=>?_⟩
   simp only [Gh.own,hq,if_false] at hb2 ⊢
   rw [gV w _ (hob r _ hr2 trivial)] at hb2
   exact(hs.lims r cs' hr2).2 c2 e2 fz2 hb2
 ·rcases hb' with⟨r,o',h1,h2,rfl⟩ | ⟨t,k,ht,rfl⟩
  ·by_cases hq:r=σ.spot tg
   ·right; simp [Gh.own,hq]
   ·left
    simp only [Gh.own,hq,if_false]
    exact .inl ⟨r,o',by rw [← p2 r hq]; exact h1,h2,rfl⟩
  ·left
   exact .inr ⟨t,k,by rw [← p1]; exact ht,rfl⟩

theorem rB {sz len cap:Nat}{a:Addr}{vs:List Value}(hl:vs.length=len*sz)(h : ∀ k,k<len*sz→w.cell? (a.add k)=vs[k]?)(w':World)(hw:w'.heap=w.heap):(bM sz len (.slice (some a) len cap)).run P w' = .ok vs.toArray w':=by
 simp only [bM]
 have:=run_loadCells (P:=P) w' a (len*sz) (fun k=>vs.getD k undef) (fun j hj=>by
  rw [aAP hw,h j hj]
  simp [bA,show j<vs.length by omega])
 rw [this]
 congr 2
 apply List.ext_getElem?
 intro k
 rw [bG]
 by_cases hk:k<len*sz
 ·simp [hk,List.getElem?_range,bA,show k<vs.length by omega]
 ·rw [aR (by simp; omega),aR (by omega)]
  rfl

theorem aAY (hs:Sim g σ w){t xT e ty:TypeId}(ht:P.underlying t=some (.slice e))(hg:lV P e=true){ti:TypeInfo}(hti:P.info? e=some ti){r off len:Nat}{cs cx:Value}(hsv:VR g σ.toks w (.sl r off len (P.cellsOf e)) cs)
  {m:Nat} {xv:List V} {news:Array Value} (hsrc:AppRun0 P w t xT ty e ti m cx news) (hrel:VRs g σ.toks w xv news.toList) (hxl:xv.length=m*P.cellsOf e) (hypos:0<m) {ocs:List V} (hobj:σ.objs[r]?=some (.cells ocs)) (hin2:off+len*P.cellsOf e≤ocs.length) (hlt:off<ocs.length)
  (h48:(len+m)*P.bytesOf e≤140737488355328) (h63:len+m≤9223372036854775807) {tg:Option Nat} {v:V} {σ':St}
  (h:Dn.newObj (σ.setObj r .dead) tg (.cells ((ocs.drop off).take (len*P.cellsOf e)++xv)) (fun r=>.sl r 0 (len+m) (P.cellsOf e))=some (v,σ')) :
  EStep P g σ w (bD #[t,xT] ty #[cs,cx]) v σ':=by
 obtain⟨i,z,hi,hzv,hisz,hiby,hc0,hzs,hz1⟩:=jC hg
 obtain rfl:i=ti:=by rw [hi] at hti; exact aN.inj hti
 have hpos:0<P.cellsOf e:=by omega
 have hnl:news.toList.length=m*P.cellsOf e:=by rw [← hrel.length,hxl]
 have hnl2:news.size=m*P.cellsOf e:=by simpa using hnl
 obtain⟨hp,rfl⟩:=jJ h
 obtain⟨d1,d2,dlive⟩:=hs.drop hobj (by simp)
 have hspot:(σ.setObj r .dead).spot tg=σ.spot tg:=by cases tg <;> simp [St.spot,St.setObj]
 obtain⟨hl0,c,e0,fz,hb,hn,hcc⟩:=hs.cells r ocs hobj
 obtain⟨lm1,lm2⟩:=hs.lims r ocs hobj
 have lm2:=lm2 _ _ _ hb
 cases hsv with
 | sl _ _ _ _ cap a hh hcap hsz hin hout ha hsp hlim =>
  have haa:=ha (by omega)
  subst haa
  obtain⟨vs,v1,v2,v3,v4⟩:=hs.stretch hobj off (len*P.cellsOf e) hin2
  have v4':VRs g (σ.setObj r .dead).toks w ((ocs.drop off).take (len*P.cellsOf e)) vs:=v4
  have hall:VRs g (σ.setObj r .dead).toks w ((ocs.drop off).take (len*P.cellsOf e)++xv) (vs++news.toList):=v4'.append (show VRs g (σ.setObj r .dead).toks w xv news.toList from hrel)
  have hone : ∀ u∈vs++news.toList,iE u=true:=fun u hu=>by
   rcases aW.1 hu with h | h
   ·exact v3 u h
   ·exact hsrc.one u h
  have hcl:((ocs.drop off).take (len*P.cellsOf e)++xv).length=(len+m)*P.cellsOf e:=by
   rw [hall.length,aX,v1,hnl,bJ]
  have hun : ¬ rE g (σ.setObj r .dead) (g.obj r).1:=by
   rintro (⟨q,o',h1,h2,h3⟩ | ⟨t',k',h1,h2⟩)
   ·obtain⟨q1,q2⟩:=dlive q o' h1 h2
    exact hs.dist q r o' _ q2 h2 hobj trivial q1 h3
   ·exact hs.tobj t' k' r _ h1 hobj trivial h2
  by_cases hf:len+m≤cap
  ·-- in its own room
   have hby:m*i.bytes≤140737488355328:=by
    have:=bE (P.bytesOf e) (show m≤len+m by omega)
    rw [hiby]
    omega
   have hrun:=hsrc.fit (a:=⟨(g.obj r).1,(g.obj r).2+off,none⟩) (sLen:=len) (sCap:=cap) hypos hby (by omega) hf
   rw [hisz] at hrun
   have m1:=bE (P.cellsOf e) hf
   rw [bJ] at m1
   have hst:=kU (P:=P) (g.obj r).1 ((g.obj r).2+off+len*P.cellsOf e) e0 fz news.toList 0 c w hb hn (by omega) hsrc.one
   rw [Nat.add_zero] at hst
   obtain⟨s1,s2,s3⟩:=d1.reown hp (b:=(g.obj r).1) (o:=(g.obj r).2+off) (c':=(Dn.splice c.toList ((g.obj r).2+off+len*P.cellsOf e) news.toList).toArray) hb hn (by rw [List.size_toArray,kC _ _ _ (by simp; omega)]; simp) hun
    (fun q=>hs.nofrz r _ hobj trivial q) (m:=cap*P.cellsOf e) (by rw [hcl,bJ]; exact m1) (by omega) (fun j u hj=>by
     have hju:j<(vs++news.toList).length:=by rw [← hall.length]; exact(aB.1 hj).1
     refine⟨(vs++news.toList)[j],?_,hone _ (List.getElem_mem hju),hall.get j u _ hj (by simp [hju])⟩
     simp only [List.getElem?_toArray]
     rw [kB _ _ _ (by simp; omega)]
     have hg:(vs++news.toList)[j]?=some (vs++news.toList)[j]:=by simp [hju]
     by_cases hj2:j<len*P.cellsOf e
     ·rw [if_neg (by omega),← hg,aC (by omega)]
      have:=v2 j hj2
      rw [iS hb] at this
      simpa [Nat.add_assoc] using this
     ·rw [aX,v1] at hju
      rw [if_pos ⟨by omega,by omega⟩,← hg,bH (by omega),v1]
      congr 1
      omega)
   rw [hspot] at s1 s2 s3
   refine⟨.slice (some ⟨(g.obj r).1,(g.obj r).2+off,none⟩) (len+m) cap,_,_,?_,s1,?_,?_⟩
   ·rw [hrun,iJ,hst]
    rfl
   ·rw [hspot]
    have:=VR.sl (g:=g.own (σ.spot tg) (g.obj r).1 ((g.obj r).2+off) ((ocs.drop off).take (len*P.cellsOf e)++xv).length (cap*P.cellsOf e)) (tk:=σ'.toks) (w:=jS w (g.obj r).1 (.cells (Dn.splice c.toList ((g.obj r).2+off+len*P.cellsOf e) news.toList).toArray e0 fz)) (σ.spot tg) 0 (len+m) (P.cellsOf e) cap ⟨(g.obj r).1,(g.obj r).2+off,none⟩ (.inr rfl) hf hpos
     (by simp only [Gh.own,if_true,hcl]; omega) (by simp only [Gh.own,if_true,hcl,bJ]; omega) (fun _=>by simp [Gh.own]) rfl (by simp [Gh.own])
    exact this
   ·refine⟨d2.later.trans s2,by simp [jS],rfl,rfl,rfl,fun b hb' hm=>gV w _ (fun e=>hm (.inl ⟨r,_,hobj,trivial,e⟩)),fun b hb'=>?_,fun b q hf=>.inl hf⟩
    rcases s3 b hb' with h | h
    ·exact d2.mine b h
    ·exact .inl (.inl ⟨r,_,hobj,trivial,h.symm⟩)
  ·-- a new block
   have hold:=fun w' hw'=>rB (P:=P) (w:=w) (sz:=P.cellsOf e) (len:=len) (cap:=cap) (a:=⟨(g.obj r).1,(g.obj r).2+off,none⟩) v1 (fun k hk=>by rw [iJ]; exact v2 k hk) w' hw'
   have hrun:=hsrc.grow hzv (base:=some ⟨(g.obj r).1,(g.obj r).2+off,none⟩) (sLen:=len) (sCap:=cap) (olds:=vs.toArray) hypos (by rw [hisz]; exact hold) (by omega) h63 (by rw [hiby]; exact h48)
   have hcge:=grownCap_ge w (len+m) cap e
   generalize hcap2:grownCap w (len+m) cap e=newCap at *
   have hgr:Grown1 w (.cells (vs.toArray++news++aU z.cells (newCap-(len+m))) e (0,0)) (w.drew.alloc (.cells (vs.toArray++news++aU z.cells (newCap-(len+m))) e)) :=
    ⟨by simp [World.alloc,World.drew,-World.alloc_eq,-World.drew_eq],by simp [World.alloc,World.drew,-World.alloc_eq,-World.drew_eq],by simp [World.alloc,World.drew,-World.alloc_eq,-World.drew_eq],by simp [World.alloc,World.drew,-World.alloc_eq,-World.drew_eq]⟩
   obtain⟨s1,s2⟩:=d1.new_obj2 hp hall hone (c:=vs.toArray++news++aU z.cells (newCap-(len+m))) (e:=e) (fun j u hj=>by
    have hlt2:j<(vs.toArray++news).size:=by
     have:=(aB.1 hj).1
     simpa using this
    rw [Array.getElem?_append_left hlt2,← Array.getElem?_toList,Array.toList_append]
    exact hj) hgr
   have hcs:(vs.toArray++news++aU z.cells (newCap-(len+m))).size=newCap*P.cellsOf e:=by
    simp only [Array.size_append,size_zeroCells,hzs]
    have a1:vs.toArray.size=len*P.cellsOf e:=by simpa using v1
    have a2:news.size=m*P.cellsOf e:=by simpa using hnl
    rw [a1,a2,← bJ,← bJ]
    congr 1
    omega
   rw [hspot] at s1 s2
   refine⟨_,_,_,hrun,s1,?_,d2.trans s2⟩
   rw [hspot]
   have m1:=bE (P.cellsOf e) hcge
   exact VR.sl (g:=g.add (σ.spot tg) w.heap.size ((ocs.drop off).take (len*P.cellsOf e)++xv).length (vs.toArray++news++aU z.cells (newCap-(len+m))).size) (σ.spot tg) 0 (len+m) (P.cellsOf e) newCap ⟨w.heap.size,0,none⟩ (.inr rfl) hcge hpos
    (by simp only [Gh.add,if_true,hcl]; omega) (by simp only [Gh.add,if_true,hcl]; omega) (fun _=>by simp [Gh.add]) rfl (by simp only [Gh.add,if_true,hcs]; omega)

theorem aFp (hs:Sim g σ w){t xT e ty:TypeId}(ht:P.underlying t=some (.slice e))(hg:lV P e=true){ti:TypeInfo}(hti:P.info? e=some ti){r off len:Nat}{cs cx:Value}(hsv:VR g σ.toks w (.sl r off len (P.cellsOf e)) cs)
  {ys:List (List D)} {news:Array Value} (hsrc:aBo P g.frz w t xT ty e ti ys cx news) (hfit0:kV (P.cellsOf e) ys=true) (hne:ys≠[]) {ocs:List V} (hobj:σ.objs[r]?=some (.cells ocs)) (hin2:off+len*P.cellsOf e≤ocs.length) (hlt:off<ocs.length)
  (h48:(len+ys.length)*P.bytesOf e≤140737488355328) (h63:len+ys.length≤9223372036854775807) {tg:Option Nat} {v:V} {σ':St}
  (h:Dn.newObj (σ.setObj r .dead) tg (.cells ((ocs.drop off).take (len*P.cellsOf e)++ys.flatten.map .d)) (fun r=>.sl r 0 (len+ys.length) (P.cellsOf e))=some (v,σ')) :
  EStep P g σ w (bD #[t,xT] ty #[cs,cx]) v σ' :=
 aAY hs ht hg hti hsv hsrc.toAppRun0 (DRs.to_v hsrc.one hsrc.rel) (by rw [aQ,iV ys (fun i row hr=>lM hfit0 hr)]) (List.length_pos_iff.2 hne) hobj hin2 hlt h48 h63 h

theorem aIx (hs:Sim g σ w){t xT e ty:TypeId}(ht:P.underlying t=some (.slice e)){ti:TypeInfo}(hti:P.info? e=some ti)(hsz:ti.size=P.cellsOf e){dx:TypeDesc}(hx:P.underlying xT=some dx)(hni : ∀ k,dx ≠ .int k){r off len:Nat}{cx:Value}(hv:VR g σ.toks w (.sl r off len (P.cellsOf e)) cx)
  {cs:List V} (hobj:σ.objs[r]?=some (.cells cs)) (hin:off+len*P.cellsOf e≤cs.length) (hlt:off<cs.length) :
  ∃ news:Array Value,AppRun0 P w t xT ty e ti len cx news∧VRs g σ.toks w ((cs.drop off).take (len*P.cellsOf e)) news.toList:=by
 have hl0:=(hs.cells r cs hobj).1
 cases hv with
 | sl _ _ _ _ cap a hh hcap hsz2 hin2 hout ha hsp hlim =>
  have haa:=ha (by omega)
  subst haa
  obtain⟨vs,v1,v2,v3,v4⟩:=hs.stretch hobj off (len*P.cellsOf e) hin
  have hold:=fun w' hw'=>rB (P:=P) (w:=w) (sz:=P.cellsOf e) (len:=len) (cap:=cap) (a:=⟨(g.obj r).1,(g.obj r).2+off,none⟩) v1 (fun k hk=>by rw [iJ]; exact v2 k hk) w' hw'
  have hlen:(Builtin.lenOf (.slice (some ⟨(g.obj r).1,(g.obj r).2+off,none⟩) len cap)).run P w = .ok len w:=rfl
  rw [← hsz] at hold
  exact⟨vs.toArray,⟨by simpa using v3,fun _ _ _ hf=>nY ht hti hx hni hlen (hold w rfl) hf,fun hz _ ho hg h63 h48=>nC ht hti hz hx hni hlen hold ho hg h63 h48⟩,v4⟩

end Go.Dn

/- copy, make, clear; append into an object that may be written. -/
namespace Go.Dn
open Go.Lib

variable {P:Program} {g:Gh} {σ:St} {tk:List Nat} {w:World}

theorem uL {sz:Nat} : ∀ (ys:List (List D)) (n:Nat),(∀ (i:Nat) (row:List D),ys[i]?=some row→row.length=sz)→(ys.take n).flatten=ys.flatten.take (n*sz)
 | [],n,_=>by simp
 | y::ys,0,_=>by simp
 | y::ys,n+1,h=>by
  have h0:y.length=sz:=h 0 y rfl
  have ih:=uL ys n (fun i row hr=>h (i+1) row (by simpa using hr))
  simp only [List.take_succ_cons,List.flatten_cons]
  rw [ih,bJ,Nat.one_mul,Nat.add_comm (n*sz) sz,List.take_append,h0]
  rw [show y.take (sz+n*sz)=y from aK (by omega)]
  congr 1
  congr 1
  omega

theorem DRs.take {f:Nat→Nat→Prop} : ∀ {ds:List D} {vs:List Value} (n:Nat),DRs f w ds vs→DRs f w (ds.take n) (vs.take n)
 | [],[],n,h=>by simp; exact h
 | _::_,_::_,0,h=>trivial
 | _::_,_::_,n+1,h=>⟨h.1,DRs.take n h.2⟩
 | [],_::_,_,h=>h.elim
 | _::_,[],_,h=>h.elim

theorem uM (a:Addr)(cv:Nat→Value)(n:Nat)(hc : ∀ j,j<n→w.cell? (a.add j)=some (cv j)):(loadCells a n).run P w = .ok ((List.range n).map cv).toArray w:=run_loadCells w a n cv hc

theorem aBk (hs:Sim g σ w){x:V}{cx:Value}(hx:VR g σ.toks w x cx){ys:List (List D)}(h:V.rows σ x=some ys){sz:Nat}(hpos:0<sz)(hfit:kV sz ys=true)(m:Nat)(hm:m≤ys.length) :
  ∃ news:Array Value,(Builtin.lenOf cx).run P w = .ok ys.length w∧(bM sz m cx).run P w = .ok news w∧DRs g.frz w (ys.take m).flatten news.toList∧∀ v∈news.toList,iE v=true:=by
 have hf : ∀ (i:Nat) (row:List D),ys[i]?=some row→row.length=sz:=fun i row hr=>lM hfit hr
 obtain⟨news,hn⟩:=qH (P:=P) (oW hs hx h) hpos hfit
 have hl:=hn.len
 have hfi:=hn.first w rfl
 refine⟨(news.toList.take (m*sz)).toArray,hl,?_,?_,?_⟩
 ·rcases oW hs hx h with⟨rfl,rfl⟩ | ⟨a,cap,sz',cv,rfl,hcap,hat⟩
  ·have hm0:m=0:=by simpa using hm
   subst hm0
   simp [bM]
  ·by_cases hz:ys.length=0
   ·have hm0:m=0:=by omega
    subst hm0
    simp [bM,loadCells,loadCellsFrom]
   ·have hsz:sz'=sz:=by
     have h0:ys[0]?=some (ys[0]'(by omega)):=by simp
     rw [← hat.hsz 0 _ h0,hf 0 _ h0]
    subst hsz
    have e1:(bM sz' ys.length (.slice (some a) ys.length cap)).run P w = .ok ((List.range (ys.length*sz')).map cv).toArray w:=uM a cv _ hat.hc
    rw [hfi] at e1
    simp only [Result.ok.injEq,and_true] at e1
    subst e1
    have hle:m*sz'≤ys.length*sz':=bE _ hm
    have e2:(bM sz' m (.slice (some a) ys.length cap)).run P w = .ok ((List.range (m*sz')).map cv).toArray w:=uM a cv _ (fun j hj=>hat.hc j (by omega))
    rw [e2]
    simp only [← List.map_take,List.take_range]
    rw [Nat.min_eq_left hle]
 ·rw [uL ys m hf]
  exact hn.rel.take _
 ·intro v hv
  simp only at hv
  exact hn.one v (List.mem_of_mem_take hv)

theorem aGG (hs:Sim g σ w){t xT e ty:TypeId}(ht:P.underlying t=some (.slice e))(hc:P.cellsOf e≠0){s x v:V}{cs cx:Value}(hsv:VR g σ.toks w s cs)(hx:VR g σ.toks w x cx){ys:List (List D)}(hys:V.rows σ x=some ys) {σ':St}
  (h:aEz σ (P.cellsOf e) s ys=some (v,σ')):EStep P g σ w (Builtin.copy_ #[t,xT] ty #[cs,cx]) v σ':=by
 have hpos:0<P.cellsOf e:=by omega
 unfold aEz at h
 split at h
 ·cases h
 ·rename_i hfit
  simp only [Bool.not_eq_false] at hfit
  have hf : ∀ (i:Nat) (row:List D),ys[i]?=some row→row.length=P.cellsOf e:=fun i row hr=>lM hfit hr
  split at h
  ·rename_i r off len s'
   split at h
   ·rename_i hcnd
    obtain⟨rfl,_⟩:=hcnd
    split at h
    ·rename_i ocs hobj
     split at h
     ·rename_i hroom
      cases h
      cases hsv with
      | sl _ _ _ _ cap a hh hcap hsz hin hout ha hsp =>
       obtain⟨news,n1,n2,n3,n4⟩:=aBk (P:=P) hs hx hys hpos hfit (min ys.length len) (Nat.min_le_left _ _)
       have hln:ocs.length=g.len r:=(hs.cells r ocs hobj).1
       have htl:(ys.take (min ys.length len))=ys.take len:=by
        rcases Nat.le_total ys.length len with h | h
        ·rw [Nat.min_eq_left h,aK (bB _),aK h]
        ·rw [Nat.min_eq_right h]
       rw [htl] at n3
       have hft : ∀ (i:Nat) (row:List D),(ys.take len)[i]?=some row→row.length=P.cellsOf e:=fun i row hr=>by
        rw [List.getElem?_take] at hr
        split at hr
        ·exact hf i row hr
        ·cases hr
       have hxl:(((ys.take len).flatten).map V.d).length≤len*P.cellsOf e:=by
        rw [aQ,iV _ hft]
        exact bE _ (by simp; omega)
       obtain⟨w',r1,r2,r3⟩:=hs.splice (P:=P) hobj (off:=off) (DRs.to_v n4 n3) n4 (by omega)
       have run : ∀ q,(storeCells a news.toList).run P w = .ok () q→(Builtin.copy_ #[t,xT] ty #[.slice (some a) len cap,cx]).run P w = .ok (goInt ((min ys.length len:Nat):Int)) q:=fun q hq=>by
        have e1:Nat.min ys.length len=min ys.length len:=rfl
        simp [Builtin.copy_,run_underlying ht,iP hc,n1,e1,n2,hq]
        try (congr 1; omega)
       by_cases hlt:off<g.len r
       ·have haa:=ha hlt
        subst haa
        exact⟨_,w',g,run w' r1,r2,.int _ _,r3⟩
       ·have hn0:news.toList=[]:=bP (by
         have:=n3.length
         rw [iV _ hft] at this
         have hz:len*P.cellsOf e=0:=by omega
         have:(ys.take len).length*P.cellsOf e≤len*P.cellsOf e:=bE _ (by simp; omega)
         omega)
        have hw:w'=w:=by
         rw [hn0] at r1
         simp [storeCells] at r1
         exact r1.symm
        subst hw
        exact⟨_,w',g,run w' (by rw [hn0]; simp [storeCells]),r2,.int _ _,r3⟩
     ·cases h
    ·cases h
   ·cases h
  ·split at h
   ·rename_i hl0
    cases h
    obtain⟨a,c,rfl,_⟩:=sW hs hsv hl0
    obtain⟨news,n1,n2,n3,n4⟩:=aBk (P:=P) hs hx hys hpos hfit 0 (Nat.zero_le _)
    have hn0:news.toList=[]:=bP (by simpa using n3.length.symm)
    refine⟨goInt 0,w,g,?_,hs,.int _ _,Ev.refl _ _ _⟩
    have e1:Nat.min ys.length 0=0:=Nat.min_zero _
    cases a with
    | none=>simp [Builtin.copy_,run_underlying ht,iP hc,n1,e1,n2]
    | some a=>simp [Builtin.copy_,run_underlying ht,iP hc,n1,e1,n2,hn0,storeCells]
   ·cases h

theorem aAD (hs:Sim g σ w){t e:TypeId}(ht:P.underlying t=some (.slice e))(hg:lV P e=true){z:List D}(hz:kN P e=some z){l c:Int}(h0:0≤l)(h1:l≤c)(hb:c*P.bytesOf e≤140737488355328)(hc:c≤9223372036854775807)
  {tg:Option Nat} {v:V} {σ':St} (h:Dn.newObj σ tg (.cells (iL c.toNat z)) (fun r=>.sl r 0 l.toNat (P.cellsOf e))=some (v,σ')):EStep P g σ w (Instr.makeSlice t (.int .i64 l) (.int .i64 c)) v σ':=by
 obtain⟨hp,rfl⟩:=jJ h
 obtain⟨i,zv,hi,hzv,hisz,hiby,hcell,hzs,hz1⟩:=jC hg
 obtain⟨i',zv',hi',hzv',hleaf⟩:=kD hz
 rw [hi] at hi'; cases hi'
 rw [hzv] at hzv'; cases hzv'
 obtain⟨z1,z2⟩:=kT (g:=g) (tk:=σ.toks) (w:=w) hleaf
 have hzl:z.length=P.cellsOf e:=by have:=z1.length; simp at this; rw [this]; exact hzs
 have hpos:0<z.length:=by omega
 have w1:aJ.wrap l=l:=by simp only [IntKind.wrap,IntKind.signed,IntKind.bits]; simp; omega
 have w2:aJ.wrap c=c:=by simp only [IntKind.wrap,IntKind.signed,IntKind.bits]; simp; omega
 have hcn:(c.toNat:Int)=c:=Int.toNat_of_nonneg (by omega)
 have hprod:((c.toNat*i.bytes:Nat):Int)=c*i.bytes:=by rw [Int.natCast_mul,hcn]
 rw [← hiby] at hb
 have room:c.toNat*i.bytes≤140737488355328:=by omega
 have t1 : ¬ ((i.bytes:Int)*c>281474976710656):=by rw [Int.mul_comm]; omega
 obtain⟨r1,r2⟩:=oV (g:=g) (tk:=σ.toks) (w:=w) z1 z2 hpos c.toNat
 have hszz:zv.cells.size=z.length:=by rw [hzl]; exact hzs
 obtain⟨s1,s2⟩:=hs.new_obj hp r1 r2 (lN w (.cells ((Array.range (c.toNat*z.length)).map (zv.cells[· % zv.cells.size]!)) e))
 have hrl:(iL c.toNat z).length=c.toNat*z.length:=kO _ _
 refine⟨.slice (some ⟨w.heap.size,0,none⟩) l.toNat c.toNat,_,_,?_,s1,?_,s2⟩
 ·have e1 : ¬ (c<0):=by omega
  have e2 : ¬ (l<0):=by omega
  have e3 : ¬ (c<l):=by omega
  have e4 : ¬ (roomBytes<c.toNat*i.bytes):=by unfold roomBytes; omega
  have e5 : ¬ (281474976710656<(i.bytes:Int)*c):=by omega
  by_cases hn:c.toNat*i.size=0
  ·have hc0:c.toNat*z.length=0:=by rw [hzl,← hisz]; exact hn
   simp [Instr.makeSlice,run_underlying ht,asInt,asIntOf,typeInfo,hi,w1,w2,e1,e2,e3,e4,e5,sizeOf,hn,newRow,askRoom,hc0]
   have e0:Array.range 0 = #[]:=rfl
   simp only [e0,Array.map_empty]
  ·simp [Instr.makeSlice,run_underlying ht,asInt,asIntOf,typeInfo,hi,w1,w2,e1,e2,e3,e4,e5,sizeOf,hn,iX hi hzv,newRow,askRoom]
   rw [hisz,hzl]
 ·have:=VR.sl (g:=g.add (σ.spot tg) w.heap.size (iL c.toNat z).length ((Array.range (c.toNat*z.length)).map (zv.cells[· % zv.cells.size]!)).size) (tk:=σ'.toks) (w:={ w with heap:=w.heap.push (.cells ((Array.range (c.toNat*z.length)).map (zv.cells[· % zv.cells.size]!)) e) }) (σ.spot tg) 0 l.toNat (P.cellsOf e) c.toNat ⟨w.heap.size,0,none⟩ (.inr rfl) (by omega) (by omega)
   (by simp [Gh.add,hrl,hzl]; exact bE _ (by omega)) (by simp [Gh.add,hrl,hzl]) (fun _=>by simp [Gh.add]) rfl (by simp [Gh.add,hzl])
  exact this

theorem aE9 (hs:Sim g σ w){t e ty:TypeId}(ht:P.underlying t=some (.slice e)){z:List D}(hz:kN P e=some z)(hzl:z.length=P.cellsOf e)(hpos:0<P.cellsOf e){s v:V}{cs:Value}(hsv:VR g σ.toks w s cs) {σ':St}
  (h:aDG σ (P.cellsOf e) z s=some (v,σ')):EStep P g σ w (Builtin.clear_ #[t] ty #[cs]) v σ':=by
 obtain⟨i,zv,hi,hzv,hleaf⟩:=kD hz
 obtain⟨z1,z2⟩:=kT (g:=g) (tk:=σ.toks) (w:=w) hleaf
 have hzs:zv.cells.size=z.length:=by have:=z1.length; simp at this; exact this.symm
 unfold aDG at h
 split at h
 ·rename_i r off len s'
  split at h
  ·rename_i hcnd
   obtain⟨rfl,_⟩:=hcnd
   split at h
   ·rename_i ocs hobj
    split at h
    ·rename_i hroom
     cases h
     cases hsv with
     | sl _ _ _ _ cap a hh hcap hsz hin hout ha hsp =>
      have hln:ocs.length=g.len r:=(hs.cells r ocs hobj).1
      obtain⟨r1,r2⟩:=oV (g:=g) (tk:=σ.toks) (w:=w) z1 z2 (by omega) len
      have hrl:(iL len z).length=len*z.length:=kO _ _
      obtain⟨w',q1,q2,q3⟩:=hs.splice (P:=P) hobj (off:=off) r1 r2 (by rw [hrl,hzl]; exact hroom)
      have hzc:(aU zv.cells len).toList=((Array.range (len*z.length)).map (zv.cells[· % zv.cells.size]!)).toList:=by
       simp [aU,hzs]
      by_cases hl0:len=0
      ·subst hl0
       have hw:w'=w:=by
        simp [storeCells] at q1
        exact q1.symm
       subst hw
       exact⟨.tuple #[],w',g,by simp [Builtin.clear_,run_underlying ht],q2,.tup [] #[] rfl (fun i c v h=>by simp at h),q3⟩
      ·have hlt:off<g.len r:=by
        have:0<len*P.cellsOf e:=Nat.mul_pos (by omega) hpos
        omega
       have haa:=ha hlt
       subst haa
       refine⟨.tuple #[],w',g,?_,q2,.tup [] #[] rfl (fun i c v h=>by simp at h),q3⟩
       rw [← hzc] at q1
       obtain⟨n,rfl⟩ : ∃ n,len=n+1:=⟨len-1,by omega⟩
       simp [Builtin.clear_,run_underlying ht,iX hi hzv,q1]
    ·cases h
   ·cases h
  ·cases h
 ·split at h
  ·rename_i hl0
   cases h
   obtain⟨a,c,rfl,_⟩:=sW hs hsv hl0
   refine⟨.tuple #[],w,g,?_,hs,.tup [] #[] rfl (fun i c v h=>by simp at h),Ev.refl _ _ _⟩
   cases a <;> simp [Builtin.clear_,run_underlying ht]
  ·cases h

theorem aBc {z:List D}{zv:Value}(hzs:zv.cells.size=z.length)(n:Nat):(aU zv.cells n).toList=((Array.range (n*z.length)).map (zv.cells[· % zv.cells.size]!)).toList:=by
 simp [aU,hzs]

theorem aCk (hs:Sim g σ w){t xT e ty:TypeId}(ht:P.underlying t=some (.slice e))(hg:lV P e=true){k:IntKind}(hx:P.underlying xT=some (.int k)){z:List D}(hz:kN P e=some z){l:Int}(h0:0<l)(hb:l*P.bytesOf e≤140737488355328)(h63:l≤9223372036854775807)
  {tg:Option Nat} {v:V} {σ':St} (h:Dn.newObj σ tg (.cells (iL l.toNat z)) (fun r=>.sl r 0 l.toNat (P.cellsOf e))=some (v,σ')):EStep P g σ w (bD #[t,xT] ty #[.slice none 0 0,.int .i64 l]) v σ':=by
 obtain⟨hp,rfl⟩:=jJ h
 obtain⟨i,zv,hi,hzv,hisz,hiby,hcell,hzs,hz1⟩:=jC hg
 obtain⟨i',zv',hi',hzv',hleaf⟩:=kD hz
 rw [hi] at hi'; cases hi'
 rw [hzv] at hzv'; cases hzv'
 obtain⟨z1,z2⟩:=kT (g:=g) (tk:=σ.toks) (w:=w) hleaf
 have hzl:z.length=P.cellsOf e:=by have:=z1.length; simp at this; rw [this]; exact hzs
 have hpos:0<z.length:=by omega
 have hcn:(l.toNat:Int)=l:=Int.toNat_of_nonneg (by omega)
 have hprod:((l.toNat*i.bytes:Nat):Int)=l*i.bytes:=by rw [Int.natCast_mul,hcn]
 rw [← hiby] at hb
 have hrun:=xU (P:=P) (w:=w) (ty:=ty) (k':=.i64) ht hi hzv hx h0 h63 (by rw [hisz]; omega) (by omega)
 have hcge:=grownCap_ge w l.toNat 0 e
 generalize grownCap w l.toNat 0 e=newCap at *
 obtain⟨r1,r2⟩:=oV (g:=g) (tk:=σ.toks) (w:=w) z1 z2 hpos l.toNat
 have hszz:zv.cells.size=z.length:=by rw [hzl]; exact hzs
 have hrl:(iL l.toNat z).length=l.toNat*z.length:=kO _ _
 have hgr:Grown1 w (.cells (aU zv.cells l.toNat++aU zv.cells (newCap-l.toNat)) e (0,0)) (w.drew.alloc (.cells (aU zv.cells l.toNat++aU zv.cells (newCap-l.toNat)) e)) :=
  ⟨by simp [World.alloc,World.drew,-World.alloc_eq,-World.drew_eq],by simp [World.alloc,World.drew,-World.alloc_eq,-World.drew_eq],by simp [World.alloc,World.drew,-World.alloc_eq,-World.drew_eq],by simp [World.alloc,World.drew,-World.alloc_eq,-World.drew_eq]⟩
 have hzc:=aBc hszz l.toNat
 obtain⟨s1,s2⟩:=hs.new_obj2 hp r1 r2 (c:=aU zv.cells l.toNat++aU zv.cells (newCap-l.toNat)) (e:=e) (fun j u hj=>by
  have hj2:(aU zv.cells l.toNat).toList[j]?=some u:=by rw [hzc]; exact hj
  have hlt:=(aB.1 hj2).1
  rw [Array.getElem?_append_left (by simpa using hlt),← Array.getElem?_toList]
  exact hj2) hgr
 have hcs:(aU zv.cells l.toNat++aU zv.cells (newCap-l.toNat)).size=newCap*P.cellsOf e:=by
  simp only [Array.size_append,size_zeroCells,hzs]
  rw [← bJ]
  congr 1
  omega
 refine⟨_,_,_,hrun,s1,?_,s2⟩
 have m1:=bE (P.cellsOf e) hcge
 exact VR.sl (g:=g.add (σ.spot tg) w.heap.size (iL l.toNat z).length (aU zv.cells l.toNat++aU zv.cells (newCap-l.toNat)).size) (σ.spot tg) 0 l.toNat (P.cellsOf e) newCap ⟨w.heap.size,0,none⟩ (.inr rfl) hcge (by omega)
  (by simp only [Gh.add,if_true,hrl,hzl]; omega) (by simp only [Gh.add,if_true,hrl,hzl]; omega) (fun _=>by simp [Gh.add]) rfl (by simp only [Gh.add,if_true,hcs]; omega)

theorem rF (hs:Sim g σ w){t xT e ty:TypeId}(ht:P.underlying t=some (.slice e))(hg:lV P e=true){ti:TypeInfo}(hti:P.info? e=some ti){s v:V}{cs cx:Value}(hsv:VR g σ.toks w s cs)
  {ys:List (List D)} {news:Array Value} (hsrc:kV (P.cellsOf e) ys=true→aBo P g.frz w t xT ty e ti ys cx news) {tg:Option Nat} {σ':St} (h:kQ σ tg (P.cellsOf e) (P.bytesOf e) s ys=some (v,σ')) :
  EStep P g σ w (bD #[t,xT] ty #[cs,cx]) v σ':=by
 obtain⟨i,z,hi,hzv,hisz,hiby,hc0,hzs,hz1⟩:=jC hg
 have hti':=hti
 obtain rfl:i=ti:=by rw [hi] at hti; exact aN.inj hti
 have hpos:0<P.cellsOf e:=by omega
 unfold kQ at h
 split at h
 ·cases h
 ·rename_i hnn
  simp only [not_or,Bool.not_eq_false] at hnn
  obtain⟨hfit0,hne⟩:=hnn
  have hsrc:=hsrc hfit0
  have hys : ∀ (i:Nat) (row:List D),ys[i]?=some row→row.length=P.cellsOf e:=fun i row hr=>lM hfit0 hr
  have hn:0<ys.length:=List.length_pos_iff.2 hne
  -- what a new block comes to
  have main : ∀ (base:Option Addr) (sLen:Nat) (rows:List (List D)) (olds:Array Value),rows.length=sLen→kV (P.cellsOf e) rows=true→(∀ w',w'.heap=w.heap→(bM (P.cellsOf e) sLen (.slice base sLen sLen)).run P w' = .ok olds w')→DRs g.frz w rows.flatten olds.toList→(∀ v∈olds.toList,iE v=true) →
    sLen+ys.length≤9223372036854775807→(sLen+ys.length)*P.bytesOf e≤140737488355328→Dn.newObj σ tg (.cells ((rows++ys).flatten.map .d)) (fun r=>.sl r 0 (sLen+ys.length) (P.cellsOf e))=some (v,σ') →
    EStep P g σ w (bD #[t,xT] ty #[.slice base sLen sLen,cx]) v σ':=by
   intro base sLen rows olds hrl hfr hold hdo hone h63 h48 hnew
   obtain⟨hp,rfl⟩:=jJ hnew
   have hrun:=hsrc.grow hzv (base:=base) (sLen:=sLen) (sCap:=sLen) (olds:=olds) hn (by rw [hisz]; exact hold) (by omega) h63 (by rw [hiby]; exact h48)
   have hflat:(rows++ys).flatten=rows.flatten++ys.flatten:=by simp
   have hdr:DRs g.frz w (rows++ys).flatten (olds.toList++news.toList):=by rw [hflat]; exact hdo.append hsrc.rel
   have hon : ∀ v∈olds.toList++news.toList,iE v=true:=fun v hv=>by
    rcases aW.1 hv with h | h
    ·exact hone v h
    ·exact hsrc.one v h
   have hrf : ∀ (i:Nat) (row:List D),(rows++ys)[i]?=some row→row.length=P.cellsOf e:=qO hfr hfit0
   have hgw:Grown1 w (.cells (olds++news++aU z.cells (grownCap w (sLen+ys.length) sLen e-(sLen+ys.length))) e) (w.drew.alloc (.cells (olds++news++aU z.cells (grownCap w (sLen+ys.length) sLen e-(sLen+ys.length))) e)):=⟨rfl,rfl,rfl,rfl⟩
   obtain⟨s1,s2⟩:=hs.new_obj2 hp (DRs.to_v hon hdr) hon (c:=olds++news++aU z.cells (grownCap w (sLen+ys.length) sLen e-(sLen+ys.length))) (e:=e) (fun j v hj=>by
    have hlt:j<(olds++news).size:=by
     have:=(aB.1 hj).1
     simpa using this
    rw [Array.getElem?_append_left hlt,← Array.getElem?_toList,Array.toList_append]
    exact hj) hgw
   refine⟨_,_,_,hrun,s1,?_,s2⟩
   have hlen:((rows++ys).flatten.map V.d).length=(sLen+ys.length)*P.cellsOf e:=by rw [aQ,iV _ hrf]; simp [hrl]
   have hcap:sLen+ys.length≤grownCap w (sLen+ys.length) sLen e:=grownCap_ge w (sLen+ys.length) sLen e
   exact VR.sl (g:=g.add (σ.spot tg) w.heap.size ((rows++ys).flatten.map V.d).length (olds++news++aU z.cells (grownCap w (sLen+ys.length) sLen e-(sLen+ys.length))).size) (σ.spot tg) 0 (sLen+ys.length) (P.cellsOf e) _ ⟨w.heap.size,0,none⟩ (.inr rfl) hcap hpos
    (by simp only [Gh.add,if_true,hlen]; omega) (by simp only [Gh.add,if_true,hlen]; have:=bE (P.cellsOf e) hcap; omega) (fun _=>by simp [Gh.add]) rfl (by
     simp only [Gh.add,if_true,Array.size_append,size_zeroCells,hzs]
     have a1:olds.size=sLen*P.cellsOf e:=by
      have:=hdo.length
      rw [iV rows (fun i row hr=>lM hfr hr),hrl] at this
      simpa using this.symm
     have a2:news.size=ys.length*P.cellsOf e:=by
      have:=hsrc.rel.length
      rw [iV ys hys] at this
      simpa using this.symm
     rw [a1,a2,← bJ,← bJ,Nat.zero_add]
     apply Nat.le_of_eq
     congr 1
     omega)
  split at h
  ·split at h
   ·rename_i hcnd
    obtain⟨_,h48,h63⟩:=hcnd
    have:=hsv.inv_d
    cases this
    refine main none 0 [] #[] rfl rfl (fun w' _=>by simp [bM]) trivial (by simp) (by omega) (by rw [Nat.zero_add]; exact h48) ?_
    simpa using h
   ·cases h
  ·rename_i rows
   split at h
   ·rename_i hcnd
    obtain⟨_,hfit,h48,h63⟩:=hcnd
    have hd:=aCE hsv
    cases hsv with
    | fl _ a hd' =>
     have hro:aCi g.frz w rows (.slice (some a) rows.length rows.length):=.inr hd.rows
     obtain⟨olds,ho⟩:=qH (P:=P) hro hpos hfit
     exact main (some a) rows.length rows olds rfl hfit ho.first ho.rel ho.one h63 h48 h
   ·cases h
  ·split at h
   ·rename_i hcnd
    obtain⟨rfl,_,h48,h63⟩:=hcnd
    split at h
    ·rename_i ocs hobj
     split at h
     ·rename_i hin
      exact aFp hs ht hg hti' hsv hsrc hfit0 hne hobj hin.1 hin.2 h48 h63 h
     ·cases h
    ·cases h
   ·cases h
  ·cases h

theorem xM (z:List D) : ∀ n,(aD n z).flatten=qY n z
 | 0=>rfl
 | n+1=>by simp only [List.replicate_succ,List.flatten_cons,qY,xM z n]
theorem tO (n:Nat)(z:List D):(qY n z).map V.d=iL n z:=by
 induction n with
 | zero=>rfl
 | succ n ih=>simp only [qY,iL,List.map_append,ih]
theorem aHK {t xT e ty:TypeId}(ht:P.underlying t=some (.slice e))(hg:lV P e=true){k:IntKind}(hx:P.underlying xT=some (.int k)){z:List D}(hz:kN P e=some z)(n:Nat)(h0:0<n) :
  ∃ ti news,P.info? e=some ti∧aBo P g.frz w t xT ty e ti (aD n z) (.int .i64 n) news:=by
 obtain⟨i,zv,hi,hzv,hisz,hiby,hcell,hzs,hz1⟩:=jC hg
 obtain⟨i',zv',hi',hzv',hleaf⟩:=kD hz
 rw [hi] at hi'; cases hi'
 rw [hzv] at hzv'; cases hzv'
 obtain⟨z1,z2⟩:=kT (g:=g) (tk:=([]:List Nat)) (w:=w) hleaf
 have hzl:z.length=P.cellsOf e:=by have:=z1.length; simp at this; rw [this]; exact hzs
 have hpos:0<z.length:=by omega
 obtain⟨r1,r2⟩:=oV (g:=g) (tk:=([]:List Nat)) (w:=w) z1 z2 hpos n
 rw [← tO] at r1
 have hszz:zv.cells.size=z.length:=by rw [hzl]; exact hzs
 have hzc:=aBc hszz n
 refine⟨i,aU zv.cells n,hi,⟨⟨by rw [hzc]; exact r2,?_,?_⟩,by rw [xM,hzc]; exact r1.of_d⟩⟩
 ·intro a sLen sCap hn hb h63 hf
  rw [bS] at hn hb h63 hf ⊢
  exact xR ht hi hzv hx hn h63 (by rw [hisz]; omega) hb hf
 ·intro z' base sLen sCap olds hz' hn ho hgt h63 h48
  rw [hzv] at hz'
  cases hz'
  rw [bS] at hn h63 h48 hgt ⊢
  exact vT ht hi hzv hx hn (by rw [hisz]; omega) ho hgt h63 h48
theorem xS {t xT ty e:TypeId}{i:TypeInfo}(ht:P.underlying t=some (.slice e))(hi:P.info? e=some i){k:IntKind}(hx:P.underlying xT=some (.int k)){base:Option Addr}{sLen sCap:Nat}(hf:sLen≤sCap) :
  (bD #[t,xT] ty #[.slice base sLen sCap,.int .i64 0]).run P w = .ok (.slice base sLen sCap) w:=by
 have w1:aJ.wrap 0=0:=by decide
 cases base <;> simp [bD,run_underlying ht,run_underlying hx,sizeOf,typeInfo,hi,asInt,asIntOf,w1,hf,storeCells]
theorem aBu (hs:Sim g σ w){t xT e ty:TypeId}(ht:P.underlying t=some (.slice e))(hg:lV P e=true){k:IntKind}(hx:P.underlying xT=some (.int k)){z:List D}(hz:kN P e=some z){s v:V}{cs:Value}(hsv:VR g σ.toks w s cs)(hsl : ∃ base n cap,cs = .slice base n cap∧n≤cap){l:Int}(h0:0≤l)
  {tg:Option Nat} {σ':St} (h:(if l=0 then some (s,σ) else kQ σ tg (P.cellsOf e) (P.bytesOf e) s (aD l.toNat z))=some (v,σ')):EStep P g σ w (bD #[t,xT] ty #[cs,.int .i64 l]) v σ':=by
 split at h
 ·rename_i hl
  subst hl
  cases h
  obtain⟨i,zv,hi,hzv,hisz,hiby,hcell,hzs,hz1⟩:=jC hg
  obtain⟨base,n,cap,rfl,hc⟩:=hsl
  exact⟨_,w,g,xS ht hi hx hc,hs,hsv,Ev.refl _ _ _⟩
 ·rename_i hl
  obtain⟨n,hn⟩ : ∃ n:Nat,l=(n:Int):=⟨l.toNat,by omega⟩
  subst hn
  rw [Int.toNat_natCast] at h
  obtain⟨ti,news,hti,ha⟩:=aHK (g:=g) (w:=w) (ty:=ty) ht hg hx hz n (by omega)
  exact rF hs ht hg hti hsv (fun _=>ha) h

theorem aCj (hs:Sim g σ w){t xT e ty:TypeId}(ht:P.underlying t=some (.slice e))(hg:lV P e=true){dx:TypeDesc}(hx:P.underlying xT=some dx)(hni : ∀ k,dx ≠ .int k){s x v:V}{cs cx:Value}(hsv:VR g σ.toks w s cs)(hxv:VR g σ.toks w x cx){tg:Option Nat} {σ':St}
  (h:aBt σ tg (P.cellsOf e) (P.bytesOf e) s x=some (v,σ')):EStep P g σ w (bD #[t,xT] ty #[cs,cx]) v σ':=by
 obtain⟨i,z,hi,hzv,hisz,hiby,hc0,hzs,hz1⟩:=jC hg
 unfold aBt at h
 split at h
 ·rename_i rx ox lx sx
  split at h
  ·rename_i ccs hobj
   split at h
   ·rename_i hcnd
    obtain⟨rfl,hpos,hlx,hin⟩:=hcnd
    have hlt:ox<ccs.length:=by
     have:=Nat.mul_pos hlx hpos
     omega
    obtain⟨news,hsrc,hrel⟩:=aIx (ty:=ty) hs ht hi hisz hx hni hxv hobj hin hlt
    have hxl:((ccs.drop ox).take (lx*P.cellsOf e)).length=lx*P.cellsOf e:=by rw [List.length_take,List.length_drop]; omega
    generalize (ccs.drop ox).take (lx*P.cellsOf e)=xv at *
    split at h
    ·split at h
     ·rename_i hb
      have:=hsv.inv_d
      cases this
      obtain⟨hp,rfl⟩:=jJ h
      have hrun:=hsrc.grow hzv (base:=none) (sLen:=0) (sCap:=0) (olds := #[]) hlx (fun w' _=>by simp [bM]) (by omega) (by omega) (by rw [hiby,Nat.zero_add]; exact hb.1)
      have hgw:Grown1 w (.cells (#[]++news++aU z.cells (grownCap w (0+lx) 0 e-(0+lx))) e) (w.drew.alloc (.cells (#[]++news++aU z.cells (grownCap w (0+lx) 0 e-(0+lx))) e)):=⟨rfl,rfl,rfl,rfl⟩
      obtain⟨s1,s2⟩:=hs.new_obj2 hp hrel hsrc.one (c := #[]++news++aU z.cells (grownCap w (0+lx) 0 e-(0+lx))) (e:=e) (fun j v hj=>by
       have hlt:j<(#[]++news).size:=by
        have:=(aB.1 hj).1
        simpa using this
       rw [Array.getElem?_append_left hlt,← Array.getElem?_toList,Array.toList_append]
       exact hj) hgw
      have hcap:lx≤grownCap w (0+lx) 0 e:=by have:=grownCap_ge w (0+lx) 0 e; omega
      have hns:news.size=lx*P.cellsOf e:=by have:=hrel.length; rw [hxl] at this; simpa using this.symm
      refine⟨_,_,_,hrun,s1,?_,s2⟩
      rw [Nat.zero_add] at *
      exact VR.sl (g:=g.add (σ.spot tg) w.heap.size xv.length (#[]++news++aU z.cells (grownCap w lx 0 e-lx)).size) (σ.spot tg) 0 lx (P.cellsOf e) _ ⟨w.heap.size,0,none⟩ (.inr rfl) hcap hpos
       (by simp only [Gh.add,if_true,hxl]; omega) (by simp only [Gh.add,if_true,hxl]; have:=bE (P.cellsOf e) hcap; omega) (fun _=>by simp [Gh.add]) rfl (by
        simp only [Gh.add,if_true,Array.size_append,size_zeroCells,hzs,hns,List.size_toArray,List.length_nil,Nat.zero_add]
        rw [← bJ]
        apply Nat.le_of_eq
        congr 1
        omega)
     ·cases h
    ·split at h
     ·rename_i hb
      obtain⟨rfl,h48,h63⟩:=hb
      split at h
      ·rename_i ocs hobj2
       split at h
       ·rename_i hin2
        exact aAY hs ht hg hi hsv hsrc hrel hxl hlx hobj2 hin2.1 hin2.2 h48 h63 h
       ·cases h
      ·cases h
     ·cases h
    ·cases h
   ·cases h
  ·cases h
 ·cases h

end Go.Dn

/- Objects that are no cells: written anew, laid anew; maps' operations. -/
namespace Go.Dn
open Go.Lib Go.Maps Go.MapKept

variable {P:Program} {g:Gh} {σ:St} {tk:List Nat} {w:World}

theorem aDu {g:Gh}{tk:List Nat}{w:World}{o:Obj}{x:Go.Obj}(h:OthR g tk w o x):o.isOth∨o = .dead:=by
 cases o <;> first | exact .inl trivial | exact .inr rfl | (cases x <;> exact h.elim)

theorem Sim.put_oth (hs:Sim g σ w){r:Nat}{o o':Obj}(hr:σ.objs[r]?=some o)(ho:o.isOth)(ho':o'.isOth∨o' = .dead){x:Go.Obj}(hrel:o'.isOth→OthR g σ.toks w o' x) :
  Sim g (σ.setObj r o') (jS w (g.obj r).1 x)∧Ev g σ w g (σ.setObj r o') (jS w (g.obj r).1 x):=by
 have hrl:r<σ.objs.length:=(aB.1 hr).1
 have hcell : ∀ b q,g.frz b q→(jS w (g.obj r).1 x).cell? ⟨b,q,none⟩=w.cell? ⟨b,q,none⟩:=fun b q hf =>
  qD w _ (fun e=>hs.nofrz r _ hr ho.live q (by rw [e]; exact hf)) q
 have hl:Later g σ.toks w g (σ.setObj r o').toks (jS w (g.obj r).1 x) :=
  ⟨⟨fun b q hf=>hf,hcell⟩,fun q hq=>⟨hq,rfl,rfl⟩,fun t k ht=>⟨k,ht,bB _,fun _=>rfl,rfl⟩,rfl,fun _ _=>rfl⟩
 have obj : ∀ (q:Nat) (p:Obj),(σ.setObj r o').objs[q]?=some p→(q=r∧p=o')∨(q≠r∧σ.objs[q]?=some p):=by
  intro q p h
  simp only [St.setObj] at h
  by_cases hq:q=r
  ·subst hq
   rw [aO hrl] at h
   cases h
   exact .inl ⟨rfl,rfl⟩
  ·rw [aF (fun e=>hq e.symm)] at h
   exact .inr ⟨hq,h⟩
 have old : ∀ (q:Nat) (p:Obj),(σ.setObj r o').objs[q]?=some p→p.live→∃ p',σ.objs[q]?=some p'∧p'.live:=by
  intro q p h1 h2
  rcases obj q p h1 with⟨rfl,rfl⟩ | ⟨_,h⟩
  ·exact⟨_,hr,ho.live⟩
  ·exact⟨p,h,h2⟩
 refine⟨⟨fun q p h1 h2=>?_,fun q hq=>?_,fun q hq=>?_,fun q cs2 hq=>?_,fun q p hq hoth=>?_,fun q q' p p' h1 h2 h3 h4 hne=>?_,fun q p h1 h2=>?_,fun t k ht=>?_,hs.tdist,fun t k q p h1 h2 h3=>?_,fun b q hf=>?_,fun q cs2 hq=>?_⟩,
  ⟨hl,by simp [jS],rfl,rfl,rfl,fun b hb' hm=>?_,fun b hb'=>?_,fun b q hf=>.inl hf⟩⟩
 ·obtain⟨p',h3,h4⟩:=old q p h1 h2
  exact hs.has q p' h3 h4
 ·simpa [St.setObj] using hs.bound q hq
 ·rcases obj q _ hq with⟨_,h⟩ | ⟨_,h⟩
  ·rcases ho' with h' | h'
   ·rw [← h] at h'; exact h'.elim
   ·rw [← h] at h'; cases h'
  ·exact hs.free q h
 ·rcases obj q _ hq with⟨_,h⟩ | ⟨hne,h⟩
  ·rcases ho' with h' | h'
   ·rw [← h] at h'; exact h'.elim
   ·rw [← h] at h'; cases h'
  ·obtain⟨h1,c0,e0,fz0,hb0,hn0,hcc⟩:=hs.cells q cs2 h
   have hbne:=hs.dist r q _ _ hr ho.live h trivial (fun e=>hne e.symm)
   refine⟨h1,c0,e0,fz0,by rw [gV w _ hbne]; exact hb0,hn0,fun j v hj=>?_⟩
   obtain⟨cv,r1,r2,r3⟩:=hcc j v hj
   exact⟨cv,r1,r2,r3.later hl⟩
 ·rcases obj q _ hq with⟨rfl,rfl⟩ | ⟨hne,h⟩
  ·exact⟨x,lB w _ (hs.blk hr ho.live),(hrel hoth).later hl⟩
  ·obtain⟨y,a1,a2⟩:=hs.oth q p h hoth
   exact⟨y,by rw [gV w _ (hs.dist r q _ _ hr ho.live h hoth.live (fun e=>hne e.symm))]; exact a1,a2.later hl⟩
 ·obtain⟨p1,a1,a2⟩:=old q p h1 h2
  obtain⟨p2,b1,b2⟩:=old q' p' h3 h4
  exact hs.dist q q' p1 p2 a1 a2 b1 b2 hne
 ·obtain⟨p1,a1,a2⟩:=old q p h1 h2
  exact hs.nofrz q p1 a1 a2
 ·obtain⟨h0,c0,e0,fz0,hb0,hn0,hsz,hf⟩:=hs.tok t k ht
  have hbne:=hs.tobj t k r _ ht hr ho.live
  exact⟨h0,c0,e0,fz0,by rw [gV w _ (fun e=>hbne e.symm)]; exact hb0,hn0,hsz,hf⟩
 ·obtain⟨p1,a1,a2⟩:=old q p h2 h3
  exact hs.tobj t k q p1 h1 a1 a2
 ·obtain⟨v,hv⟩:=hs.frzb b q hf
  exact⟨v,by rw [hcell b q hf]; exact hv⟩
 ·rcases obj q _ hq with⟨_,h⟩ | ⟨hne,h⟩
  ·rcases ho' with h' | h'
   ·rw [← h] at h'; exact h'.elim
   ·rw [← h] at h'; cases h'
  ·refine⟨(hs.lims q cs2 h).1,fun c2 e2 fz2 hb2=>?_⟩
   rw [gV w _ (hs.dist r q _ _ hr ho.live h trivial (fun e=>hne e.symm))] at hb2
   exact(hs.lims q cs2 h).2 _ _ _ hb2
 ·exact gV w _ (fun e=>hm (.inl ⟨r,_,hr,ho.live,e⟩))
 ·left
  rcases hb' with⟨q,p,h1,h2,rfl⟩ | h
  ·obtain⟨p1,a1,a2⟩:=old q p h1 h2
   exact .inl ⟨q,p1,a1,a2,rfl⟩
  ·exact .inr h

theorem Sim.new_oth (hs:Sim g σ w){tg:Option Nat}{o:Obj}(ho:o.isOth) {σ':St}(hp:σ.place tg o=some σ'){x:Go.Obj}(hr:OthR g σ.toks w o x){w':World}(hw:Grown1 w x w') :
  Sim (g.add (σ.spot tg) w.heap.size 0 0) σ' w'∧Ev g σ w (g.add (σ.spot tg) w.heap.size 0 0) σ' w':=by
 obtain⟨p1,p2,p3,p4,p5⟩:=vQ hp
 have hnh : ¬ g.has (σ.spot tg):=by
  intro hh
  rcases p5 with h | h
  ·have:=hs.bound _ hh
   rw [List.getElem?_eq_none_iff] at h
   omega
  ·exact hs.free _ h hh
 have hcell : ∀ b q,g.frz b q→w'.cell? ⟨b,q,none⟩=w.cell? ⟨b,q,none⟩:=fun b q hf=>by
  obtain⟨v,hv⟩:=hs.frzb b q hf
  exact hw.cell (nG hv) q
 have keep : ∀ r,g.has r→r≠σ.spot tg:=fun r hr e=>hnh (e▸hr)
 have hl:Later g σ.toks w (g.add (σ.spot tg) w.heap.size 0 0) σ'.toks w':=by
  refine⟨⟨fun b q hf=>hf,hcell⟩,fun r hr=>⟨.inl hr,?_,?_⟩,fun t k ht=>⟨k,by rw [p1]; exact ht,bB _,fun _=>rfl,rfl⟩,rfl,fun r hr=>by simp [Gh.add,keep r hr]⟩
  ·simp [Gh.add,keep r hr]
  ·simp [Gh.add,keep r hr]
 have hlt : ∀ (r:Nat) (o:Obj),σ.objs[r]?=some o→o.live→(g.obj r).1<w.heap.size:=fun r o h1 h2=>hs.blk h1 h2
 refine⟨⟨fun r o h1 h2=>?_,fun r hr=>?_,fun r hr=>?_,fun r cs' hr'=>?_,fun r o hr' hoth=>?_,fun r r' o o' h1 h2 h3 h4 hne=>?_,fun r o h1 h2 q=>?_,fun t k ht=>?_,fun t t' k k' h1 h2 h3=>?_,fun t k r o h1 h2 h3=>?_,fun b q hf=>?_,fun r cs' hr'=>?_⟩,
  ⟨hl,by rw [hw.size]; omega,hw.os,hw.tape,hw.output,fun b hb _=>hw.old hb,fun b hb=>?_,fun b q hf=>.inl hf⟩⟩
 ·by_cases hq:r=σ.spot tg
  ·exact .inr hq
  ·exact .inl (hs.has r o (by rw [← p2 r hq]; exact h1) h2)
 ·rcases hr with hr | rfl
  ·exact Nat.lt_of_lt_of_le (hs.bound r hr) p4
  ·exact(aB.1 p3).1
 ·intro hh
  by_cases hq:r=σ.spot tg
  ·subst hq; rw [p3] at hr; cases hr; exact ho.elim
  ·rcases hh with hh | hh
   ·exact hs.free r (by rw [← p2 r hq]; exact hr) hh
   ·exact hq hh
 ·by_cases hq:r=σ.spot tg
  ·subst hq
   rw [p3] at hr'
   cases hr'
   exact ho.elim
  ·obtain⟨h1,c',e',fz',hb,hn,hc⟩:=hs.cells r cs' (by rw [← p2 r hq]; exact hr')
   refine⟨by simp [Gh.add,hq,h1],c',e',fz',by simp only [Gh.add,hq,if_false]; rw [hw.old (hO hb)]; exact hb,hn,fun j v hj=>?_⟩
   obtain⟨cv,r1,r2,r3⟩:=hc j v hj
   exact⟨cv,by simp only [Gh.add,hq,if_false]; exact r1,r2,r3.later hl⟩
 ·by_cases hq:r=σ.spot tg
  ·subst hq
   rw [p3] at hr'
   cases hr'
   exact⟨x,by simp [Gh.add,hw.new],hr.later hl⟩
  ·obtain⟨y,a1,a2⟩:=hs.oth r o (by rw [← p2 r hq]; exact hr') hoth
   exact⟨y,by simp only [Gh.add,hq,if_false]; rw [hw.old (hO a1)]; exact a1,a2.later hl⟩
 ·by_cases hq:r=σ.spot tg
  ·by_cases hq':r'=σ.spot tg
   ·exact absurd (hq.trans hq'.symm) hne
   ·have:=hlt r' o' (by rw [← p2 r' hq']; exact h3) h4
    simp only [Gh.add,hq,hq',if_true,if_false]
    omega
  ·have l1:=hlt r o (by rw [← p2 r hq]; exact h1) h2
   by_cases hq':r'=σ.spot tg
   ·simp only [Gh.add,hq,hq',if_true,if_false]
    omega
   ·simp only [Gh.add,hq,hq',if_false]
    exact hs.dist r r' o o' (by rw [← p2 r hq]; exact h1) h2 (by rw [← p2 r' hq']; exact h3) h4 hne
 ·by_cases hq:r=σ.spot tg
  ·simp only [Gh.add,hq,if_true]
   intro hf
   obtain⟨v,hv⟩:=hs.frzb _ _ hf
   have:=nG hv
   omega
  ·simp only [Gh.add,hq,if_false]
   exact hs.nofrz r o (by rw [← p2 r hq]; exact h1) h2 q
 ·rw [p1] at ht
  obtain⟨h0,c',e',fz',hb,hn,hsz,hf⟩:=hs.tok t k ht
  exact⟨h0,c',e',fz',by rw [show((g.add (σ.spot tg) w.heap.size 0 0).tok t)=g.tok t from rfl,hw.old (hO hb)]; exact hb,hn,hsz,hf⟩
 ·rw [p1] at h1 h2
  exact hs.tdist t t' k k' h1 h2 h3
 ·rw [p1] at h1
  obtain⟨h0,c',e',fz',hb,_⟩:=hs.tok t k h1
  have:=hO hb
  by_cases hq:r=σ.spot tg
  ·simp only [Gh.add,hq,if_true]
   omega
  ·simp only [Gh.add,hq,if_false]
   exact hs.tobj t k r o h1 (by rw [← p2 r hq]; exact h2) h3
 ·obtain⟨v,hv⟩:=hs.frzb b q hf
  exact⟨v,by rw [hcell b q hf]; exact hv⟩
 ·by_cases hq:r=σ.spot tg
  ·subst hq
   rw [p3] at hr'
   cases hr'
   exact ho.elim
  ·have hr2:σ.objs[r]?=some (.cells cs'):=by rw [← p2 r hq]; exact hr'
   refine⟨by simp only [Gh.add,hq,if_false]; exact(hs.lims r cs' hr2).1,fun c' e' fz' hb=>?_⟩
   simp only [Gh.add,hq,if_false] at hb ⊢
   exact(hs.lims r cs' hr2).2 c' e' fz' (by rw [← hw.old (hs.blk hr2 trivial)]; exact hb)
 ·rcases hb with⟨r,o,h1,h2,rfl⟩ | ⟨t,k,ht,rfl⟩
  ·by_cases hq:r=σ.spot tg
   ·right; simp [Gh.add,hq]
   ·left
    simp only [Gh.add,hq,if_false]
    exact .inl ⟨r,o,by rw [← p2 r hq]; exact h1,h2,rfl⟩
  ·left
   exact .inr ⟨t,k,by rw [← p1]; exact ht,rfl⟩

theorem Gh.add_obj (g:Gh)(r b n m:Nat):(g.add r b n m).obj r=(b,0):=by simp [Gh.add]

theorem aCQ (hs:Sim g σ w){t:TypeId}{tg:Option Nat}{v:V} {σ':St}(h:Dn.newObj σ tg (.map [] 0) .map=some (v,σ')):EStep P g σ w (Instr.makeMap t none) v σ':=by
 obtain⟨hp,rfl⟩:=jJ h
 obtain⟨s1,s2⟩:=hs.new_oth (o:=.map [] 0) trivial hp (x:=.map #[] 0) ⟨rfl,rfl,by simp,fun i b k v h=>by simp at h⟩ (lN w _)
 refine⟨.map (some w.heap.size),_,_,?_,s1,?_,s2⟩
 ·simp [Instr.makeMap,newObj,Sem.run]
 ·have:=VR.map (g:=g.add (σ.spot tg) w.heap.size 0 0) (tk:=σ'.toks) (w:={ w with heap:=w.heap.push (.map #[] 0) }) (σ.spot tg) (.inr rfl)
  rwa [Gh.add_obj] at this

theorem aFE (hs:Sim g σ w){t kt et:TypeId}(hu:P.underlying t=some (.map kt et)){tg:Option Nat}{x v:V}{cx:Value}(hx:VR g σ.toks w x cx) {σ':St}(h:tM σ tg x=some (v,σ')):EStep P g σ w (Instr.range t cx) v σ':=by
 unfold tM at h
 split at h
 ·have:=hx.inv_d
  cases this
  obtain⟨hp,rfl⟩:=jJ h
  obtain⟨s1,s2⟩:=hs.new_oth (o:=.iter none 0 [] 0) trivial hp (x:=.mapIter none 0 #[] 0) ⟨rfl,(fun r h=>by cases h),rfl,rfl,rfl⟩ (lN w _)
  refine⟨.pointer (some ⟨w.heap.size,0,none⟩),_,_,?_,s1,?_,s2⟩
  ·simp [Instr.range,run_underlying hu,newObj,Sem.run]
  ·have:=VR.iter (g:=g.add (σ.spot tg) w.heap.size 0 0) (tk:=σ'.toks) (w:={ w with heap:=w.heap.push (.mapIter none 0 #[] 0) }) (σ.spot tg) (.inr rfl)
   rwa [Gh.add_obj] at this
 ·rename_i r
  split at h
  ·rename_i es clock ho
   obtain⟨hob,h1,h2⟩:=hs.oth _ _ ho trivial
   cases hob <;> try exact h2.elim
   rename_i es' clock'
   obtain⟨hp,rfl⟩:=jJ h
   cases hx with
   | map _ hh =>
    obtain⟨rfl,_⟩:=h2
    obtain⟨s1,s2⟩:=hs.new_oth (o:=.iter (some r) clock [] clock) trivial hp (x:=.mapIter (some (g.obj r).1) clock #[] clock) ⟨rfl,fun q h=>by cases h; exact hh,rfl,rfl,rfl⟩ (lN w _)
    refine⟨.pointer (some ⟨w.heap.size,0,none⟩),_,_,?_,s1,?_,s2⟩
    ·simp [Instr.range,run_underlying hu,newObj,getObj,Sem.run,h1]
    ·have:=VR.iter (g:=g.add (σ.spot tg) w.heap.size 0 0) (tk:=σ'.toks) (w:={ w with heap:=w.heap.push (.mapIter (some (g.obj r).1) clock #[] clock) }) (σ.spot tg) (.inr rfl)
     rwa [Gh.add_obj] at this
  ·cases h
 ·cases h

theorem aFa (hs:Sim g σ w){tg:Option Nat}{x v:V}{cx:Value}(hx:VR g σ.toks w x cx) {σ':St}(h:eP σ tg x=some (v,σ')):EStep P g σ w (Extern.MapsClone.clone #[cx]) v σ':=by
 unfold eP at h
 split at h
 ·rename_i t r
  split at h
  ·rename_i es clock ho
   obtain⟨hob,h1,h2⟩:=hs.oth _ _ ho trivial
   cases hob <;> try exact h2.elim
   rename_i es' clock'
   obtain⟨hp,rfl⟩:=jJ h
   cases hx with
   | ifc _ _ cv hcv =>
    cases hcv with
    | map _ hh =>
     obtain⟨s1,s2⟩:=hs.new_oth (o:=.map es clock) trivial hp (x:=.map es' clock') h2 (lN w _)
     refine⟨.iface t (.map (some w.heap.size)),_,_,?_,s1,?_,s2⟩
     ·have e:Extern.MapsClone.clone #[.iface t (.map (some (g.obj r).1))]=(getObj (g.obj r).1 >>= fun o=>match o with
        | .map entries clock=>(Go.newObj (.map entries clock) >>= fun n=>pure (.iface t (.map (some n))))
        | _ => stuck "maps.clone: a map expected") := rfl
      rw [e]
      simp [Go.newObj,getObj,Sem.run,h1]
     ·have:=VR.map (g:=g.add (σ.spot tg) w.heap.size 0 0) (tk:=σ'.toks) (w:={ w with heap:=w.heap.push (.map es' clock') }) (σ.spot tg) (.inr rfl)
      rw [Gh.add_obj] at this
      exact .ifc _ _ _ this
  ·cases h
 ·cases h

theorem aFm {es:List (Nat×V×V)}{es':Array MapEntry}(hl:es.length=es'.size){b:Nat}(hh : ∀ (i b:Nat)(k v:V),es[i]?=some (b,k,v)→∃ x,es'[i]?=some x∧x.born=b){e:Nat×V×V}(h:es.find? (fun e=>e.1==b)=some e) :
  ∃ (i:Nat) (x:MapEntry),es[i]?=some e∧es'[i]?=some x∧es'.find? (·.born==b)=some x:=by
 obtain⟨l⟩:=es'
 simp only [List.size_toArray,List.getElem?_toArray,List.find?_toArray] at *
 induction es generalizing l with
 | nil=>cases h
 | cons a r ih =>
  cases l with
  | nil=>simp at hl
  | cons x l =>
   obtain⟨y,hy,hb⟩:=hh 0 a.1 a.2.1 a.2.2 rfl
   simp only [List.getElem?_cons_zero,aN.injEq] at hy
   subst hy
   rw [List.find?_cons] at h
   cases hc:(a.1==b) with
   | true =>
    rw [hc] at h
    cases h
    exact⟨0,x,rfl,rfl,by rw [List.find?_cons,hb,hc]⟩
   | false =>
    rw [hc] at h
    obtain⟨i,z,h1,h2,h3⟩:=ih h l (by simpa using hl) fun i b k v hi=>hh (i+1) b k v hi
    exact⟨i+1,z,h1,h2,by rw [List.find?_cons,hb,hc]; exact h3⟩

theorem aFe (hs:Sim g σ w){x v:V}{cx:Value}(hx:VR g σ.toks w x cx)(h:eM σ x=some v):EStep P g σ w (Instr.entry cx) v σ:=by
 unfold eM at h
 split at h
 ·rename_i r
  split at h
  ·rename_i m since seen last ho
   split at h
   ·rename_i b es clock hb hm
    split at h
    ·rename_i hc
     subst hc
     split at h
     ·rename_i e he
      cases h
      obtain⟨hob,h1,h2⟩:=hs.oth _ _ ho trivial
      cases hob <;> try exact h2.elim
      rename_i m' since' seen' last'
      obtain⟨rfl,k2,rfl,k4,rfl⟩:=h2
      obtain⟨hom,h3,h4⟩:=hs.oth _ _ hm trivial
      cases hom <;> try exact h4.elim
      rename_i es' clock'
      obtain⟨rfl,l1,l2,l3⟩:=h4
      obtain⟨i,y,q1,q2,q3⟩:=aFm l1 (fun i b k v hi=>by obtain⟨x,a1,a2,_⟩:=l3 i b k v hi; exact⟨x,a1,a2⟩) he
      obtain⟨y',a1,a2,a3,a4,a5⟩:=l3 i e.1 e.2.1 e.2.2 q1
      rw [q2] at a1
      cases a1
      have hbk:seen'.back?=some b:=by rw [← k4] at hb; simpa using hb
      cases hx with
      | iter _ hh =>
       refine⟨.tuple #[y.key,y.val],w,g,?_,hs,VR.two a3 a4,Ev.refl _ _ _⟩
       simp [Instr.entry,getObj,Sem.run,h1,h3,hbk,q3]
     ·cases h
    ·cases h
   ·cases h
  ·cases h
 ·cases h

theorem lP {b:Nat}{x:Go.Obj}(y:Go.Obj)(h:w.heap[b]?=some x)(hx : ∀ c e f,x ≠ .cells c e f):(setObj b y).run P w = .ok () (jS w b y):=by
 cases x <;> first | exact absurd rfl (hx _ _ _) | simp [setObj,Sem.run,h,jS]

theorem aEd (hs:Sim g σ w){t:TypeId}{ka:Bool}{ks:List Lf}(hm:qA P t=some (ka,ks)){m k x v:V}{cm ck cx:Value}(hvm:VR g σ.toks w m cm)(hvk:VR g σ.toks w k ck)(hvx:VR g σ.toks w x cx) {σ':St}(h:mA σ ka ks m k x=some (v,σ')) :
  v = .gone∧∃ w',(Instr.mapUpdate t cm ck cx).run P w = .ok () w'∧Sim g σ' w'∧Ev g σ w g σ' w':=by
 unfold qA at hm
 split at hm
 ·rename_i kt et hu
  unfold mA at h
  split at h
  ·rename_i r
   split at h
   ·rename_i es clock ho
    split at h
    ·rename_i hcnd
     obtain⟨hko,hks,hcl⟩:=hcnd
     simp only [aN.injEq,Prod.mk.injEq] at h
     obtain⟨rfl,rfl⟩:=h
     refine⟨rfl,?_⟩
     cases hvm with
     | map _ hh =>
      obtain⟨hob,h1,h2⟩:=hs.oth _ _ ho trivial
      cases hob <;> try exact h2.elim
      rename_i es' clock'
      have hfin:=uC hm hko hvk hks h2 w
      obtain⟨rfl,hl,hn,hh2⟩:=h2
      rcases hfin with⟨f1,f2⟩ | ⟨j,b,v',y,f1,f2,f3,f4,f5,f6,f7⟩
      ·rw [(oP f2).1]
       have hrel:OthR g σ.toks w (.map (es++[(clock,k,x)]) (clock+1)) (.map (es'.push { key:=ck,val:=cx,born:=clock }) (clock+1)):=by
        refine⟨rfl,by simp [hl],?_,fun i b q u hi=>?_⟩
        ·rw [List.map_append,List.nodup_append]
         refine⟨hn,by simp,?_⟩
         intro a ha c hc
         simp at hc
         subst hc
         obtain⟨z,hz,rfl⟩:=aT.1 ha
         exact f2 z hz
        ·rcases bR i es.length with hlt | hge
         ·rw [aC hlt] at hi
          obtain⟨z,a1,a2⟩:=hh2 i b q u hi
          exact⟨z,by rw [Array.getElem?_push_lt (by omega)]; rw [Array.getElem?_eq_getElem (by omega)] at a1; exact a1,a2⟩
         ·have hi0:i=es.length:=by
           have:=(aB.1 hi).1
           simp at this
           omega
          subst hi0
          simp at hi
          obtain⟨rfl,rfl,rfl⟩:=hi
          exact⟨{ key:=ck,val:=cx,born:=clock },by rw [hl]; simp,rfl,hvk,hvx,hcl⟩
       obtain⟨s1,s2⟩:=hs.put_oth ho trivial (@aDu _ _ _ _ _ hrel) (fun _=>hrel)
       refine⟨_,?_,s1,s2⟩
       simp [Instr.mapUpdate,run_underlying hu,getObj,Sem.run,h1,mF hm hko hvk w,f1,lP _ h1 (by intro c e f; simp)]
      ·obtain⟨lit,hlit⟩:=sN hm hko hvk
       obtain⟨e1,e2,e3⟩:=rK hn f2
       rw [e1]
       simp only [e2]
       have hlt:j<es'.size:=(bW.1 f3).1
       have hrel:OthR g σ.toks w (.map (es.set j (b,k,x)) clock) (.map (es'.modify j fun e=>{ e with key:=ck,val:=cx }) clock):=by
        refine⟨rfl,by simp [hl],?_,fun i b' q u hi=>?_⟩
        ·have:(es.set j (b,k,x)).map (fun x=>x.2.1)=es.map fun x=>x.2.1:=by
          rw [List.map_set]
          apply List.ext_getElem?
          intro i
          by_cases hij:j=i
          ·subst hij
           rw [aO (by simp; omega),bG,f2]
           rfl
          ·rw [aF hij]
         rw [this]; exact hn
        ·by_cases hij:j=i
         ·subst hij
          rw [aO (by omega)] at hi
          cases hi
          refine⟨{ y with key:=ck,val:=cx },?_,f4,hvk,hvx,hcl⟩
          simp [Array.getElem?_modify,f3]
         ·rw [aF hij] at hi
          obtain⟨z,a1,a2⟩:=hh2 i b' q u hi
          exact⟨z,by simp [Array.getElem?_modify,hij,a1],a2⟩
       obtain⟨s1,s2⟩:=hs.put_oth ho trivial (@aDu _ _ _ _ _ hrel) (fun _=>hrel)
       refine⟨_,?_,s1,s2⟩
       have hst:=(rG hm).stays w hlit
       simp [Instr.mapUpdate,run_underlying hu,getObj,Sem.run,h1,mF hm hko hvk w,f1,f3,f5,hst,lP _ h1 (by intro c e f; simp)]
    ·cases h
   ·cases h
  ·cases h
 ·cases hm

theorem aCy {α:Type}(a:Array α)(j:Nat)(h:j<a.size):(a.eraseIdxIfInBounds j).toList=a.toList.eraseIdx j:=by
 simp [Array.eraseIdxIfInBounds,h]

theorem aDJ (hs:Sim g σ w){t:TypeId}{ka:Bool}{ks:List Lf}(hm:qA P t=some (ka,ks)){m k v:V}{cm ck:Value}(hvm:VR g σ.toks w m cm)(hvk:VR g σ.toks w k ck) {σ':St}(h:pE σ ka ks m k=some (v,σ')){ats:Array TypeId}(hat:ats[0]?=some t)(ty:TypeId) :
  EStep P g σ w (Builtin.delete_ ats ty #[cm,ck]) v σ':=by
 unfold qA at hm
 split at hm
 ·rename_i kt et hu
  unfold pE at h
  split at h
  ·cases h
  ·rename_i hko
   have hko:jB ka ks k=true:=by simpa using hko
   have vt : ∀ {g:Gh} {tk:List Nat} {w:World},VR g tk w (.tup []) (.tuple #[]):=.tup _ _ rfl (fun i c v hi hv=>by simp at hi)
   split at h
   ·cases h
    have:=hvm.inv_d
    cases this
    exact⟨.tuple #[],w,g,by simp [Builtin.delete_,hat,run_underlying hu,mF hm hko hvk w],hs,vt,Ev.refl _ _ _⟩
   ·rename_i r
    split at h
    ·rename_i es clock ho
     split at h
     ·rename_i hks
      cases h
      cases hvm with
      | map _ hh =>
       obtain⟨hob,h1,h2⟩:=hs.oth _ _ ho trivial
       cases hob <;> try exact h2.elim
       rename_i es' clock'
       have hfin:=uC hm hko hvk hks h2 w
       obtain⟨rfl,hl,hn,hh2⟩:=h2
       rcases hfin with⟨f1,f2⟩ | ⟨j,b,v',y,f1,f2,f3,f4,f5,f6,f7⟩
       ·rw [(oP f2).2]
        obtain⟨s1,s2⟩:=hs.put_oth ho trivial (o':=.map es clock) (.inl trivial) (x:=.map es' clock) (fun _=>⟨rfl,hl,hn,hh2⟩)
        refine⟨.tuple #[],_,g,?_,s1,vt,s2⟩
        simp [Builtin.delete_,hat,run_underlying hu,getObj,Sem.run,h1,mF hm hko hvk w,f1,lP _ h1 (by intro c e f; simp)]
       ·obtain⟨e1,e2,e3⟩:=rK hn f2
        rw [e3]
        have hlt:j<es'.size:=(bW.1 f3).1
        have hrel:OthR g σ.toks w (.map (es.eraseIdx j) clock) (.map (es'.eraseIdxIfInBounds j) clock):=by
         have el:=aCy es' j hlt
         refine⟨rfl,?_,?_,fun i b' q u hi=>?_⟩
         ·have:=congrArg List.length el
          rw [List.length_eraseIdx] at this ⊢
          simp only [Array.length_toList,hlt,if_true] at this
          simp only [hl,hlt,if_true]
          exact this.symm
         ·exact hn.sublist ((List.eraseIdx_sublist _ _).map _)
         ·have:(es'.eraseIdxIfInBounds j)[i]?=(es'.toList.eraseIdx j)[i]?:=by rw [← el,Array.getElem?_toList]
          rw [this]
          rw [List.getElem?_eraseIdx] at hi ⊢
          split at hi
          ·rename_i hlt'
           obtain⟨z,a1,a2⟩:=hh2 i b' q u hi
           exact⟨z,by rw [if_pos hlt']; simpa using a1,a2⟩
          ·rename_i hlt'
           obtain⟨z,a1,a2⟩:=hh2 (i+1) b' q u hi
           exact⟨z,by rw [if_neg hlt']; simpa using a1,a2⟩
        obtain⟨s1,s2⟩:=hs.put_oth ho trivial (@aDu _ _ _ _ _ hrel) (fun _=>hrel)
        refine⟨.tuple #[],_,g,?_,s1,vt,s2⟩
        simp [Builtin.delete_,hat,run_underlying hu,getObj,Sem.run,h1,mF hm hko hvk w,f1,lP _ h1 (by intro c e f; simp)]
     ·cases h
    ·cases h
   ·cases h
 ·cases hm

end Go.Dn

/- Every operation that turns the store, taken together. -/
namespace Go.Dn
open Go.Lib

variable {P:Program} {g:Gh} {σ:St} {w:World}

def aEm (P:Program)(g:Gh) (σ:St)(w:World)(s:Sem Next)(v:V) (σ':St):Prop :=
 ∃ cv w' g',(s.run P w = .ok (.value cv) w'∨(s.run P w = .ok .skip w'∧cv=undef))∧Sim g' σ' w'∧VR g' σ'.toks w' v cv∧Ev g σ w g' σ' w'

theorem EStep.next {s:Sem Value}{v:V} {σ':St}(h:EStep P g σ w s v σ'):aEm P g σ w (do pure (.value (← s))) v σ':=by
 obtain⟨cv,w',g',h1,h2⟩:=h
 exact⟨cv,w',g',.inl (by simp [Sem.run_bind,h1]),h2⟩

theorem iW {b:Builtin}{args:Array Operand}{argTypes:Array TypeId}{o:Oper}{a:Act}(ho:o.op = .call { callee:=.builtin b,args,argTypes }){s:Sem Value}{v:V} {σ':St}
  (hb : ∀ consts,Go.builtin b argTypes o.type consts (args.map a.eval)=(do pure (.value (← s)))) (h:EStep P g σ w s v σ'):aEm P g σ w (execOp a.eval o) v σ':=by
 obtain⟨cv,w',g',h1,h2⟩:=h.next
 refine⟨cv,w',g',?_,h2⟩
 unfold execOp
 simp only [ho,resolve,Sem.run_bind,Sem.run_pure,aV,invoke]
 rw [hb]
 exact h1

theorem lJ {argTypes:Array TypeId}{t xT ty:TypeId}(h0:argTypes[0]?=some t)(h1:argTypes[1]?=some xT)(args:Array Value) :
  bD argTypes ty args=bD #[t,xT] ty args:=by
 unfold bD
 simp [h0,h1]

theorem aCX {n:Nat}{e:Env}{a:Act}(he:EnvR g σ.toks w n e a.tmps){args:Array Operand}{xa xb:Opd}(hx:iT args.toList=some [xa,xb]) : ∃ cx cy,args.map a.eval = #[cx,cy]∧VR g σ.toks w (xa.ev e) cx∧VR g σ.toks w (xb.ev e) cy:=by
 have hargs:args.toList.map a.eval=(args.map a.eval).toList:=by simp
 have hv:=jR he hx
 rw [hargs] at hv
 match hm:(args.map a.eval).toList,hv with
 | [cx,cy],hv=>exact⟨cx,cy,by apply Array.ext'; simpa using hm,hv.1,hv.2.1⟩
 | [],hv=>exact hv.elim
 | [_],hv=>exact hv.2.elim
 | _::_::_::_,hv=>exact hv.2.2.elim

theorem zW {n:Nat}{e:Env}{a:Act}(he:EnvR g σ.toks w n e a.tmps){args:Array Operand}{xa:Opd}(hx:iT args.toList=some [xa]) : ∃ cx,args.map a.eval = #[cx]∧VR g σ.toks w (xa.ev e) cx:=by
 have hargs:args.toList.map a.eval=(args.map a.eval).toList:=by simp
 have hv:=jR he hx
 rw [hargs] at hv
 match hm:(args.map a.eval).toList,hv with
 | [cx],hv=>exact⟨cx,by apply Array.ext'; simpa using hm,hv.1⟩
 | [],hv=>exact hv.elim
 | _::_::_,hv=>exact hv.2.elim

theorem aFd {argTypes:Array TypeId}{t xT ty:TypeId}(h0:argTypes[0]?=some t)(args:Array Value) :
  Builtin.copy_ argTypes ty args=Builtin.copy_ #[t,xT] ty args:=by
 unfold Builtin.copy_
 simp [h0]

theorem aDH {argTypes:Array TypeId}{t ty:TypeId}(h0:argTypes[0]?=some t)(args:Array Value) :
  Builtin.clear_ argTypes ty args=Builtin.clear_ #[t] ty args:=by
 unfold Builtin.clear_
 simp [h0]

theorem aAT (hs:Sim g σ w){n:Nat}{e:Env}{a:Act}(he:EnvR g σ.toks w n e a.tmps){o:Oper}{dst:Option Nat}{op:EOp}(hc:jV P o=some (.e dst op)){v:V}{tg:Option Nat} {σ':St}(h:dM op e σ tg=some (v,σ')) :
  dst=o.dst∧aEm P g σ w (execOp a.eval o) v σ':=by
 have rel : ∀ {x:Operand} {x':Opd},iF x=some x'→VR g σ.toks w (x'.ev e) (a.eval x):=fun hx=>nK hx he
 obtain⟨od,oop,oty,opos,oaft,ogd⟩:=o
 cases oop <;> simp only [jV] at hc
 case alloc t =>
  split at hc
  ·rename_i z hz
   simp only [aN.injEq,Ins.e.injEq] at hc
   obtain⟨rfl,rfl⟩:=hc
   simp only [dM] at h
   exact⟨rfl,(aE7 hs hz h).next⟩
  ·cases hc
 case box t x =>
  split at hc
  ·rename_i x' hx
   simp only [aN.injEq,Ins.e.injEq] at hc
   obtain⟨rfl,rfl⟩:=hc
   simp only [dM] at h
   split at h
   ·rename_i l hl
    exact⟨rfl,(aIb hs (rel hx) hl h).next⟩
   ·cases h
  ·cases hc
 case store t x y =>
  split at hc
  ·rename_i x' y' hx hy
   split at hc
   ·rename_i hok
    simp only [aN.injEq,Ins.e.injEq] at hc
    obtain⟨rfl,rfl⟩:=hc
    simp only [dM] at h
    split at h
    ·rename_i r off hxe
     split at h
     ·rename_i cs hr
      split at h
      ·rename_i l hl
       split at h
       ·rename_i hb
        cases h
        obtain⟨w',r1,r2,r3⟩:=aF4 hs hok (rel hx) (rel hy) hxe hr hl hb.1 hb.2
        exact⟨rfl,undef,w',g,.inr ⟨by simp [execOp,Sem.run_bind,r1],rfl⟩,r2,.gone,r3⟩
       ·cases h
      ·cases h
     ·cases h
    ·cases h
   ·cases hc
  ·cases hc
 case call c =>
  obtain⟨callee,args,argTypes⟩:=c
  simp only [jZ] at hc
  split at hc
  case h_1 f =>
   split at hc
   ·rename_i l hl
    split at hc
    ·rename_i fn hfn
     split at hc
     ·simp at hc
     ·split at hc
      ·rename_i x'
       split at hc
       ·rename_i hcl
        simp only [aN.injEq,Ins.e.injEq] at hc
        obtain⟨rfl,rfl⟩:=hc
        simp only [dM] at h
        obtain⟨cx,hcx,hvr⟩:=zW he hl
        have hst:=aFa (P:=P) hs hvr h
        refine⟨rfl,?_⟩
        obtain ⟨c1, c2, c3⟩ : fn.name = "maps.clone" ∧ fn.body.isNone = true ∧ Extern.findNext fn = none := by
         simp only [aEw,aS,beq_iff_eq] at hcl
         exact⟨hcl.1.1,hcl.1.2,by simpa using hcl.2⟩
        have hfind:Extern.find fn=some Extern.MapsClone.clone:=by
         unfold Extern.find
         simp only [c1]
         have e1 : Extern.allGenericRows.lookup "maps.clone" = none := by kernel_rfl
         have e2 : Extern.allTypedRows.lookup "maps.clone" = none := by kernel_rfl
         have e3 : Extern.allRows.lookup "maps.clone" = some Extern.MapsClone.clone := by kernel_rfl
         rw [e1,e2,e3]
         rfl
        have hname : (fn.name == "runtime.NumGoroutine") = false := by rw [c1]; rfl
        have hx:execOp a.eval (⟨od,.call { callee:=.value (.func f),args,argTypes },oty,opos,oaft,ogd⟩:Oper)=callFunc f (#[]++args.map a.eval ++ #[]):=by
         unfold execOp
         simp only [resolve,Sem.run_bind,Sem.run_pure,aV,invoke]
         rfl
        obtain⟨cv,w',g',r1,r2⟩:=hst
        refine⟨cv,w',g',.inl ?_,r2⟩
        rw [hx,run_callFunc_extern hfn hname c2 c3 hfind]
        simp only [Array.empty_append,Array.append_empty,hcx,r1,Result.andThen]
       ·cases hc
      ·cases hc
    ·cases hc
   ·cases hc
  case h_3 cal b =>
   unfold jL at hc
   split at hc
   case h_2 =>
    split at hc
    ·rename_i t xT xa xb ht hxT hx
     have hargs:args.toList.map a.eval=(args.map a.eval).toList:=by simp
     have hv:=jR he hx
     rw [hargs] at hv
     have h1 : ∃ cx cy,args.map a.eval = #[cx,cy]∧VR g σ.toks w (xa.ev e) cx∧VR g σ.toks w (xb.ev e) cy:=by
      match hm:(args.map a.eval).toList,hv with
      | [cx,cy],hv=>exact⟨cx,cy,by apply Array.ext'; simpa using hm,hv.1,hv.2.1⟩
      | [],hv=>exact hv.elim
      | [_],hv=>exact hv.2.elim
      | _::_::_::_,hv=>exact hv.2.2.elim
     obtain⟨cx,cy,hcx,hvr,hvr'⟩:=h1
     split at hc
     ·rename_i el hu
      split at hc
      ·rename_i el' hu'
       split at hc
       ·rename_i hg
        simp only [aN.injEq,Ins.e.injEq] at hc
        obtain⟨rfl,rfl⟩:=hc
        simp only [dM] at h
        split at h
        ·rename_i ys hys
         refine⟨rfl,iW rfl (s:=bD #[t,xT] oty #[cx,cy]) (fun _=>by rw [hcx]; simp only [Go.builtin]; rw [lJ ht hxT]) ?_⟩
         have hpos:0<P.cellsOf el:=by
          obtain⟨_,_,_,_,_,_,h0,_⟩:=jC hg
          omega
         by_cases hfit:kV (P.cellsOf el) ys=true
         ·obtain⟨news,hn⟩:=qH (P:=P) (oW hs hvr' hys) hpos hfit
          exact yK hs hu hg hu' (fun k=>by simp) hvr (fun _=>hn) h
         ·unfold jE at h
          simp [hfit] at h
        ·cases h
       ·cases hc
      ·rename_i hu'
       split at hc
       ·rename_i hg
        simp only [aN.injEq,Ins.e.injEq] at hc
        obtain⟨rfl,rfl⟩:=hc
        simp only [dM] at h
        split at h
        ·rename_i l hl
         refine⟨rfl,iW rfl (s:=bD #[t,xT] oty #[cx,cy]) (fun _=>by rw [hcx]; simp only [Go.builtin]; rw [lJ ht hxT]) ?_⟩
         rw [hl] at hvr'
         cases hvr'.inv_d
         obtain⟨news,hn⟩:=aEV (P:=P) (w:=w) (f:=g.frz) l
         have:=yK (t:=t) (xT:=xT) (ty:=oty) (cx:=.string ⟨l.toArray⟩) (news:=news) (ys:=cC l) hs hu hg.1 hu' (fun k=>by simp) hvr (fun _=>by rw [hg.2.1]; exact hn) (tg:=tg) (v:=v) (σ':=σ') (by rw [hg.2.1,hg.2.2]; exact h)
         exact this
        ·cases h
       ·cases hc
      ·rename_i k0 hu'
       split at hc
       ·rename_i z hz
        split at hc
        ·cases hc
        ·rename_i hg
         simp only [Bool.not_eq_false] at hg
         simp only [aN.injEq,Ins.e.injEq] at hc
         obtain⟨rfl,rfl⟩:=hc
         simp only [dM] at h
         split at h
         ·rename_i k1 l hs0 hl0
          split at h
          ·rename_i hcnd
           obtain⟨rfl,h0,hb,h63,hpos⟩:=hcnd
           rw [hs0] at hvr
           rw [hl0] at hvr'
           cases hvr.inv_d
           cases hvr'.inv_int
           exact⟨rfl,iW rfl (s:=bD #[t,xT] oty #[.slice none 0 0,.int .i64 l]) (fun _=>by rw [hcx]; simp only [Go.builtin]; rw [lJ ht hxT]) (aCk hs hu hg hu' hz h0 hb h63 h)⟩
          ·cases h
         ·cases h
       ·cases hc
      ·cases hc
     ·cases hc
    ·cases hc
   case h_3 =>
    split at hc
    ·rename_i t xT xa xb ht hxT hx
     obtain⟨cx,cy,hcx,hvr,hvr'⟩:=aCX he hx
     split at hc
     ·rename_i el el' hu hu'
      split at hc
      ·cases hc
      ·rename_i hne
       simp only [aN.injEq,Ins.e.injEq] at hc
       obtain⟨rfl,rfl⟩:=hc
       simp only [dM] at h
       split at h
       ·rename_i ys hys
        refine⟨rfl,iW rfl (s:=Builtin.copy_ #[t,xT] oty #[cx,cy]) (fun _=>by rw [hcx]; simp only [Go.builtin]; rw [aFd (xT:=xT) ht]) ?_⟩
        exact aGG hs hu hne hvr hvr' hys h
       ·cases h
     ·cases hc
    ·cases hc
   case h_4 =>
    split at hc
    ·rename_i t xa ht hx
     obtain⟨cx,hcx,hvr⟩:=zW he hx
     split at hc
     ·rename_i el hu
      split at hc
      ·rename_i z hz
       split at hc
       ·cases hc
       ·rename_i hcnd
        simp only [not_or,Decidable.not_not,ne_eq] at hcnd
        simp only [aN.injEq,Ins.e.injEq] at hc
        obtain⟨rfl,rfl⟩:=hc
        simp only [dM] at h
        refine⟨rfl,iW rfl (s:=Builtin.clear_ #[t] oty #[cx]) (fun _=>by rw [hcx]; simp only [Go.builtin]; rw [aDH ht]) ?_⟩
        exact aE9 hs hu hz hcnd.2 (by omega) hvr h
      ·cases hc
     ·cases hc
    ·cases hc
   case h_7 =>
    split at hc
    ·rename_i t xa xb ht hx
     obtain⟨cx,cy,hcx,hvr,hvr'⟩:=aCX he hx
     split at hc
     ·rename_i ka ks hm
      simp only [aN.injEq,Ins.e.injEq] at hc
      obtain⟨rfl,rfl⟩:=hc
      simp only [dM] at h
      refine⟨rfl,iW rfl (s:=Builtin.delete_ argTypes oty #[cx,cy]) (fun _=>by rw [hcx]; simp only [Go.builtin]) ?_⟩
      exact aDJ hs hm hvr hvr' h ht oty
     ·cases hc
    ·cases hc
   all_goals (exfalso; (repeat' (split at hc)) <;> first | (cases hc; done) | (simp only [aN.injEq,Ins.e.injEq] at hc; obtain⟨rfl,rfl⟩:=hc; simp [dM] at h; done) | (simp at hc; done))
  all_goals (exfalso; (repeat' (split at hc)) <;> first | (cases hc; done) | (simp only [aN.injEq,Ins.e.injEq] at hc; obtain⟨rfl,rfl⟩:=hc; simp [dM] at h; done) | (simp at hc; done))
 case makeSlice t xl xc =>
  split at hc
  ·rename_i el hu
   split at hc
   ·rename_i z xl' xc' hz hxl hxc
    split at hc
    ·cases hc
    ·rename_i hg
     simp only [Bool.not_eq_false] at hg
     simp only [aN.injEq,Ins.e.injEq] at hc
     obtain⟨rfl,rfl⟩:=hc
     simp only [dM] at h
     split at h
     ·rename_i k l k' c hl hcc
      split at h
      ·rename_i hcnd
       obtain⟨rfl,rfl,h0,h1,hb,h63,hpos⟩:=hcnd
       have rl:=rel hxl
       have rc:=rel hxc
       rw [hl] at rl
       rw [hcc] at rc
       have e1:=rl.inv_int
       have e2:=rc.inv_int
       refine⟨rfl,?_⟩
       have:=(aAD (P:=P) hs hu hg hz h0 h1 hb h63 h).next
       simpa [execOp,e1,e2] using this
      ·cases h
     ·cases h
   ·cases hc
  ·cases hc
 case makeMap t r =>
  cases r with
  | none =>
   simp only [aN.injEq,Ins.e.injEq] at hc
   obtain⟨rfl,rfl⟩:=hc
   simp only [dM] at h
   exact⟨rfl,(aCQ hs h).next⟩
  | some x=>cases hc
 case range t x =>
  split at hc
  ·rename_i kt et a' hu hx
   simp only [aN.injEq,Ins.e.injEq] at hc
   obtain⟨rfl,rfl⟩:=hc
   simp only [dM] at h
   exact⟨rfl,(aFE hs hu (rel hx) h).next⟩
  ·cases hc
 case entry x =>
  split at hc
  ·rename_i a' hx
   simp only [aN.injEq,Ins.e.injEq] at hc
   obtain⟨rfl,rfl⟩:=hc
   simp only [dM] at h
   split at h
   ·rename_i v' hv
    cases h
    exact⟨rfl,(aFe hs (rel hx) hv).next⟩
   ·cases h
  ·cases hc
 case mapUpdate t m k x =>
  split at hc
  ·rename_i ka ks m' k' x' hm hxs
   simp only [aN.injEq,Ins.e.injEq] at hc
   obtain⟨rfl,rfl⟩:=hc
   simp only [dM] at h
   have hv:=jR he hxs
   simp only [aI,aM] at hv
   obtain⟨v1,v2,v3,_⟩:=hv
   obtain⟨rfl,w',r1,r2,r3⟩:=aEd hs hm v1 v2 v3 h
   exact⟨rfl,undef,w',g,.inr ⟨by simp [execOp,Sem.run_bind,r1],rfl⟩,r2,.gone,r3⟩
  ·cases hc
 all_goals (exfalso; (repeat' (split at hc)) <;> first | (cases hc; done) | (simp only [aN.injEq,Ins.e.injEq] at hc; obtain⟨rfl,rfl⟩:=hc; simp [dM] at h; done) | (simp at hc; done))

end Go.Dn

/- make, into memory that is not written any more. -/
namespace Go.Dn
open Go.Lib Go.RowKit

variable {P:Program} {g:Gh} {σ:St} {w:World}

theorem zR (hs:Sim g σ w){t e:TypeId}(ht:P.underlying t=some (.slice e))(hg:lV P e=true){z:List D}(hz:kN P e=some z){l:Int}(h0:0≤l)(hb:l*P.bytesOf e≤140737488355328)(hc:l≤9223372036854775807) :
  EStep P g σ w (Instr.makeSlice t (.int .i64 l) (.int .i64 l)) (.fl (gJ (P.cellsOf e) l.toNat (qY l.toNat z))) σ:=by
 obtain⟨i,zv,hi,hzv,hisz,hiby,hcell,hzs,hz1⟩:=jC hg
 obtain⟨i',zv',hi',hzv',hleaf⟩:=kD hz
 rw [hi] at hi'; cases hi'
 rw [hzv] at hzv'; cases hzv'
 obtain⟨z1,z2⟩:=kT (g:=g) (tk:=σ.toks) (w:=w) hleaf
 have hzl:z.length=P.cellsOf e:=by have:=z1.length; simp at this; rw [this]; exact hzs
 have hpos:0<z.length:=by omega
 have w1:aJ.wrap l=l:=by simp only [IntKind.wrap,IntKind.signed,IntKind.bits]; simp; omega
 have hcn:(l.toNat:Int)=l:=Int.toNat_of_nonneg (by omega)
 have hprod:((l.toNat*i.bytes:Nat):Int)=l*i.bytes:=by rw [Int.natCast_mul,hcn]
 rw [← hiby] at hb
 have room:l.toNat*i.bytes≤140737488355328:=by omega
 have t1 : ¬ ((i.bytes:Int)*l>281474976710656):=by rw [Int.mul_comm]; omega
 obtain⟨r1,r2⟩:=oV (g:=g) (tk:=σ.toks) (w:=w) z1 z2 hpos l.toNat
 rw [← tO] at r1
 have hszz:zv.cells.size=z.length:=by rw [hzl]; exact hzs
 have hrl:(qY l.toNat z).length=l.toNat*P.cellsOf e:=by
  have:=congrArg List.length (tO l.toNat z)
  rw [aQ,kO,hzl] at this
  exact this
 obtain⟨g',s1,s2,s3⟩:=zT hs (e:=e) hrl r1.of_d r2 (w':={ w with heap:=w.heap.push (.cells ((Array.range (l.toNat*z.length)).map (zv.cells[· % zv.cells.size]!)) e) }) ⟨rfl,rfl,rfl,rfl⟩
 refine⟨.slice (some ⟨w.heap.size,0,none⟩) l.toNat l.toNat,_,g',?_,s1,s2,s3⟩
 have e1 : ¬ (l<0):=by omega
 have e4 : ¬ (roomBytes<l.toNat*i.bytes):=by unfold roomBytes; omega
 have e5 : ¬ (281474976710656<(i.bytes:Int)*l):=by omega
 by_cases hn:l.toNat*i.size=0
 ·have hc0:l.toNat*z.length=0:=by rw [hzl,← hisz]; exact hn
  simp [Instr.makeSlice,run_underlying ht,asInt,asIntOf,typeInfo,hi,w1,e1,e4,e5,sizeOf,hn,newRow,askRoom,hc0]
  have e0:Array.range 0 = #[]:=rfl
  simp only [e0,Array.map_empty]
 ·simp [Instr.makeSlice,run_underlying ht,asInt,asIntOf,typeInfo,hi,w1,e1,e4,e5,sizeOf,hn,iX hi hzv,newRow,askRoom]
  rw [hisz,hzl]

end Go.Dn

/- append, its other way. -/
namespace Go.Dn
open Go.Lib

variable {P:Program} {g:Gh} {σ:St} {w:World}

theorem aAU (hs:Sim g σ w){n:Nat}{e:Env}{a:Act}(he:EnvR g σ.toks w n e a.tmps){o:Oper}{dst:Option Nat}{op:EOp}(hc:jV P o=some (.e dst op)){v:V}{tg:Option Nat} {σ':St}(h:iB op e σ tg=some (v,σ')) :
  dst=o.dst∧aEm P g σ w (execOp a.eval o) v σ':=by
 have rel : ∀ {x:Operand} {x':Opd},iF x=some x'→VR g σ.toks w (x'.ev e) (a.eval x):=fun hx=>nK hx he
 obtain⟨od,oop,oty,opos,oaft,ogd⟩:=o
 cases oop <;> simp only [jV] at hc
 case call c =>
  obtain⟨callee,args,argTypes⟩:=c
  simp only [jZ] at hc
  split at hc
  case h_3 cal b =>
   unfold jL at hc
   split at hc
   case h_2 =>
    split at hc
    ·rename_i t xT xa xb ht hxT hx
     have hargs:args.toList.map a.eval=(args.map a.eval).toList:=by simp
     have hv:=jR he hx
     rw [hargs] at hv
     have h1 : ∃ cx cy,args.map a.eval = #[cx,cy]∧VR g σ.toks w (xa.ev e) cx∧VR g σ.toks w (xb.ev e) cy:=by
      match hm:(args.map a.eval).toList,hv with
      | [cx,cy],hv=>exact⟨cx,cy,by apply Array.ext'; simpa using hm,hv.1,hv.2.1⟩
      | [],hv=>exact hv.elim
      | [_],hv=>exact hv.2.elim
      | _::_::_::_,hv=>exact hv.2.2.elim
     obtain⟨cx,cy,hcx,hvr,hvr'⟩:=h1
     split at hc
     ·rename_i el hu
      split at hc
      ·rename_i el' hu'
       split at hc
       ·rename_i hg
        simp only [aN.injEq,Ins.e.injEq] at hc
        obtain⟨rfl,rfl⟩:=hc
        simp only [iB] at h
        split at h
        ·rename_i ys hys
         refine⟨rfl,iW rfl (s:=bD #[t,xT] oty #[cx,cy]) (fun _=>by rw [hcx]; simp only [Go.builtin]; rw [lJ ht hxT]) ?_⟩
         have hpos:0<P.cellsOf el:=by
          obtain⟨_,_,_,_,_,_,h0,_⟩:=jC hg
          omega
         by_cases hfit:kV (P.cellsOf el) ys=true
         ·obtain⟨news,hn⟩:=qH (P:=P) (oW hs hvr' hys) hpos hfit
          obtain⟨ti,_,hti,_,hts,_⟩:=jC hg
          exact rF hs hu hg hti hvr (fun _=>Src.app hu hti hu' (fun k=>by simp) (by rw [hts]; exact hn)) h
         ·unfold kQ at h
          simp [hfit] at h
        ·exact⟨rfl,iW rfl (s:=bD #[t,xT] oty #[cx,cy]) (fun _=>by rw [hcx]; simp only [Go.builtin]; rw [lJ ht hxT]) (aCj hs hu hg hu' (fun k=>by simp) hvr hvr' h)⟩
       ·cases hc
      ·rename_i hu'
       split at hc
       ·rename_i hg
        simp only [aN.injEq,Ins.e.injEq] at hc
        obtain⟨rfl,rfl⟩:=hc
        simp only [iB] at h
        split at h
        ·rename_i l hl
         refine⟨rfl,iW rfl (s:=bD #[t,xT] oty #[cx,cy]) (fun _=>by rw [hcx]; simp only [Go.builtin]; rw [lJ ht hxT]) ?_⟩
         rw [hl] at hvr'
         cases hvr'.inv_d
         obtain⟨news,hn⟩:=aEV (P:=P) (w:=w) (f:=g.frz) l
         obtain⟨ti,_,hti,_,hts,_⟩:=jC hg.1
         have:=rF (t:=t) (xT:=xT) (ty:=oty) (cx:=.string ⟨l.toArray⟩) (news:=news) (ys:=cC l) hs hu hg.1 hti hvr (fun _=>Src.app hu hti hu' (fun k=>by simp) (by rw [hts,hg.2.1]; exact hn)) (tg:=tg) (v:=v) (σ':=σ') (by rw [hg.2.1,hg.2.2]; exact h)
         exact this
        ·cases h
       ·cases hc
      ·rename_i k0 hu'
       split at hc
       ·rename_i z hz
        split at hc
        ·cases hc
        ·rename_i hg
         simp only [Bool.not_eq_false] at hg
         simp only [aN.injEq,Ins.e.injEq] at hc
         obtain⟨rfl,rfl⟩:=hc
         simp only [iB] at h
         split at h
         ·rename_i k1 l hl0
          split at h
          ·rename_i hcnd
           obtain⟨rfl,h0,hlen⟩:=hcnd
           rw [hl0] at hvr'
           cases hvr'.inv_int
           exact⟨rfl,iW rfl (s:=bD #[t,xT] oty #[cx,.int .i64 l]) (fun _=>by rw [hcx]; simp only [Go.builtin]; rw [lJ ht hxT]) (aBu hs hu hg hu' hz hvr (by obtain⟨n,hn⟩:=Option.isSome_iff_exists.1 hlen; obtain⟨a,c,h1,h2⟩:=sW hs hvr hn; exact⟨a,n,c,h1,h2⟩) h0 h)⟩
          ·cases h
         ·cases h
       ·cases hc
      ·cases hc
     ·cases hc
    ·cases hc
   all_goals (exfalso; (repeat' (split at hc)) <;> first | (cases hc; done) | (simp only [aN.injEq,Ins.e.injEq] at hc; obtain⟨rfl,rfl⟩:=hc; simp [iB] at h; done) | (simp at hc; done))
  all_goals (exfalso; (repeat' (split at hc)) <;> first | (cases hc; done) | (simp only [aN.injEq,Ins.e.injEq] at hc; obtain⟨rfl,rfl⟩:=hc; simp [iB] at h; done) | (simp at hc; done))
 case makeSlice t xl xc =>
  split at hc
  ·rename_i el hu
   split at hc
   ·rename_i z xl' xc' hz hxl hxc
    split at hc
    ·cases hc
    ·rename_i hg
     simp only [Bool.not_eq_false] at hg
     simp only [aN.injEq,Ins.e.injEq] at hc
     obtain⟨rfl,rfl⟩:=hc
     simp only [iB] at h
     split at h
     ·rename_i k l k' c hl hcc
      split at h
      ·rename_i hcnd
       obtain⟨rfl,rfl,h0,rfl,hb,h63⟩:=hcnd
       cases h
       have rl:=rel hxl
       have rc:=rel hxc
       rw [hl] at rl
       rw [hcc] at rc
       have e1:=rl.inv_int
       have e2:=rc.inv_int
       refine⟨rfl,?_⟩
       have:=(zR (P:=P) hs hu hg hz h0 hb h63).next
       simpa [execOp,e1,e2] using this
      ·cases h
     ·cases h
   ·cases hc
  ·cases hc
 case makeMap t r =>
  cases r with
  | none =>
   simp only [aN.injEq,Ins.e.injEq] at hc
   obtain⟨rfl,rfl⟩:=hc
   simp [iB] at h
  | some x=>cases hc
 all_goals (exfalso; (repeat' (split at hc)) <;> first | (cases hc; done) | (simp only [aN.injEq,Ins.e.injEq] at hc; obtain⟨rfl,rfl⟩:=hc; simp [iB] at h; done) | (simp at hc; done))

end Go.Dn

/- Calls: by value, and as it stands. -/
namespace Go.Dn
open Go.Lib

variable {P:Program} {g:Gh} {σ:St} {tk:List Nat} {w:World}

def Gh.bare (P:Program)(f:Nat→Nat→Prop):Gh:={ has:=fun _=>False,obj:=fun _=>(0,0),len:=fun _=>0,lim:=fun _=>0,tok:=fun _=>⟨0,0,0,0,0⟩,frz:=f,prog:=P }

theorem Sim.bare {f:Nat→Nat→Prop}(hf : ∀ b q,f b q→∃ v,w.cell? ⟨b,q,none⟩=some v):Sim (Gh.bare P f) St.empty w where
 has:=fun r o h=>by simp [St.empty] at h
 bound:=fun r h=>h.elim
 free:=fun r h=>by simp [St.empty] at h
 cells:=fun r cs h=>by simp [St.empty] at h
 oth:=fun r o h=>by simp [St.empty] at h
 dist:=fun r r' o o' h=>by simp [St.empty] at h
 nofrz:=fun r o h=>by simp [St.empty] at h
 tok:=fun t k h=>by simp [St.empty] at h
 tdist:=fun t t' k k' h=>by simp [St.empty] at h
 tobj:=fun t k r o h=>by simp [St.empty] at h
 frzb:=hf
 lims:=fun r cs h=>by simp [St.empty] at h

theorem mP {b:Nat}(h:rE g St.empty b):False:=by
 rcases h with⟨r,o,h,_⟩ | ⟨t,k,h,_⟩ <;> simp [St.empty] at h

theorem Sim.away (hs:Sim g σ w){w':World}{f':Nat→Nat→Prop}(hheap : ∀ b,b<w.heap.size→w'.heap[b]?=w.heap[b]?)(hsz:w.heap.size≤w'.heap.size)(hsub : ∀ b q,g.frz b q→f' b q)
  (hnew : ∀ b q,f' b q→g.frz b q∨w.heap.size≤b) (hcell : ∀ b q,f' b q→∃ v,w'.cell? ⟨b,q,none⟩=some v) (hos:w'.os=w.os) (htape:w'.tape=w.tape) (hout:w'.output=w.output) :
  Sim { g with frz:=f' } σ w'∧Ev g σ w { g with frz:=f' } σ w':=by
 have lt : ∀ {b:Nat} {o:Go.Obj},w.heap[b]?=some o→b<w.heap.size:=fun h=>(bW.1 h).1
 have hst:Stay g.frz f' w w':=⟨hsub,fun b q h=>by
  obtain⟨v,hv⟩:=hs.frzb b q h
  have hb:=nG hv
  unfold World.cell?
  rw [hheap b hb]⟩
 have hl:Later g σ.toks w { g with frz:=f' } σ.toks w':=⟨hst,fun r h=>⟨h,rfl,rfl⟩,fun t k h=>⟨k,h,bB _,fun _=>rfl,rfl⟩,rfl,fun _ _=>rfl⟩
 refine⟨⟨hs.has,hs.bound,hs.free,fun r cs h=>?_,fun r o h ho=>?_,hs.dist,fun r o h ho q hq=>?_,fun t k h=>?_,hs.tdist,hs.tobj,hcell,fun r cs h=>⟨(hs.lims r cs h).1,fun c e fz hb=>(hs.lims r cs h).2 c e fz (by rw [← hheap _ (hs.blk h trivial)]; exact hb)⟩⟩,⟨hl,hsz,hos,htape,hout,fun b hb _=>hheap b hb,fun b h=>.inl h,fun b q h=>(hnew b q h).imp id fun h=>.inr h⟩⟩
 ·obtain⟨h1,c,e,fz,h2,h3,h4⟩:=hs.cells r cs h
  refine⟨h1,c,e,fz,by rw [hheap _ (lt h2)]; exact h2,h3,fun j v hj=>?_⟩
  obtain⟨cv,a1,a2,a3⟩:=h4 j v hj
  exact⟨cv,a1,a2,a3.later hl⟩
 ·obtain⟨x,a1,a2⟩:=hs.oth r o h ho
  exact⟨x,by rw [hheap _ (lt a1)]; exact a1,a2.later hl⟩
 ·rcases hnew _ q hq with h1 | h1
  ·exact hs.nofrz r o h ho q h1
  ·have:=hs.blk h ho
   simp only at h1
   omega
 ·obtain⟨h1,c,e,fz,h2,h3,h4,h5⟩:=hs.tok t k h
  refine⟨h1,c,e,fz,by rw [hheap _ (lt h2)]; exact h2,h3,h4,fun q hq hf=>?_⟩
  rcases hnew _ q hf with h6 | h6
  ·exact h5 q hq h6
  ·have:=lt h2
   simp only at h6
   omega

theorem Sim.drawn (hs:Sim g σ w)(n:Nat):Sim g σ { w with drawn:=n }∧Ev g σ w g σ { w with drawn:=n } :=
 hs.away (f':=g.frz) (fun _ _=>rfl) (bB _) (fun _ _ h=>h) (fun _ _ h=>.inl h) (fun b q h=>hs.frzb b q h) rfl rfl rfl

theorem DR.scalar {f f':Nat→Nat→Prop}{w':World}{d:D}{v:Value}(h:DR f w d v)(hd:d.scalar=true):DR f' w' d v:=by
 cases h with
 | int k n=>exact .int k n
 | bool b=>exact .bool b
 | str l=>exact .str l
 | nilp=>exact .nilp
 | nils=>exact .nils
 | nilm=>exact .nilm
 | nilf=>exact .nilf
 | nili=>exact .nili
 | iface t d v h =>
  cases h with
  | int k n=>exact .iface t _ _ (.int k n)
  | _=>simp [D.scalar] at hd
 | list=>simp [D.scalar] at hd
 | list0=>simp [D.scalar] at hd
 | agg=>simp [D.scalar] at hd

theorem VR.of_scalar {g':Gh}{tk':List Nat}{w':World}{v:V}{x:Value}(h:VR g tk w v x)(hv:v.scalar=true):VR g' tk' w' v x:=by
 cases h with
 | d x v h h1=>exact .d _ _ (h.scalar hv) h1
 | da cs vs h =>
  cases h with
  | agg _ _ hl h1 h =>
   refine .da cs vs (.agg cs vs hl h1 fun i d v hd hx=>(h i d v hd hx).scalar ?_)
   simp only [V.scalar,List.all_eq_true] at hv
   exact hv d (aL hd)
 | _=>simp [V.scalar] at hv

theorem VR.of_scalars {g':Gh}{tk':List Nat}{w':World}{v:V}{x:Value}(h:VR g tk w v x)(hv:v.scalars=true):VR g' tk' w' v x:=by
 cases h with
 | tup cs vs hl h =>
  simp only [V.scalars,List.all_eq_true] at hv
  exact .tup cs vs hl fun i c v hc hx=>(h i c v hc hx).of_scalar (hv c (aL hc))
 | d _ _ h h1=>exact VR.of_scalar (tk:=tk) (.d _ _ h h1) hv
 | da _ _ h=>exact VR.of_scalar (tk:=tk) (.da _ _ h) hv
 | _=>simp [V.scalars,V.scalar] at hv

theorem VR.of_flatv {g':Gh}{tk':List Nat}{v:V}{x:Value}(h:VR g tk w v x)(hv:v.flatv=true)(hf:g'.frz=g.frz):VR g' tk' w v x:=by
 cases h with
 | d x v h h1=>exact .d _ _ (by rw [hf]; exact h) h1
 | da cs vs h=>exact .da _ _ (by rw [hf]; exact h)
 | _=>simp [V.flatv] at hv

theorem VR.of_pure {g':Gh}{tk':List Nat}{v:V}{x:Value}(h:VR g tk w v x)(hv:v.pure=true)(hf:g'.frz=g.frz):VR g' tk' w v x:=by
 cases h with
 | tup cs vs hl h =>
  simp only [V.pure,List.all_eq_true] at hv
  exact .tup cs vs hl fun i c v hc hx=>(h i c v hc hx).of_flatv (hv c (aL hc)) hf
 | d _ _ h h1=>exact VR.of_flatv (tk:=tk) (.d _ _ h h1) rfl hf
 | da _ _ h=>exact VR.of_flatv (tk:=tk) (.da _ _ h) rfl hf
 | _=>simp [V.pure] at hv

def aCh (g:Gh):V→Nat→Nat→Prop
 | .sl r off len sz,b,q=>b=(g.obj r).1∧(g.obj r).2+off≤q∧q<(g.obj r).2+off+len*sz
 | _,_,_=>False
def xO (g:Gh):V→Nat→Nat→Prop
 | .agg cs,b,q=>∃ c∈cs,aCh g c b q
 | .sl r off len sz,b,q=>aCh g (.sl r off len sz) b q
 | _,_,_=>False

theorem pC : ∀ {cs:List V} {l:List D},jY σ cs=some l→cs.length=l.length∧∀ (i:Nat) (c:V),cs[i]?=some c→∃ y,l[i]?=some y∧c.byVal1 σ=some y
 | [],l,h=>by simp [jY] at h; subst h; exact⟨rfl,by simp⟩
 | c::cs,l,h=>by
  simp only [jY] at h
  split at h
  ·rename_i y l' hy hl
   cases h
   obtain⟨a,b⟩:=pC hl
   refine⟨by simp [a],fun i c' hc=>?_⟩
   cases i with
   | zero=>simp at hc; subst hc; exact⟨y,rfl,hy⟩
   | succ i=>simp at hc; exact b i c' hc
  ·cases h

theorem zL (hs:Sim g σ w){x:V}{y:D}{cx:Value}(hx:VR g σ.toks w x cx)(h:x.byVal1 σ=some y){b q:Nat}(hl:aCh g x b q) : ∃ v,w.cell? ⟨b,q,none⟩=some v:=by
 cases x with
 | sl r off len sz =>
  obtain⟨rfl,h1,h2⟩:=hl
  simp only [V.byVal1,V.rows] at h
  split at h
  ·rename_i rows hr
   split at hr
   ·rename_i cs hobj
    cases hx with
    | sl _ _ _ _ cap a hh hcap hsz hin hout ha hsp =>
     have hlen:=(hs.cells r cs hobj).1
     obtain⟨vs,v1,v2,v3,v4⟩:=hs.stretch hobj off (len*sz) (by omega)
     have:=v2 (q-((g.obj r).2+off)) (by omega)
     rw [show(g.obj r).2+off+(q-((g.obj r).2+off))=q by omega] at this
     exact⟨vs[q-((g.obj r).2+off)]'(by omega),by rw [this]; simp [show q-((g.obj r).2+off)<vs.length by omega]⟩
   ·cases hr
  ·cases h
 | _=>exact hl.elim

theorem aCp {r off len sz:Nat}{y:V}(h:V.byVal σ (.sl r off len sz)=some y) : ∃ d,y = .d d∧V.byVal1 σ (.sl r off len sz)=some d:=by
 simp only [V.byVal] at h
 split at h
 ·rename_i rows hr
  cases h
  exact⟨_,rfl,by simp only [V.byVal1]; rw [hr]⟩
 ·cases h

theorem aA6 (hs:Sim g σ w){x y:V}{cx:Value}(hx:VR g σ.toks w x cx)(h:x.byVal σ=some y){b q:Nat}(hl:xO g x b q) : ∃ v,w.cell? ⟨b,q,none⟩=some v:=by
 cases x with
 | sl r off len sz =>
  obtain⟨d,-,h2⟩:=aCp h
  exact zL hs hx h2 hl
 | agg cs =>
  obtain⟨c,hc,hl⟩:=hl
  simp only [V.byVal] at h
  split at h
  ·rename_i l hb
   obtain⟨i,hi⟩:=bQ hc
   obtain⟨y',-,hy⟩:=(pC hb).2 i c hi
   cases hx with
   | agg _ vs hl2 h1 hh =>
    have hil:i<vs.size:=by rw [← hl2]; exact(aB.1 hi).1
    exact zL hs (hh i c vs[i] hi (by simp [hil])) hy hl
  ·cases h
 | _=>exact hl.elim

theorem yM (hs:Sim g σ w){x:V}{y:D}{cx:Value}(hx:VR g σ.toks w x cx)(h:x.byVal1 σ=some y){f:Nat→Nat→Prop}(hf : ∀ b q,g.frz b q→f b q)(hl : ∀ b q,aCh g x b q→f b q):DR f w y cx∧iE cx=true:=by
 have hst:Stay g.frz f w w:=⟨hf,fun _ _ _=>rfl⟩
 unfold V.byVal1 at h
 split at h
 ·cases h; cases hx with
  | d _ _ h h1=>exact⟨h.mono hst,h1⟩
 ·cases h; cases hx with
  | fl _ a h=>exact⟨h.mono hst,rfl⟩
 ·cases h; cases hx with
  | tl _ t st sz k a cap hd ht hle hh hsz ha=>exact⟨hd.mono hst,rfl⟩
 ·rename_i r off len sz
  split at h
  ·rename_i rows hr
   cases h
   rcases oW hs hx hr with⟨rfl,rfl⟩ | ⟨a,cap,sz',cv,rfl,hcap,hra⟩
   ·cases hx
   ·have hrl:rows.length=len:=by
     cases hx
     rfl
    cases hx with
    | sl _ _ _ _ _ _ hh hcap' hsz hin hout ha hsp =>
     obtain⟨ab,ao,asp⟩:=a
     simp only at hsp
     subst hsp
     refine⟨?_,rfl⟩
     have hmem : ∀ k,k<rows.length*sz'→f ab (ao+k):=fun k hk=>by
      have hpos:0<rows.length:=by
       rcases Nat.eq_zero_or_pos rows.length with h | h
       ·rw [h] at hk; simp at hk
       ·exact h
      obtain⟨row,hrow⟩ : ∃ row,rows[0]?=some row:=⟨rows[0],by simp [hpos]⟩
      have h1:=hra.hsz 0 row hrow
      have h2:row.length=sz:=by
       simp only [V.rows] at hr
       split at hr
       ·rename_i cs hobj
        split at hr
        ·rename_i l hofd
         simp only [aN.injEq] at hr
         rw [← hr,mC,if_pos hpos] at hrow
         cases hrow
         have hlen:cs.length=g.len r:=(hs.cells r cs hobj).1
         have hll:=congrArg List.length (lX hofd)
         simp at hll
         have:sz≤rows.length*sz:=Nat.le_mul_of_pos_left sz hpos
         simp
         omega
        ·cases hr
       ·cases hr
      have h3:sz'=sz:=by omega
      subst h3
      have h4:off<g.len r:=by rw [hrl] at hk; omega
      have h5:=ha h4
      simp only [Addr.mk.injEq] at h5
      obtain⟨rfl,rfl,_⟩:=h5
      exact hl _ _ ⟨rfl,by omega,by rw [hrl] at hk; omega⟩
     exact .list rows ab ao cap sz' cv hcap hra.hsz hmem (fun k hk=>by have:=hra.hc k hk; rw [iJ] at this; exact this) hra.h1 (fun i row j d h1 h2=>(hra.hd i row j d h1 h2).mono hst)
  ·cases h
 ·cases h

theorem aAN (hs:Sim g σ w){x y:V}{cx:Value}(hx:VR g σ.toks w x cx)(h:x.byVal σ=some y){f:Nat→Nat→Prop}(hf : ∀ b q,g.frz b q→f b q)(hl : ∀ b q,xO g x b q→f b q){g':Gh}(hg':g'.frz=f){tk:List Nat} :
  VR g' tk w y cx∧y.flatv=true:=by
 have hst:Stay g.frz f w w:=⟨hf,fun _ _ _=>rfl⟩
 unfold V.byVal at h
 split at h
 ·cases h; cases hx with
  | d _ _ h h1=>exact⟨.d _ _ (by rw [hg']; exact h.mono hst) h1,rfl⟩
 ·cases h; cases hx with
  | da _ _ h=>exact⟨.da _ _ (by rw [hg']; exact h.mono hst),rfl⟩
 ·cases h; cases hx with
  | fl _ a h=>exact⟨.d _ _ (by rw [hg']; exact h.mono hst) rfl,rfl⟩
 ·cases h; cases hx with
  | tl _ t st sz k a cap hd ht hle hh hsz ha=>exact⟨.d _ _ (by rw [hg']; exact hd.mono hst) rfl,rfl⟩
 ·rename_i r off len sz
  split at h
  ·rename_i rows hr
   cases h
   obtain⟨a,b⟩:=yM hs hx (y:=.list rows) (by simp only [V.byVal1]; rw [hr]) hf hl
   exact⟨.d _ _ (by rw [hg']; exact a) b,rfl⟩
  ·cases h
 ·rename_i cs
  split at h
  ·rename_i l hb
   cases h
   refine⟨?_,rfl⟩
   obtain⟨b1,b2⟩:=pC hb
   cases hx with
   | agg _ vs hl2 h1 hh =>
    have key : ∀ (i:Nat) (d:D) (v:Value),l[i]?=some d→vs[i]?=some v→DR f w d v:=fun i d v hd hv=>by
     have hi:i<cs.length:=by rw [b1]; exact(aB.1 hd).1
     obtain⟨c,hc⟩ : ∃ c,cs[i]?=some c:=⟨cs[i],by simp [hi]⟩
     obtain⟨y,hy,hc1⟩:=b2 i c hc
     rw [hd] at hy
     cases hy
     exact(yM hs (hh i c v hc hv) hc1 hf (fun b q h=>hl b q ⟨c,aL hc,h⟩)).1
    refine .da _ _ ?_
    rw [hg']
    exact .agg _ _ (by omega) h1 key
  ·cases h
 ·cases h

theorem qK (hs:Sim g σ w){f:Nat→Nat→Prop}(hf : ∀ b q,g.frz b q→f b q){g':Gh}(hg':g'.frz=f){tk:List Nat} : ∀ {xs ys:List V} {cxs:List Value},VRs g σ.toks w xs cxs→cN σ xs=some ys→(∀ x∈xs,∀ b q,xO g x b q→f b q) →
  VRs g' tk w ys cxs∧∀ y∈ys,y.flatv=true
 | [],ys,[],_,h,_=>by simp [cN] at h; subst h; exact⟨trivial,by simp⟩
 | x::xs,ys,c::cxs,hx,h,hl=>by
  simp only [cN] at h
  split at h
  ·rename_i y l hy hyl
   cases h
   obtain⟨a1,a2⟩:=aAN hs hx.1 hy hf (hl x (by simp)) hg' (tk:=tk)
   obtain⟨b1,b2⟩:=qK hs hf hg' (tk:=tk) hx.2 hyl (fun x hx=>hl x (by simp [hx]))
   exact⟨⟨a1,b1⟩,fun z hz=>by
    rcases bU.1 hz with h | h
    ·rw [h]; exact a2
    ·exact b2 z h⟩
  ·cases h
 | [],_,_::_,h,_,_=>h.elim
 | _::_,_,[],h,_,_=>h.elim

theorem qT (hs:Sim g σ w) : ∀ {xs ys:List V} {cxs:List Value},VRs g σ.toks w xs cxs→cN σ xs=some ys→∀ x∈xs,∀ b q,xO g x b q→∃ v,w.cell? ⟨b,q,none⟩=some v
 | [],_,_,_,_,x,hx=>by simp at hx
 | x::xs,ys,[],h,_,_,_=>h.elim
 | x::xs,ys,c::cxs,hx,h,z,hz=>by
  simp only [cN] at h
  split at h
  ·rename_i y l hy hyl
   rcases bU.1 hz with rfl | hz
   ·exact fun b q hl=>aA6 hs hx.1 hy hl
   ·exact qT hs hx.2 hyl z hz
  ·cases h

def RetV (R:Value→World→Prop):Ending→World→Prop
 | .returned v,w=>R v w
 | _,_=>False

def GoodF (P : Program) (f : Nat) : Prop := ∃ (fn : Func) (c : Code), P.funcs[f]? = some fn ∧ fn.body = some c ∧ (fn.name == "runtime.NumGoroutine") = false

theorem GoodF.run {f:Nat}(h:GoodF P f)(args:Array Value)(w:World):(callFunc f args).run P w = .ok (.enter f args) w:=by
 obtain⟨fn,c,h1,h2,h3⟩:=h
 have h4 : fn.name ≠ "runtime.NumGoroutine" := by simpa using h3
 simp [callFunc,h1,h4,h2]

def GlobR (l:List (Nat×List D))(g:Gh)(tk:List Nat)(w:World):Prop:=∀ (k:Nat) (cs:List D),(k,cs)∈l→VR g tk w (.ro cs) (.pointer (some ⟨k,0,none⟩))

theorem GlobR.later {l:List (Nat×List D)}{g g':Gh}{tk tk':List Nat}{w w':World}(hl:Later g tk w g' tk' w')(h:GlobR l g tk w):GlobR l g' tk' w':=fun k cs hk=>(h k cs hk).later hl

theorem GlobR.frz {l:List (Nat×List D)}{g g':Gh}{tk tk':List Nat}{w:World}(hf : ∀ b q,g.frz b q→g'.frz b q)(h:GlobR l g tk w):GlobR l g' tk' w:=fun k cs hk=>by
 have h:=h k cs hk
 cases h with
 | ro _ _ _ cv hf1 hc h1 hd=>exact .ro cs k 0 cv (fun k hk=>hf _ _ (hf1 k hk)) hc h1 (fun k d hk=>(hd k d hk).mono ⟨hf,fun _ _ _=>rfl⟩)

def SK (P:Program)(cx:Cx):iI:=fun m f vs σ Q =>
 match m with
 | .raw=>GoodF P f∧∀ (g:Gh) (w:World) (args:Array Value),g.prog=P→GlobR cx.globs g σ.toks w→Sim g σ w→VRs g σ.toks w vs args.toList →
  Calls P f args w (RetV fun v w'=>∃ g' x σ',Q x σ'∧Sim g' σ' w'∧VR g' σ'.toks w' x v∧Ev g σ w g' σ' w')
 | .rd=>GoodF P f∧∀ (g:Gh) (w:World) (args:Array Value),g.prog=P→GlobR cx.globs g σ.toks w→Sim g σ w→VRs g σ.toks w vs args.toList →
  Calls P f args w (RetV fun v w'=>∃ g' x σ',Q x σ'∧Sim g' σ w'∧VR g' σ.toks w' x v∧Ev g σ w g' σ w')
 | .val=>GoodF P f∧∀ (g:Gh) (w:World) (args:Array Value),g.prog=P→GlobR cx.globs g σ.toks w→Sim g σ w→VRs g σ.toks w vs args.toList →
  σ=St.empty→Calls P f args w (RetV fun v w'=>∃ f' x σ',Q x σ'∧(∀ b q,f' b q→∃ u,w'.cell? ⟨b,q,none⟩=some u)∧VR (Gh.bare P f') [] w' x v∧Ev g σ w (Gh.bare P f') St.empty w')
 | .rnd=>∀ (g:Gh) (w:World) (args:Array Value),g.prog=P→GlobR cx.globs g σ.toks w→Sim g σ w→VRs g σ.toks w vs args.toList →
  ∃ l:Loop,w.heap[(g.obj f).1]?=some (.loop l)∧args.size=l.params.size ∧
   RoundIn Fence.wide 0 P (g.obj f).1 l.fn ((l.params.zip args).foldl (fun tmps (t,a)=>tmps.setIfInBounds t a) l.tmps) l.assign l.body w (RetV fun v w'=>∃ g' x σ',Q x σ'∧Sim g' σ' w'∧VR g' σ'.toks w' x v∧Ev g σ w g' σ' w')

theorem RetV.mono {R R':Value→World→Prop}(h : ∀ v w,R v w→R' v w) : ∀ e w,RetV R e w→RetV R' e w:=fun e w hr=>by
 cases e with
 | returned v=>exact h _ _ hr
 | panicked c=>exact hr.elim
 | outgrown=>exact hr.elim

def Gh.lend (g:Gh)(v:V):Gh:={ g with frz:=fun b q=>g.frz b q∨xO g v b q }

theorem Sim.thaw1 (hs:Sim g σ w){r off len sz:Nat}{c:Value}(hv:VR g σ.toks w (.sl r off len sz) c){rows:List (List D)}(h:V.rows σ (.sl r off len sz)=some rows) :
  Sim (g.lend (.sl r off len sz)) (σ.setObj r .dead) w∧Ev g σ w (g.lend (.sl r off len sz)) (σ.setObj r .dead) w∧VR (g.lend (.sl r off len sz)) σ.toks w (.d (.list rows)) c:=by
 have hby:V.byVal σ (.sl r off len sz)=some (.d (.list rows)):=by simp only [V.byVal,h]
 obtain⟨hvr,-⟩:=aAN hs hv hby (f:=(g.lend (.sl r off len sz)).frz) (fun b q h=>.inl h) (fun b q h=>.inr h) (g':=g.lend (.sl r off len sz)) rfl (tk:=σ.toks)
 have hobj : ∃ cs,σ.objs[r]?=some (.cells cs):=by
  simp only [V.rows] at h
  split at h
  ·rename_i cs hcs; exact⟨cs,hcs⟩
  ·cases h
 obtain⟨cs,hobj⟩:=hobj
 obtain⟨d1,d2,dlive⟩:=hs.drop hobj (by simp)
 have hl:Later g σ.toks w (g.lend (.sl r off len sz)) σ.toks w:=⟨⟨fun b q h=>.inl h,fun _ _ _=>rfl⟩,fun r hr=>⟨hr,rfl,rfl⟩,fun t k ht=>⟨k,ht,bB _,fun _=>rfl,rfl⟩,rfl,fun _ _=>rfl⟩
 have hcell : ∀ b q,xO g (.sl r off len sz) b q→∃ v,w.cell? ⟨b,q,none⟩=some v:=fun b q hq=>aA6 hs hv hby hq
 refine⟨⟨d1.has,d1.bound,d1.free,fun q cs' hq=>?_,fun q o hq ho=>?_,d1.dist,fun q o hq ho p hp=>?_,fun t k ht=>?_,d1.tdist,d1.tobj,fun b q hf=>?_,d1.lims⟩,⟨hl,bB _,rfl,rfl,rfl,fun _ _ _=>rfl,fun b hb=>?_,fun b q hf=>?_⟩,hvr⟩
 ·obtain⟨h1,c',e',fz',h2,h3,h4⟩:=d1.cells q cs' hq
  exact⟨h1,c',e',fz',h2,h3,fun j v hj=>by
   obtain⟨cv,a1,a2,a3⟩:=h4 j v hj
   exact⟨cv,a1,a2,a3.later hl⟩⟩
 ·obtain⟨ho',h1,h2⟩:=d1.oth q o hq ho
  exact⟨ho',h1,h2.later hl⟩
 ·rcases hp with hp | ⟨hb,_,_⟩
  ·exact d1.nofrz q o hq ho p hp
  ·obtain⟨hne,hq'⟩:=dlive q o hq ho
   exact hs.dist q r o _ hq' ho hobj trivial hne hb
 ·obtain⟨h1,c',e',fz',h2,h3,h4,h5⟩:=d1.tok t k ht
  refine⟨h1,c',e',fz',h2,h3,h4,fun q hq hf=>?_⟩
  rcases hf with hf | ⟨hb,_,_⟩
  ·exact h5 q hq hf
  ·exact hs.tobj t k r _ ht hobj trivial hb
 ·rcases hf with hf | hf
  ·exact hs.frzb b q hf
  ·exact hcell b q hf
 ·rcases hb with⟨q,o',h1,h2,h3⟩ | h
  ·exact .inl (.inl ⟨q,o',(dlive q o' h1 h2).2,h2,h3⟩)
  ·exact .inl (.inr h)
 ·rcases hf with hf | ⟨hb,_,_⟩
  ·exact .inl hf
  ·exact .inr (.inl (.inl ⟨r,_,hobj,trivial,hb.symm⟩))

theorem tU {cx:Cx}{f:Nat}{vs:List V}{Q:jD}(h:tF (SK P cx) cx f vs σ Q)(hs:Sim g σ w)(hp:g.prog=P)(hgl:GlobR cx.globs g σ.toks w){args:Array Value}(hv:VRs g σ.toks w vs args.toList) :
  GoodF P f∧Calls P f args w (RetV fun v w'=>∃ g' x σ',Q x σ'∧Sim g' σ' w'∧VR g' σ'.toks w' x v∧Ev g σ w g' σ' w'):=by
 obtain⟨m,h⟩:=h
 cases m with
 | rnd=>exact h.elim
 | raw =>
  obtain⟨Q',h1,h2⟩:=h
  have:=h1.2 g w args hp hgl hs hv
  refine⟨h1.1,?_⟩
  exact this.mono (RetV.mono fun v w' ⟨g',x,σ',q,r⟩=>⟨g',x,σ',h2 _ _ q,r⟩)
 | rd =>
  obtain⟨Q',h1,h2⟩:=h
  have:=h1.2 g w args hp hgl hs hv
  refine⟨h1.1,?_⟩
  exact this.mono (RetV.mono fun v w' ⟨g',x,σ',q,r⟩=>⟨g',x,σ,h2 _ _ q,r⟩)
 | val =>
  simp only [wJ] at h
  split at h
  ·rename_i ds hds
   obtain⟨Q',h1,h2⟩:=h
   let f0:Nat→Nat→Prop:=fun b q=>g.frz b q∨∃ x∈vs,xO g x b q
   obtain⟨b1,b2⟩:=qK (tk:=[]) (g':=Gh.bare P f0) hs (f:=f0) (fun b q h=>.inl h) rfl hv hds (fun x hx b q hl=>.inr ⟨x,hx,hl⟩)
   have hcell0 : ∀ b q,f0 b q→∃ v,w.cell? ⟨b,q,none⟩=some v:=fun b q h=>by
    rcases h with h | ⟨x,hx,hl⟩
    ·exact hs.frzb b q h
    ·exact qT hs hv hds x hx b q hl
   have:=h1.2 (Gh.bare P f0) w args rfl (hgl.frz (g':=Gh.bare P f0) (tk':=[]) (fun b q h=>.inl h)) (Sim.bare hcell0) b1
   refine⟨h1.1,?_⟩
   refine(this rfl).mono (RetV.mono fun v w' ⟨f',x,σ',q,hc,hx,hev⟩=>?_)
   obtain⟨hp,hsc,hq⟩:=h2 _ _ q
   have hheap : ∀ b,b<w.heap.size→w'.heap[b]?=w.heap[b]?:=fun b hb=>hev.frame b hb mP
   by_cases hb:vs.any V.borrows=true
   ·have:=hs.away (w':=w') (f':=g.frz) hheap hev.size (fun _ _ h=>h) (fun _ _ h=>.inl h) (fun b q h=>by
     obtain⟨u,hu⟩:=hs.frzb b q h
     refine⟨u,?_⟩
     rw [← hu]
     unfold World.cell?
     rw [hheap b (nG hu)]) hev.os hev.tape hev.output
    exact⟨g,x,σ,hq,this.1,hx.of_scalars (hsc hb),this.2⟩
   ·have hno : ∀ b q,f0 b q→g.frz b q:=fun b q h=>by
     rcases h with h | ⟨x,hx,hl⟩
     ·exact h
     ·exfalso
      apply hb
      rw [List.any_eq_true]
      refine⟨x,hx,?_⟩
      cases x with
      | agg cs =>
       obtain⟨c,hc,hl⟩:=hl
       simp only [V.borrows,List.any_eq_true]
       refine⟨c,hc,?_⟩
       cases c <;> first | exact hl.elim | rfl
      | sl=>rfl
      | _=>exact hl.elim
    have:=hs.away (w':=w') (f':=f') hheap hev.size (fun b q h=>hev.later.stay.frz b q (.inl h)) (fun b q h=>by
     rcases hev.newf b q h with h | h | h
     ·exact .inl (hno b q h)
     ·exact(mP h).elim
     ·exact .inr h) hc hev.os hev.tape hev.output
    exact⟨{ g with frz:=f' },x,σ,hq,this.1,hx.of_pure hp rfl,this.2⟩
  ·exact h.elim

theorem wD : ∀ {l:List V} {l':List Value} {g:Gh} {σ σ':St} {w:World} {pl:List V},Sim g σ w→VRs g σ.toks w l l'→xL σ l=some (pl,σ') →
  ∃ g',Sim g' σ' w∧Ev g σ w g' σ' w∧VRs g' σ'.toks w pl l'
 | [],[],g,σ,σ',w,pl,hs,hp,h=>by
  simp only [xL,aN.injEq,Prod.mk.injEq] at h
  obtain⟨rfl,rfl⟩:=h
  exact⟨g,hs,Ev.refl _ _ _,trivial⟩
 | v::l,cv::l',g,σ,σ',w,pl,hs,hp,h=>by
  obtain⟨h1,h2⟩:=hp
  have plain:(∀ {pl0:List V} {s:St},xL σ l=some (pl0,s)→pl=v::pl0→σ'=s→∃ g',Sim g' σ' w∧Ev g σ w g' σ' w∧VRs g' σ'.toks w pl (cv::l')):=by
   intro pl0 s ht hpl hss
   subst hpl hss
   obtain⟨g',a1,a2,a3⟩:=wD hs h2 ht
   exact⟨g',a1,a2,h1.later a2.later,a3⟩
  cases v with
  | sl r off len sz =>
   simp only [xL] at h
   split at h
   ·rename_i rows hrows
    split at h
    ·rename_i pl0 s ht
     simp only [aN.injEq,Prod.mk.injEq] at h
     obtain⟨rfl,rfl⟩:=h
     obtain⟨d1,d2,d3⟩:=hs.thaw1 h1 hrows
     obtain⟨g',a1,a2,a3⟩:=wD (σ:=σ.setObj r .dead) d1 (VRs.later d2.later h2) ht
     exact⟨g',a1,d2.trans a2,VR.later a2.later d3,a3⟩
    ·cases h
   ·cases h
  | _ =>
   simp only [xL] at h
   split at h
   ·rename_i pl0 s ht
    simp only [aN.injEq,Prod.mk.injEq] at h
    exact plain ht h.1.symm h.2.symm
   ·cases h
 | [],_::_,g,σ,σ',w,pl,hs,hp,h=>hp.elim
 | _::_,[],g,σ,σ',w,pl,hs,hp,h=>hp.elim
theorem wI {cx:Cx}{f:Nat}{vs:List V}{Q:jD}(h:callK (SK P cx) cx f vs σ Q)(hs:Sim g σ w)(hp:g.prog=P)(hgl:GlobR cx.globs g σ.toks w){args:Array Value}(hv:VRs g σ.toks w vs args.toList) :
  GoodF P f∧Calls P f args w (RetV fun v w'=>∃ g' x σ',Q x σ'∧Sim g' σ' w'∧VR g' σ'.toks w' x v∧Ev g σ w g' σ' w'):=by
 rcases h with h | ⟨vs',σ',ht,h⟩
 ·exact tU h hs hp hgl hv
 ·obtain⟨g1,a1,a2,a3⟩:=wD hs hv ht
  obtain⟨r1,r2⟩:=tU h a1 (a2.later.prog.trans hp) (hgl.later a2.later) a3
  exact⟨r1,r2.mono (RetV.mono fun v w' ⟨g',x,s,q,b1,b2,b3⟩=>⟨g',x,s,q,b1,b2,a2.trans b3⟩)⟩

end Go.Dn

/- Instructions and regions in the order of the text. -/
namespace Go.Dn
open Go.Lib

variable {P:Program} {w:World}

def Ins.simple:Ins→Bool
 | .when .. => false
 | _=>true

theorem aBx {dst:Option Nat}{ty:TypeId}{c:Go.Call}{i:Ins}(h:jZ P dst ty c=some i):i.simple=true∧i.dst=dst:=by
 unfold jZ jL at h
 (repeat' (split at h)) <;> first | (cases h; done) | (cases h; exact⟨rfl,rfl⟩)

theorem qN {o:Oper}{i:Ins}(h:jV P o=some i):i.simple=true∧i.dst=o.dst:=by
 obtain⟨od,oop,oty,opos,oaft,ogd⟩:=o
 cases oop <;> simp only [jV] at h
 case call c=>exact aBx h
 case makeMap t r =>
  cases r with
  | none=>cases h; exact⟨rfl,rfl⟩
  | some x=>cases h
 all_goals ((repeat' (split at h)) <;> first | (cases h; done) | (cases h; exact⟨rfl,rfl⟩))

theorem zV {it:V} {σ:St}{Q Q':jD}(hq : ∀ v s,Q v s→Q' v s)(h:uH it σ Q):uH it σ Q':=by
 unfold uH at *
 cases it with
 | iter r =>
  simp only at *
  cases ho:σ.objs[r]? with
  | none=>rw [ho] at h; exact h.elim
  | some o =>
   rw [ho] at h
   cases o with
   | iter m since seen last =>
    cases m with
    | none=>exact hq _ _ h
    | some m =>
     simp only at *
     cases ho2:σ.objs[m]? with
     | none=>rw [ho2] at h; exact h.elim
     | some o2 =>
      rw [ho2] at h
      cases o2 with
      | map es clock =>
       obtain⟨h1,h2,h3,h4,h5⟩:=h
       exact⟨h1,h2,h3,fun x hx hs=>hq _ _ (h4 x hx hs),fun hs=>hq _ _ (h5 hs)⟩
      | _=>exact h.elim
   | _=>exact h.elim
 | _=>exact h.elim

theorem wH {K:iI}{cx:Cx}{f:Nat}{vs:List V} {σ:St}{Q Q':jD}(hq : ∀ v s,Q v s→Q' v s)(h:tF K cx f vs σ Q):tF K cx f vs σ Q':=by
 obtain⟨m,h⟩:=h
 refine⟨m,?_⟩
 cases m with
 | rnd=>exact h.elim
 | raw =>
  obtain⟨q,h1,h2⟩:=h
  exact⟨q,h1,fun v s hv=>hq _ _ (h2 v s hv)⟩
 | rd =>
  obtain⟨q,h1,h2⟩:=h
  exact⟨q,h1,fun v s hv=>hq _ _ (h2 v s hv)⟩
 | val =>
  simp only [wJ] at *
  split
  ·rename_i ds hds
   rw [hds] at h
   obtain⟨q,h1,h2⟩:=h
   exact⟨q,h1,fun v s hv=>⟨(h2 v s hv).1,(h2 v s hv).2.1,hq _ _ (h2 v s hv).2.2⟩⟩
  ·rename_i hds
   rw [hds] at h
   exact h

theorem yQ {K:iI}{cx:Cx}{f:Nat}{vs:List V} {σ:St}{Q Q':jD}(hq : ∀ v s,Q v s→Q' v s)(h:callK K cx f vs σ Q):callK K cx f vs σ Q' :=
 h.imp (wH hq) fun⟨vs',σ',ht,h⟩=>⟨vs',σ',ht,wH hq h⟩

theorem pQ {K:iI}{cx:Cx}{i:Ins}(hi:i.simple=true){e:Env} {σ:St}{Q Q':Env→St→Prop}(hq : ∀ v s,Q (eK e i.dst v) s→Q' (eK e i.dst v) s)(h:jG K cx i e σ Q):jG K cx i e σ Q':=by
 cases i with
 | p dst op =>
  simp only [jG] at *
  split
  ·rename_i ho
   rw [if_pos ho] at h
   split
   ·rename_i v s hf; rw [hf] at h; exact hq _ _ h
   ·rename_i hf; rw [hf] at h; exact h
  rename_i ho
  rw [if_neg ho] at h
  split
  ·rename_i v hv; rw [hv] at h; exact hq _ _ h
  ·rename_i hv; rw [hv] at h
   simp only at h ⊢
   split
   ·rename_i v s hf; rw [hf] at h; exact hq _ _ h
   ·rename_i hf; rw [hf] at h; exact h
 | e dst op =>
  simp only [jG] at *
  refine h.imp (fun h=>?_) (fun h=>?_)
  ·split
   ·rename_i v hv; rw [hv] at h; exact hq _ _ h
   ·rename_i hv; rw [hv] at h; exact h
  ·split
   ·rename_i v hv; rw [hv] at h; exact hq _ _ h
   ·rename_i hv; rw [hv] at h; exact h
 | call dst f args =>
  simp only [jG] at *
  exact yQ (fun v s=>hq v s) h
 | callv dst f args =>
  simp only [jG] at *
  split
  ·rename_i g first caps hf; rw [hf] at h; exact yQ (fun v s=>hq v s) h
  ·rename_i r hf
   rw [hf] at h
   obtain⟨Q1,h1,h2⟩:=h
   exact⟨Q1,h1,fun v s hv=>hq _ _ (h2 v s hv)⟩
  ·rename_i hn hn2
   split at h
   ·rename_i g first caps hf; exact(hn _ _ _ hf).elim
   ·rename_i r hf; exact(hn2 _ hf).elim
   ·exact h
 | next dst it =>
  simp only [jG] at *
  exact zV (fun v s=>hq v s) h
 | «when» s want body=>simp [Ins.simple] at hi

def wg (K:iI)(cx:Cx):List (Option (Nat×Bool)×Ins)→Env→St→(Env→St→Prop)→Prop
 | [],e,σ,Q=>Q e σ
 | (none,i)::r,e,σ,Q=>jG K cx i e σ fun e' σ'=>wg K cx r e' σ' Q
 | (some (s,want),i)::r,e,σ,Q=>jG K cx (.when s want [i]) e σ fun e' σ'=>wg K cx r e' σ' Q

theorem iR {e:Env}{dst:Option Nat}{s:Nat}(h:dst≠some s)(v:V):(eK e dst v).get s=e.get s:=by
 cases dst with
 | none=>rfl
 | some t =>
  simp only [eK]
  rw [Env.get_set,if_neg (fun e=>h (by rw [e]))]

theorem iZ {i:Ins}(hi:i.simple=true)(e:Env):dG i e=eK e i.dst .gone:=by
 cases i with
 | «when» => simp [Ins.simple] at hi
 | _=>rfl

theorem aEh {K:iI}{cx:Cx}{s:Nat}{want:Bool}{i:Ins}(hi:i.simple=true){e:Env} {σ:St}{Q Q':Env→St→Prop}(hq : ∀ e' s',Q e' s'→Q' e' s')(h:jG K cx (.when s want [i]) e σ Q):jG K cx (.when s want [i]) e σ Q':=by
 simp only [jG,iD] at *
 split
 ·rename_i b hb
  rw [hb] at h
  simp only at h
  split
  ·rename_i hw; rw [if_pos hw] at h; exact pQ hi (fun v s=>hq _ _) h
  ·rename_i hw; rw [if_neg hw] at h; exact hq _ _ h
 ·rename_i hb; rw [hb] at h; exact hq _ _ h
 ·rename_i hn1 hn2
  split at h
  ·rename_i b hb; exact(hn1 _ hb).elim
  ·rename_i hb; exact(hn2 hb).elim
  ·exact h

theorem zG {K:iI}{cx:Cx}{Q:Env→St→Prop} : ∀ (l:List (Option (Nat×Bool)×Ins)),(∀ p∈l,p.2.simple=true)→∀ (e:Env) (σ:St),iD K cx (uD l) e σ Q→wg K cx l e σ Q
 | [],_,e,σ,h=>by simpa [uD,iD,wg] using h
 | (none,i)::r,hl,e,σ,h=>by
  have hi:=hl (none,i) (by simp)
  have ih:=zG (K:=K) (cx:=cx) (Q:=Q) r (fun p hp=>hl p (by simp [hp]))
  simp only [uD,iD,wg] at *
  exact pQ hi (fun v s=>ih _ _) h
 | (some (s,w),i)::r,hl,e,σ,h=>by
  have hi:i.simple=true:=hl (some (s,w),i) (by simp)
  have ih:=zG (K:=K) (cx:=cx) (Q:=Q) r (fun p hp=>hl p (by simp [hp]))
  have plain:iD K cx (.when s w [i]::uD r) e σ Q→wg K cx ((some (s,w),i)::r) e σ Q:=fun h=>by
   simp only [iD,wg] at h ⊢
   exact aEh hi (fun _ _=>ih _ _) h
  simp only [uD] at h
  split at h
  ·rename_i s' w' body r' hg
   split at h
   ·rename_i hc
    obtain⟨rfl,rfl,hd⟩:=hc
    simp only [wg,iD,jG] at h ⊢
    split
    ·rename_i b hb
     rw [hb] at h
     simp only at h
     split
     ·rename_i hw
      rw [if_pos hw] at h
      refine pQ hi (fun v s1 hq=>ih _ _ ?_) h
      rw [hg]
      simp only [iD,jG]
      rw [iR hd,hb]
      simp only
      rw [if_pos hw]
      exact hq
     ·rename_i hw
      rw [if_neg hw] at h
      simp only [dD] at h ⊢
      refine ih _ _ ?_
      rw [hg]
      simp only [iD,jG]
      rw [iZ hi,iR hd,hb]
      simp only
      rw [if_neg hw,← iZ hi]
      exact h
    ·rename_i hb
     rw [hb] at h
     simp only [dD] at h ⊢
     refine ih _ _ ?_
     rw [hg]
     simp only [iD,jG]
     rw [iZ hi,iR hd,hb]
     simp only
     rw [← iZ hi]
     exact h
    ·rename_i hn1 hn2
     split at h
     ·rename_i b hb; exact(hn1 _ hb).elim
     ·rename_i hb; exact(hn2 hb).elim
     ·exact h
   ·rw [← hg] at h
    exact plain h
  ·rename_i hn
   exact plain h

end Go.Dn

/- A step of a walk aG1 a map. -/
namespace Go.Dn
open Go.Lib

variable {P:Program}

theorem aGY {g:Gh} {σ:St}{w:World}(hs:Sim g σ w){it:V}{ci:Value}(hv:VR g σ.toks w it ci){Q:jD}(h:uH it σ Q){ty:TypeId} :
  ∃ cv w' g' x σ',(Instr.next ci false ty).run P w = .ok cv w'∧Q x σ'∧Sim g' σ' w'∧VR g' σ'.toks w' x cv∧Ev g σ w g' σ' w':=by
 have v1 : ∀ {g:Gh} {tk:List Nat} {w:World},VR g tk w (.tup [.d (.bool false)]) (.tuple #[.bool false]):=.tup _ _ rfl (fun i c v hi hv=>by
  match i,hi,hv with
  | 0,hi,hv=>simp at hi hv; subst hi hv; exact .bool _
  | n+1,hi,hv=>simp at hi)
 unfold uH at h
 cases it with
 | iter r =>
  simp only at h
  cases hv with
  | iter _ hh =>
   cases ho:σ.objs[r]? with
   | none=>rw [ho] at h; exact h.elim
   | some o =>
    rw [ho] at h
    cases o with
    | iter m since seen last =>
     obtain⟨hob,b1,b2⟩:=hs.oth _ _ ho trivial
     cases hob <;> try exact b2.elim
     rename_i m' since' seen' last'
     obtain⟨rfl,b3,rfl,b5,rfl⟩:=b2
     cases m with
     | none=>exact⟨_,w,g,_,_,by simp [Instr.next,getObj,Sem.run,b1],h,hs,v1,Ev.refl _ _ _⟩
     | some m =>
      simp only at h
      cases ho2:σ.objs[m]? with
      | none=>rw [ho2] at h; exact h.elim
      | some o2 =>
       rw [ho2] at h
       cases o2 with
       | map es clock =>
        obtain⟨rfl,rfl,h3,h4,h5⟩:=h
        obtain⟨hob,c1,c2⟩:=hs.oth _ _ ho2 trivial
        cases hob <;> try exact c2.elim
        rename_i es' clock'
        obtain⟨rfl,hl,hn,hh2⟩:=c2
        have get : ∀ (i:Nat) (x:MapEntry),es'[i]?=some x→∃ k v,es[i]?=some (x.born,k,v)∧VR g σ.toks w k x.key∧VR g σ.toks w v x.val:=by
         intro i x hx
         have hi:i<es.length:=by rw [hl]; exact(bW.1 hx).1
         obtain⟨y,a1,a2,a3,a4,a5⟩:=hh2 i es[i].1 es[i].2.1 es[i].2.2 (by simp [hi])
         rw [hx] at a1
         cases a1
         exact⟨es[i].2.1,es[i].2.2,by rw [a2]; simp [hi],a3,a4⟩
        have hold : ∀ x∈es'.toList,x.born<last':=fun x hx=>by
         obtain⟨i,hi⟩:=bQ hx
         obtain⟨k,v,e1,_⟩:=get i x (by simpa using hi)
         exact h3 _ (aL e1)
        have hguard:(!seen'.isEmpty && !es'.isEmpty&&es'.all (fun x=>decide (x.born≥last')))=false:=by
         cases hz:es'.isEmpty with
         | true=>simp
         | false =>
          have:es'.all (fun x=>decide (x.born≥last'))=false:=by
           have hpos:0<es'.size:=by
            rcases Nat.eq_zero_or_pos es'.size with h0 | h0
            ·simp [Array.isEmpty,h0] at hz
            ·exact h0
           rw [← Array.all_toList]
           rw [List.all_eq_false]
           refine⟨es'[0],by simp,?_⟩
           have:=hold es'[0] (by simp)
           simp
           omega
          simp [this]
        have hnew:(es'.filter fun e=>!seen'.contains e.born).filter (fun x=>decide (x.born≥last')) = #[]:=by
         apply Array.ext'
         rw [Array.toList_filter,Array.toList_filter,List.filter_eq_nil_iff]
         intro x hx
         have:=hold x (aY.1 hx).1
         simp
         omega
        have hold2:(es'.filter fun e=>!seen'.contains e.born).filter (fun x=>decide (x.born<last'))=es'.filter fun e=>!seen'.contains e.born:=by
         apply Array.ext'
         rw [Array.toList_filter]
         rw [List.filter_eq_self]
         intro x hx
         rw [Array.toList_filter] at hx
         have:=hold x (aY.1 hx).1
         simpa using this
        have hmem : ∀ x,x∈(es'.filter fun e=>!seen'.contains e.born)↔x∈es'∧seen.contains x.born=false:=by
         intro x
         rw [Array.mem_filter]
         simp [← b5]
        generalize hL:(es'.filter fun e=>!seen'.contains e.born)=L at hnew hold2 hmem
        have hrun : ∀ (k:Nat) (w1:World),(choose (.mapNext ((if L.isEmpty then #[none] else #[])++L.map some).size)).run P w = .ok k w1 →
          (Instr.next (.pointer (some ⟨(g.obj r).1,0,none⟩)) false ty).run P w=(match ((if L.isEmpty then #[none] else #[])++L.map some)[k]? with
           | some (some e)=>((setObj (g.obj r).1 (.mapIter (some (g.obj m).1) last' (seen'.push e.born) last')).run P w1).andThen fun _ w2=>.ok (.tuple #[.bool true,e.key,e.val]) w2
           | some none=>.ok (.tuple #[.bool false]) w1
           | none => (stuck "Next: no such candidate" : Sem Value).run P w1) := by
         intro k w1 hk
         simp only [Instr.next,Sem.run_bind,getObj,Sem.run,b1,aV,Option.map_some,c1,hguard,hL,hnew,hold2,Array.append_empty]
         simp only [aP,if_false,Sem.run_bind,Sem.run_pure,aV,hk]
         cases hc:((if L.isEmpty then #[none] else #[])++L.map some)[k]? with
         | none=>rfl
         | some c=>cases c <;> simp [Sem.run_bind,hk]
        by_cases hz:L.isEmpty=true
        ·have hL0:L = #[]:=by simpa using hz
         subst hL0
         have hk:(choose (.mapNext ((if (#[]:Array MapEntry).isEmpty then #[none] else #[])++(#[]:Array MapEntry).map some).size)).run P w = .ok 0 w:=by
          simp [choose,Sem.run,Question.forced]
         refine⟨_,w,g,_,_,?_,h5 (fun x hx=>?_),hs,v1,Ev.refl _ _ _⟩
         ·rw [hrun 0 w hk]
          simp
         ·obtain⟨i,hi⟩:=bQ hx
          obtain⟨y,a1,a2,_⟩:=hh2 i x.1 x.2.1 x.2.2 hi
          cases hcx:seen.contains x.1 with
          | true=>rfl
          | false =>
           have:=(hmem y).2 ⟨Array.mem_of_getElem? a1,by rw [a2]; exact hcx⟩
           simp at this
        ·have hz':L.isEmpty=false:=by simpa using hz
         have hpos:0<L.size:=by
          rcases Nat.eq_zero_or_pos L.size with h0 | h0
          ·simp [Array.isEmpty,h0] at hz'
          ·exact h0
         have hk : ∃ (k:Nat) (d:Nat),(choose (.mapNext ((if L.isEmpty then #[none] else #[])++L.map some).size)).run P w = .ok k { w with drawn:=d }∧k<L.size:=by
          simp only [hz',aP,if_false,Array.empty_append,Array.size_map]
          by_cases h1:L.size≤1
          ·exact⟨0,w.drawn,by simp [choose,Sem.run,Question.forced,h1],hpos⟩
          ·exact⟨w.tape w.drawn (.mapNext L.size) % L.size,w.drawn+1,by simp [choose,Sem.run,Question.forced,h1,Question.cut],Nat.mod_lt _ hpos⟩
         obtain⟨k,d,hk,hlt⟩:=hk
         have hcand:((if L.isEmpty then #[none] else #[])++L.map some)[k]?=some (some L[k]):=by simp [hz',hlt]
         have hm:=(hmem L[k]).1 (Array.getElem_mem hlt)
         obtain⟨i,hi,hie⟩:=Array.getElem_of_mem hm.1
         obtain⟨q,v,e1,e2,e3⟩:=get i L[k] (by rw [← hie]; simp [hi])
         obtain⟨d1,d2⟩:=hs.drawn d
         have ho':({ w with drawn:=d }:World).heap[(g.obj r).1]?=some (.mapIter (some (g.obj m).1) last' seen' last'):=b1
         obtain⟨s1,s2⟩:=d1.put_oth ho trivial (o':=.iter (some m) last' (seen++[L[k].born]) last') (.inl trivial) (x:=.mapIter (some (g.obj m).1) last' (seen'.push L[k].born) last')
          (fun _=>⟨rfl,b3,rfl,by simp [b5],rfl⟩)
         have hv2:VR g σ.toks w (.tup [.d (.bool true),q,v]) (.tuple #[.bool true,L[k].key,L[k].val]):=by
          refine .tup _ _ rfl (fun i c u hi hu=>?_)
          match i,hi,hu with
          | 0,hi,hu=>simp at hi hu; subst hi hu; exact .bool _
          | 1,hi,hu=>simp at hi hu; subst hi hu; exact e2
          | 2,hi,hu=>simp at hi hu; subst hi hu; exact e3
          | n+3,hi,hu=>simp at hi
         refine⟨_,_,g,_,_,?_,h4 _ (aL e1) hm.2,s1,(hv2.later d2.later).later s2.later,d2.trans s2⟩
         rw [hrun k _ hk,hcand]
         simp only
         rw [lP _ ho' (by intro c e f; simp)]
         rfl
       | _=>exact h.elim
    | _=>exact h.elim
 | _=>exact h.elim

end Go.Dn

/- Slices of objects, taken aG1 by a list of slices. -/
namespace Go.Dn
open Go.Lib

variable {P:Program} {g:Gh} {σ:St} {w:World}

theorem PartsR.later {g g':Gh}{tk tk':List Nat}{w w':World}(hl:Later g tk w g' tk' w'){place:Nat→Option (Nat×Nat)} : ∀ {l:List (Nat×Nat×V)} {l':List (Nat×Value)},PartsR g tk w place l l'→PartsR g' tk' w' place l l'
 | [],[],_=>trivial
 | (_,_,_)::_,(_,_)::_,h=>⟨h.1,h.2.1.later hl,PartsR.later hl h.2.2⟩
 | [],_::_,h=>h.elim
 | _::_,[],h=>h.elim

theorem aAx {place:Nat→Option (Nat×Nat)} : ∀ {l:List (Nat×Nat×V)} {l':List (Nat×Value)} {g:Gh} {σ σ':St} {w:World} {pl:List (Nat×Nat×V)},Sim g σ w→PartsR g σ.toks w place l l'→gR σ l=some (pl,σ') →
  ∃ g',Sim g' σ' w∧Ev g σ w g' σ' w∧PartsR g' σ'.toks w place pl l'
 | [],[],g,σ,σ',w,pl,hs,hp,h=>by
  simp only [gR,aN.injEq,Prod.mk.injEq] at h
  obtain⟨rfl,rfl⟩:=h
  exact⟨g,hs,Ev.refl _ _ _,trivial⟩
 | (o,n,v)::l,(i,cv)::l',g,σ,σ',w,pl,hs,hp,h=>by
  obtain⟨h1,h2,h3⟩:=hp
  have plain:(∀ {pl0:List (Nat×Nat×V)} {s:St},gR σ l=some (pl0,s)→pl=(o,n,v)::pl0→σ'=s→∃ g',Sim g' σ' w∧Ev g σ w g' σ' w∧PartsR g' σ'.toks w place pl ((i,cv)::l')):=by
   intro pl0 s ht e1 e2
   subst e1 e2
   obtain⟨g',a1,a2,a3⟩:=aAx hs h3 ht
   exact⟨g',a1,a2,h1,h2.later a2.later,a3⟩
  cases v with
  | sl r off len sz =>
   simp only [gR] at h
   split at h
   ·rename_i rows hrows
    split at h
    ·rename_i l0 s ht
     simp only [aN.injEq,Prod.mk.injEq] at h
     obtain⟨rfl,rfl⟩:=h
     obtain⟨d1,d2,d3⟩:=hs.thaw1 h2 hrows
     obtain⟨g',a1,a2,a3⟩:=aAx (σ:=σ.setObj r .dead) d1 (h3.later d2.later) ht
     exact⟨g',a1,d2.trans a2,h1,d3.later a2.later,a3⟩
    ·cases h
   ·cases h
  | _ =>
   simp only [gR] at h
   split at h
   ·rename_i l0 s ht
    simp only [aN.injEq,Prod.mk.injEq] at h
    obtain⟨rfl,rfl⟩:=h
    exact plain ht rfl rfl
   ·cases h
 | [],_::_,_,_,_,_,_,_,h,_=>h.elim
 | _::_,[],_,_,_,_,_,_,h,_=>h.elim

theorem aFi (hs:Sim g σ w){n:Nat}{e:Env}{a:Act}(he:EnvR g σ.toks w n e a.tmps){o:Oper}{dst:Option Nat}{op:POp}(hc:jV P o=some (.p dst op)){v:V} {σ':St}(h:fP op e σ=some (v,σ')) :
  dst=o.dst∧∃ cv w' g',(execOp a.eval o).run P w = .ok (.value cv) w'∧Sim g' σ' w'∧VR g' σ'.toks w' v cv∧Ev g σ w g' σ' w':=by
 cases op with
 | bslice t0 len0 sz0 zero0 parts0 =>
  obtain⟨od,oop,oty,opos,oaft,ogd⟩:=o
  cases oop <;> simp only [jV] at hc
  case buildSlice t len parts =>
   split at hc
   ·rename_i el hu
    split at hc
    ·rename_i z l hz hl
     split at hc
     ·cases hc
     ·rename_i hcnd
      simp only [not_or,Decidable.not_not] at hcnd
      simp only [aN.injEq,Ins.p.injEq,POp.bslice.injEq] at hc
      obtain⟨rfl,rfl,rfl,rfl,rfl,rfl⟩:=hc
      simp only [fP] at h
      split at h
      ·rename_i pl s hth
       split at h
       ·rename_i cs hcs
        split at h
        ·rename_i ds hds
         simp only [aN.injEq,Prod.mk.injEq] at h
         obtain⟨rfl,rfl⟩:=h
         obtain⟨g',a1,a2,a3⟩:=aAx hs (sT he _ hl) hth
         obtain⟨cv,w',g2,b1,b2,b3,b4⟩:=(wE (P:=P) (a:=a) a1 hu hz a3 hcnd.1 hcnd.2.1 hcnd.2.2 hcs hds).next
         exact⟨rfl,cv,w',g2,b1,b2,b3,a2.trans b4⟩
        ·cases h
       ·cases h
      ·cases h
    ·cases hc
   ·cases hc
  case call c =>
   exfalso
   revert hc
   unfold jZ jL
   (repeat' split) <;> simp
  all_goals (exfalso; (repeat' (split at hc)) <;> first | contradiction | (cases hc; done) | (simp at hc; done) | (rename_i hh _ _ _ _ _ _ _; cases hh; done) | (simp_all; done))
 | _=>simp [fP] at h

theorem aFh (hs:Sim g σ w){n:Nat}{e:Env}{a:Act}(he:EnvR g σ.toks w n e a.tmps){o:Oper}{dst:Option Nat}{op:POp}(hc:jV P o=some (.p dst op)){v:V} {σ':St}(h:fO op e σ=some (v,σ')) :
  dst=o.dst∧∃ cv w' g',(execOp a.eval o).run P w = .ok (.value cv) w'∧Sim g' σ' w'∧VR g' σ'.toks w' v cv∧Ev g σ w g' σ' w':=by
 cases op with
 | bslice t0 len0 sz0 zero0 parts0 =>
  obtain⟨od,oop,oty,opos,oaft,ogd⟩:=o
  cases oop <;> simp only [jV] at hc
  case buildSlice t len parts =>
   split at hc
   ·rename_i el hu
    split at hc
    ·rename_i z l hz hl
     split at hc
     ·cases hc
     ·rename_i hcnd
      simp only [not_or,Decidable.not_not] at hcnd
      simp only [aN.injEq,Ins.p.injEq,POp.bslice.injEq] at hc
      obtain⟨rfl,rfl,rfl,rfl,rfl,rfl⟩:=hc
      simp only [fO] at h
      split at h
      ·rename_i cs hcs
       obtain⟨hp,rfl⟩:=jJ h
       obtain⟨vs',r1,r2,r3,r4⟩:=aDC (P:=P) (a:=a) hs hu hz (sT he _ hl) hcnd.1 hcnd.2.1 hcnd.2.2 hcs
       obtain⟨s1,s2⟩:=hs.new_obj hp r1 r2 (lN w (.cells vs' el))
       have hsz:vs'.size=len*P.cellsOf el:=by have:=r1.length; simp at this; omega
       have hvr:=VR.sl (g:=g.add (σ.spot none) w.heap.size cs.length vs'.size) (tk:=σ'.toks) (w:={ w with heap:=w.heap.push (.cells vs' el) }) (σ.spot none) 0 len (P.cellsOf el) len ⟨w.heap.size,0,none⟩ (.inr rfl) (bB _) (by omega)
        (by simp [Gh.add]; omega) (by simp [Gh.add]; omega) (fun _=>by simp [Gh.add]) rfl (by simp [Gh.add]; omega)
       refine⟨rfl,_,_,_,?_,s1,hvr,s2⟩
       simp only [execOp,Sem.run_bind,r4,aV,Sem.run_pure]
      ·cases h
    ·cases hc
   ·cases hc
  case call c =>
   exfalso
   revert hc
   unfold jZ jL
   (repeat' split) <;> simp
  all_goals (exfalso; (repeat' (split at hc)) <;> first | contradiction | (cases hc; done) | (simp at hc; done) | (rename_i hh _ _ _ _ _ _ _; cases hh; done) | (simp_all; done))
 | _=>simp [fO] at h

end Go.Dn

/- Operations and regions are what they compile to. -/
namespace Go.Dn
open Go.Lib

variable {P:Program}

def FW (ro:Option Nat):Fence:={ Fence.wide with round:=ro }
def Marks (g:Gh) (σ:St)(w0 w:World)(ds:List Deferred):Prop:=∃ rs:List Nat,ds=rs.map (fun r=>{ target:=.collected r,args := #[] })∧rs.Nodup∧∀ r∈rs,w0.heap.size≤r∧w.heap[r]?=some (.deferred (some []))∧¬ rE g σ r

theorem Marks.ev {g g':Gh} {σ σ':St}{w0 w w':World}{ds:List Deferred}(h:Marks g σ w0 w ds)(hev:Ev g σ w g' σ' w'):Marks g' σ' w0 w' ds:=by
 obtain⟨rs,h1,hn,h⟩:=h
 refine⟨rs,h1,hn,fun r hr=>?_⟩
 obtain⟨h2,h3,h4⟩:=h r hr
 have hlt:r<w.heap.size:=(bW.1 h3).1
 refine⟨h2,by rw [hev.frame r hlt h4]; exact h3,fun hm=>?_⟩
 rcases hev.mine r hm with h | h
 ·exact h4 h
 ·omega

structure Kx (P:Program)(cx:Cx)(g:Gh)(tk:List Nat)(w:World):Prop where
 prog:g.prog=P
 globs:GlobR cx.globs g tk w
theorem Kx.later {cx:Cx}{g g':Gh}{tk tk':List Nat}{w w':World}(h:Kx P cx g tk w)(hl:Later g tk w g' tk' w'):Kx P cx g' tk' w':=⟨hl.prog.trans h.prog,h.globs.later hl⟩

def At (P:Program)(cx:Cx)(n:Nat)(g0:Gh) (σ0:St)(w0:World)(e:Env) (σ:St)(a:Act)(w:World):Prop :=
 ∃ g,Sim g σ w∧EnvR g σ.toks w n e a.tmps∧(Marks g σ w0 w a.defers∧Kx P cx g σ.toks w)∧Ev g0 σ0 w0 g σ w

variable {n:Nat} {g0:Gh} {σ0:St} {w0:World} {ro:Option Nat}

theorem mU {cx:Cx}{g g':Gh} {σ σ':St}{w w':World}{a:Act}{dst:Option Nat}{x:Value}(h:Marks g σ w0 w a.defers∧Kx P cx g σ.toks w)(hev:Ev g σ w g' σ' w'):Marks g' σ' w0 w' (a.put dst x).defers∧Kx P cx g' σ'.toks w':=by
 cases dst <;> exact⟨h.1.ev hev,h.2.later hev.later⟩

theorem qM {o:Oper}{i:Ins}(h:jV P o=some i) : ∀ c,o.op ≠ .defer c:=by
 intro c e
 obtain⟨od,oop,oty,opos,oaft,ogd⟩:=o
 simp only at e
 subst e
 simp [jV] at h

theorem EnvR.put {g:Gh}{tk:List Nat}{w:World}{e:Env}{a:Act}(h:EnvR g tk w n e a.tmps){dst:Option Nat}(hd:dst.all (· < n)=true){v:V}{x:Value}(hv:VR g tk w v x) :
  EnvR g tk w n (eK e dst v) (a.put dst x).tmps:=by
 cases dst with
 | none=>exact h
 | some s=>exact h.set (by simpa using hd) hv

theorem aAC {dst d':Option Nat}{ty:TypeId}{c:Go.Call}{f:Nat}{l:List Opd}(h:jZ P dst ty c=some (.call d' f l)) :
  c.callee = .value (.func f)∧iT c.args.toList=some l∧d'=dst:=by
 unfold jZ jL at h
 split at h
 case h_1 hc =>
  (repeat' (split at h)) <;> first | (cases h; done) | skip
  cases h
  exact⟨hc,by assumption,rfl⟩
 all_goals (exfalso; (repeat' (split at h)) <;> first | (cases h; done) | (simp at h; done))

theorem yT {dst d':Option Nat}{ty:TypeId}{c:Go.Call}{f:Opd}{l:List Opd}(h:jZ P dst ty c=some (.callv d' f l)) :
  ∃ t,c.callee = .value (.tmp t)∧f = .t t∧t<GB∧iT c.args.toList=some l∧d'=dst:=by
 unfold jZ jL at h
 split at h
 case h_2 t hc =>
  (repeat' (split at h)) <;> first | (cases h; done) | skip
  cases h
  exact⟨t,hc,rfl,by assumption,by assumption,rfl⟩
 all_goals (exfalso; (repeat' (split at h)) <;> first | (cases h; done) | (simp at h; done))

theorem wM {o:Oper}{i:Ins}(h:jV P o=some i)(hi:(∃ d f l,i = .call d f l)∨(∃ d f l,i = .callv d f l)) : ∃ c,o.op = .call c∧jZ P o.dst o.type c=some i:=by
 obtain⟨od,oop,oty,opos,oaft,ogd⟩:=o
 cases oop <;> simp only [jV] at h
 case call c=>exact⟨c,rfl,h⟩
 case makeMap t r =>
  exfalso
  cases r with
  | none=>cases h; rcases hi with⟨_,_,_,h⟩ | ⟨_,_,_,h⟩ <;> cases h
  | some x=>cases h
 all_goals (exfalso; rcases hi with⟨_,_,_,rfl⟩ | ⟨_,_,_,rfl⟩ <;> (repeat' (split at h)) <;> first | (cases h; done) | (simp at h; done))

theorem aCt {o:Oper}{dst:Option Nat}{it:Opd}(h:jV P o=some (.next dst it)) : ∃ x,o.op = .next x false∧iF x=some it∧dst=o.dst:=by
 obtain⟨od,oop,oty,opos,oaft,ogd⟩:=o
 cases oop <;> simp only [jV] at h
 case next x str =>
  split at h
  ·rename_i a ha
   cases str
   ·simp at h
    obtain⟨rfl,rfl⟩:=h
    exact⟨x,rfl,ha,rfl⟩
   ·simp at h
  ·cases h
 case makeMap t r =>
  exfalso
  cases r with
  | none=>cases h
  | some x=>cases h
 case call c =>
  exfalso
  unfold jZ jL at h
  (repeat' (split at h)) <;> first | (cases h; done) | (simp at h; done)
 all_goals (exfalso; (repeat' (split at h)) <;> first | (cases h; done) | (simp at h; done))

theorem qJ {o:Oper}{a:Act}{w1:World}{f:Nat}{args:Array Value}{K:Act→World→Prop}{R:Exit→Act→World→Prop}{next:Value→World→Prop}
  (hc:Calls P f args w1 (RetV next)) (hn : ∀ v w',next v w'→K (a.put o.dst v) w'):o.uponIn (FW ro) 0 P a K R (.ok (.enter f args) w1):=by
 rw [Oper.uponIn_enter]
 refine⟨fun h=>by simp [FW,Fence.wide] at h,?_⟩
 have hc':CallsIn (FW ro) (0-1) P f args w1 (RetV next):=callsIn_wide.2 hc
 refine hc'.mono fun e w' h=>?_
 cases e with
 | returned v=>exact hn _ _ h
 | panicked c=>exact h.elim
 | outgrown=>exact h.elim

theorem nE {cx:Cx}{o:Oper}{i:Ins}(hc:jV P o=some i)(hd:o.dst.all (· < n)=true){e:Env} {σ:St}{Q:Env→St→Prop}(h:jG (SK P cx) cx i e σ Q){a:Act}{w:World}(ha:At P cx n g0 σ0 w0 e σ a w)
  {K:Act→World→Prop} {R:Exit→Act→World→Prop} (hK : ∀ e' σ' a' w',Q e' σ'→At P cx n g0 σ0 w0 e' σ' a' w'→K a' w'):o.wpIn (FW ro) 0 P a w K R:=by
 obtain⟨g,hs,he,hdef,hev⟩:=ha
 unfold Oper.wpIn
 refine⟨fun _ _=>trivial,?_⟩
 rw [Oper.semAt_eq _ _ _ (qM hc)]
 cases i with
 | p dst op =>
  simp only [jG] at h
  split at h
  ·split at h
   ·rename_i v s hv
    obtain⟨rfl,cv,w',g',hrun,hs',hv',hev'⟩:=aFh hs he hc hv
    rw [hrun,Oper.uponIn_value]
    exact hK _ _ _ _ h ⟨g',hs',(he.later hev'.later).put hd hv',mU hdef hev',hev.trans hev'⟩
   ·exact h.elim
  split at h
  ·rename_i v hv
   obtain⟨rfl,cv,w',g',hrun,hs',hv',hev'⟩:=aAV hs he hc hv
   rw [hrun,Oper.uponIn_value]
   exact hK _ _ _ _ h ⟨g',hs',(he.later hev'.later).put hd hv',mU hdef hev',hev.trans hev'⟩
  ·split at h
   ·rename_i v s hv
    obtain⟨rfl,cv,w',g',hrun,hs',hv',hev'⟩:=aFi hs he hc hv
    rw [hrun,Oper.uponIn_value]
    exact hK _ _ _ _ h ⟨g',hs',(he.later hev'.later).put hd hv',mU hdef hev',hev.trans hev'⟩
   ·exact h.elim
 | e dst op =>
  simp only [jG] at h
  rcases h with h | h
  ·split at h
   ·rename_i v σ' hv
    obtain⟨rfl,cv,w',g',hrun,hs',hv',hev'⟩:=aAT hs he hc hv
    rcases hrun with hrun | ⟨hrun,rfl⟩
    ·rw [hrun,Oper.uponIn_value]
     exact hK _ _ _ _ h ⟨g',hs',(he.later hev'.later).put hd hv',mU hdef hev',hev.trans hev'⟩
    ·rw [hrun,Oper.uponIn_skip]
     exact hK _ _ _ _ h ⟨g',hs',(he.later hev'.later).put hd hv',mU hdef hev',hev.trans hev'⟩
   ·exact h.elim
  ·split at h
   ·rename_i v σ' hv
    obtain⟨rfl,cv,w',g',hrun,hs',hv',hev'⟩:=aAU hs he hc hv
    rcases hrun with hrun | ⟨hrun,rfl⟩
    ·rw [hrun,Oper.uponIn_value]
     exact hK _ _ _ _ h ⟨g',hs',(he.later hev'.later).put hd hv',mU hdef hev',hev.trans hev'⟩
    ·rw [hrun,Oper.uponIn_skip]
     exact hK _ _ _ _ h ⟨g',hs',(he.later hev'.later).put hd hv',mU hdef hev',hev.trans hev'⟩
   ·exact h.elim
 | call dst f args =>
  simp only [jG] at h
  obtain⟨c,hop,hcc⟩:=wM hc (.inl ⟨_,_,_,rfl⟩)
  obtain⟨h1,h2,rfl⟩:=aAC hcc
  have hv:=jR he h2
  obtain⟨hg,hcalls⟩:=wI h hs hdef.2.prog hdef.2.globs (args := #[]++c.args.map a.eval ++ #[]) (by simpa using hv)
  have hx:execOp a.eval o=callFunc f (#[]++c.args.map a.eval ++ #[]):=by
   obtain⟨od,oop,oty,opos,oaft,ogd⟩:=o
   obtain⟨cc,ca,ct⟩:=c
   simp only at hop h1
   subst hop h1
   rfl
  rw [hx,hg.run]
  exact qJ hcalls fun v w' ⟨g',x,σ',q,hs',hv',hev'⟩ =>
   hK _ _ _ _ q ⟨g',hs',(he.later hev'.later).put hd hv',mU hdef hev',hev.trans hev'⟩
 | callv dst f args =>
  simp only [jG] at h
  obtain⟨c,hop,hcc⟩:=wM hc (.inr ⟨_,_,_,rfl⟩)
  obtain⟨t,h1,rfl,htl,h2,rfl⟩:=yT hcc
  split at h
  ·rename_i f first caps hf
   have hfn:=he.at htl
   simp only [Opd.ev] at hf
   rw [hf] at hfn
   generalize htv:a.tmps.getD t undef=tv at hfn
   cases hfn with
   | fn _ _ _ first' caps' hl hl' hh hh' =>
    have hv:=jR he h2
    have v1:VRs g σ.toks w first first'.toList:=VRs.of_get (by simpa using hl) (fun i c v h1 h2=>hh i c v h1 (by simpa using h2))
    have v2:VRs g σ.toks w caps caps'.toList:=VRs.of_get (by simpa using hl') (fun i c v h1 h2=>hh' i c v h1 (by simpa using h2))
    obtain⟨hg,hcalls⟩:=wI h hs hdef.2.prog hdef.2.globs (args:=first'++c.args.map a.eval++caps') (by simpa using (v1.append (hv.append v2)))
    have hx:execOp a.eval o=callFunc f (first'++c.args.map a.eval++caps'):=by
     obtain⟨od,oop,oty,opos,oaft,ogd⟩:=o
     obtain⟨cc,ca,ct⟩:=c
     simp only at hop h1
     subst hop h1
     simp only [execOp,resolve,Act.eval,htv,Deferred.ofValue]
     rfl
    rw [hx,hg.run]
    exact qJ hcalls fun v w' ⟨g',x,σ',q,hs',hv',hev'⟩ =>
     hK _ _ _ _ q ⟨g',hs',(he.later hev'.later).put hd hv',mU hdef hev',hev.trans hev'⟩
  ·rename_i r hf
   have hfn:=he.at htl
   simp only [Opd.ev] at hf
   rw [hf] at hfn
   generalize htv:a.tmps.getD t undef=tv at hfn
   obtain⟨Q1,hk,hq⟩:=h
   have hv:=jR he h2
   obtain⟨l,l1,l2,l3⟩:=hk g w (c.args.map a.eval) hdef.2.prog hdef.2.globs hs (by simpa using hv)
   cases hfn with
   | yld _ hh =>
    have hx:execOp a.eval o=Instr.yield (g.obj r).1 (#[]++c.args.map a.eval):=by
     obtain⟨od,oop,oty,opos,oaft,ogd⟩:=o
     obtain⟨cc,ca,ct⟩:=c
     simp only at hop h1
     subst hop h1
     simp only [execOp,resolve,Act.eval,htv,Deferred.ofValue]
     rfl
    rw [hx,Array.empty_append,run_yield l1 l2,Oper.uponIn_round]
    refine⟨fun h=>by simp [FW,Fence.wide] at h,?_⟩
    have l4:RoundIn (FW ro) (0-1) P (g.obj r).1 l.fn ((l.params.zip (c.args.map a.eval)).foldl (fun tmps (t,a)=>tmps.setIfInBounds t a) l.tmps) l.assign l.body w _:=l3
    refine l4.mono fun e w' h=>?_
    cases e with
    | returned v =>
     obtain⟨g',x,σ',q,hs',hv',hev'⟩:=h
     exact hK _ _ _ _ (hq _ _ q) ⟨g',hs',(he.later hev'.later).put hd hv',mU hdef hev',hev.trans hev'⟩
    | panicked c=>exact h.elim
    | outgrown=>exact h.elim
  ·exact h.elim
 | next dst it =>
  simp only [jG] at h
  obtain⟨it',hop,hci,rfl⟩:=aCt hc
  obtain⟨cv,w',g',x,σ',hrun,hq,hs',hv',hev'⟩:=aGY (P:=P) (ty:=o.type) hs (nK hci he) h
  have hx:execOp a.eval o=(do pure (.value (← Instr.next (a.eval it') false o.type))):=by
   obtain⟨od,oop,oty,opos,oaft,ogd⟩:=o
   simp only at hop
   subst hop
   rfl
  rw [hx]
  simp only [Sem.run_bind,hrun,aV,Sem.run_pure]
  rw [Oper.uponIn_value]
  exact hK _ _ _ _ hq ⟨g',hs',(he.later hev'.later).put hd hv',mU hdef hev',hev.trans hev'⟩
 | «when» s want body =>
  have:=(qN hc).1
  simp [Ins.simple] at this

theorem vB {g:Gh}{tk:List Nat}{w:World}{e:Env}{a:Act}(he:EnvR g tk w n e a.tmps){ops:Array Oper}{j s:Nat}(hj:(ops[j]?).bind (·.dst)=some s){b:Bool}(hb:e.get s = .d (.bool b)) :
  yielded ops a.tmps j=some b:=by
 have h:=he.2 s
 rw [hb] at h
 have h:=h.inv_bool
 unfold sC at h
 split at h
 case isFalse=>cases h
 unfold yielded
 rw [hj]
 have:a.tmps[s]?=some (.bool b):=by
  rw [Array.getD_eq_getD_getElem?] at h
  cases ht:a.tmps[s]? with
  | none=>rw [ht] at h; simp [undef] at h
  | some x=>rw [ht] at h; simpa using h
 simp [this]

theorem vC {g:Gh}{tk:List Nat}{w:World}{e:Env}{a:Act}(he:EnvR g tk w n e a.tmps){ops:Array Oper}{j s:Nat}(hj:(ops[j]?).bind (·.dst)=some s)(hb:e.get s = .gone) :
  yielded ops a.tmps j=none:=by
 have h:=he.2 s
 rw [hb] at h
 unfold sC at h
 split at h
 case isFalse=>cases h
 generalize htv:a.tmps.getD s undef=tv at h
 cases h
 unfold yielded
 rw [hj]
 rw [Array.getD_eq_getD_getElem?] at htv
 cases ht:a.tmps[s]? with
 | none=>simp [ht]
 | some x=>rw [ht] at htv; simp at htv; simp [ht,htv,undef]

theorem rH {ops:Array Oper}{o:Oper}{gd:Option (Nat×Bool)}{i:Ins}(h:qL P n ops o=some (gd,i)) :
  jV P o=some i∧o.dst.all (· < n)=true∧((o.guard=none∧gd=none)∨∃ j s w,o.guard=some (j,w)∧(ops[j]?).bind (·.dst)=some s∧gd=some (s,w)):=by
 unfold qL at h
 split at h
 ·cases h
 ·rename_i i' hi
  split at h
  ·rename_i hd
   split at h
   ·rename_i hg
    cases h
    exact⟨hi,hd,.inl ⟨hg,rfl⟩⟩
   ·rename_i j w hg
    split at h
    ·rename_i s hs
     cases h
     exact⟨hi,hd,.inr ⟨j,s,w,hg,hs,rfl⟩⟩
    ·cases h
  ·cases h

def wgd (K:iI)(cx:Cx)(gd:Option (Nat×Bool))(i:Ins)(e:Env) (σ:St)(Q:Env→St→Prop):Prop :=
 match gd with
 | none=>jG K cx i e σ Q
 | some (s,want)=>jG K cx (.when s want [i]) e σ Q

theorem aEg {cx:Cx}{ops:Array Oper}{o:Oper}{gd:Option (Nat×Bool)}{i:Ins}(hc:qL P n ops o=some (gd,i)){k:Nat}(hk:ops[k]?=some o){e:Env} {σ:St}{Q:Env→St→Prop}
  (h:wgd (SK P cx) cx gd i e σ Q) {a:Act} {w:World} (ha:At P cx n g0 σ0 w0 e σ a w)
  {K:Act→World→Prop} {R:Exit→Act→World→Prop} (hK : ∀ e' σ' a' w',Q e' σ'→At P cx n g0 σ0 w0 e' σ' a' w'→K a' w'):wpOpIn (FW ro) 0 P ops R k K a w:=by
 obtain⟨h1,h2,h3⟩:=rH hc
 obtain⟨hsim,hdst⟩:=qN h1
 unfold wpOpIn
 rw [hk]
 simp only
 have skip : ∀ e':Env,e'=eK e o.dst .gone→Q e' σ→K (a.put o.dst undef) w:=fun e' he' hq=>by
  obtain⟨g,hs,he,hdef,hev⟩:=ha
  subst he'
  exact hK _ _ _ _ hq ⟨g,hs,he.put h2 .gone,mU hdef (Ev.refl _ _ _),hev⟩
 rcases h3 with⟨hg,rfl⟩ | ⟨j,s,want,hg,hj,rfl⟩
 ·have hw:Region.wanted o (yielded ops a.tmps)=true:=by simp [Region.wanted,hg]
  rw [if_pos hw]
  exact nE h1 h2 h ha hK
 ·simp only [wgd,jG,iD] at h
  have ha':=ha
  obtain⟨g,hs,he,hdef,hev⟩:=ha'
  split at h
  ·rename_i b hb
   have hy:=vB he hj hb
   have hw:Region.wanted o (yielded ops a.tmps)=(b==want):=by simp [Region.wanted,hg,hy]
   split at h
   ·rename_i hbw
    rw [hw,hbw,if_pos (by simp)]
    exact nE h1 h2 h ha hK
   ·rename_i hbw
    rw [hw,if_neg (by simpa using hbw)]
    refine⟨fun _ _=>trivial,skip _ ?_ h⟩
    simp only [dD,iZ hsim,hdst]
  ·rename_i hb
   have hy:=vC he hj hb
   have hw:Region.wanted o (yielded ops a.tmps)=false:=by simp [Region.wanted,hg,hy]
   rw [hw,if_neg (by simp)]
   refine⟨fun _ _=>trivial,skip _ ?_ h⟩
   simp only [dD,iZ hsim,hdst]
  ·exact h.elim

theorem qZ {ops:Array Oper} : ∀ {os:List Oper} {l:List (Option (Nat×Bool)×Ins)},mL P n ops os=some l→∀ p∈l,p.2.simple=true
 | [],l,h=>by simp [mL] at h; subst h; simp
 | o::r,l,h=>by
  simp only [mL] at h
  split at h
  ·rename_i x l' hx hl
   cases h
   intro p hp
   rcases bU.1 hp with rfl | hp
   ·exact(qN (rH (gd:=p.1) (i:=p.2) hx).1).1
   ·exact qZ hl p hp
  ·cases h

theorem aDp {cx:Cx}{ops:Array Oper}{Q:Env→St→Prop}{R:Exit→Act→World→Prop}(hQ : ∀ e σ a w,Q e σ→At P cx n g0 σ0 w0 e σ a w→R .normal a w) :
  ∀ (os:List Oper) (k:Nat),ops.toList.drop k=os→∀ (l:List (Option (Nat×Bool)×Ins)),mL P n ops os=some l→∀ (e:Env) (σ:St),wg (SK P cx) cx l e σ Q→∀ (a:Act) (w:World),At P cx n g0 σ0 w0 e σ a w →
   wpOpsIn (FW ro) 0 P ops R (List.range' k os.length) a w
 | [],k,hk,l,hl,e,σ,h,a,w,ha=>by
  simp [mL] at hl
  subst hl
  exact hQ _ _ _ _ h ha
 | o::r,k,hk,l,hl,e,σ,h,a,w,ha=>by
  simp only [mL] at hl
  split at hl
  ·rename_i x l' hx hl'
   cases hl
   have ho:ops[k]?=some o:=by
    have:=congrArg (·[0]?) hk
    simp only [List.getElem?_drop] at this
    simpa using this
   have hr:ops.toList.drop (k+1)=r:=by
    rw [← List.drop_drop,hk]; rfl
   rw [List.length_cons,List.range'_succ,wpOpsIn_cons]
   obtain⟨gd,i⟩:=x
   refine aEg (cx:=cx) (Q:=fun e' σ'=>wg (SK P cx) cx l' e' σ' Q) hx ho ?_ ha (fun e' σ' a' w' h' ha'=>aDp hQ r (k+1) hr l' hl' e' σ' h' a' w' ha')
   cases gd with
   | none=>exact h
   | some p=>exact h
  ·cases hl

theorem aBU {cx:Cx}{id:Nat}{ops:Array Oper}{l:List (Option (Nat×Bool)×Ins)}(hl:mL P n ops ops.toList=some l){Q:Env→St→Prop}{e:Env} {σ:St}(h:iD (SK P cx) cx (uD l) e σ Q){a:Act}{w:World}
  (ha:At P cx n g0 σ0 w0 e σ a w) {R:Exit→Act→World→Prop} (hQ : ∀ e σ a w,Q e σ→At P cx n g0 σ0 w0 e σ a w→R .normal a w):(Code.region id ops false).wpIn (FW ro) 0 P R a w:=by
 apply wpIn_region
 have:=aDp (ro:=ro) hQ ops.toList 0 rfl l hl e σ (zG l (qZ hl) e σ h) a w ha
 rw [List.range_eq_range']
 simpa using this

end Go.Dn
