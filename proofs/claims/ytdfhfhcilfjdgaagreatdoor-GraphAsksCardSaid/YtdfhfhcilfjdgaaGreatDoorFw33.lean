import Derived.Test.YtdfhfhcilfjdgaaGreatDoorFw25
import Derived.WideShapes
import Derived.OpenShut
import Derived.Deep.Slices
import Derived.Below
set_option linter.unusedVariables false
set_option linter.unusedSimpArgs false
open List renaming reduceReplicate → aA,getElem?_eq_some_iff → aB,getElem?_append_left → aC,replicate → aD,cons_append → aE,getElem?_set_ne → aF,append_nil → aG,nil_append → aH,map_cons → aI,take_of_length_le → aK,mem_of_getElem? → aL,map_nil → aM,getElem?_set_self → aO,length_map → aQ,getElem?_eq_none → aR,mem_map → aT,mem_append → aW,length_append → aX,mem_filter → aY,take_append_getElem → aZ,getD_eq_getElem?_getD → bA,take_length → bC,drop_zero → bF,getElem?_map → bG,getElem?_append_right → bH,mem_singleton → bI,getElem?_eq_getElem → bO,eq_nil_of_length_eq_zero → bP,getElem?_of_mem → bQ,length_replicate → bS,drop_of_length_le → bT,mem_cons → bU,append_assoc → bV,mem_append_right → bX
open Go.IntKind renaming i64 → aJ,u64 → bL
open Option renaming some → aN
open Bool renaming false_eq_true → aP,and_eq_true → aS
open Go.Builtin renaming zeroCells → aU,append_ → bD,firstCells → bM
open Go.Result renaming andThen_ok → aV
open Nat renaming le_refl → bB,mul_le_mul_right → bE,add_mul → bJ,lt_or_ge → bR
open Array renaming getElem?_eq_some_iff → bW
/- Regions that draw their order; code. -/
namespace Go.Dn
open Go.Lib

variable {P:Program} {n:Nat} {g0:Gh} {σ0:St} {w0:World} {ro:Option Nat}

theorem aC3 {σ:St}{m r:Nat}{o:Obj}(h:(σ.room m).objs[r]?=some o):σ.objs[r]?=some o∨(σ.objs.length≤r∧o = .free):=by
 simp only [St.room] at h
 rcases bR r σ.objs.length with hlt | hge
 ·rw [aC hlt] at h; exact .inl h
 ·rw [bH hge,List.getElem?_replicate] at h
  split at h
  ·cases h; exact .inr ⟨hge,rfl⟩
  ·cases h

theorem lT {σ:St}{m r:Nat}{o:Obj}(h:(σ.room m).objs[r]?=some o)(hl:o.live):σ.objs[r]?=some o:=by
 rcases aC3 h with h | ⟨_,rfl⟩
 ·exact h
 ·exact hl.elim

theorem aFx {g:Gh} {σ:St}{m b:Nat}(h:rE g (σ.room m) b):rE g σ b:=by
 rcases h with⟨r,o,h1,h2,h3⟩ | h
 ·exact .inl ⟨r,o,lT h1 h2,h2,h3⟩
 ·exact .inr h

theorem Sim.room {g:Gh} {σ:St}{w:World}(hs:Sim g σ w)(m:Nat):Sim g (σ.room m) w∧Ev g σ w g (σ.room m) w:=by
 refine⟨⟨fun r o h hl=>hs.has r o (lT h hl) hl,fun r h=>?_,fun r h=>?_,fun r cs h=>hs.cells r cs (lT h trivial),fun r o h ho=>hs.oth r o (lT h ho.live) ho,fun r r' o o' h hl h' hl'=>hs.dist r r' o o' (lT h hl) hl (lT h' hl') hl',
  fun r o h hl=>hs.nofrz r o (lT h hl) hl,hs.tok,hs.tdist,fun t k r o ht h hl=>hs.tobj t k r o ht (lT h hl) hl,hs.frzb,fun r cs h=>hs.lims r cs (lT h trivial)⟩,Later.refl _ _ _,bB _,rfl,rfl,rfl,fun _ _ _=>rfl,fun b h=>.inl (aFx h),fun _ _ h=>.inl h⟩
 ·have:=hs.bound r h
  simp only [St.room,aX,bS]
  omega
 ·intro hh
  rcases aC3 h with h | ⟨h,_⟩
  ·exact hs.free r h hh
  ·have:=hs.bound r hh
   omega

def gdo (gd:Option (Nat×Bool))(i:Ins)(e:Env) (σ:St)(go:Prop)(Q:Env→St→Prop):Prop :=
 match gd with
 | none=>go
 | some (s,want)=>match e.get s with
  | .d (.bool b)=>if b=want then go else Q (dG i e) σ
  | .gone=>Q (dG i e) σ
  | _=>False

def dgo (K:iI)(cx:Cx)(n0:Nat)(o:DOp)(e:Env) (σ:St)(Q:Env→St→Prop):Prop :=
 match o.ins with
 | .e dst op=>(match dM op e σ (some (n0+o.al)) with
  | some (v,σ')=>Q (eK e dst v) σ'
  | none=>False)∨(match iB op e σ (some (n0+o.al)) with
  | some (v,σ')=>Q (eK e dst v) σ'
  | none=>False)
 | .p dst op=>(match dC op e σ with
  | some v=>Q (eK e dst v) σ
  | none=>False)
 | i=>jG K cx i e σ Q

theorem aCd (K:iI)(cx:Cx)(n0:Nat)(o:DOp)(e:Env) (σ:St)(Q:Env→St→Prop):aF8 K cx n0 o e σ Q=gdo o.guard o.ins e σ (dgo K cx n0 o e σ Q) Q:=rfl

theorem aAS {cx:Cx}{o:Oper}{d:DOp}{n0:Nat}(hc:jV P o=some d.ins)(hd:o.dst.all (· < n)=true){e:Env} {σ:St}{Q:Env→St→Prop}(h:dgo (SK P cx) cx n0 d e σ Q){a:Act}{w:World}(ha:At P cx n g0 σ0 w0 e σ a w)
  {K:Act→World→Prop} {R:Exit→Act→World→Prop} (hK : ∀ e' σ' a' w',Q e' σ'→At P cx n g0 σ0 w0 e' σ' a' w'→K a' w'):o.wpIn (FW ro) 0 P a w K R:=by
 obtain⟨gd,i,af,al⟩:=d
 cases i with
 | e dst op =>
  simp only [dgo] at h
  obtain⟨g,hs,he,hdef,hev⟩:=ha
  unfold Oper.wpIn
  refine⟨fun _ _=>trivial,?_⟩
  rw [Oper.semAt_eq _ _ _ (qM hc)]
  rcases h with h | h
  ·split at h
   ·rename_i v σ' hv
    obtain⟨rfl,cv,w',g',hrun,hs',hv',hev'⟩:=aAT hs he hc hv
    rcases hrun with hrun | ⟨hrun,rfl⟩
    ·rw [hrun,Oper.uponIn_value]
     exact hK _ _ _ _ h ⟨g',hs',(he.later hev'.later).put hd hv',mU hdef hev',hev.trans hev'⟩
    ·rw [hrun,Oper.uponIn_skip]
     exact hK _ _ _ _ h ⟨g',hs',(he.later hev'.later).put hd hv',mU hdef hev',hev.trans hev'⟩
   ·exact h.elim
  ·split at h
   ·rename_i v σ' hv
    obtain⟨rfl,cv,w',g',hrun,hs',hv',hev'⟩:=aAU hs he hc hv
    rcases hrun with hrun | ⟨hrun,rfl⟩
    ·rw [hrun,Oper.uponIn_value]
     exact hK _ _ _ _ h ⟨g',hs',(he.later hev'.later).put hd hv',mU hdef hev',hev.trans hev'⟩
    ·rw [hrun,Oper.uponIn_skip]
     exact hK _ _ _ _ h ⟨g',hs',(he.later hev'.later).put hd hv',mU hdef hev',hev.trans hev'⟩
   ·exact h.elim
 | p dst op =>
  obtain⟨g,hs,he,hdef,hev⟩:=ha
  unfold Oper.wpIn
  refine⟨fun _ _=>trivial,?_⟩
  rw [Oper.semAt_eq _ _ _ (qM hc)]
  simp only [dgo] at h
  split at h
  ·rename_i v hv
   obtain⟨rfl,cv,w',g',hrun,hs',hv',hev'⟩:=aAV hs he hc hv
   rw [hrun,Oper.uponIn_value]
   exact hK _ _ _ _ h ⟨g',hs',(he.later hev'.later).put hd hv',mU hdef hev',hev.trans hev'⟩
  ·exact h.elim
 | call dst f args=>exact nE (cx:=cx) hc hd h ha hK
 | callv dst f args=>exact nE (cx:=cx) hc hd h ha hK
 | next dst it=>exact nE (cx:=cx) hc hd h ha hK
 | «when» s want body=>exact nE (cx:=cx) hc hd h ha hK

theorem aEf {cx:Cx}{ops:Array Oper}{o:Oper}{d:DOp}{n0:Nat}(hc:qL P n ops o=some (d.guard,d.ins)){k:Nat}(hk:ops[k]?=some o){e:Env} {σ:St}{Q:Env→St→Prop}
  (h:aF8 (SK P cx) cx n0 d e σ Q) {a:Act} {w:World} (ha:At P cx n g0 σ0 w0 e σ a w)
  {K:Act→World→Prop} {R:Exit→Act→World→Prop} (hK : ∀ e' σ' a' w',Q e' σ'→At P cx n g0 σ0 w0 e' σ' a' w'→K a' w'):wpOpIn (FW ro) 0 P ops R k K a w:=by
 obtain⟨h1,h2,h3⟩:=rH hc
 obtain⟨hsim,hdst⟩:=qN h1
 rw [aCd] at h
 unfold wpOpIn
 rw [hk]
 simp only
 have skip : ∀ e':Env,e'=eK e o.dst .gone→Q e' σ→K (a.put o.dst undef) w:=fun e' he' hq=>by
  obtain⟨g,hs,he,hdef,hev⟩:=ha
  subst he'
  exact hK _ _ _ _ hq ⟨g,hs,he.put h2 .gone,mU hdef (Ev.refl _ _ _),hev⟩
 rcases h3 with⟨hg,hgd⟩ | ⟨j,s,want,hg,hj,hgd⟩
 ·rw [hgd] at h
  have hw:Region.wanted o (yielded ops a.tmps)=true:=by simp [Region.wanted,hg]
  rw [if_pos hw]
  exact aAS (cx:=cx) h1 h2 h ha hK
 ·rw [hgd] at h
  simp only [gdo] at h
  have ha':=ha
  obtain⟨g,hs,he,hdef,hev⟩:=ha'
  split at h
  ·rename_i b hb
   have hy:=vB he hj hb
   have hw:Region.wanted o (yielded ops a.tmps)=(b==want):=by simp [Region.wanted,hg,hy]
   split at h
   ·rename_i hbw
    rw [hw,hbw,if_pos (by simp)]
    exact aAS (cx:=cx) h1 h2 h ha hK
   ·rename_i hbw
    rw [hw,if_neg (by simpa using hbw)]
    refine⟨fun _ _=>trivial,skip _ ?_ h⟩
    rw [iZ hsim,hdst]
  ·rename_i hb
   have hy:=vC he hj hb
   have hw:Region.wanted o (yielded ops a.tmps)=false:=by simp [Region.wanted,hg,hy]
   rw [hw,if_neg (by simp)]
   refine⟨fun _ _=>trivial,skip _ ?_ h⟩
   rw [iZ hsim,hdst]
  ·exact h.elim

theorem oE {ops:Array Oper} : ∀ {os:List Oper} {k:Nat} {l:List DOp} {m:Nat},nR P n ops k os=some (l,m)→l.length=os.length ∧
  ∀ (i:Nat) (o:Oper),os[i]?=some o→∃ d,l[i]?=some d∧qL P n ops o=some (d.guard,d.ins)∧d.after=aBq o
 | [],k,l,m,h=>by simp [nR] at h; obtain⟨rfl,rfl⟩:=h; exact⟨rfl,fun i o h=>by simp at h⟩
 | o::r,k,l,m,h=>by
  simp only [nR] at h
  split at h
  ·rename_i gd i hc
   split at h
   ·rename_i l' m' hr
    cases h
    obtain⟨a1,a2⟩:=oE hr
    refine⟨by simp [a1],fun j o' hj=>?_⟩
    cases j with
    | zero=>simp at hj; subst hj; exact⟨_,rfl,hc,rfl⟩
    | succ j=>simp at hj; simpa using a2 j o' hj
   ·cases h
  ·cases h

theorem aAe {ops:Array Oper}{l:List DOp}{m:Nat}(hl:nR P n ops 0 ops.toList=some (l,m)){listedA:Array Bool}{listed:List Nat}(hsz:listedA.size=ops.size)(hrel : ∀ j,listedA.getD j false=listed.contains j) :
  Region.ready .any ops listedA=qW l listed:=by
 obtain⟨h1,h2⟩:=oE hl
 unfold Region.ready qW
 rw [h1]
 simp only [Array.length_toList]
 apply List.filter_congr
 intro i hi
 rw [List.mem_range] at hi
 have ho:ops[i]?=some ops[i]:=by simp [hi]
 obtain⟨d,d1,d2,d3⟩:=h2 i ops[i] (by simp [hi])
 rw [ho,d1]
 simp only [Option.map_some,Option.getD_some,d3]
 have e1:listedA.getD i true=listed.contains i:=by
  rw [← hrel i]
  have:i<listedA.size:=by omega
  simp [Array.getD_eq_getD_getElem?,this]
 rw [e1]
 congr 1
 unfold aBq
 rw [List.all_map,List.all_filter,← Array.all_toList]
 apply List.all_congr rfl
 intro e
 simp only [Function.comp,hrel]

theorem aAA {cx:Cx}{ops:Array Oper}{l:List DOp}{m n0:Nat}(hl:nR P n ops 0 ops.toList=some (l,m)){Q:Env→St→Prop}{R:Exit→Act→World→Prop}(hQ : ∀ e σ a w,Q e σ→At P cx n g0 σ0 w0 e σ a w→R .normal a w) :
  ∀ (fuel:Nat) (listedA:Array Bool) (listed:List Nat),listedA.size=ops.size→(∀ j,listedA.getD j false=listed.contains j)→∀ (e:Env) (σ:St),aEe (SK P cx) cx n0 l fuel listed e σ Q→∀ (a:Act) (w:World),At P cx n g0 σ0 w0 e σ a w →
   wpAnyIn (FW ro) 0 P .any ops R fuel listedA a w
 | 0,listedA,listed,hsz,hrel,e,σ,h,a,w,ha=>by
  obtain⟨h1,h2⟩:=h
  exact⟨by rw [aAe hl hsz hrel]; exact h1,hQ _ _ _ _ h2 ha⟩
 | fuel+1,listedA,listed,hsz,hrel,e,σ,h,a,w,ha=>by
  obtain⟨h1,h2⟩:=h
  refine⟨fun hr=>hQ _ _ _ _ (h1 (by rw [← aAe hl hsz hrel]; exact hr)) ha,fun i hi=>?_⟩
  rw [aAe hl hsz hrel] at hi
  obtain⟨d,hd,hw⟩:=h2 i hi
  obtain⟨c1,c2⟩:=oE hl
  have hlt:i<ops.size:=by
   have:=(aB.1 hd).1
   simpa [c1] using this
  obtain⟨d',d1,d2,d3⟩:=c2 i ops[i] (by simp [hlt])
  rw [hd] at d1
  cases d1
  refine aEf (cx:=cx) (k:=i) d2 (by simp [hlt]) hw ha (fun e' σ' a' w' h' ha'=>?_)
  refine aAA (cx:=cx) hl hQ fuel _ (i::listed) (by simpa using hsz) (fun j=>?_) e' σ' h' a' w' ha'
  by_cases hij:i=j
  ·subst hij
   simp [Array.getD_eq_getD_getElem?,hsz,hlt]
  ·rw [getD_set_ne false hij,hrel j]
   have : ¬ j=i:=fun e=>hij e.symm
   simp [this]

theorem aDK {cx:Cx}(hm:P.follows .mixedOrders=true){id:Nat}{ops:Array Oper}{l:List DOp}{m:Nat}(hl:nR P n ops 0 ops.toList=some (l,m)){Q:Env→St→Prop}{e:Env} {σ:St}
  (h:aK3 e σ→aEe (SK P cx) cx σ.objs.length l l.length [] e (σ.room m) Q) {a:Act} {w:World}
  (ha:At P cx n g0 σ0 w0 e σ a w) {R:Exit→Act→World→Prop} (hQ : ∀ e σ a w,Q e σ→At P cx n g0 σ0 w0 e σ a w→R .normal a w):(Code.region id ops true).wpIn (FW ro) 0 P R a w:=by
 apply wpIn_region_any hm
 obtain⟨g,hs,he,hdef,hev⟩:=ha
 have h:=h (fun s r hr=>by
  have hv:=he.2 s
  generalize sC a.tmps s=cv at hv
  generalize e.get s=ev at hv hr
  cases hv with
  | agg cs vs hl h1 hh =>
   simp only [jP,List.mem_flatMap] at hr
   obtain⟨c,hc,hr⟩:=hr
   obtain⟨i,hi⟩:=bQ hc
   have hil:i<vs.size:=by rw [← hl]; exact(aB.1 hi).1
   have hv:=hh i c vs[i] hi (by simp [hil])
   generalize vs[i]=u at hv
   cases hv <;> simp only [aCx,List.not_mem_nil,bI] at hr <;> (subst hr; exact hs.bound _ (by assumption))
  | _=>(simp only [jP,List.not_mem_nil,bI] at hr) <;> (subst hr; exact hs.bound _ (by assumption)))
 obtain⟨r1,r2⟩:=hs.room m
 obtain⟨r3,r4⟩:=r1.drawn (w.drawn+1)
 rw [(oE hl).1,Array.length_toList] at h
 refine aAA (cx:=cx) hl hQ ops.size _ [] (by simp) (fun j=>?_) e _ h a _ ⟨g,r3,(he.later r2.later).later r4.later,⟨(hdef.1.ev r2).ev r4,(hdef.2.later r2.later).later r4.later⟩,(hev.trans r2).trans r4⟩
 simp only [Array.getD_eq_getD_getElem?,Array.getElem?_replicate,List.contains_nil]
 split <;> rfl

def aLa:Ex→Exit
 | .normal=>.normal
 | .exit id=>.exit id
 | .ret=>.ret

theorem At.pick {cx:Cx}{e:Env} {σ:St}{a:Act}{w:World}(h:At P cx n g0 σ0 w0 e σ a w)(ks:List Nat):At P cx n g0 σ0 w0 (e.pick ks) σ a w:=by
 obtain⟨g,hs,he,hd,hev⟩:=h
 exact⟨g,hs,he.pick ks,hd,hev⟩

theorem aBT {cx:Cx}{ks:List Nat}{f:Operand}{f':Opd}{ps:Array Tmp}{ac bc:Code}{a0 b0:C}(hf:iF f=some f')(hca:comp P n ac=some (jU a0))(hcb:comp P n bc=some (jU b0))(hpa:a0.plain=true)(hpb:b0.plain=true)(hps : ∀ p∈ps.toList,p<n)
  {e:Env} {σ:St} {Q:gT} (h:gF (SK P cx) cx (.rangeF ks f' ps.toList a0 b0) e σ Q) {a:Act} {w:World} (ha:At P cx n g0 σ0 w0 e σ a w) {R:Exit→Act→World→Prop}
  (hR : ∀ ex e' σ' a' w',Q ex e' σ'→At P cx n g0 σ0 w0 e' σ' a' w'→R (aLa ex) a' w'):(Code.rangeFunc f ps ac bc).wpIn (FW none) 0 P R a w:=by
 obtain⟨g,hs,he,hdef,hev⟩:=ha
 simp only [gF] at h
 split at h
 case h_2=>exact h.elim
 rename_i fg first caps hfe
 refine wpIn_rangeFunc fun fn _=>?_
 -- the two blocks
 have w1h:Grown1 w (.deferred (some [])) (w.alloc (.deferred (some []))):=⟨rfl,rfl,rfl,rfl⟩
 obtain⟨d1,d2⟩:=hs.away (w':=w.alloc (.deferred (some []))) (f':=g.frz) (fun b hb=>w1h.old hb) (by rw [w1h.size]; omega) (fun _ _ h=>h) (fun _ _ h=>.inl h) (fun b q h=>by
  obtain⟨v,hv⟩:=hs.frzb b q h
  exact⟨v,by rw [w1h.cell (nG hv)]; exact hv⟩) w1h.os w1h.tape w1h.output
 have hg0:({ g with frz:=g.frz }:Gh)=g:=rfl
 rw [hg0] at d1 d2
 let lp:Loop:={ state:=.ready,pending:=none,fn:=fn,tmps:=a.tmps,params:=ps,assign:=ac,body:=bc,defers:=w.heap.size }
 have w2h:Grown1 (w.alloc (.deferred (some []))) (.loop lp) ((w.alloc (.deferred (some []))).alloc (.loop lp)):=⟨rfl,rfl,rfl,rfl⟩
 have he1:=he.later d2.later
 have hoth:OthR g σ.toks (w.alloc (.deferred (some []))) (.loop (e.pick ks) ps.toList a0 b0 .ready) (.loop lp):=by
  refine⟨rfl,⟨rfl,rfl⟩,hpa,hpb,n,hps,?_,?_,he1.pick ks⟩
  ·rw [hdef.2.prog]; exact hca
  ·rw [hdef.2.prog]; exact hcb
 obtain⟨s1,s2⟩:=d1.new_oth (tg:=none) (o:=.loop (e.pick ks) ps.toList a0 b0 .ready) trivial rfl hoth w2h
 have hsz:(w.alloc (.deferred (some []))).heap.size=w.heap.size+1:=w1h.size
 rw [hsz] at s1 s2
 have hspot:σ.spot none=σ.objs.length:=rfl
 rw [hspot] at s1 s2
 have hσ:St.push σ (.loop (e.pick ks) ps.toList a0 b0 .ready)=σ.push (.loop (e.pick ks) ps.toList a0 b0 .ready):=rfl
 generalize hg1:g.add σ.objs.length (w.heap.size+1) 0 0=g1 at s1 s2
 have hob:g1.obj σ.objs.length=(w.heap.size+1,0):=by rw [← hg1]; exact Gh.add_obj _ _ _ _ _
 have hhas:g1.has σ.objs.length:=by rw [← hg1]; exact .inr rfl
 generalize hw2:(w.alloc (.deferred (some []))).alloc (.loop lp)=w2 at s1 s2
 have hmark:Marks g1 (σ.push (.loop (e.pick ks) ps.toList a0 b0 .ready)) w0 w2 ({ target:=.collected w.heap.size,args := #[] }::a.defers):=by
  obtain⟨rs,m1,m2,m3⟩:=hdef.1.ev (d2.trans s2)
  obtain⟨rs',m1',m2',m3'⟩:=hdef.1
  have hrs:rs=rs':=by
   exact(List.map_inj_right (fun x y h=>by simpa using h)).1 (m1.symm.trans m1')
  subst hrs
  refine⟨w.heap.size::rs,by rw [m1]; rfl,?_,fun d hd=>?_⟩
  ·rw [List.nodup_cons]
   refine⟨fun h=>?_,m2⟩
   have:=(bW.1 (m3' _ h).2.1).1
   omega
  rcases bU.1 hd with rfl | hd
  ·refine⟨hev.size,?_,fun hm=>?_⟩
   ·rw [← hw2,w2h.old (by rw [hsz]; omega)]
    exact w1h.new
   ·rcases s2.mine _ hm with h | h
    ·have:=aIt hs h
     omega
    ·rw [hsz] at h
     omega
  ·exact m3 d hd
 have hkx:=hdef.2.later (d2.trans s2).later
 have hfv:=(nK hf he).later (d2.trans s2).later
 rw [hfe] at hfv
 generalize hfx:a.eval f=fx at hfv
 cases hfv with
 | fn _ _ _ first' caps' hl hl' hh hh' =>
  obtain⟨Q1,hk,hq⟩:=h
  have v1:VRs g1 (σ.push (.loop (e.pick ks) ps.toList a0 b0 .ready)).toks w2 first first'.toList:=VRs.of_get (by simpa using hl) (fun i c v h1 h2=>hh i c v h1 (by simpa using h2))
  have v2:VRs g1 (σ.push (.loop (e.pick ks) ps.toList a0 b0 .ready)).toks w2 caps caps'.toList:=VRs.of_get (by simpa using hl') (fun i c v h1 h2=>hh' i c v h1 (by simpa using h2))
  have vy:VR g1 (σ.push (.loop (e.pick ks) ps.toList a0 b0 .ready)).toks w2 (.yld σ.objs.length) (.func (.yield (w.heap.size+1)) #[] #[]):=by
   have:=VR.yld (tk:=(σ.push (.loop (e.pick ks) ps.toList a0 b0 .ready)).toks) (w:=w2) σ.objs.length hhas
   rwa [hob] at this
  have v3:VRs g1 (σ.push (.loop (e.pick ks) ps.toList a0 b0 .ready)).toks w2 [.yld σ.objs.length] [.func (.yield (w.heap.size+1)) #[] #[]]:=⟨vy,trivial⟩
  obtain⟨hgood,hcall⟩:=hk
  have hcalls:=hcall g1 w2 (first' ++ #[.func (.yield (w.heap.size+1)) #[] #[]]++caps') hkx.prog hkx.globs s1 (by
   simpa using v1.append (v3.append v2))
  refine⟨w.heap.size+1,[{ target:=.collected w.heap.size,args := #[] }],w2,{ target:=.fn (.func fg) caps',args:=first' ++ #[.func (.yield (w.heap.size+1)) #[] #[]] },w2,fg,first' ++ #[.func (.yield (w.heap.size+1)) #[] #[]]++caps',w2,?_,?_,fun _ _=>trivial,?_,fun h=>by simp [FW,Fence.wide] at h,?_⟩
  ·show(Instr.enterLoop fn a.tmps ps ac bc none).run P w=_
   rw [run_enterLoop_outer]
   rw [← hw2]
  ·simp only [resolve,hfx,Deferred.ofValue]
   simp [Act.eval]
  ·simp only [invoke]
   exact hgood.run _ _
  ·have hc':CallsIn (FW none) (0-1) P fg (first' ++ #[.func (.yield (w.heap.size+1)) #[] #[]]++caps') w2 _:=callsIn_wide.2 hcalls
   refine hc'.mono fun ex w3 hret=>?_
   cases ex with
   | panicked c=>exact hret.elim
   | outgrown=>exact hret.elim
   | returned v =>
    obtain⟨g3,x,σ3,hQ1,hs3,_,hev3⟩:=hret
    have hq3:=hq _ _ hQ1
    simp only at hq3
    have hob3:g3.obj σ.objs.length=(w.heap.size+1,0):=by rw [(hev3.later.has _ hhas).2.1,hob]
    have fin : ∀ (e':Env) (ps':List Nat) (a' b':C) (st:LSt) (y:Ex),σ3.objs[σ.objs.length]?=some (.loop e' ps' a' b' st)→((st = .ready∧y = .normal)∨st = .done y)→Q y (e.pick ks) (σ3.setObj σ.objs.length .dead) →
      rangePost (FW none) 0 P (w.heap.size+1) R { a with defers:=[{ target:=.collected w.heap.size,args := #[] }]++a.defers } (.returned v) w3:=by
     intro e' ps' a' b' st y hob4 hst hqy
     obtain⟨ho,o1,o2⟩:=hs3.oth _ _ hob4 trivial
     cases ho <;> try exact o2.elim
     rename_i l3
     rw [hob3] at o1
     obtain⟨_,hstl,_⟩:=o2
     have hnb:l3.state ≠ .busy:=by
      rcases hst with⟨rfl,_⟩ | rfl
      ·rw [hstl.1]; simp
      ·rw [hstl.2.1]; simp
     have hpend:l3.pending=aGH y:=by
      rcases hst with⟨rfl,rfl⟩ | rfl
      ·exact hstl.2
      ·exact hstl.2.2
     have hrun:=run_endLoop (P:=P) o1 hnb
     obtain⟨p1,p2⟩:=hs3.put_oth hob4 trivial (o':=.dead) (.inr rfl) (x:=.loop { l3 with state:=.exhausted }) (fun h=>h.elim)
     rw [hob3] at p1 p2
     have hat:At P cx n g0 σ0 w0 (e.pick ks) (σ3.setObj σ.objs.length .dead) { a with defers:=[{ target:=.collected w.heap.size,args := #[] }]++a.defers } (jS w3 (w.heap.size+1) (.loop { l3 with state:=.exhausted })) :=
      ⟨g3,p1,(((he.later (d2.trans s2).later).later hev3.later).later p2.later).pick ks,⟨(hmark.ev hev3).ev p2,(hkx.later hev3.later).later p2.later⟩,(hev.trans (d2.trans s2)).trans (hev3.trans p2)⟩
     refine⟨_,_,hrun,?_⟩
     have hRy:=hR y _ _ _ _ hqy hat
     rw [hpend] at hRy ⊢
     cases y with
     | normal=>exact hRy
     | exit id=>exact wpIn_exit hRy
     | ret=>exact wpIn_ret hRy
    cases hob4:σ3.objs[σ.objs.length]? with
    | none=>rw [hob4] at hq3; exact hq3.elim
    | some o4 =>
     rw [hob4] at hq3
     cases o4 with
     | loop e' ps' a' b' st =>
      cases st with
      | ready=>exact fin _ _ _ _ _ .normal hob4 (.inl ⟨rfl,rfl⟩) hq3
      | busy=>exact hq3.elim
      | done y=>exact fin _ _ _ _ _ y hob4 (.inr rfl) hq3
     | _=>exact hq3.elim

theorem sE {cx:Cx}(hm:P.follows .mixedOrders=true) : ∀ (c:Code) (x:C),comp P n c=some (jU x)→(ro=none∨x.plain=true)→∀ (e:Env) (σ:St) (Q:gT),gF (SK P cx) cx x e σ Q→∀ (a:Act) (w:World),At P cx n g0 σ0 w0 e σ a w →
  ∀ (R:Exit→Act→World→Prop),(∀ ex e' σ' a' w',Q ex e' σ'→At P cx n g0 σ0 w0 e' σ' a' w'→R (aLa ex) a' w')→c.wpIn (FW ro) 0 P R a w:=by
 intro c
 induction c with
 | skip =>
  intro x hx hpl e σ Q h a w ha R hR
  simp only [comp,aN.injEq] at hx
  cases x <;> simp only [jU,reduceCtorEq] at hx
  simp only [gF] at h
  exact wpIn_skip (hR .normal _ _ _ _ h ha)
 | exit id =>
  intro x hx hpl e σ Q h a w ha R hR
  simp only [comp,aN.injEq] at hx
  cases x <;> simp only [jU,reduceCtorEq,C.exit.injEq] at hx
  subst hx
  simp only [gF] at h
  exact wpIn_exit (hR (.exit _) _ _ _ _ h ha)
 | ret =>
  intro x hx hpl e σ Q h a w ha R hR
  simp only [comp,aN.injEq] at hx
  cases x <;> simp only [jU,reduceCtorEq] at hx
  simp only [gF] at h
  exact wpIn_ret (hR .ret _ _ _ _ h ha)
 | seq c1 c2 ih1 ih2 =>
  intro x hx hpl e σ Q h a w ha R hR
  simp only [comp] at hx
  split at hx
  ·rename_i x1 x2 h1 h2
   simp only [aN.injEq] at hx
   cases x <;> simp only [jU,reduceCtorEq,C.seq.injEq] at hx
   obtain⟨rfl,rfl⟩:=hx
   simp only [gF] at h
   refine wpIn_seq (ih1 _ h1 (hpl.imp (fun h=>h) fun h=>(by simp only [C.plain,aS] at h; exact h.1)) _ _ _ h _ _ ha _ fun ex e' σ' a' w' h' ha'=>?_)
   cases ex with
   | normal=>exact ih2 _ h2 (hpl.imp (fun h=>h) fun h=>(by simp only [C.plain,aS] at h; exact h.2)) _ _ _ h' _ _ ha' _ hR
   | exit id=>exact hR (.exit id) _ _ _ _ h' ha'
   | ret=>exact hR .ret _ _ _ _ h' ha'
  ·cases hx
 | cond c t f ih1 ih2 =>
  intro x hx hpl e σ Q h a w ha R hR
  simp only [comp] at hx
  split at hx
  ·rename_i c' x1 x2 hc h1 h2
   simp only [aN.injEq] at hx
   cases x <;> simp only [jU,reduceCtorEq,C.cond.injEq] at hx
   obtain⟨rfl,rfl,rfl⟩:=hx
   simp only [gF] at h
   split at h
   ·rename_i b hb
    have ha':=ha
    obtain⟨g,hs,he,hd,hev⟩:=ha'
    have hv:=nK hc he
    rw [hb] at hv
    refine wpIn_cond_split hv.inv_bool (fun ht=>?_) (fun ht=>?_)
    ·rw [if_pos ht] at h
     exact ih1 _ h1 (hpl.imp (fun h=>h) fun h=>(by simp only [C.plain,aS] at h; exact h.1)) _ _ _ h _ _ ha _ hR
    ·rw [if_neg (by simp [ht])] at h
     exact ih2 _ h2 (hpl.imp (fun h=>h) fun h=>(by simp only [C.plain,aS] at h; exact h.2)) _ _ _ h _ _ ha _ hR
   ·exact h.elim
  ·cases hx
 | block id c ih =>
  intro x hx hpl e σ Q h a w ha R hR
  simp only [comp] at hx
  split at hx
  ·rename_i x1 h1
   simp only [aN.injEq] at hx
   cases x <;> simp only [jU,reduceCtorEq,C.block.injEq] at hx
   obtain⟨rfl,rfl⟩:=hx
   simp only [gF] at h
   refine wpIn_block (ih _ h1 (hpl.imp (fun h=>h) fun h=>h) _ _ _ h _ _ ha _ fun ex e' σ' a' w' h' ha'=>?_)
   cases ex with
   | normal=>exact hR .normal _ _ _ _ h' ha'
   | exit j =>
    simp only at h'
    show Exit.inBlock id R (.exit j) a' w'
    simp only [Exit.inBlock]
    split
    ·rename_i hj; rw [if_pos hj] at h'; exact hR .normal _ _ _ _ h' ha'
    ·rename_i hj; rw [if_neg hj] at h'; exact hR (.exit j) _ _ _ _ h' ha'
   | ret=>exact hR .ret _ _ _ _ h' ha'
  ·cases hx
 | loop c ih =>
  intro x hx hpl e σ Q h a w ha R hR
  simp only [comp] at hx
  split at hx
  ·rename_i x1 h1
   simp only [aN.injEq] at hx
   cases x <;> simp only [jU,reduceCtorEq,C.loop.injEq] at hx
   rename_i ks y
   obtain⟨_,rfl⟩:=hx
   simp only [gF] at h
   intro b k cs hro hb hr
   have key:=h (fun e σ=>∀ (a:Act) (w:World),At P cx n g0 σ0 w0 e σ a w→∃ ex a' w',R ex a' w'∧ArrivesIn (Machine.fenced P (FW ro)) P (lone (b.atR a (.code c :: .inLoop c::k)) cs w) b k cs ex a' w') (fun e σ hb' a w ha=>by
    obtain⟨ex,a1,w1,hq,harr⟩:=ih y h1 (hpl.imp (fun h=>h) fun h=>h) e σ _ hb' a w ha (Exit.then (fun a1 w1=>∃ ex a' w',R ex a' w'∧ArrivesIn (Machine.fenced P (FW ro)) P (lone (b.atR a1 (.code c :: .inLoop c::k)) cs w1) b k cs ex a' w') R) (fun ex e' σ' a' w' h' ha'=>by
     cases ex with
     | normal=>exact h' _ _ (ha'.pick ks)
     | exit id=>exact hR (.exit id) _ _ _ _ h' ha'
     | ret=>exact hR .ret _ _ _ _ h' ha') b (.inLoop c::k) cs hro hb hr
    cases ex with
    | normal =>
     obtain⟨ex2,a2,w2,hq2,harr2⟩:=hq
     exact⟨ex2,a2,w2,hq2,.of_steps (StepsIn.trans harr (.one (fenced_calm hb hr rfl) stepR_inLoop)) harr2⟩
    | exit id=>exact⟨_,a1,w1,hq,.pass (x:=.inLoop c) rfl (fun _ _=>.inl (by simp)) harr⟩
    | goto l=>exact⟨_,a1,w1,hq,.pass (x:=.inLoop c) rfl (fun _ _=>.inl (by simp)) harr⟩
    | ret=>exact⟨_,a1,w1,hq,.pass (x:=.inLoop c) rfl (fun _ _=>.inl (by simp)) harr⟩
    | panic ch=>exact⟨_,a1,w1,hq,.pass (x:=.inLoop c) rfl (fun _ _=>.inl (by simp)) harr⟩
    | outgrown=>exact⟨_,a1,w1,hq,.pass (x:=.inLoop c) rfl (fun _ _=>.inl (by simp)) harr⟩)
   obtain⟨ex,a',w',hq,harr⟩:=key a w (ha.pick ks)
   exact⟨ex,a',w',hq,.of_steps (.one (fenced_calm hb hr rfl) stepR_loop) harr⟩
  ·cases hx
 | region id ops draw =>
  intro x hx hpl e σ Q h a w ha R hR
  cases draw with
  | false =>
   simp only [comp] at hx
   split at hx
   ·rename_i l hl
    simp only [aN.injEq] at hx
    cases x <;> simp only [jU,reduceCtorEq,C.ops.injEq] at hx
    rename_i ks y
    obtain⟨_,rfl⟩:=hx
    simp only [gF] at h
    exact aBU (Q:=fun e' σ'=>Q .normal (e'.pick ks) σ') hl h ha (fun e' σ' a' w' h' ha'=>hR .normal _ _ _ _ h' (ha'.pick ks))
   ·cases hx
  | true =>
   simp only [comp] at hx
   split at hx
   ·rename_i l m hl
    simp only [aN.injEq] at hx
    cases x <;> simp only [jU,reduceCtorEq,C.drw.injEq] at hx
    rename_i ks m' y
    obtain⟨_,rfl,rfl⟩:=hx
    simp only [gF] at h
    exact aDK (Q:=fun e' σ'=>Q .normal (e'.pick ks) σ') hm hl h ha (fun e' σ' a' w' h' ha'=>hR .normal _ _ _ _ h' (ha'.pick ks))
   ·cases hx
 | rangeFunc f ps ac bc iha ihb =>
  intro x hx hpl e σ Q h a w ha R hR
  simp only [comp] at hx
  split at hx
  ·rename_i f' xa xb hf hca hcb
   split at hx
   ·rename_i hc
    simp only [aN.injEq] at hx
    cases x <;> simp only [jU,reduceCtorEq,C.rangeF.injEq] at hx
    rename_i ks f2 ps2 a0 b0
    obtain⟨_,rfl,rfl,rfl,rfl⟩:=hx
    simp only [aS,lL,List.all_eq_true,decide_eq_true_eq] at hc
    rcases hpl with rfl | hp
    ·exact aBT hf hca hcb hc.1.1 hc.1.2 hc.2 h ha hR
    ·simp [C.plain] at hp
   ·cases hx
  ·cases hx
 | scope=>intro x hx; simp [comp] at hx
 | label=>intro x hx; simp [comp] at hx
 | goto=>intro x hx; simp [comp] at hx
 | refuse=>intro x hx; simp [comp] at hx

end Go.Dn

/- Function bodies: calls are what the small language says. -/
namespace Go.Dn
open Go.Lib

variable {P:Program}

structure aE5 (P:Program)(T:List (Nat×List D))(f:Nat)(fc:FnC) where
 fn:Func
 code:Code
 at_:P.funcs[f]?=some fn
 body:fn.body=some code
 name : (fn.name == "runtime.NumGoroutine") = false
 comp:comp P fn.ntmps code=some (jU fc.body)
 res:pD P fn.results.toList=some fc.res
 tmps:fc.nparams≤fn.ntmps
 few:fn.ntmps≤GB
 globs : ∀ x∈fc.globs,x∈T

theorem wT : ∀ (vs:List V) (i s:Nat),(dE i vs).get s=if s<i then .any else(vs[s-i]?).getD .any
 | [],i,s=>by simp [dE,Env.get]
 | v::r,i,s=>by
  simp only [dE,Env.get]
  by_cases h:i=s
  ·subst h; simp
  ·rw [if_neg h,wT r (i+1) s]
   by_cases h2:s<i
   ·rw [if_pos h2,if_pos (by omega)]
   ·rw [if_neg h2,if_neg (by omega),show s-i=(s-(i+1))+1 by omega]
    simp

theorem aEA {g:Gh}{tk:List Nat}{w:World}{x:Value}{s:Nat} : ∀ {e e':Env},VR g tk w (e.get s) x→VR g tk w (e'.get s) x→VR g tk w (Env.get (e++e') s) x
 | [],e',_,h'=>h'
 | (t,v)::r,e',h,h'=>by
  simp only [aE,Env.get] at h ⊢
  by_cases hts:t=s
  ·rw [if_pos hts] at h ⊢; exact h
  ·rw [if_neg hts] at h ⊢; exact aEA h h'

theorem aCH {g:Gh}{tk:List Nat}{w:World}{T:List (Nat×List D)}(hT:GlobR T g tk w) : ∀ {l:List (Nat×List D)},(∀ x∈l,x∈T)→∀ (tmps:Array Value) (s:Nat),VR g tk w ((dF l).get s) (sC tmps s)
 | [],_,_,_=>.any _
 | (k,cs)::r,h,tmps,s=>by
  simp only [dF,aI,Env.get]
  by_cases hs:GB+k=s
  ·rw [if_pos hs]
   subst hs
   rw [sC,if_neg (by omega),Nat.add_sub_cancel_left]
   exact hT k cs (h _ (by simp))
  ·rw [if_neg hs]
   exact aCH hT (fun x hx=>h x (by simp [hx])) tmps s

theorem aGQ {g:Gh}{tk:List Nat}{w:World}{vs:List V}{args:Array Value}(hv:VRs g tk w vs args.toList){n:Nat}(hn:vs.length≤n)(hgb:n≤GB){T l:List (Nat×List D)}(hT:GlobR T g tk w)(hl2 : ∀ x∈l,x∈T) :
  EnvR g tk w n (dE 0 vs++dF l) (args++Array.replicate (n-args.size) undef):=by
 have hl:=hv.length
 simp at hl
 refine⟨⟨by simp; omega,hgb⟩,fun s=>?_⟩
 refine aEA ?_ (aCH hT hl2 _ s)
 rw [wT,if_neg (by omega),Nat.sub_zero]
 cases hs:vs[s]? with
 | none=>exact .any _
 | some v =>
  have hlt:s<vs.length:=(aB.1 hs).1
  rw [sC,if_pos (by omega)]
  have:(args++Array.replicate (n-args.size) undef).getD s undef=args[s]'(by omega):=by
   rw [Array.getD_eq_getD_getElem?,Array.getElem?_append_left (by omega)]
   simp [show s<args.size by omega]
  rw [this]
  exact hv.get s v _ hs (by simp [show s<args.size by omega])

def aFF (tmps:Array Value):ResultVar→Sem Value
 | .tmp t=>pure (tmps.getD t undef)
 | .cell a t=>do loadVar t (← asAddr (tmps.getD a undef))

def aKG:List Value→Value
 | [x]=>x
 | xs=>.tuple xs.toArray

theorem aBV {g:Gh} {σ:St}{w:World}(hs:Sim g σ w){n:Nat}{e:Env}{tmps:Array Value}(he:EnvR g σ.toks w n e tmps) : ∀ {rs:List ResultVar} {l:List Res},pD P rs=some l→∀ {vs:List V},eL e σ l=some vs →
  ∃ xs:List Value,(List.mapM (m:=Sem) (aFF tmps) rs).run P w = .ok xs w∧VRs g σ.toks w vs xs
 | [],l,h,vs,hv=>by
  simp [pD] at h
  subst h
  simp [eL] at hv
  subst hv
  exact⟨[],by simp,trivial⟩
 | .tmp s::r,l,h,vs,hv=>by
  simp only [pD] at h
  split at h
  ·rename_i l' hl
   split at h
   case isFalse=>cases h
   rename_i hlt
   cases h
   simp only [eL,Res.ev] at hv
   split at hv
   ·rename_i v vs' h1 h2
    cases hv
    cases h1
    obtain⟨xs,r1,r2⟩:=aBV hs he hl h2
    exact⟨tmps.getD s undef::xs,by
     have:(aFF tmps (.tmp s)).run P w = .ok (tmps.getD s undef) w:=rfl
     rw [List.mapM_cons]
     simp only [Sem.run_bind,Sem.run_pure,aV,this,r1],he.at hlt,r2⟩
   ·cases hv
  ·cases h
 | .cell a t::r,l,h,vs,hv=>by
  simp only [pD] at h
  split at h
  ·rename_i l' hl
   split at h
   ·rename_i hok
    cases h
    simp only [eL,Res.ev] at hv
    split at hv
    ·rename_i v vs' h1 h2
     cases hv
     obtain⟨xs,r1,r2⟩:=aBV hs he hl h2
     obtain⟨cv,c1,c2⟩:=zQ hs hok.1 (he.at hok.2) h1
     have hp : ∃ ad,tmps.getD a undef = .pointer (some ad):=by
      have:=he.at hok.2
      unfold loadAt at h1
      split at h1
      ·rename_i r o hr
       rw [hr] at this
       generalize tmps.getD a undef=tv at this
       cases this
       exact⟨_,rfl⟩
      ·rename_i cs hr
       rw [hr] at this
       generalize tmps.getD a undef=tv at this
       cases this
       exact⟨_,rfl⟩
      ·cases h1
     obtain⟨ad,had⟩:=hp
     refine⟨cv::xs,?_,c2,r2⟩
     rw [had] at c1
     simp only [Instr.loadAt,Instr.sureAddr,Sem.run_bind,Sem.run_pure,aV] at c1
     have:(aFF tmps (.cell a t)).run P w = .ok cv w:=by simp only [aFF,had,asAddr,Sem.run_bind,Sem.run_pure,aV,c1]
     rw [List.mapM_cons]
     simp only [Sem.run_bind,Sem.run_pure,aV,this,r1]
    ·cases hv
   ·cases h
  ·cases h

theorem aC5 {fn:Func}{tmps:Array Value}{w:World}{xs:List Value}
  (h:(List.mapM (m:=Sem) (aFF tmps) fn.results.toList).run P w = .ok xs w) :
  (results fn tmps).run P w = .ok (aKG xs) w:=by
 have e:results fn tmps=(do let vs ← fn.results.mapM (aFF tmps); pure (if h:vs.size=1 then vs[0] else .tuple vs)):=rfl
 rw [e,Array.mapM_eq_mapM_toList]
 simp only [map_eq_pure_bind,Sem.run_bind,h,aV,Sem.run_pure]
 congr 1
 match xs with
 | []=>rfl
 | [x]=>rfl
 | _::_::_=>rfl

theorem aCc {g:Gh}{tk:List Nat}{w:World}{vs:List V}{xs:List Value}(h:VRs g tk w vs xs):VR g tk w (fL vs) (aKG xs):=by
 match vs,xs,h with
 | [v],[x],h=>exact h.1
 | [],[],h=>exact .tup [] #[] rfl (fun i c v h=>by simp at h)
 | v::v'::r,x::x'::s,h =>
  refine .tup _ _ (by simpa using h.length) (fun i c v hc hx=>h.get i c v hc (by simpa using hx))
 | [],_::_,h=>exact h.elim
 | _::_,[],h=>exact h.elim
 | [_],_::_::_,h=>exact h.2.elim
 | _::_::_,[_],h=>exact h.2.elim

theorem zM {g:Gh} {σ:St}{x:V}{y:D}(h:x.byVal1 σ=some y){b q:Nat}(hl:aCh g x b q) : ∃ r off len sz o,x = .sl r off len sz∧σ.objs[r]?=some o∧o.live∧(g.obj r).1=b:=by
 cases x with
 | sl r off len sz =>
  obtain⟨rfl,_⟩:=hl
  simp only [V.byVal1,V.rows] at h
  split at h
  ·rename_i rows hr
   split at hr
   ·rename_i cs hobj
    exact⟨r,_,_,_,_,rfl,hobj,trivial,rfl⟩
   ·cases hr
  ·cases h
 | _=>exact hl.elim
theorem zN {g:Gh} {σ:St}{x y:V}(h:x.byVal σ=some y){b q:Nat}(hl:xO g x b q) : ∃ r o,(∀ lo,V.byValN lo σ x≠none→lo≤r)∧σ.objs[r]?=some o∧o.live∧(g.obj r).1=b:=by
 cases x with
 | sl r off len sz =>
  obtain⟨d,-,h0⟩:=aCp h
  obtain⟨r',_,_,_,o,e,h1,h2,h3⟩:=zM h0 hl
  cases e
  refine⟨r,o,fun lo hn=>?_,h1,h2,h3⟩
  simp only [V.byValN] at hn
  split at hn
  ·assumption
  ·exact absurd rfl hn
 | agg cs =>
  obtain⟨c,hc,hl⟩:=hl
  simp only [V.byVal] at h
  split at h
  ·rename_i l hb
   obtain⟨i,hi⟩:=bQ hc
   obtain⟨y',-,hy⟩:=(pC hb).2 i c hi
   obtain⟨r',_,_,_,o,e,h1,h2,h3⟩:=zM hy hl
   subst e
   refine⟨r',o,fun lo hn=>?_,h1,h2,h3⟩
   simp only [V.byValN] at hn
   split at hn
   ·rename_i ha
    rw [List.all_eq_true] at ha
    simpa [V.fromLo] using ha _ hc
   ·exact absurd rfl hn
  ·cases h
 | _=>exact hl.elim
theorem aFv {g:Gh} {σ:St}{x y:V}(h:x.byVal σ=some y){b q:Nat}(hl:xO g x b q):rE g σ b:=by
 obtain⟨r,o,_,h1,h2,h3⟩:=zN h hl
 exact .inl ⟨r,o,h1,h2,h3⟩

theorem zO {g:Gh} {σ:St} : ∀ {xs ys:List V},cN σ xs=some ys→∀ x∈xs,∀ b q,xO g x b q→rE g σ b
 | [],_,_,x,hx=>by simp at hx
 | x::xs,ys,h,z,hz=>by
  simp only [cN] at h
  split at h
  ·rename_i y l hy hyl
   rcases bU.1 hz with rfl | hz
   ·exact fun b q hl=>aFv hy hl
   ·exact zO hyl z hz
  ·cases h

theorem VR.back {g g':Gh} {σ σ':St}{w w':World}(hl:Later g σ.toks w g' σ'.toks w')(hk : ∀ (t k:Nat),σ.toks[t]?=some k→σ'.toks[t]?=some k){f':Nat→Nat→Prop}(hf : ∀ b q,g'.frz b q→f' b q){v:V}{x0:Value}(h0:VR g σ.toks w v x0) :
  ∀ {x:Value},VR g' σ'.toks w' v x→VR { g with frz:=f' } σ.toks w' v x:=by
 have hst:Stay g'.frz f' w' w':=⟨hf,fun _ _ _=>rfl⟩
 induction h0 with
 | d y v h h1=>intro x hx; cases hx with | d _ _ a b=>exact .d _ _ (a.mono hst) b
 | da cs vs h=>intro x hx; cases hx with | da _ _ a=>exact .da _ _ (a.mono hst)
 | agg cs vs hs h1 hh ih =>
  intro x hx
  cases hx with
  | agg _ vs' hs' h1' hh' =>
   exact .agg cs vs' hs' h1' fun i c v hc hv=>by
    have hi:i<vs.size:=by rw [← hs]; exact(aB.1 hc).1
    exact ih i c vs[i] hc (by simp [hi]) (hh' i c v hc hv)
 | tup cs vs hs hh ih =>
  intro x hx
  cases hx with
  | tup _ vs' hs' hh' =>
   exact .tup cs vs' hs' fun i c v hc hv=>by
    have hi:i<vs.size:=by rw [← hs]; exact(aB.1 hc).1
    exact ih i c vs[i] hc (by simp [hi]) (hh' i c v hc hv)
 | ref r off h =>
  intro x hx
  cases hx with
  | ref _ _ h'=>rw [(hl.has r h).2.1]; exact VR.ref (g:={ g with frz:=f' }) r off h
 | ro cs b o cv hf1 hc h1 hd =>
  intro x hx
  cases hx with
  | ro _ b' o' cv' hf1' hc' h1' hd'=>exact .ro cs b' o' cv' (fun k hk=>hf _ _ (hf1' k hk)) hc' h1' (fun k d hk=>(hd' k d hk).mono hst)
 | sl r off len sz cap a h hcap hsz hin hout ha hsp hlim =>
  intro x hx
  cases hx with
  | sl _ _ _ _ cap' a' h' hcap' hsz' hin' hout' ha' hsp' hlim' =>
   obtain⟨_,e1,e2⟩:=hl.has r h
   exact VR.sl (g:={ g with frz:=f' }) r off len sz cap' a' h hcap' hsz' (by rw [← e2]; exact hin') (by rw [← e2]; exact hout') (by rw [← e2,← e1]; exact ha') hsp' (by show off+cap'*sz≤g.lim r; rw [← hl.lim r h]; exact hlim')
 | fl rows a h =>
  intro x hx
  cases hx with
  | fl _ a' h'=>exact .fl rows a' (h'.mono hst)
 | tl rows t st sz k a cap hd ht hle hh hsz ha =>
  intro x hx
  cases hx with
  | tl _ _ _ _ k' a' cap' hd' ht' hle' hh' hsz' ha' =>
   have hkk:=hk t k ht
   rw [ht'] at hkk
   cases hkk
   obtain⟨k2,e1,e2,e3,e4⟩:=hl.tok t k ht
   rw [ht'] at e1
   cases e1
   have e5:=e3 rfl
   exact VR.tl (g:={ g with frz:=f' }) rows t st sz k a' cap' (hd'.mono hst) ht hle' hh' (by show(g.tok t).sz=sz; rw [← e5]; exact hsz') (fun p q=>by show(g.tok t).s0≤st∧a'=⟨(g.tok t).b,_,none⟩∧_; rw [← e5]; exact ha' p q)
 | map r h =>
  intro x hx
  cases hx with
  | map _ h'=>rw [(hl.has r h).2.1]; exact VR.map (g:={ g with frz:=f' }) r h
 | yld r h =>
  intro x hx
  cases hx with
  | yld _ h'=>rw [(hl.has r h).2.1]; exact VR.yld (g:={ g with frz:=f' }) r h
 | iter r h =>
  intro x hx
  cases hx with
  | iter _ h'=>rw [(hl.has r h).2.1]; exact VR.iter (g:={ g with frz:=f' }) r h
 | fn f first caps first' caps' h1 h2 hh hh' ih ih' =>
  intro x hx
  cases hx with
  | fn _ _ _ xf xc a1 a2 b1 b2 =>
   exact .fn f first caps xf xc a1 a2 (fun i c v hc hv=>by
    have hi:i<first'.size:=by rw [← h1]; exact(aB.1 hc).1
    exact ih i c first'[i] hc (by simp [hi]) (b1 i c v hc hv)) (fun i c v hc hv=>by
    have hi:i<caps'.size:=by rw [← h2]; exact(aB.1 hc).1
    exact ih' i c caps'[i] hc (by simp [hi]) (b2 i c v hc hv))
 | ifc t v y hh ih =>
  intro x hx
  cases hx with
  | ifc _ _ y' h'=>exact .ifc t v y' (ih h')
 | gone=>intro x hx; cases hx; exact .gone
 | any v=>intro x hx; exact .any x

theorem OthR.back {g g':Gh} {σ σ':St}{w w':World}(hl:Later g σ.toks w g' σ'.toks w')(hk : ∀ (t k:Nat),σ.toks[t]?=some k→σ'.toks[t]?=some k){f':Nat→Nat→Prop}(hf : ∀ b q,g'.frz b q→f' b q){o:Obj}{x0 x:Go.Obj}(h0:OthR g σ.toks w o x0)(h:OthR g' σ'.toks w' o x):OthR { g with frz:=f' } σ.toks w' o x:=by
 cases o <;> cases x0 <;> (try exact h0.elim) <;> cases x <;> try exact h.elim
 case map =>
  obtain⟨a1,a2,a3,a4⟩:=h0
  obtain⟨b1,b2,b3,b4⟩:=h
  refine⟨b1,b2,b3,fun i b k v hi=>?_⟩
  obtain⟨x,c1,c2,c3,c4,c5⟩:=a4 i b k v hi
  obtain⟨y,d1,d2,d3,d4,d5⟩:=b4 i b k v hi
  exact⟨y,d1,d2,VR.back hl hk hf c3 d3,VR.back hl hk hf c4 d4,d5⟩
 case iter m _ _ _ _ _ _ _ _ _ _ _ =>
  obtain⟨a1,a2,a3⟩:=h0
  obtain⟨b1,b2,b3⟩:=h
  refine⟨?_,a2,b3⟩
  rw [b1]
  cases m with
  | none=>rfl
  | some r=>simp [(hl.has r (a2 r rfl)).2.1]
 case loop =>
  obtain⟨a1,a2,a3,a4,n,a5,a6,a7,a8⟩:=h0
  obtain⟨b1,b2,b3,b4,m,b5,b6,b7,b8⟩:=h
  exact⟨b1,b2,b3,b4,m,b5,by rw [← hl.prog]; exact b6,by rw [← hl.prog]; exact b7,b8.1,fun s=>VR.back hl hk hf (a8.2 s) (b8.2 s)⟩

theorem Sim.restrict {g g':Gh} {σ σ':St}{w w':World}(hs:Sim g σ w)(hs':Sim g' σ' w')(hev:Ev g σ w g' σ' w')(hk:lI σ σ'){f':Nat→Nat→Prop}(hf : ∀ b q,g'.frz b q→f' b q)
  (hnew : ∀ b q,f' b q→g'.frz b q∨((∃ u,w'.cell? ⟨b,q,none⟩=some u)∧(∃ (r:Nat) (o:Obj),σ.objs.length≤r∧σ'.objs[r]?=some o∧o.live∧(g'.obj r).1=b))) :
  Sim { g with frz:=f' } σ w'∧Ev g σ w { g with frz:=f' } σ w':=by
 obtain⟨ko,kt⟩:=hk
 have keep : ∀ (r:Nat) (o:Obj),σ.objs[r]?=some o→σ'.objs[r]?=some o:=fun r o h=>by
  rw [ko r (aB.1 h).1]; exact h
 have hobj : ∀ r,g.has r→g'.obj r=g.obj r:=fun r h=>(hev.later.has r h).2.1
 have hlen : ∀ r,g.has r→g'.len r=g.len r:=fun r h=>(hev.later.has r h).2.2
 have htok : ∀ (t k:Nat),σ.toks[t]?=some k→g'.tok t=g.tok t:=fun t k h=>by
  obtain⟨k2,e1,e2,e3,e4⟩:=hev.later.tok t k h
  have:=kt t k h
  rw [e1] at this
  cases this
  exact e3 rfl
 have free : ∀ (r:Nat) (o:Obj),σ.objs[r]?=some o→o.live→∀ q,¬ f' (g.obj r).1 q:=fun r o h hl q hq=>by
  have hh:=hs.has r o h hl
  rcases hnew _ _ hq with h1 | ⟨_,r2,o2,h2,h3,h4,h5⟩
  ·exact hs'.nofrz r o (keep r o h) hl q (by rw [hobj r hh]; exact h1)
  ·have hne:r2≠r:=fun e=>by
    have:=(aB.1 h).1
    omega
   exact hs'.dist r2 r o2 o h3 h4 (keep r o h) hl hne (by rw [h5,hobj r hh])
 refine⟨⟨hs.has,hs.bound,hs.free,fun r cs h=>?_,fun r o h ho=>?_,hs.dist,free,fun t k h=>?_,hs.tdist,hs.tobj,fun b q h=>?_,fun r cs h=>?_⟩,⟨⟨⟨fun b q h=>hf b q (hev.later.stay.frz b q h),hev.later.stay.cell⟩,fun r h=>⟨h,rfl,rfl⟩,fun t k h=>⟨k,h,bB _,fun _=>rfl,rfl⟩,rfl,fun _ _=>rfl⟩,
  hev.size,hev.os,hev.tape,hev.output,hev.frame,fun b h=>.inl h,fun b q h=>?_⟩⟩
 ·have hh:=hs.has r _ h trivial
  obtain⟨h1,c,e,fz,h2,h3,h4⟩:=hs'.cells r cs (keep r _ h)
  obtain⟨o1,oc,oe,ofz,o2,o3,o4⟩:=hs.cells r cs h
  refine⟨o1,c,e,fz,by rw [← hobj r hh]; exact h2,h3,fun j v hj=>?_⟩
  obtain⟨cv,a1,a2,a3⟩:=h4 j v hj
  obtain⟨cv0,b1,b2,b3⟩:=o4 j v hj
  exact⟨cv,by rw [← hobj r hh]; exact a1,a2,VR.back hev.later kt hf b3 a3⟩
 ·have hh:=hs.has r _ h ho.live
  obtain⟨x,a1,a2⟩:=hs'.oth r o (keep r o h) ho
  obtain⟨x0,b1,b2⟩:=hs.oth r o h ho
  exact⟨x,by show w'.heap[(g.obj r).1]?=_; rw [← hobj r hh]; exact a1,OthR.back hev.later kt hf b2 a2⟩
 ·obtain⟨h0,c,e,fz,hb,hn,hsz,hz⟩:=hs'.tok t k (kt t k h)
  have et:=htok t k h
  rw [et] at h0 hb hsz hz
  refine⟨h0,c,e,fz,hb,hn,hsz,fun q hq hfr=>?_⟩
  rcases hnew _ _ hfr with h1 | ⟨_,r2,o2,h2,h3,h4,h5⟩
  ·exact hz q hq h1
  ·exact hs'.tobj t k r2 o2 (kt t k h) h3 h4 (by rw [et,h5])
 ·rcases hnew b q h with h1 | ⟨h1,_⟩
  ·exact hs'.frzb b q h1
  ·exact h1
 ·have hh:=hs.has r _ h trivial
  obtain⟨l1,l2⟩:=hs'.lims r cs (keep r _ h)
  rw [hlen r hh,hev.later.lim r hh] at l1
  rw [hobj r hh,hev.later.lim r hh] at l2
  exact⟨l1,l2⟩
 ·rcases hnew b q h with h1 | ⟨_,r2,o2,h2,h3,h4,h5⟩
  ·exact hev.newf b q h1
  ·rcases hev.mine b (.inl ⟨r2,o2,h3,h4,h5⟩) with h6 | h6
   ·exact .inr (.inl h6)
   ·exact .inr (.inr h6)

theorem aA7 {σ:St} : ∀ {xs ys:List V},cN σ xs=some ys→∀ x∈xs,x.byVal σ≠none
 | [],_,_,x,hx=>by simp at hx
 | x::xs,ys,h,z,hz=>by
  simp only [cN] at h
  split at h
  ·rename_i y l hy hyl
   rcases bU.1 hz with rfl | hz
   ·rw [hy]; simp
   ·exact aA7 hyl z hz
  ·cases h

theorem wF {lo:Nat} {σ:St} : ∀ {vs ds:List V},dI lo σ vs=some ds→cN σ vs=some ds∧∀ x∈vs,V.byValN lo σ x≠none
 | [],ds,h=>by simp only [dI] at h; cases h; exact⟨rfl,by simp⟩
 | v::r,ds,h=>by
  simp only [dI] at h
  split at h
  ·rename_i y l hy hl
   cases h
   obtain⟨a,b⟩:=wF hl
   have:v.byVal σ=some y∧V.byValN lo σ v≠none:=by
    refine⟨?_,by rw [hy]; simp⟩
    cases v with
    | sl q off len sz =>
     simp only [V.byValN] at hy
     split at hy
     ·exact hy
     ·cases hy
    | agg cs =>
     simp only [V.byValN] at hy
     split at hy
     ·exact hy
     ·cases hy
    | _=>exact hy
   refine⟨by simp [cN,this.1,a],fun x hx=>?_⟩
   rcases bU.1 hx with rfl | hx
   ·exact this.2
   ·exact b x hx
  ·cases h

theorem Sim.put_un {g:Gh} {σ:St}{w:World}(hs:Sim g σ w){r:Nat}(hm : ¬ rE g σ r){ds:Option (List Deferred)}(hr:w.heap[r]?=some (.deferred ds))(x:Go.Obj):Sim g σ (jS w r x)∧Later g σ.toks w g σ.toks (jS w r x):=by
 have hne : ∀ b q,g.frz b q→r≠b:=fun b q hf e=>by
  obtain⟨v,hv⟩:=hs.frzb b q hf
  unfold World.cell? at hv
  rw [← e,hr] at hv
  simp at hv
 have hcell : ∀ b q,g.frz b q→(jS w r x).cell? ⟨b,q,none⟩=w.cell? ⟨b,q,none⟩:=fun b q hf=>qD w _ (hne b q hf) q
 have hl:Later g σ.toks w g σ.toks (jS w r x):=⟨⟨fun b q hf=>hf,hcell⟩,fun q hq=>⟨hq,rfl,rfl⟩,fun t k ht=>⟨k,ht,bB _,fun _=>rfl,rfl⟩,rfl,fun _ _=>rfl⟩
 have hob : ∀ (q:Nat) (o:Obj),σ.objs[q]?=some o→o.live→r≠(g.obj q).1:=fun q o h1 h2 e=>hm (.inl ⟨q,o,h1,h2,e.symm⟩)
 refine⟨⟨hs.has,hs.bound,hs.free,fun q cs h=>?_,fun q o h ho=>?_,hs.dist,hs.nofrz,fun t k ht=>?_,hs.tdist,hs.tobj,fun b q hf=>?_,fun q cs h=>⟨(hs.lims q cs h).1,fun c e fz hb=>(hs.lims q cs h).2 c e fz (by rw [← gV w _ (hob q _ h trivial)]; exact hb)⟩⟩,hl⟩
 ·obtain⟨h1,c,e,fz,h2,h3,h4⟩:=hs.cells q cs h
  refine⟨h1,c,e,fz,by rw [gV w _ (hob q _ h trivial)]; exact h2,h3,fun j v hj=>?_⟩
  obtain⟨cv,a1,a2,a3⟩:=h4 j v hj
  exact⟨cv,a1,a2,a3.later hl⟩
 ·obtain⟨y,a1,a2⟩:=hs.oth q o h ho
  exact⟨y,by rw [gV w _ (hob q _ h ho.live)]; exact a1,a2.later hl⟩
 ·obtain⟨h0,c,e,fz,hb,rest⟩:=hs.tok t k ht
  exact⟨h0,c,e,fz,by rw [gV w _ (fun e=>hm (.inr ⟨t,k,ht,e.symm⟩))]; exact hb,rest⟩
 ·obtain⟨v,hv⟩:=hs.frzb b q hf
  exact⟨v,by rw [hcell b q hf]; exact hv⟩

theorem aF7 {cx:Cx}{n:Nat}{g0:Gh} {σ0:St}{w0:World}{e:Env} {σ:St}{tmps:Array Value}{r:Nat}{ds:List Deferred}{w:World}(h:At P cx n g0 σ0 w0 e σ { tmps:=tmps,defers:={ target:=.collected r,args := #[] }::ds } w) :
  (Instr.takeDeferred r).run P w = .ok [] (jS w r (.deferred none))∧At P cx n g0 σ0 w0 e σ { tmps:=tmps,defers:=ds } (jS w r (.deferred none)):=by
 obtain⟨g,hs,he,⟨⟨rs,m1,m2,m3⟩,hkx⟩,hev⟩:=h
 cases rs with
 | nil=>simp at m1
 | cons q rs =>
  simp at m1
  obtain⟨rfl,rfl⟩:=m1
  obtain⟨k1,k2,k3⟩:=m3 r (by simp)
  rw [List.nodup_cons] at m2
  obtain⟨s1,s2⟩:=hs.put_un k3 k2 (.deferred none)
  refine⟨run_takeDeferred k2,g,s1,he.later s2,⟨⟨rs,rfl,m2.2,fun q hq=>?_⟩,hkx.later s2⟩,?_⟩
  ·obtain⟨a1,a2,a3⟩:=m3 q (by simp [hq])
   exact⟨a1,by rw [gV w _ (fun e=>m2.1 (by rw [e]; exact hq))]; exact a2,a3⟩
  ·refine⟨hev.later.trans s2,by simp [jS]; exact hev.size,hev.os,hev.tape,hev.output,fun b hb hm=>?_,hev.mine,hev.newf⟩
   rw [gV w _ (fun e=>by omega)]
   exact hev.frame b hb hm

theorem wX {cx:Cx}{n:Nat}{g0:Gh} {σ0:St}{w0:World}{e:Env} {σ:St}{tmps:Array Value}{fn:Func}{R:Value→World→Prop}(hq : ∀ w,At P cx n g0 σ0 w0 e σ { tmps:=tmps,defers:=[] } w→∃ v,(results fn tmps).run P w = .ok v w∧R v w) :
  ∀ (ds:List Deferred) (w:World),At P cx n g0 σ0 w0 e σ { tmps:=tmps,defers:=ds } w→LeavesInM Fence.wide 0 P fn tmps (RetV R) ds .returning w
 | [],w,h=>by
  obtain⟨v,h1,h2⟩:=hq w h
  exact⟨v,h1,h2⟩
 | d::ds,w,h=>by
  have hd : ∃ r,d={ target:=.collected r,args := #[] }:=by
   obtain⟨g,hs,he,⟨⟨rs,m1,m2,m3⟩,hkx⟩,hev⟩:=h
   cases rs with
   | nil=>simp at m1
   | cons q rs=>simp at m1; exact⟨q,m1.1⟩
  obtain⟨r,rfl⟩:=hd
  obtain⟨h1,h2⟩:=aF7 h
  exact⟨by simp,.inl ⟨r,_,rfl,h1,wX hq ds _ h2⟩⟩

theorem zF {cx:Cx}(hm:P.follows .mixedOrders=true){f:Nat}{fc:FnC}(hf:aE5 P cx.globs f fc){vs:List V}(hlen:vs.length=fc.nparams) {σ:St}{Q:gT}(h:gF (SK P cx) cx fc.body (dE 0 vs++dF fc.globs) σ Q){g:Gh}{w:World}{args:Array Value}
  (hp:g.prog=P) (hgl:GlobR cx.globs g σ.toks w) (hs:Sim g σ w) (hv:VRs g σ.toks w vs args.toList) {R:Value→World→Prop} (hex : ∀ id e s,¬ Q (.exit id) e s)
  (hq : ∀ ex e' σ' tmps' w',Q ex e' σ'→At P cx hf.fn.ntmps g σ w e' σ' { tmps:=tmps',defers:=[] } w'→∃ v,(results hf.fn tmps').run P w' = .ok v w'∧R v w'):Calls P f args w (RetV R):=by
 have h0:At P cx hf.fn.ntmps g σ w (dE 0 vs++dF fc.globs) σ { tmps:=args++Array.replicate (hf.fn.ntmps-args.size) undef,defers:=[] } w :=
  ⟨g,hs,aGQ hv (by rw [hlen]; exact hf.tmps) hf.few hgl hf.globs,⟨⟨[],rfl,by simp,by simp⟩,hp,hgl⟩,Ev.refl _ _ _⟩
 refine callsIn_wide.1 (callsIn_of_wp_marks (F:=Fence.wide) (n:=0) hf.at_ hf.body trivial ?_)
 refine sE (ro:=none) hm _ _ hf.comp (.inl rfl) _ _ _ h _ _ h0 _ fun ex e' σ' a' w' h' ha'=>?_
 have main:LeavesInM Fence.wide 0 P hf.fn a'.tmps (RetV R) a'.defers .returning w':=wX (fun w2 hat=>hq ex e' σ' a'.tmps w2 h' hat) a'.defers w' ha'
 cases ex with
 | normal=>exact main
 | ret=>exact main
 | exit id=>exact(hex _ _ _ h').elim

theorem aDA {cx:Cx}(hm:P.follows .mixedOrders=true){f:Nat}{fc:FnC}(hf:aE5 P cx.globs f fc){vs:List V} {σ:St}{Q:jD}{m:Mode}(hmd:m ≠ .rnd)(h:tP (SK P cx) cx m fc vs σ Q):SK P cx m f vs σ Q:=by
 obtain⟨hlen,h⟩:=h
 have good:GoodF P f:=⟨hf.fn,hf.code,hf.at_,hf.body,hf.name⟩
 have fin : ∀ {g:Gh} {w:World} {e':Env} {σ':St} {tmps':Array Value} {w':World},At P cx hf.fn.ntmps g σ w e' σ' { tmps:=tmps',defers:=[] } w'→∀ {vs':List V},eL e' σ' fc.res=some vs'→∃ xs g',(results hf.fn tmps').run P w' = .ok (aKG xs) w'∧VRs g' σ'.toks w' vs' xs ∧
   Sim g' σ' w'∧Ev g σ w g' σ' w':=fun ha vs' hr=>by
  obtain⟨g',hs',he',hd',hev'⟩:=ha
  obtain⟨xs,r1,r2⟩:=aBV hs' he' hf.res hr
  exact⟨xs,g',aC5 r1,r2,hs',hev'⟩
 cases m with
 | rnd=>exact absurd rfl hmd
 | raw =>
  refine⟨good,fun g w args hp hgl hs hv=>zF hm hf hlen h hp hgl hs hv (fun id e s h=>h) fun ex e' σ' tmps' w' h' ha'=>?_⟩
  have main:(∃ v,gO .raw σ.objs.length e' σ' fc.res=some v∧(Mode.raw = .rd→lI σ σ')∧Q v σ')→∃ v,(results hf.fn tmps').run P w' = .ok v w'∧∃ g' x σ',Q x σ'∧Sim g' σ' w'∧VR g' σ'.toks w' x v∧Ev g σ w g' σ' w':=fun⟨v,hv,_,hq⟩=>by
   unfold gO at hv
   split at hv
   ·rename_i vs' hr
    simp only [aN.injEq] at hv
    subst hv
    obtain⟨xs,g',r1,r2,r3,r4⟩:=fin ha' hr
    exact⟨_,r1,g',_,σ',hq,r3,aCc r2,r4⟩
   ·cases hv
  cases ex with
  | exit id=>exact h'.elim
  | normal=>exact main h'
  | ret=>exact main h'
 | rd =>
  refine⟨good,fun g w args hp hgl hs hv=>zF hm hf hlen h hp hgl hs hv (fun id e s h=>h) fun ex e' σ' tmps' w' h' ha'=>?_⟩
  have main:(∃ v,gO .rd σ.objs.length e' σ' fc.res=some v∧(Mode.rd = .rd→lI σ σ')∧Q v σ')→∃ v,(results hf.fn tmps').run P w' = .ok v w'∧∃ g' x σ',Q x σ'∧Sim g' σ w'∧VR g' σ.toks w' x v∧Ev g σ w g' σ w':=fun⟨v,hv,hkp,hq⟩=>by
   unfold gO at hv
   split at hv
   ·rename_i vs' hr
    simp only at hv
    split at hv
    ·rename_i ds hdsN
     simp only [aN.injEq] at hv
     subst hv
     obtain⟨hds,hlo⟩:=wF hdsN
     obtain⟨xs,g',r1,r2,r3,r4⟩:=fin ha' hr
     let f':Nat→Nat→Prop:=fun b q=>g'.frz b q∨∃ x∈vs',xO g' x b q
     obtain⟨b1,b2⟩:=qK (tk:=σ.toks) (g':={ g with frz:=f' }) r3 (f:=f') (fun b q h=>.inl h) rfl r2 hds (fun x hx b q hl=>.inr ⟨x,hx,hl⟩)
     obtain⟨q1,q2⟩:=Sim.restrict hs r3 r4 (hkp rfl) (f':=f') (fun b q h=>.inl h) (fun b q h=>by
      rcases h with h | ⟨x,hx,hl⟩
      ·exact .inl h
      ·refine .inr ⟨qT r3 r2 hds x hx b q hl,?_⟩
       have hm:=aA7 hds _ hx
       obtain⟨y,hy⟩:=Option.ne_none_iff_exists'.1 hm
       obtain⟨r,o,k1,k2,k3,k4⟩:=zN hy hl
       exact⟨r,o,k1 _ (hlo _ hx),k2,k3,k4⟩)
     exact⟨_,r1,_,_,σ',hq,q1,aCc b1,q2⟩
    ·cases hv
   ·cases hv
  cases ex with
  | exit id=>exact h'.elim
  | normal=>exact main h'
  | ret=>exact main h'
 | val =>
  refine⟨good,fun g w args hp hgl hs hv hσ=>?_⟩
  subst hσ
  refine zF hm hf hlen h hp hgl hs hv (fun id e s h=>h) fun ex e' σ' tmps' w' h' ha'=>?_
  have main:(∃ v,gO .val St.empty.objs.length e' σ' fc.res=some v∧(Mode.val = .rd→lI St.empty σ')∧Q v σ')→∃ v,(results hf.fn tmps').run P w' = .ok v w'∧∃ f' x σ',Q x σ'∧(∀ b q,f' b q→∃ u,w'.cell? ⟨b,q,none⟩=some u)∧VR (Gh.bare P f') [] w' x v∧Ev g St.empty w (Gh.bare P f') St.empty w':=fun⟨v,hv,_,hq⟩=>by
   unfold gO at hv
   split at hv
   ·rename_i vs' hr
    simp only at hv
    split at hv
    ·rename_i ds hds
     simp only [aN.injEq] at hv
     subst hv
     obtain⟨xs,g',r1,r2,r3,r4⟩:=fin ha' hr
     let f':Nat→Nat→Prop:=fun b q=>g'.frz b q∨∃ x∈vs',xO g' x b q
     obtain⟨b1,b2⟩:=qK (tk:=[]) (g':=Gh.bare P f') r3 (f:=f') (fun b q h=>.inl h) rfl r2 hds (fun x hx b q hl=>.inr ⟨x,hx,hl⟩)
     refine⟨_,r1,f',_,σ',hq,fun b q h=>?_,aCc b1,?_⟩
     ·rcases h with h | ⟨x,hx,hl⟩
      ·exact r3.frzb b q h
      ·exact qT r3 r2 hds x hx b q hl
     ·refine⟨⟨⟨fun b q h=>.inl (r4.later.stay.frz b q h),r4.later.stay.cell⟩,fun r h=>?_,fun t k h=>by simp [St.empty] at h,hp.symm,fun r h=>by
       have:=hs.bound r h
       simp [St.empty] at this⟩,r4.size,r4.os,r4.tape,r4.output,fun b hb hm=>r4.frame b hb hm,fun b h=>(mP h).elim,fun b q h=>?_⟩
      ·have:=hs.bound r h
       simp [St.empty] at this
      ·rcases h with h | ⟨x,hx,hl⟩
       ·exact r4.newf b q h
       ·rcases r4.mine b (zO hds x hx b q hl) with h | h
        ·exact .inr (.inl h)
        ·exact .inr (.inr h)
    ·cases hv
   ·cases hv
  cases ex with
  | exit id=>exact h'.elim
  | normal=>exact main h'
  | ret=>exact main h'

theorem aAu {g:Gh}{tk:List Nat}{w:World}{n:Nat} : ∀ {ps:List Nat} {vs:List V} {cs:List Value} {e:Env} {tmps:Array Value},EnvR g tk w n e tmps→(∀ p∈ps,p<n)→VRs g tk w vs cs→EnvR g tk w n (eN e ps vs) ((ps.zip cs).foldl (fun tmps (x:Nat×Value)=>tmps.setIfInBounds x.1 x.2) tmps)
 | [],vs,cs,e,tmps,h,_,_=>by cases vs <;> simpa [eN] using h
 | p::ps,[],[],e,tmps,h,_,_=>by simpa [eN] using h
 | p::ps,v::vs,c::cs,e,tmps,h,hp,hv=>by
  simp only [eN,List.zip_cons_cons,List.foldl_cons]
  exact aAu (h.set (hp p (by simp)) hv.1) (fun q hq=>hp q (by simp [hq])) hv.2
 | _::_,[],_::_,_,_,_,_,hv=>hv.elim
 | _::_,_::_,[],_,_,_,_,hv=>hv.elim

theorem aC4 {cx:Cx}(hm:P.follows .mixedOrders=true){r:Nat}{vs:List V} {σ:St}{Q:jD}(h:aAg (SK P cx) cx r vs σ Q):SK P cx .rnd r vs σ Q:=by
 intro g w args hp hgl hs hv
 obtain⟨e,ps,a,b,hob,hlen,h⟩:=h
 obtain⟨x,b1,b2⟩:=hs.oth _ _ hob trivial
 cases x <;> try exact b2.elim
 rename_i l
 obtain⟨hps,⟨hst,hpd⟩,hpa,hpb,n,hpn,hca,hcb,henv⟩:=b2
 rw [hp] at hca hcb
 have hal:=hv.length
 have has:args.size=l.params.size:=by
  rw [← Array.length_toList,← Array.length_toList,← hal,hlen,hps]
 refine⟨l,b1,has,?_⟩
 refine roundIn_of_wpIn trivial ?_
 have hhas:=hs.has _ _ hob trivial
 have hz:(l.params.zip args).foldl (fun tmps (x:Nat×Value)=>tmps.setIfInBounds x.1 x.2) l.tmps=(ps.zip args.toList).foldl (fun tmps (x:Nat×Value)=>tmps.setIfInBounds x.1 x.2) l.tmps:=by
  rw [← Array.foldl_toList,Array.toList_zip,hps]
 have h0:At P cx n g σ w (eN e ps vs) σ { tmps:=(l.params.zip args).foldl (fun tmps (x:Nat×Value)=>tmps.setIfInBounds x.1 x.2) l.tmps,defers:=[] } w :=
  ⟨g,hs,by rw [hz]; exact aAu henv hpn hv,⟨⟨[],rfl,by simp,by simp⟩,hp,hgl⟩,Ev.refl _ _ _⟩
 have hF:Fence.wide.inRound (g.obj r).1=FW (some (g.obj r).1):=rfl
 rw [hF]
 refine sE (ro:=some (g.obj r).1) hm _ _ hca (.inr hpa) _ _ _ h _ _ h0 _ fun ex e1 s1 a1 w1 h1 ha1=>?_
 cases ex with
 | exit id=>exact h1.elim
 | ret=>exact h1.elim
 | normal =>
  obtain⟨o1,h1⟩:=h1
  obtain⟨g1,hs1,he1,⟨hm1,hk1⟩,hev1⟩:=ha1
  obtain⟨x1,c1,c2⟩:=hs1.oth _ _ o1 trivial
  cases x1 <;> try exact c2.elim
  rename_i l1
  have hobj1:g1.obj r=g.obj r:=(hev1.later.has _ hhas).2.1
  rw [hobj1] at c1
  obtain⟨q1,⟨q2,q3⟩,q4⟩:=c2
  obtain⟨p1,p2⟩:=hs1.put_oth o1 trivial (o':=.loop e ps a b .busy) (.inl trivial) (x:=.loop { l1 with state:=.busy }) (fun _=>⟨q1,rfl,q4⟩)
  rw [hobj1] at p1 p2
  refine⟨jS w1 (g.obj r).1 (.loop { l1 with state:=.busy }),run_beginRound c1 q2,?_⟩
  have hat:At P cx n g σ w e1 (s1.setObj r (.loop e ps a b .busy)) a1 (jS w1 (g.obj r).1 (.loop { l1 with state:=.busy })):=⟨g1,p1,he1.later p2.later,⟨hm1.ev p2,hk1.later p2.later⟩,hev1.trans p2⟩
  refine sE (ro:=some (g.obj r).1) hm _ _ hcb (.inr hpb) _ _ _ h1 _ _ hat _ fun ex e2 s2 a2 w2 h2 ha2=>?_
  obtain⟨g2,hs2,he2,⟨hm2,hk2⟩,hev2⟩:=ha2
  obtain⟨o2,h2⟩:=h2
  obtain⟨x2,d1,d2⟩:=hs2.oth _ _ o2 trivial
  cases x2 <;> try exact d2.elim
  rename_i l2
  have hobj2:g2.obj r=g.obj r:=(hev2.later.has _ hhas).2.1
  rw [hobj2] at d1
  obtain⟨t1,t2,t4⟩:=d2
  cases ex with
  | normal =>
   obtain⟨p3,p4⟩:=hs2.put_oth o2 trivial (o':=.loop e ps a b .ready) (.inl trivial) (x:=.loop { l2 with state:=.ready,pending:=none }) (fun _=>⟨t1,⟨rfl,rfl⟩,t4⟩)
   rw [hobj2] at p3 p4
   exact⟨_,_,run_endRound none d1,g2,_,_,h2,p3,.bool true,hev2.trans p4⟩
  | exit id =>
   obtain⟨p3,p4⟩:=hs2.put_oth o2 trivial (o':=.loop e ps a b (.done (.exit id))) (.inl trivial) (x:=.loop { l2 with state:=.done,pending:=some (.exit id) }) (fun _=>⟨t1,⟨by simp,rfl,rfl⟩,t4⟩)
   rw [hobj2] at p3 p4
   exact⟨_,_,run_endRound (some (.exit id)) d1,g2,_,_,h2,p3,.bool false,hev2.trans p4⟩
  | ret =>
   obtain⟨p3,p4⟩:=hs2.put_oth o2 trivial (o':=.loop e ps a b (.done .ret)) (.inl trivial) (x:=.loop { l2 with state:=.done,pending:=some .ret }) (fun _=>⟨t1,⟨by simp,rfl,rfl⟩,t4⟩)
   rw [hobj2] at p3 p4
   exact⟨_,_,run_endRound (some .ret) d1,g2,_,_,h2,p3,.bool false,hev2.trans p4⟩

theorem aDF {cx:Cx}(hm:P.follows .mixedOrders=true) {Γ:Nat→Option FnC}(hΓ : ∀ f fc,Γ f=some fc→Nonempty (aE5 P cx.globs f fc)){f:Nat}{vs:List V} {σ:St}{Q:jD}{m:Mode}(h:Call Γ cx m f vs σ Q):SK P cx m f vs σ Q :=
 h (SK P cx) fun m f vs σ Q hst=>by
  unfold uW at hst
  cases m with
  | rnd=>exact aC4 hm hst
  | _ =>
   obtain⟨fc,hf,hb⟩:=hst
   obtain⟨ft⟩:=hΓ f fc hf
   exact aDA hm ft (by simp) hb

end Go.Dn

/- What an operation looks at. -/
namespace Go.Dn

def Opd.slots:Opd→List Nat
 | .t n=>[n]
 | _=>[]

def nV:Option Opd→List Nat
 | some x=>x.slots
 | none=>[]

def POp.reads:POp→List Nat
 | .move x=>x.slots
 | .pick c a b=>c.slots++(a.slots++b.slots)
 | .bin _ _ _ x y=>x.slots++y.slots
 | .una _ x=>x.slots
 | .conv _ x=>x.slots
 | .load _ _ x=>x.slots
 | .nilCheck x=>x.slots
 | .faddr _ x=>x.slots
 | .field _ _ _ x=>x.slots
 | .iaddr _ x i=>x.slots++i.slots
 | .iaddrArr _ _ x i=>x.slots++i.slots
 | .index _ _ _ x i=>x.slots++i.slots
 | .indexStr x i=>x.slots++i.slots
 | .slice _ x lo hi mx=>x.slots++(nV lo++(nV hi++nV mx))
 | .sliceStr x lo hi=>x.slots++(nV lo++nV hi)
 | .sliceArr _ _ x lo hi=>x.slots++(nV lo++nV hi)
 | .bslice _ _ _ _ parts=>parts.flatMap fun p=>p.2.slots
 | .build _ parts=>parts.flatMap fun p=>p.2.2.slots
 | .len _ x=>x.slots
 | .lenArr _=>[]
 | .cap x=>x.slots
 | .min xs=>xs.flatMap Opd.slots
 | .max xs=>xs.flatMap Opd.slots
 | .mkif _ x=>x.slots
 | .assert _ _ _ x=>x.slots
 | .extract x _=>x.slots
 | .mkfn _ first caps=>first.flatMap Opd.slots++caps.flatMap Opd.slots
 | .lookup _ _ _ _ x k=>x.slots++k.slots
 | .mkfl _ _ _ a b=>a.slots++b.slots

def Same (rd:List Nat)(e:Env) (σ:St)(e':Env) (σ':St):Prop :=
 ∀ s∈rd,e.get s=e'.get s∧∀ r∈jP (e.get s),σ.objs[r]?=σ'.objs[r]?

variable {e e':Env} {σ σ':St}

theorem Same.left {a b:List Nat}(h:Same (a++b) e σ e' σ'):Same a e σ e' σ':=fun s hs=>h s (List.mem_append_left _ hs)
theorem Same.right {a b:List Nat}(h:Same (a++b) e σ e' σ'):Same b e σ e' σ':=fun s hs=>h s (bX _ hs)

theorem Same.opd {x:Opd}(h:Same x.slots e σ e' σ'):x.ev e=x.ev e'∧∀ r∈jP (x.ev e),σ.objs[r]?=σ'.objs[r]?:=by
 cases x with
 | t n=>exact h n (by simp [Opd.slots])
 | c x=>exact⟨rfl,fun r hr=>by simp [Opd.ev,jP] at hr⟩
 | ca l=>exact⟨rfl,fun r hr=>by simp [Opd.ev,jP] at hr⟩
 | f k=>exact⟨rfl,fun r hr=>by simp [Opd.ev,jP] at hr⟩

theorem Same.opt {x:Option Opd}(h:Same (nV x) e σ e' σ'):x.map (Opd.ev e)=x.map (Opd.ev e'):=by
 cases x with
 | none=>rfl
 | some x=>simp [(Same.opd (x:=x) h).1]

theorem Same.opds {xs:List Opd}(h:Same (xs.flatMap Opd.slots) e σ e' σ'):xs.map (Opd.ev e)=xs.map (Opd.ev e'):=by
 apply List.map_congr_left
 intro x hx
 exact(Same.opd (x:=x) fun s hs=>h s (List.mem_flatMap.2 ⟨x,hx,hs⟩)).1

theorem oL {x:V}(h : ∀ r∈jP x,σ.objs[r]?=σ'.objs[r]?):V.rows σ x=V.rows σ' x:=by
 cases x with
 | sl r off len sz=>simp only [V.rows]; rw [h r (by simp [jP])]
 | d x=>cases x <;> rfl
 | _=>rfl

theorem aCo {x:V}(h : ∀ r∈aCx x,σ.objs[r]?=σ'.objs[r]?):x.byVal1 σ=x.byVal1 σ':=by
 cases x with
 | sl r off len sz=>simp only [V.byVal1]; rw [oL (fun r hr=>h r (by simpa [jP,aCx] using hr))]
 | _=>rfl
theorem tR : ∀ {cs:List V},(∀ r∈cs.flatMap aCx,σ.objs[r]?=σ'.objs[r]?)→jY σ cs=jY σ' cs
 | [],_=>rfl
 | c::cs,h=>by
  simp only [List.flatMap_cons,aW] at h
  simp only [jY]
  rw [aCo (fun r hr=>h r (.inl hr)),tR (fun r hr=>h r (.inr hr))]
theorem aDE {x:V}(h : ∀ r∈jP x,σ.objs[r]?=σ'.objs[r]?):x.byVal σ=x.byVal σ':=by
 cases x with
 | sl r off len sz=>simp only [V.byVal]; rw [oL h]
 | agg cs=>simp only [V.byVal]; rw [tR h]
 | _=>rfl

theorem aA9 {agg:Bool}{n:Nat}{x:V}(h : ∀ r∈jP x,σ.objs[r]?=σ'.objs[r]?):loadAt σ agg n x=loadAt σ' agg n x:=by
 cases x with
 | ref r off=>simp only [loadAt]; rw [h r (by simp [jP])]
 | _=>rfl

theorem aFu {ty:Ty}{x:V}(h : ∀ r∈jP x,σ.objs[r]?=σ'.objs[r]?):gZ σ ty x=gZ σ' ty x:=by
 cases ty
 case map =>
  cases x with
  | map r=>simp only [gZ]; rw [h r (by simp [jP])]
  | d x=>cases x <;> rfl
  | _=>rfl
 case slice =>
  cases x with
  | d x=>cases x <;> rfl
  | _=>rfl
 case str =>
  cases x with
  | d x=>cases x <;> rfl
  | _=>rfl
 all_goals rfl

theorem tE {n sz:Nat}{x:V}{lo hi:Option V}(h : ∀ r∈jP x,σ.objs[r]?=σ'.objs[r]?):lD σ n sz x lo hi=lD σ' n sz x lo hi:=by
 cases x with
 | ref r off=>simp only [lD]; rw [h r (by simp [jP])]
 | _=>rfl

theorem aDR {sz:Nat}{x i:V}(h : ∀ r∈jP x,σ.objs[r]?=σ'.objs[r]?):jA σ sz x i=jA σ' sz x i:=by
 cases x with
 | sl r off len s=>rfl
 | d x=>simp only [jA]; rw [oL h]
 | _=>simp only [jA]; rw [oL h]

theorem aFc {k:Conv}{x:V}(h : ∀ r∈jP x,σ.objs[r]?=σ'.objs[r]?):cF σ k x=cF σ' k x:=by
 unfold cF
 rw [oL h]

theorem wZ {ka:Bool}{ks:List Lf}{z:V}{ok:Bool}{x k:V}(h : ∀ r∈jP x,σ.objs[r]?=σ'.objs[r]?):jH σ ka ks z ok x k=jH σ' ka ks z ok x k:=by
 cases x with
 | map r=>simp only [jH,rR]; rw [h r (by simp [jP])]
 | d y=>cases y <;> rfl
 | _=>rfl

theorem tK {op:POp}(h:Same op.reads e σ e' σ'):dC op e σ=dC op e' σ':=by
 cases op with
 | move x=>simp only [dC]; rw [(Same.opd (x:=x) h).1]
 | pick c a b=>simp only [dC]; rw [(Same.opd (x:=c) h.left).1,(Same.opd (x:=a) h.right.left).1,(Same.opd (x:=b) h.right.right).1]
 | bin op ty ks x y=>simp only [dC]; rw [(Same.opd (x:=x) h.left).1,(Same.opd (x:=y) h.right).1]
 | una op x=>simp only [dC]; rw [(Same.opd (x:=x) h).1]
 | conv k x=>simp only [dC]; rw [aFc (Same.opd (x:=x) h).2,(Same.opd (x:=x) h).1]
 | load agg n x=>simp only [dC]; rw [aA9 (Same.opd (x:=x) h).2,(Same.opd (x:=x) h).1]
 | nilCheck x=>simp only [dC]; rw [(Same.opd (x:=x) h).1]
 | faddr off x=>simp only [dC]; rw [(Same.opd (x:=x) h).1]
 | field agg off n x=>simp only [dC]; rw [(Same.opd (x:=x) h).1]
 | iaddr sz x i=>simp only [dC]; rw [aDR (Same.opd (x:=x) h.left).2,(Same.opd (x:=x) h.left).1,(Same.opd (x:=i) h.right).1]
 | iaddrArr len sz x i=>simp only [dC]; rw [(Same.opd (x:=x) h.left).1,(Same.opd (x:=i) h.right).1]
 | index agg len sz x i=>simp only [dC]; rw [(Same.opd (x:=x) h.left).1,(Same.opd (x:=i) h.right).1]
 | indexStr x i=>simp only [dC]; rw [(Same.opd (x:=x) h.left).1,(Same.opd (x:=i) h.right).1]
 | slice sz x lo hi mx =>
  simp only [dC]
  rw [(Same.opd (x:=x) h.left).1,Same.opt (x:=lo) h.right.left,Same.opt (x:=hi) h.right.right.left,Same.opt (x:=mx) h.right.right.right]
  rfl
 | sliceStr x lo hi=>simp only [dC]; rw [(Same.opd (x:=x) h.left).1,Same.opt (x:=lo) h.right.left,Same.opt (x:=hi) h.right.right]
 | sliceArr n sz x lo hi=>simp only [dC]; rw [tE (Same.opd (x:=x) h.left).2,(Same.opd (x:=x) h.left).1,Same.opt (x:=lo) h.right.left,Same.opt (x:=hi) h.right.right]
 | bslice t len sz zero parts =>
  have:(parts.map fun(p:Nat×Opd)=>(p.1*sz,sz,p.2.ev e))=parts.map fun(p:Nat×Opd)=>(p.1*sz,sz,p.2.ev e') :=
   List.map_congr_left fun p hp=>by rw [(Same.opd (x:=p.2) fun s hs=>h s (List.mem_flatMap.2 ⟨p,hp,hs⟩)).1]
  simp only [dC]
  rw [this]
 | build zero parts =>
  have:(parts.map fun(p:Nat×Nat×Opd)=>(p.1,p.2.1,p.2.2.ev e))=parts.map fun(p:Nat×Nat×Opd)=>(p.1,p.2.1,p.2.2.ev e') :=
   List.map_congr_left fun p hp=>by rw [(Same.opd (x:=p.2.2) fun s hs=>h s (List.mem_flatMap.2 ⟨p,hp,hs⟩)).1]
  simp only [dC]
  rw [this]
 | len ty x=>simp only [dC]; rw [aFu (Same.opd (x:=x) h).2,(Same.opd (x:=x) h).1]
 | lenArr n=>rfl
 | cap x=>simp only [dC]; rw [(Same.opd (x:=x) h).1]
 | min xs=>simp only [dC]; rw [Same.opds (xs:=xs) h]
 | max xs=>simp only [dC]; rw [Same.opds (xs:=xs) h]
 | mkif t x=>simp only [dC]; rw [(Same.opd (x:=x) h).1]
 | assert t zero ok x=>simp only [dC]; rw [(Same.opd (x:=x) h).1]
 | extract x i=>simp only [dC]; rw [(Same.opd (x:=x) h).1]
 | mkfn f first caps=>simp only [dC]; rw [Same.opds (xs:=first) h.left,Same.opds (xs:=caps) h.right]
 | mkfl sz bytes zero a b=>simp only [dC]; rw [(Same.opd (x:=a) h.left).1,(Same.opd (x:=b) h.right).1]
 | lookup ka ks zero ok x k=>simp only [dC]; rw [wZ (Same.opd (x:=x) h.left).2,(Same.opd (x:=x) h.left).1,(Same.opd (x:=k) h.right).1]

theorem aCq {xs:List Opd}(h:Same (xs.flatMap Opd.slots) e σ e' σ'):cN σ (xs.map (Opd.ev e))=cN σ' (xs.map (Opd.ev e')):=by
 induction xs with
 | nil=>rfl
 | cons x r ih =>
  simp only [List.flatMap_cons] at h
  simp only [aI,cN]
  rw [ih h.right,aDE (Same.opd (x:=x) h.left).2,(Same.opd (x:=x) h.left).1]

theorem oM {q r:Nat}{o:Obj}(h:r≠q):σ.objs[r]?=(σ.setObj q o).objs[r]?:=by
 simp only [St.setObj]
 rw [aF (Ne.symm h)]

theorem qF {q:Nat}{o:Obj}(hf:σ.objs[q]?=some .free){x:V}{l:List (List D)}(h:V.rows σ x=some l):V.rows (σ.setObj q o) x=some l:=by
 rw [← oL (σ:=σ) (fun r hr=>?_)]
 ·exact h
 by_cases e:r=q
 ·subst e
  exfalso
  cases x with
  | sl r' off len sz=>simp [jP] at hr; subst hr; simp [V.rows,hf] at h
  | ref r' off=>simp [V.rows] at h
  | map r'=>simp [V.rows] at h
  | yld r'=>simp [V.rows] at h
  | iter r'=>simp [V.rows] at h
  | agg cs=>simp [V.rows] at h
  | _=>simp [jP] at hr
 ·exact oM e

theorem tQ {q:Nat}{o:Obj}(hf:σ.objs[q]?=some .free) : ∀ {cs:List V} {l:List D},jY σ cs=some l→jY (σ.setObj q o) cs=some l
 | [],l,h=>h
 | c::cs,l,h=>by
  simp only [jY] at h ⊢
  split at h
  ·rename_i y l' hy hl
   rw [tQ hf hl]
   have:c.byVal1 (σ.setObj q o)=some y:=by
    cases c with
    | sl r off len sz =>
     simp only [V.byVal1] at hy ⊢
     cases hr:V.rows σ (.sl r off len sz) with
     | none=>rw [hr] at hy; cases hy
     | some l=>rw [hr] at hy; rw [qF hf hr]; exact hy
    | _=>exact hy
   rw [this]
   exact h
  ·cases h
theorem aDD {q:Nat}{o:Obj}(hf:σ.objs[q]?=some .free){x y:V}(h:V.byVal σ x=some y):V.byVal (σ.setObj q o) x=some y:=by
 cases x with
 | sl r off len sz =>
  simp only [V.byVal] at h ⊢
  cases hr:V.rows σ (.sl r off len sz) with
  | none=>rw [hr] at h; cases h
  | some l=>rw [hr] at h; rw [qF hf hr]; exact h
 | agg cs =>
  simp only [V.byVal] at h ⊢
  cases hr:jY σ cs with
  | none=>rw [hr] at h; cases h
  | some l=>rw [hr] at h; rw [tQ hf hr]; exact h
 | _=>exact h
theorem wG {q:Nat}{o:Obj}(hf:σ.objs[q]?=some .free) : ∀ {xs ys:List V},cN σ xs=some ys→cN (σ.setObj q o) xs=some ys
 | [],ys,h=>h
 | x::xs,ys,h=>by
  simp only [cN] at h ⊢
  cases hx:V.byVal σ x with
  | none=>rw [hx] at h; cases h
  | some y =>
   rw [hx] at h
   cases hxs:cN σ xs with
   | none=>rw [hxs] at h; cases h
   | some l =>
    rw [hxs] at h
    rw [aDD hf hx,wG hf hxs]
    exact h

theorem aDL {q:Nat}{o:Obj}(hf:σ.objs[q]?=some .free){op:POp}{v:V}(h:dC op e σ=some v):dC op e (σ.setObj q o)=some v:=by
 cases op with
 | conv k x =>
  cases k with
  | bytesStr =>
   simp only [dC,cF] at h ⊢
   split at h
   ·rename_i rows hr
    rw [qF hf hr]
    exact h
   ·cases h
  | _=>exact h
 | load agg n x =>
  simp only [dC] at h ⊢
  rw [← aA9 (σ:=σ) (fun r hr=>?_)]
  ·exact h
  by_cases e':r=q
  ·subst e'
   exfalso
   generalize x.ev e=y at *
   cases y with
   | ref r' off=>simp [jP] at hr; subst hr; simp [loadAt,hf] at h
   | sl r' off len sz=>simp [loadAt] at h
   | map r'=>simp [loadAt] at h
   | yld r'=>simp [loadAt] at h
   | iter r'=>simp [loadAt] at h
   | agg cs=>simp [loadAt] at h
   | _=>simp [jP] at hr
  ·exact oM e'
 | iaddr sz x i =>
  simp only [dC,jA] at h ⊢
  split at h
  ·rename_i j hj
   generalize x.ev e=y at *
   cases y with
   | sl r' off len s=>exact h
   | d y =>
    split at h
    ·rename_i h1; cases h1
    ·rename_i y' _
     split at h
     ·rename_i rows hr
      simp only [qF hf hr]
      exact h
     ·cases h
   | _ =>
    split at h
    ·rename_i h1; cases h1
    ·rename_i y' _
     split at h
     ·rename_i rows hr
      simp only [qF hf hr]
      exact h
     ·cases h
  ·cases h
 | sliceArr n sz x lo hi =>
  simp only [dC] at h ⊢
  rw [← tE (σ:=σ) (fun r hr=>?_)]
  ·exact h
  by_cases e':r=q
  ·subst e'
   exfalso
   generalize x.ev e=y at *
   unfold lD at h
   split at h
   ·split at h
    ·cases y with
     | ref r' off=>simp [jP] at hr; subst hr; simp [hf] at h
     | sl r' off len sz=>simp at h
     | map r'=>simp at h
     | yld r'=>simp at h
     | iter r'=>simp at h
     | agg cs=>simp at h
     | _=>simp [jP] at hr
    ·cases h
   ·cases h
  ·exact oM e'
 | len ty x =>
  simp only [dC] at h ⊢
  cases hl:gZ σ ty (x.ev e) with
  | none=>rw [hl] at h; cases h
  | some n =>
   rw [hl] at h
   have:gZ (σ.setObj q o) ty (x.ev e)=some n:=by
    generalize x.ev e=y at *
    cases ty with
    | map =>
     cases y with
     | map r' =>
      have hne:r'≠q:=by
       rintro rfl
       simp [gZ,hf] at hl
      simp only [gZ] at hl ⊢
      rw [← oM hne]
      exact hl
     | d y=>cases y <;> exact hl
     | _=>exact hl
    | slice=>cases y <;> first | exact hl | (rename_i d; cases d <;> exact hl)
    | _=>exact hl
   rw [this]
   exact h
 | lookup ka ks zero ok x k =>
  simp only [dC] at h ⊢
  rw [← wZ (σ:=σ) (fun r hr=>?_)]
  ·exact h
  by_cases e':r=q
  ·subst e'
   exfalso
   generalize x.ev e=y at *
   cases y with
   | map r' =>
    simp [jP] at hr
    subst hr
    simp only [jH,rR,hf] at h
    split at h
    ·rename_i h1; split at h1 <;> cases h1
    ·rename_i h1; split at h1 <;> cases h1
    ·cases h
   | ref r' off=>simp [jH,rR] at h
   | sl r' off len sz=>simp [jH,rR] at h
   | yld r'=>simp [jH,rR] at h
   | iter r'=>simp [jH,rR] at h
   | agg cs=>simp [jH,rR] at h
   | _=>simp [jP] at hr
  ·exact oM e'
 | slice sz x lo hi mx=>exact h
 | _=>exact h

end Go.Dn

/- Regions that draw their order: the order of the text is enough. -/
namespace Go.Dn

def EOp.reads:EOp→List Nat
 | .alloc _ | .makeMap=>[]
 | .box x=>x.slots
 | .store _ a x=>a.slots++x.slots
 | .append _ _ _ a x=>a.slots++x.slots
 | .appendStr _ a x=>a.slots++x.slots
 | .appendZero _ _ _ _ a x=>a.slots++x.slots
 | .copy _ a x=>a.slots++x.slots
 | .clear _ _ a=>a.slots
 | .makeSlice _ _ _ _ a x=>a.slots++x.slots
 | .mapUpdate _ _ a b c=>a.slots++(b.slots++c.slots)
 | .mapDelete _ _ a b=>a.slots++b.slots
 | .range x=>x.slots
 | .entry x=>x.slots
 | .cloneMap x=>x.slots

def Ins.reads:Ins→List Nat
 | .p _ op=>op.reads
 | .e _ op=>op.reads
 | .call _ _ args=>args.flatMap Opd.slots
 | .callv _ f args=>f.slots++args.flatMap Opd.slots
 | .next _ it=>it.slots
 | _=>[]

def POp.blind:POp→Bool
 | .load .. => false
 | .conv .bytesStr _=>false
 | .sliceArr .. => false
 | .lookup .. => false
 | .len .map _=>false
 | _=>true

def DOp.gslot (d:DOp):List Nat:=match d.guard with | some (s,_)=>[s] | none=>[]
def DOp.reads (d:DOp):List Nat:=d.gslot++d.ins.reads

def DOp.isP (d:DOp):Bool:=match d.ins with | .p _ _=>true | _=>false
def DOp.isB (d:DOp):Bool:=match d.ins with | .p _ op=>op.blind | _=>false
def DOp.isN (md:Nat→Mode)(d:DOp):Bool:=match d.ins with
 | .p _ _=>true
 | .call _ f _=>match md f with | .raw=>false | .rnd=>false | _=>true
 | _=>false
def DOp.isNew (d:DOp):Bool:=d.guard.isNone&&match d.ins with | .e (some _) (.alloc _)=>true | .e (some _) (.box _)=>true | _=>false
def DOp.isSto (l:List DOp)(d:DOp):Bool:=d.guard.isNone&&match d.ins with
 | .e none (.store _ (.t s) _)=>d.after.any fun m=>match l[m]? with | some m=>m.isNew&&m.ins.dst==some s | none=>false
 | _=>false
def DOp.one (d:DOp):Bool:=match d.ins with | .when .. => false | _=>true

def DOp.faOf (l:List DOp)(d:DOp):Option (Nat×Nat):=if d.guard.isNone then(match d.ins with
 | .p (some s) (.faddr _ (.t q))=>if l.all (fun d'=>d'.ins.dst != some q) then some (s,q) else none
 | _=>none) else none

def qE (l:List DOp)(d:DOp)(s:Nat):Option Nat:=if l.all (fun d'=>d'.ins.dst != some s) then some s else
 d.after.findSome? fun m=>match l[m]? with
  | some dm=>(match dm.faOf l with | some (s',q)=>if s'=s then some q else none | none=>none)
  | none=>none

def DOp.near (l:List DOp)(dr:List Nat)(d:DOp):Bool:=d.reads.all fun s=>(d.isP&&dr.contains s)||(qE l d s).isSome

def DOp.isNF (l:List DOp)(d:DOp):Bool:=d.isNew||(d.faOf l).isSome

def EOp.isStore:EOp→Bool
 | .store .. | .append .. | .appendStr .. | .appendZero .. => true
 | _=>false

def aDx (x y:DOp):Bool :=
 (match x.ins.dst with | some d=>!(y.reads.contains d)&&y.ins.dst != some d | none=>true) &&
 (match y.ins.dst with | some d=>!(x.reads.contains d) | none=>true)

def DOp.isXc (md:Nat→Mode)(d:DOp):Bool:=match d.ins with
 | .e _ op=>op.isStore
 | .call _ f _=>match md f with | .raw=>true | _=>false
 | .callv .. => true
 | _=>false

def aBJ (dr:List Nat)(l:List DOp):List Nat:=(l.filter fun d=>d.isP && !d.isB&&d.near l dr).flatMap fun d=>d.reads.filterMap (qE l d)

def rU (md : Nat → Mode) (dr : List Nat) (l : List DOp) (x y : DOp) : Bool := aDx x y &&
  (x.isB || y.isB || (x.isP && y.isN md) || (x.isN md && y.isP) ||
   ((x.isNew || x.isSto l) && y.isN md && y.near l dr) ||
   (x.isN md && x.near l dr && (y.isNew || y.isSto l)) ||
   (x.isNew && y.isNew && x.al != y.al) ||
   (x.isP && x.near l dr && y.isXc md) || (x.isXc md && y.isP && y.near l dr) ||
   (x.isN md && y.isNew))

def nX:List DOp→List (List Nat)→List (List Nat)
 | [],acc=>acc
 | d::r,acc=>nX r (acc++[(d.after++d.after.flatMap fun a=>acc.getD a []).eraseDups])

def aEJ (md:Nat→Mode)(dr:List Nat)(l:List DOp)(T:List (List Nat)):Bool :=
 (List.range l.length).all fun j=>match l[j]? with
  | some y=>y.one&&y.after.all (· < j) &&
   (List.range j).all fun i=>match l[i]? with
    | some x=>((T.getD j []).contains i||rU md dr l x y)&&(!(x.isNF l||y.isNF l)||x.ins.dst != y.ins.dst)
    | none=>false
  | none=>false

def wP (md:Nat→Mode)(dr:List Nat)(l:List DOp):Bool:=aEJ md dr l (nX l [])

def gM (gd:Option (Nat×Bool))(e:Env):Option Bool :=
 match gd with
 | none=>some true
 | some (s,want)=>match e.get s with
  | .d (.bool b)=>some (decide (b=want))
  | .gone=>some false
  | _=>none

def Agr (n0:Nat) (σ σ':St):Prop:=(∀ r,r<n0→σ'.objs[r]?=σ.objs[r]?)∧σ'.toks=σ.toks

theorem Agr.refl (n0:Nat) (σ:St):Agr n0 σ σ:=⟨fun _ _=>rfl,rfl⟩
theorem Agr.trans {n0:Nat}{a b c:St}(h:Agr n0 a b)(h':Agr n0 b c):Agr n0 a c:=⟨fun r hr=>(h'.1 r hr).trans (h.1 r hr),h'.2.trans h.2⟩
theorem Agr.symm {n0:Nat}{a b:St}(h:Agr n0 a b):Agr n0 b a:=⟨fun r hr=>(h.1 r hr).symm,h.2.symm⟩

def nGo (K:iI)(cx:Cx)(n0:Nat)(i:Ins)(e:Env) (σ:St)(R:V→Prop):Prop :=
 match i with
 | .p _ op=>match dC op e σ with
  | some v=>R v
  | none=>False
 | .call _ f args=>match cx.mode f with
  | .raw=>False
  | .rnd=>False
  | .val=>match cN σ (args.map (Opd.ev e)) with
   | some ds=>∃ Q',K .val f ds St.empty Q'∧(∃ v s,Q' v s)∧∀ v s,Q' v s→v.pure=true∧((args.map (Opd.ev e)).any V.borrows=true→v.scalars=true)∧R v
   | none=>False
  | .rd=>∀ σ1,Agr n0 σ σ1→∃ Q',K .rd f (args.map (Opd.ev e)) σ1 Q'∧(∃ v s,Q' v s)∧∀ v s,Q' v s→R v
 | _=>False

def AdmN (K:iI)(cx:Cx)(n0:Nat)(d:DOp)(e:Env) (σ:St)(R:V→Prop):Prop :=
 match gM d.guard e with
 | some true=>nGo K cx n0 d.ins e σ R
 | some false=>R .gone
 | none=>False

def Kept (ks:List Nat)(e:Env) (σ s:St):Prop:=∀ t∈ks,∀ r∈jP (e.get t),s.objs[r]?=σ.objs[r]?

theorem Kept.refl (ks:List Nat)(e:Env) (σ:St):Kept ks e σ σ:=fun _ _ _ _=>rfl

def xCall (K:iI)(cx:Cx)(ks:List Nat)(e:Env)(f:Nat)(vs:List V) (σ:St)(R:V→St→Prop):Prop :=
 match cx.mode f with
 | .rnd=>False
 | .raw=>∃ Q',K .raw f vs σ Q'∧(∃ v s,Q' v s)∧∀ v s,Q' v s→Kept ks e σ s∧R v s
 | .rd=>∃ Q',K .rd f vs σ Q'∧(∃ v s,Q' v s)∧∀ v s,Q' v s→R v σ
 | .val=>match cN σ vs with
  | some ds=>∃ Q',K .val f ds St.empty Q'∧(∃ v s,Q' v s)∧∀ v s,Q' v s→v.pure=true∧(vs.any V.borrows=true→v.scalars=true)∧R v σ
  | none=>False

def xGo (K:iI)(cx:Cx)(n0:Nat)(ks:List Nat)(al:Nat)(i:Ins)(e:Env) (σ:St)(R:V→St→Prop):Prop :=
 match i with
 | .e _ op=>(match dM op e σ (some (n0+al)) with
  | some (v,s)=>(op.isStore=true→Kept ks e σ s)∧R v s
  | none=>False)∨(match iB op e σ (some (n0+al)) with
  | some (v,s)=>(op.isStore=true→Kept ks e σ s)∧R v s
  | none=>False)
 | .call _ f args=>xCall K cx ks e f (args.map (Opd.ev e)) σ R
 | .callv _ f args=>match f.ev e with
  | .fn (.func g) first caps=>xCall K cx ks e g (first++args.map (Opd.ev e)++caps) σ R
  | _=>False
 | _=>False

def AdmX (K:iI)(cx:Cx)(n0:Nat)(ks:List Nat)(d:DOp)(e:Env) (σ:St)(R:V→St→Prop):Prop :=
 match gM d.guard e with
 | some true=>xGo K cx n0 ks d.al d.ins e σ R
 | some false=>R .gone σ
 | none=>False

def Adm0 (K:iI)(cx:Cx)(n0:Nat)(ks:List Nat)(d:DOp)(e:Env) (σ:St)(R:V→St→Prop):Prop :=
 match d.isN cx.mode with
 | true=>AdmN K cx n0 d e σ fun v=>R v σ
 | false=>AdmX K cx n0 ks d e σ R

def Dry (cx:Cx)(d:DOp)(e:Env):Prop:=d.isP=true→∀ s∈cx.dry,s∈d.reads→jP (e.get s)=[]

def Adm (K:iI)(cx:Cx)(n0:Nat)(ks:List Nat)(d:DOp)(e:Env) (σ:St)(R:V→St→Prop):Prop :=
 Dry cx d e∧Adm0 K cx n0 ks d e σ R

def wtx (K:iI)(cx:Cx)(n0:Nat)(ks:List Nat):List DOp→Env→St→(Env→St→Prop)→Prop
 | [],e,σ,Q=>Q e σ
 | d::r,e,σ,Q=>Adm K cx n0 ks d e σ fun v s=>wtx K cx n0 ks r (eK e d.ins.dst v) s Q

variable {K:iI} {cx:Cx} {n0:Nat} {ks:List Nat}

theorem nGo.mono {i:Ins}{e:Env} {σ:St}{R R':V→Prop}(hr : ∀ v,R v→R' v)(h:nGo K cx n0 i e σ R):nGo K cx n0 i e σ R':=by
 cases i with
 | p dst op =>
  simp only [nGo] at *
  split
  ·rename_i v hv; rw [hv] at h; exact hr _ h
  ·rename_i hv; rw [hv] at h; exact h
 | call dst f args =>
  simp only [nGo] at *
  cases hm:cx.mode f with
  | raw=>simp only [hm] at h
  | rnd=>simp only [hm] at h
  | val =>
   simp only [hm] at h ⊢
   split
   ·rename_i ds hds
    rw [hds] at h
    obtain⟨Q',a,b,c⟩:=h
    exact⟨Q',a,b,fun v s hq=>⟨(c v s hq).1,(c v s hq).2.1,hr _ (c v s hq).2.2⟩⟩
   ·rename_i hds; rw [hds] at h; exact h
  | rd =>
   simp only [hm] at h ⊢
   intro σ1 ha
   obtain⟨Q',a,b,c⟩:=h σ1 ha
   exact⟨Q',a,b,fun v s hq=>hr _ (c v s hq)⟩
 | _=>exact h

theorem AdmN.mono {d:DOp}{e:Env} {σ:St}{R R':V→Prop}(hr : ∀ v,R v→R' v)(h:AdmN K cx n0 d e σ R):AdmN K cx n0 d e σ R':=by
 unfold AdmN at *
 split
 ·rename_i hg; rw [hg] at h; exact nGo.mono hr h
 ·rename_i hg; rw [hg] at h; exact hr _ h
 ·rename_i hg; rw [hg] at h; exact h

theorem nGo.some {i:Ins}{e:Env} {σ:St}{R:V→Prop}(h:nGo K cx n0 i e σ R) : ∃ v,R v:=by
 cases i with
 | p dst op =>
  simp only [nGo] at h
  split at h
  ·exact⟨_,h⟩
  ·exact h.elim
 | call dst f args =>
  simp only [nGo] at h
  cases hm:cx.mode f with
  | raw=>simp only [hm] at h
  | rnd=>simp only [hm] at h
  | val =>
   simp only [hm] at h
   split at h
   ·obtain⟨Q',a,⟨v,s,hv⟩,c⟩:=h
    exact⟨v,(c v s hv).2.2⟩
   ·exact h.elim
  | rd =>
   simp only [hm] at h
   obtain⟨Q',a,⟨v,s,hv⟩,c⟩:=h σ (Agr.refl _ _)
   exact⟨v,c v s hv⟩
 | _=>exact h.elim

theorem AdmN.some {d:DOp}{e:Env} {σ:St}{R:V→Prop}(h:AdmN K cx n0 d e σ R) : ∃ v,R v:=by
 unfold AdmN at h
 split at h
 ·exact nGo.some h
 ·exact⟨_,h⟩
 ·exact h.elim

theorem sJ {d:DOp}{e e':Env}(h : ∀ s∈d.reads,e.get s=e'.get s):gM d.guard e=gM d.guard e':=by
 unfold gM
 cases hg:d.guard with
 | none=>rfl
 | some p =>
  obtain⟨s,w⟩:=p
  simp only
  rw [h s (by simp [DOp.reads,DOp.gslot,hg])]

theorem AdmN.same {d:DOp}{e e':Env} {σ σ':St}(h:Same d.reads e σ e' σ')(hag:Agr n0 σ σ'){R:V→Prop}(ha:AdmN K cx n0 d e σ R):AdmN K cx n0 d e' σ' R:=by
 have hr:Same d.ins.reads e σ e' σ':=Same.right (a:=d.gslot) h
 unfold AdmN at *
 rw [← sJ (fun s hs=>(h s hs).1)]
 split
 ·rename_i hg
  rw [hg] at ha
  simp only at ha
  generalize d.ins=i at *
  cases i with
  | p dst op =>
   simp only [nGo] at *
   rw [← tK hr]
   exact ha
  | call dst f args =>
   simp only [nGo] at *
   cases hm:cx.mode f with
   | raw=>simp only [hm] at ha
   | rnd=>simp only [hm] at ha
   | val =>
    simp only [hm] at ha ⊢
    rw [← aCq hr,← Same.opds hr]
    exact ha
   | rd =>
    simp only [hm] at ha ⊢
    intro σ1 h1
    rw [← Same.opds hr]
    exact ha σ1 (hag.trans h1)
  | _=>exact ha
 ·rename_i hg; rw [hg] at ha; exact ha
 ·rename_i hg; rw [hg] at ha; exact ha

theorem AdmN.free {d:DOp}{e e':Env} {σ:St}{q:Nat}{o:Obj}{R:V→Prop}(ha:AdmN K cx n0 d e σ R)(h : ∀ s∈d.reads,e.get s=e'.get s)(hf:σ.objs[q]?=aN Obj.free)(hq:n0≤q):AdmN K cx n0 d e' (σ.setObj q o) R:=by
 have hs:Same d.reads e σ e' σ:=fun s hs=>⟨h s hs,fun _ _=>rfl⟩
 have h2:=ha.same hs (Agr.refl n0 σ)
 have hag:Agr n0 σ (σ.setObj q o):=⟨fun r hr=>(oM (by omega)).symm,rfl⟩
 unfold AdmN at h2 ⊢
 split
 ·rename_i hg
  rw [hg] at h2
  simp only at h2
  generalize d.ins=i at *
  cases i with
  | p dst op =>
   simp only [nGo] at h2 ⊢
   split at h2
   ·rename_i v hv; rw [aDL hf hv]; exact h2
   ·exact h2.elim
  | call dst f args =>
   simp only [nGo] at h2 ⊢
   cases hm:cx.mode f with
   | raw=>simp only [hm] at h2
   | rnd=>simp only [hm] at h2
   | val =>
    simp only [hm] at h2 ⊢
    split at h2
    ·rename_i ds hds; rw [wG hf hds]; exact h2
    ·exact h2.elim
   | rd =>
    simp only [hm] at h2 ⊢
    intro σ1 h1
    exact h2 σ1 (hag.trans h1)
  | _=>exact h2
 ·rename_i hg; rw [hg] at h2; exact h2
 ·rename_i hg; rw [hg] at h2; exact h2

theorem AdmN.single {d:DOp}(hp:d.isP=true){e:Env} {σ:St}{R:V→Prop}(h:AdmN K cx n0 d e σ R) : ∃ v,∀ R',AdmN K cx n0 d e σ R'↔R' v:=by
 unfold DOp.isP at hp
 split at hp
 ·rename_i dst op hi
  unfold AdmN at h
  simp only [AdmN]
  rw [hi] at h ⊢
  split at h
  ·simp only [nGo] at h ⊢
   split at h
   ·rename_i v hv
    exact⟨v,fun R'=>Iff.rfl⟩
   ·exact h.elim
  ·exact⟨.gone,fun R'=>Iff.rfl⟩
  ·exact h.elim
 ·cases hp

theorem hZ {x:Opd}{e e':Env}(h : ∀ s∈x.slots,e.get s=e'.get s):x.ev e=x.ev e':=by
 cases x with
 | t n=>exact h n (by simp [Opd.slots])
 | _=>rfl
theorem zX {xs:List Opd}{e e':Env}(h : ∀ s∈xs.flatMap Opd.slots,e.get s=e'.get s):xs.map (Opd.ev e)=xs.map (Opd.ev e') :=
 List.map_congr_left fun x hx=>hZ fun s hs=>h s (List.mem_flatMap.2 ⟨x,hx,hs⟩)

theorem aAt {rd:List Nat}{e e':Env}(h : ∀ s∈rd,e.get s=e'.get s) (σ:St):Same rd e σ e' σ:=fun s hs=>⟨h s hs,fun _ _=>rfl⟩

theorem aAi {x:V}(h : ∀ r off len sz,x ≠ .sl r off len sz) (σ σ':St):V.rows σ x=V.rows σ' x:=by
 cases x with
 | sl r off len sz=>exact absurd rfl (h _ _ _ _)
 | d x=>cases x <;> rfl
 | _=>rfl

theorem aCK (sz:Nat)(x i:V) (σ σ':St):jA σ sz x i=jA σ' sz x i:=by
 cases x with
 | sl r off len s=>rfl
 | d x=>simp only [jA]; rw [aAi (by simp) σ σ']
 | _=>simp only [jA]; rw [aAi (by simp) σ σ']

theorem aCB {op:POp}(hb:op.blind=true){e e':Env}(h : ∀ s∈op.reads,e.get s=e'.get s) (σ σ':St):dC op e σ=dC op e' σ':=by
 rw [tK (aAt h σ)]
 cases op with
 | load=>simp [POp.blind] at hb
 | sliceArr=>simp [POp.blind] at hb
 | lookup=>simp [POp.blind] at hb
 | conv k x=>cases k <;> first | (simp [POp.blind] at hb; done) | rfl
 | len ty x=>cases ty <;> first | (simp [POp.blind] at hb; done) | rfl
 | iaddr sz x i=>simp only [dC]; exact aCK _ _ _ _ _
 | _=>rfl

theorem AdmN.blind {d:DOp}(hb:d.isB=true){e:Env} {σ:St}{R:V→Prop}(h:AdmN K cx n0 d e σ R) : ∃ v,∀ (e':Env) (σ':St),(∀ s∈d.reads,e.get s=e'.get s)→∀ R',AdmN K cx n0 d e' σ' R'↔R' v:=by
 unfold DOp.isB at hb
 split at hb
 ·rename_i dst op hi
  have hg : ∀ e':Env,(∀ s∈d.reads,e.get s=e'.get s)→gM d.guard e=gM d.guard e':=fun e' he=>sJ he
  have hrd : ∀ s∈op.reads,s∈d.reads:=fun s hs=>by
   unfold DOp.reads
   rw [hi]
   exact bX _ hs
  unfold AdmN at *
  cases hs:gM d.guard e with
  | none=>rw [hs] at h; exact h.elim
  | some b =>
   rw [hs] at h
   cases b with
   | true =>
    rw [hi] at *
    simp only [nGo] at h
    split at h
    ·rename_i v hv
     refine⟨v,fun e' σ' he R'=>?_⟩
     rw [← hg e' he,hs]
     simp only [nGo]
     rw [← aCB hb (fun s hs=>he s (hrd s hs)) σ σ',hv]
    ·exact h.elim
   | false =>
    refine⟨.gone,fun e' σ' he R'=>?_⟩
    rw [← hg e' he,hs]
 ·cases hb

theorem wQ {op:EOp}{e e':Env}(h : ∀ s∈op.reads,e.get s=e'.get s) (σ:St)(tg:Option Nat):dM op e σ tg=dM op e' σ tg∧iB op e σ tg=iB op e' σ tg:=by
 cases op with
 | alloc z=>exact⟨rfl,rfl⟩
 | makeMap=>exact⟨rfl,rfl⟩
 | box x=>simp only [dM,iB,hZ (x:=x) h,and_self]
 | clear sz z x=>simp only [dM,iB,hZ (x:=x) h,and_self]
 | mapUpdate ka ks a b c=>simp only [dM,iB,hZ (x:=a) (fun s hs=>h s (List.mem_append_left _ hs)),hZ (x:=b) (fun s hs=>h s (bX _ (List.mem_append_left _ hs))),hZ (x:=c) (fun s hs=>h s (bX _ (bX _ hs))),and_self]
 | mapDelete ka ks a b=>simp only [dM,iB,hZ (x:=a) (fun s hs=>h s (List.mem_append_left _ hs)),hZ (x:=b) (fun s hs=>h s (bX _ hs)),and_self]
 | range x=>simp only [dM,iB,hZ (x:=x) h,and_self]
 | entry x=>simp only [dM,iB,hZ (x:=x) h,and_self]
 | cloneMap x=>simp only [dM,iB,hZ (x:=x) h,and_self]
 | appendZero t sz b z a x=>simp only [dM,iB,hZ (x:=a) (fun s hs=>h s (List.mem_append_left _ hs)),hZ (x:=x) (fun s hs=>h s (bX _ hs)),and_self]
 | store n a x=>simp only [dM,iB,hZ (x:=a) (fun s hs=>h s (List.mem_append_left _ hs)),hZ (x:=x) (fun s hs=>h s (bX _ hs)),and_self]
 | append t sz b a x=>simp only [dM,iB,hZ (x:=a) (fun s hs=>h s (List.mem_append_left _ hs)),hZ (x:=x) (fun s hs=>h s (bX _ hs)),and_self]
 | appendStr t a x=>simp only [dM,iB,hZ (x:=a) (fun s hs=>h s (List.mem_append_left _ hs)),hZ (x:=x) (fun s hs=>h s (bX _ hs)),and_self]
 | copy sz a x=>simp only [dM,iB,hZ (x:=a) (fun s hs=>h s (List.mem_append_left _ hs)),hZ (x:=x) (fun s hs=>h s (bX _ hs)),and_self]
 | makeSlice t sz b z a x=>simp only [dM,iB,hZ (x:=a) (fun s hs=>h s (List.mem_append_left _ hs)),hZ (x:=x) (fun s hs=>h s (bX _ hs)),and_self]

theorem xCall.mono {e:Env}{f:Nat}{vs:List V} {σ:St}{R R':V→St→Prop}(hr : ∀ v s,R v s→R' v s)(h:xCall K cx ks e f vs σ R):xCall K cx ks e f vs σ R':=by
 unfold xCall at *
 cases hm:cx.mode f with
 | rnd=>simp only [hm] at h
 | raw=>simp only [hm] at h ⊢; obtain⟨Q',a,b,c⟩:=h; exact⟨Q',a,b,fun v s hq=>⟨(c v s hq).1,hr _ _ (c v s hq).2⟩⟩
 | rd=>simp only [hm] at h ⊢; obtain⟨Q',a,b,c⟩:=h; exact⟨Q',a,b,fun v s hq=>hr _ _ (c v s hq)⟩
 | val =>
  simp only [hm] at h ⊢
  split
  ·rename_i ds hds
   rw [hds] at h
   obtain⟨Q',a,b,c⟩:=h
   exact⟨Q',a,b,fun v s hq=>⟨(c v s hq).1,(c v s hq).2.1,hr _ _ (c v s hq).2.2⟩⟩
  ·rename_i hds; rw [hds] at h; exact h

theorem xCall.some {e:Env}{f:Nat}{vs:List V} {σ:St}{R:V→St→Prop}(h:xCall K cx ks e f vs σ R) : ∃ v s,R v s:=by
 unfold xCall at h
 cases hm:cx.mode f with
 | rnd=>simp only [hm] at h
 | raw=>simp only [hm] at h; obtain⟨Q',a,⟨v,s,b⟩,c⟩:=h; exact⟨v,s,(c v s b).2⟩
 | rd=>simp only [hm] at h; obtain⟨Q',a,⟨v,s,b⟩,c⟩:=h; exact⟨v,σ,c v s b⟩
 | val =>
  simp only [hm] at h
  split at h
  ·obtain⟨Q',a,⟨v,s,b⟩,c⟩:=h; exact⟨v,σ,(c v s b).2.2⟩
  ·exact h.elim

theorem xCall.callK {e:Env}{f:Nat}{vs:List V} {σ:St}{R:V→St→Prop}(h:xCall K cx ks e f vs σ R)(cx':Cx):Dn.callK K cx' f vs σ R:=by
 unfold xCall at h
 refine .inl ⟨cx.mode f,?_⟩
 cases hm:cx.mode f with
 | rnd=>simp only [hm] at h
 | raw=>simp only [hm] at h; obtain⟨Q',a,b,c⟩:=h; exact⟨Q',a,fun v s hq=>(c v s hq).2⟩
 | rd=>simp only [hm] at h; obtain⟨Q',a,b,c⟩:=h; exact⟨Q',a,c⟩
 | val =>
  simp only [hm] at h
  simp only [wJ]
  split at h
  ·rename_i ds hds
   rw [hds]
   obtain⟨Q',a,b,c⟩:=h; exact⟨Q',a,c⟩
  ·exact h.elim

theorem AdmX.mono {d:DOp}{e:Env} {σ:St}{R R':V→St→Prop}(hr : ∀ v s,R v s→R' v s)(h:AdmX K cx n0 ks d e σ R):AdmX K cx n0 ks d e σ R':=by
 unfold AdmX at *
 split
 ·rename_i hg
  rw [hg] at h
  simp only at h
  generalize d.ins=i at *
  cases i with
  | e dst op =>
   simp only [xGo] at *
   refine h.imp (fun h=>?_) (fun h=>?_)
   ·split
    ·rename_i v s hv; rw [hv] at h; exact⟨h.1,hr _ _ h.2⟩
    ·rename_i hv; rw [hv] at h; exact h
   ·split
    ·rename_i v s hv; rw [hv] at h; exact⟨h.1,hr _ _ h.2⟩
    ·rename_i hv; rw [hv] at h; exact h
  | call dst f args=>exact xCall.mono hr h
  | callv dst f args =>
   simp only [xGo] at *
   split
   ·rename_i g first caps hf; rw [hf] at h; exact xCall.mono hr h
   ·rename_i hn
    split at h
    ·rename_i g first caps hf; exact(hn _ _ _ hf).elim
    ·exact h
  | _=>exact h
 ·rename_i hg; rw [hg] at h; exact hr _ _ h
 ·rename_i hg; rw [hg] at h; exact h

theorem AdmX.some {d:DOp}{e:Env} {σ:St}{R:V→St→Prop}(h:AdmX K cx n0 ks d e σ R) : ∃ v s,R v s:=by
 unfold AdmX at h
 split at h
 ·generalize d.ins=i at *
  cases i with
  | e dst op =>
   simp only [xGo] at h
   rcases h with h | h
   ·split at h
    ·exact⟨_,_,h.2⟩
    ·exact h.elim
   ·split at h
    ·exact⟨_,_,h.2⟩
    ·exact h.elim
  | call dst f args=>exact xCall.some h
  | callv dst f args =>
   simp only [xGo] at h
   split at h
   ·exact xCall.some h
   ·exact h.elim
  | _=>exact h.elim
 ·exact⟨_,_,h⟩
 ·exact h.elim

theorem mX {e e':Env}(hk : ∀ s∈ks,e.get s=e'.get s) (σ s:St):Kept ks e σ s↔Kept ks e' σ s:=by
 constructor
 ·intro h t ht r hr; exact h t ht r (by rw [hk t ht]; exact hr)
 ·intro h t ht r hr; exact h t ht r (by rw [← hk t ht]; exact hr)

theorem xCall.slots {e e':Env}(hk : ∀ s∈ks,e.get s=e'.get s){f:Nat}{vs:List V} {σ:St}{R:V→St→Prop}(h:xCall K cx ks e f vs σ R):xCall K cx ks e' f vs σ R:=by
 unfold xCall at *
 cases hm:cx.mode f with
 | rnd=>simp only [hm] at h
 | raw=>simp only [hm] at h ⊢; obtain⟨Q',a,b,c⟩:=h; exact⟨Q',a,b,fun v s hq=>⟨(mX hk σ s).1 (c v s hq).1,(c v s hq).2⟩⟩
 | rd=>simp only [hm] at h ⊢; exact h
 | val=>simp only [hm] at h ⊢; exact h

theorem AdmX.slots {d:DOp}{e e':Env}(he : ∀ s∈d.reads,e.get s=e'.get s)(hk : ∀ s∈ks,e.get s=e'.get s) {σ:St}{R:V→St→Prop}(h:AdmX K cx n0 ks d e σ R):AdmX K cx n0 ks d e' σ R:=by
 have hr : ∀ s∈d.ins.reads,e.get s=e'.get s:=fun s hs=>he s (bX _ hs)
 unfold AdmX at *
 rw [← sJ he]
 split
 ·rename_i hg
  rw [hg] at h
  simp only at h
  generalize d.ins=i at *
  cases i with
  | e dst op =>
   simp only [xGo] at *
   rw [← (wQ hr σ _).1,← (wQ hr σ _).2]
   refine h.imp (fun h=>?_) (fun h=>?_)
   ·split
    ·rename_i v s hv; rw [hv] at h; exact⟨fun hs=>(mX hk σ s).1 (h.1 hs),h.2⟩
    ·rename_i hv; rw [hv] at h; exact h
   ·split
    ·rename_i v s hv; rw [hv] at h; exact⟨fun hs=>(mX hk σ s).1 (h.1 hs),h.2⟩
    ·rename_i hv; rw [hv] at h; exact h
  | call dst f args =>
   simp only [xGo] at *
   rw [← zX hr]
   exact h.slots hk
  | callv dst f args =>
   simp only [xGo] at *
   rw [← zX (xs:=args) (fun s hs=>hr s (bX _ hs)),← hZ (x:=f) (fun s hs=>hr s (List.mem_append_left _ hs))]
   split
   ·rename_i g first caps hf
    rw [hf] at h
    exact h.slots hk
   ·rename_i hn
    split at h
    ·rename_i g first caps hf; exact(hn _ _ _ hf).elim
    ·exact h
  | _=>exact h
 ·rename_i hg; rw [hg] at h; exact h
 ·rename_i hg; rw [hg] at h; exact h

theorem Adm0.mono {d:DOp}{e:Env} {σ:St}{R R':V→St→Prop}(hr : ∀ v s,R v s→R' v s)(h:Adm0 K cx n0 ks d e σ R):Adm0 K cx n0 ks d e σ R':=by
 unfold Adm0 at *
 split
 ·rename_i he; rw [he] at h; exact AdmN.mono (fun v=>hr v σ) h
 ·rename_i he; rw [he] at h; exact AdmX.mono hr h

theorem Adm0.some {d:DOp}{e:Env} {σ:St}{R:V→St→Prop}(h:Adm0 K cx n0 ks d e σ R) : ∃ v s,R v s:=by
 unfold Adm0 at h
 split at h
 ·obtain⟨v,hv⟩:=h.some; exact⟨v,σ,hv⟩
 ·exact AdmX.some h

theorem Adm0.slots {d:DOp}{e e':Env}(he : ∀ s∈d.reads,e.get s=e'.get s)(hk : ∀ s∈ks,e.get s=e'.get s) {σ:St}{R:V→St→Prop}(h:Adm0 K cx n0 ks d e σ R):Adm0 K cx n0 ks d e' σ R:=by
 unfold Adm0 at *
 split
 ·rename_i hn; rw [hn] at h; exact AdmN.same (aAt he σ) (Agr.refl _ _) h
 ·rename_i hn; rw [hn] at h; exact AdmX.slots he hk h

theorem Dry.slots {d:DOp}{e e':Env}(he : ∀ s∈d.reads,e.get s=e'.get s)(h:Dry cx d e):Dry cx d e':=fun hp s hs hr=>by
 rw [← he s hr]
 exact h hp s hs hr

theorem Adm.slots {d:DOp}{e e':Env}(he : ∀ s∈d.reads,e.get s=e'.get s)(hk : ∀ s∈ks,e.get s=e'.get s) {σ:St}{R:V→St→Prop}(h:Adm K cx n0 ks d e σ R):Adm K cx n0 ks d e' σ R:=⟨h.1.slots he,h.2.slots he hk⟩
theorem Adm.mono {d:DOp}{e:Env} {σ:St}{R R':V→St→Prop}(hr : ∀ v s,R v s→R' v s)(h:Adm K cx n0 ks d e σ R):Adm K cx n0 ks d e σ R':=⟨h.1,h.2.mono hr⟩

theorem oA {d:DOp}(h:d.isN cx.mode=true)(e:Env) (σ:St)(R:V→St→Prop):Adm0 K cx n0 ks d e σ R=AdmN K cx n0 d e σ (fun v=>R v σ):=by
 unfold Adm0; rw [h]

theorem AdmN.sameP {d:DOp}(hp:d.isP=true){e e':Env} {σ σ':St}(h:Same d.reads e σ e' σ'){R:V→Prop}(ha:AdmN K cx n0 d e σ R):AdmN K cx n0 d e' σ' R:=by
 have hr:Same d.ins.reads e σ e' σ':=Same.right (a:=d.gslot) h
 unfold DOp.isP at hp
 unfold AdmN at *
 rw [← sJ (fun s hs=>(h s hs).1)]
 split
 ·rename_i hg
  rw [hg] at ha
  simp only at ha
  generalize d.ins=i at *
  cases i with
  | p dst op =>
   simp only [nGo] at *
   rw [← tK hr]
   exact ha
  | _=>cases hp
 ·rename_i hg; rw [hg] at ha; exact ha
 ·rename_i hg; rw [hg] at ha; exact ha

theorem AdmX.kept {d:DOp}(hx:d.isXc cx.mode=true){e:Env} {σ:St}{R:V→St→Prop}(h:AdmX K cx n0 ks d e σ R):AdmX K cx n0 ks d e σ fun v s=>Kept ks e σ s∧R v s:=by
 have xc : ∀ {f:Nat} {vs:List V},xCall K cx ks e f vs σ R→xCall K cx ks e f vs σ fun v s=>Kept ks e σ s∧R v s:=fun {f vs} h=>by
  unfold xCall at *
  cases hm:cx.mode f with
  | rnd=>simp only [hm] at h
  | raw=>simp only [hm] at h ⊢; obtain⟨Q',a,b,c⟩:=h; exact⟨Q',a,b,fun v s hq=>⟨(c v s hq).1,(c v s hq).1,(c v s hq).2⟩⟩
  | rd=>simp only [hm] at h ⊢; obtain⟨Q',a,b,c⟩:=h; exact⟨Q',a,b,fun v s hq=>⟨Kept.refl _ _ _,c v s hq⟩⟩
  | val =>
   simp only [hm] at h ⊢
   split
   ·rename_i ds hds
    rw [hds] at h
    obtain⟨Q',a,b,c⟩:=h
    exact⟨Q',a,b,fun v s hq=>⟨(c v s hq).1,(c v s hq).2.1,Kept.refl _ _ _,(c v s hq).2.2⟩⟩
   ·rename_i hds; rw [hds] at h; exact h
 unfold DOp.isXc at hx
 unfold AdmX at *
 split
 ·rename_i hg
  rw [hg] at h
  simp only at h
  generalize d.ins=i at *
  cases i with
  | e dst op =>
   simp only [xGo] at *
   refine h.imp (fun h=>?_) (fun h=>?_)
   ·split
    ·rename_i v s hv; rw [hv] at h; exact⟨h.1,h.1 hx,h.2⟩
    ·rename_i hv; rw [hv] at h; exact h
   ·split
    ·rename_i v s hv; rw [hv] at h; exact⟨h.1,h.1 hx,h.2⟩
    ·rename_i hv; rw [hv] at h; exact h
  | call dst f args=>exact xc h
  | callv dst f args =>
   simp only [xGo] at *
   split
   ·rename_i g first caps hf; rw [hf] at h; exact xc h
   ·rename_i hn
    split at h
    ·rename_i g first caps hf; exact(hn _ _ _ hf).elim
    ·exact h
  | _=>cases hx
 ·rename_i hg; rw [hg] at h; exact⟨Kept.refl _ _ _,h⟩
 ·rename_i hg; rw [hg] at h; exact h

theorem aGR {md:Nat→Mode}{d:DOp}(h:d.isXc md=true):d.isN md=false:=by
 unfold DOp.isXc at h; unfold DOp.isN
 generalize d.ins=i at *
 cases i with
 | call dst f args =>
  simp only at h ⊢
  cases hm:md f <;> simp only [hm] at h ⊢ <;> cases h
 | callv dst f args=>rfl
 | e dst op=>rfl
 | _=>cases h

theorem wU {md:Nat→Mode}{d:DOp}(h:d.isP=true):d.isN md=true:=by
 unfold DOp.isP at h; unfold DOp.isN
 generalize d.ins=i at *
 cases i <;> first | rfl | cases h
theorem aJg {d:DOp}(h:d.isB=true):d.isP=true:=by
 unfold DOp.isB at h; unfold DOp.isP
 generalize d.ins=i at *
 cases i <;> first | rfl | cases h

theorem aGN {e:Env}{d d':Option Nat}{v u:V}(h : ∀ s,d=some s→d'≠some s) : ∀ s,(eK (eK e d v) d' u).get s=(eK (eK e d' u) d v).get s:=fun s=>by
 by_cases h1:d=some s
 ·have h2:=h s h1
  rw [iR h2]
  subst h1
  simp [eK,Env.get_set]
 ·by_cases h2:d'=some s
  ·rw [iR (e:=eK e d' u) h1]
   subst h2
   simp [eK,Env.get_set]
  ·rw [iR h2,iR h1,iR h1,iR h2]

theorem uU {rd:List Nat}{e:Env} {σ:St}{d:Option Nat}{v:V}(h : ∀ s,d=some s→s∉rd):Same rd e σ (eK e d v) σ:=fun s hs =>
 ⟨(iR (fun hd=>h s hd hs) v).symm,fun _ _=>rfl⟩

theorem Same.symm {rd:List Nat}{e e':Env} {σ σ':St}(h:Same rd e σ e' σ'):Same rd e' σ' e σ:=fun s hs =>
 ⟨(h s hs).1.symm,fun r hr=>((h s hs).2 r (by rw [(h s hs).1]; exact hr)).symm⟩

end Go.Dn

/- Neighbours that may change places. -/
namespace Go.Dn

variable {K:iI} {cx:Cx} {n0:Nat} {ks:List Nat}

def nT (op:EOp)(e:Env):Option (List V) :=
 match op with
 | .alloc zero=>some zero
 | .box x=>(x.ev e).cells
 | _=>none

theorem lA {d:DOp}(h:d.isNew=true):d.guard=none∧∃ s op,d.ins = .e (some s) op∧(∀ e σ r,dM op e σ (some r)=match nT op e with
  | some cs=>newObj σ (some r) (.cells cs) (fun r=>.ref r 0)
  | none=>none)∧(∀ e e',(∀ s∈op.reads,e.get s=e'.get s)→nT op e=nT op e'):=by
 unfold DOp.isNew at h
 simp only [aS] at h
 obtain⟨h1,h2⟩:=h
 refine⟨by simpa using h1,?_⟩
 split at h2
 ·rename_i s z hi
  exact⟨s,_,hi,fun e σ r=>rfl,fun _ _ _=>rfl⟩
 ·rename_i s x hi
  refine⟨s,_,hi,fun e σ r=>by simp only [dM,nT]; split <;> simp_all,fun e e' h=>?_⟩
  simp only [nT]
  have:x.ev e=x.ev e':=by
   cases x with
   | t n=>exact h n (by simp [EOp.reads,Opd.slots])
   | _=>rfl
  rw [this]
 ·cases h2

theorem oK {l:List DOp}{d:DOp}(h:d.isSto l=true):d.guard=none∧∃ n s x,d.ins = .e none (.store n (.t s) x)∧∃ m∈d.after,∃ dm,l[m]?=some dm∧dm.isNew=true∧dm.ins.dst=some s:=by
 unfold DOp.isSto at h
 simp only [aS] at h
 obtain⟨h1,h2⟩:=h
 refine⟨by simpa using h1,?_⟩
 split at h2
 ·rename_i n s x hi
  refine⟨n,s,x,hi,?_⟩
  rw [List.any_eq_true] at h2
  obtain⟨m,hm,h3⟩:=h2
  split at h3
  ·rename_i dm hdm
   simp only [aS,beq_iff_eq] at h3
   exact⟨m,hm,dm,hdm,h3.1,h3.2⟩
  ·cases h3
 ·cases h2

theorem aIm {md:Nat→Mode}{d:DOp}(h:d.isNew=true):d.isN md=false:=by
 obtain⟨_,s,op,hi,_⟩:=lA h
 simp [DOp.isN,hi]
theorem aIn {md:Nat→Mode}{l:List DOp}{d:DOp}(h:d.isSto l=true):d.isN md=false:=by
 obtain⟨_,n,s,x,hi,_⟩:=oK h
 simp [DOp.isN,hi]
theorem aLe {d:DOp}(h:d.isNew=true){dst:Option Nat}{op:EOp}(hi:d.ins = .e dst op)(e:Env) (σ:St)(tg:Option Nat):iB op e σ tg=none:=by
 unfold DOp.isNew at h
 rw [hi] at h
 cases op <;> first | rfl | (simp at h; done)
theorem aLw {l:List DOp}{d:DOp}(h:d.isSto l=true){dst:Option Nat}{op:EOp}(hi:d.ins = .e dst op)(e:Env) (σ:St)(tg:Option Nat):iB op e σ tg=none:=by
 obtain⟨_,n,s,x,hi',_⟩:=oK h
 rw [hi] at hi'
 cases hi'
 rfl

def Low (n0:Nat) (σ σ':St):Prop:=∀ r,r<n0→σ'.objs[r]?=σ.objs[r]?

structure Inv (l:List DOp)(n0:Nat)(S:List Nat)(e:Env):Prop where
 low : ∀ s,(∀ d∈l,d.ins.dst≠some s)→∀ r∈jP (e.get s),r<n0
 new : ∀ m∈S,∀ d,l[m]?=some d→d.isNew=true→∀ s,d.ins.dst=some s→e.get s = .ref (n0+d.al) 0
 fa : ∀ m∈S,∀ d,l[m]?=some d→∀ s q,d.faOf l=some (s,q)→∀ r∈jP (e.get s),r∈jP (e.get q)

theorem aDw {l:List DOp}{s:Nat}(h:l.all (fun d'=>d'.ins.dst != some s)=true) : ∀ d∈l,d.ins.dst≠some s:=fun d hd=>by
 rw [List.all_eq_true] at h
 simpa using h d hd

theorem uA {l:List DOp}{d:DOp}{s q:Nat}(h:d.faOf l=some (s,q)):d.guard=none∧(∃ k,d.ins = .p (some s) (.faddr k (.t q)))∧∀ d'∈l,d'.ins.dst≠some q:=by
 unfold DOp.faOf at h
 split at h
 ·rename_i hg
  split at h
  ·rename_i s' k q' hi
   split at h
   ·rename_i hq
    cases h
    exact⟨by simpa using hg,⟨k,hi⟩,aDw hq⟩
   ·cases h
  ·cases h
 ·cases h

theorem vR {l:List DOp}{S:List Nat}{e:Env}(hi:Inv l n0 S e){d:DOp}(haf : ∀ a∈d.after,a∈S){s q:Nat}(h:qE l d s=some q):(∀ d'∈l,d'.ins.dst≠some q)∧∀ r∈jP (e.get s),r∈jP (e.get q):=by
 unfold qE at h
 split at h
 ·rename_i hs
  cases h
  exact⟨aDw hs,fun r hr=>hr⟩
 ·obtain⟨m,hm,h1⟩:=List.exists_of_findSome?_eq_some h
  split at h1
  ·rename_i dm hdm
   split at h1
   ·rename_i s' q' hf
    split at h1
    ·rename_i hss
     cases h1
     subst hss
     exact⟨(uA hf).2.2,hi.fa m (haf m hm) dm hdm _ _ hf⟩
    ·cases h1
   ·cases h1
  ·cases h1

theorem vM {l:List DOp}{dr:List Nat}{d:DOp}(h:d.near l dr=true){s:Nat}(hs:s∈d.reads):(d.isP=true∧s∈dr)∨∃ q,qE l d s=some q:=by
 unfold DOp.near at h
 rw [List.all_eq_true] at h
 have:=h s hs
 rw [Bool.or_eq_true,aS] at this
 exact this.imp (fun h=>⟨h.1,by simpa using h.2⟩) Option.isSome_iff_exists.1

theorem yW {l:List DOp}{S:List Nat}{e:Env}(hi:Inv l n0 S e){d:DOp}(haf : ∀ a∈d.after,a∈S)(hdry:Dry cx d e)(hd:d.near l cx.dry=true) {σ σ':St}(hlow:Low n0 σ σ'):Same d.reads e σ e σ':=fun s hs=>by
 rcases vM hd hs with⟨hp,hdr⟩ | ⟨q,hq⟩
 ·exact⟨rfl,fun r hr=>by rw [hdry hp s hdr hs] at hr; cases hr⟩
 obtain⟨h1,h2⟩:=vR hi haf hq
 exact⟨rfl,fun r hr=>(hlow r (hi.low q h1 r (h2 r hr))).symm⟩

theorem sO {d:DOp}(hn:d.isNew=true){e:Env} {σ:St}{v:V}{s':St}{op:EOp}{dst:Option Nat}(hi:d.ins = .e dst op)(h:dM op e σ (some (n0+d.al))=some (v,s')) :
  v = .ref (n0+d.al) 0∧∃ cs,nT op e=some cs∧σ.objs[n0+d.al]?=some .free∧s'=σ.setObj (n0+d.al) (.cells cs):=by
 obtain⟨_,s,op',hi',h1,_⟩:=lA hn
 rw [hi] at hi'
 cases hi'
 rw [h1] at h
 split at h
 ·rename_i cs hcs
  unfold newObj St.place at h
  simp only [St.spot] at h
  split at h
  ·rename_i σ' hp
   split at hp
   ·rename_i hf
    simp only [aN.injEq] at hp
    simp only [aN.injEq,Prod.mk.injEq] at h
    obtain⟨rfl,rfl⟩:=h
    exact⟨rfl,cs,hcs,hf,hp.symm⟩
   ·cases hp
  ·cases h
 ·cases h

theorem aBs {σ:St}{r:Nat}{o:Obj}(h:n0≤r):Agr n0 σ (σ.setObj r o):=⟨fun q hq=>by
 simp only [St.setObj]
 rw [aF (by omega)],rfl⟩

theorem aEW {l:List DOp}{S:List Nat}{e:Env}(hi:Inv l n0 S e){d:DOp}(hs:d.isSto l=true)(haf : ∀ a∈d.after,a∈S) {σ:St}{v:V}{s':St}{op:EOp}{dst:Option Nat}(hd:d.ins = .e dst op)
  {tg:Option Nat} (h:dM op e σ tg=some (v,s')):Agr n0 σ s':=by
 obtain⟨_,n,s,x,hi',m,hm,dm,h1,h2,h3⟩:=oK hs
 rw [hd] at hi'
 cases hi'
 have hg:=hi.new m (haf m hm) dm h1 h2 s h3
 simp only [dM,Opd.ev,hg] at h
 split at h
 ·split at h
  ·split at h
   ·simp only [aN.injEq,Prod.mk.injEq] at h
    obtain⟨_,rfl⟩:=h
    exact aBs (by omega)
   ·cases h
  ·cases h
 ·cases h

theorem tJ {l:List DOp}{d:DOp}(h:d.isNew=true∨d.isSto l=true){op:EOp}{dst:Option Nat}(hi:d.ins = .e dst op){e e':Env}(hr : ∀ s∈op.reads,e.get s=e'.get s) (σ:St) :
  dM op e σ (some (n0+d.al))=dM op e' σ (some (n0+d.al)):=by
 rcases h with h | h
 ·obtain⟨_,s,op',hi',h1,h2⟩:=lA h
  rw [hi] at hi'
  cases hi'
  rw [h1,h1,h2 e e' hr]
 ·obtain⟨_,n,s,x,hi',_⟩:=oK h
  rw [hi] at hi'
  cases hi'
  have e1:e.get s=e'.get s:=hr s (by simp [EOp.reads,Opd.slots])
  have e2:x.ev e=x.ev e':=by
   cases x with
   | t k=>exact hr k (by simp [EOp.reads,Opd.slots])
   | _=>rfl
  simp only [dM,e2]
  simp only [Opd.ev,e1]

structure Apart (x y:DOp):Prop where
 rd : ∀ s,x.ins.dst=some s→s∉y.reads
 ne : ∀ s,x.ins.dst=some s→y.ins.dst≠some s
 dr : ∀ s,y.ins.dst=some s→s∉x.reads

theorem aAL {x y:DOp}(h:aDx x y=true):Apart x y:=by
 unfold aDx at h
 simp only [aS] at h
 obtain⟨h1,h2⟩:=h
 refine⟨fun s hs=>?_,fun s hs=>?_,fun s hs=>?_⟩
 ·rw [hs] at h1; simp at h1; exact h1.1
 ·rw [hs] at h1; simp at h1; exact h1.2
 ·rw [hs] at h2; simp at h2; exact h2

def Ext (Q:Env→St→Prop):Prop:=∀ e e' σ,(∀ s,e.get s=e'.get s)→Q e σ→Q e' σ

theorem Apart.swap {x y:DOp}(h:Apart x y){Q:Env→St→Prop}(hq:Ext Q){e:Env}{v u:V} {σ:St}(hQ:Q (eK (eK e x.ins.dst v) y.ins.dst u) σ):Q (eK (eK e y.ins.dst u) x.ins.dst v) σ :=
 hq _ _ _ (aGN h.ne) hQ

theorem pY {d:DOp}{s:Nat}(h:s∈d.ins.reads):s∈d.reads:=bX _ h

theorem mW {l:List DOp}{d:DOp}(h:d.isNew=true∨d.isSto l=true)(e:Env) (σ:St)(R:V→St→Prop):Adm0 K cx n0 ks d e σ R↔d.guard=none∧∃ dst op v s,d.ins = .e dst op∧dM op e σ (some (n0+d.al))=some (v,s)∧(op.isStore=true→Kept ks e σ s)∧R v s:=by
 have hN:d.isN cx.mode=false:=h.elim aIm aIn
 have hg:d.guard=none:=h.elim (fun h=>(lA h).1) (fun h=>(oK h).1)
 have hins : ∃ dst op,d.ins = .e dst op:=by
  rcases h with h | h
  ·obtain⟨_,s,op,hi,_⟩:=lA h; exact⟨_,_,hi⟩
  ·obtain⟨_,n,s,x,hi,_⟩:=oK h; exact⟨_,_,hi⟩
 obtain⟨dst,op,hi⟩:=hins
 have hM:iB op e σ (some (n0+d.al))=none:=h.elim (fun h=>aLe h hi _ _ _) (fun h=>aLw h hi _ _ _)
 unfold Adm0 AdmX
 rw [hN,hg]
 simp only [gM,true_and]
 rw [hi]
 simp only [xGo,hM,or_false]
 constructor
 ·intro h
  split at h
  ·rename_i v s hv; exact⟨dst,op,v,s,rfl,hv,h.1,h.2⟩
  ·exact h.elim
 ·rintro ⟨dst',op',v,s,h1,h2,h3⟩
  cases h1
  rw [h2]
  exact h3

theorem xC {d:DOp}(h:d.isNew=true){dst:Option Nat}{op:EOp}(hi:d.ins = .e dst op):op.isStore=false:=by
 unfold DOp.isNew at h
 rw [hi] at h
 simp only [aS] at h
 obtain⟨_,h2⟩:=h
 cases op <;> first | rfl | (cases dst <;> cases h2)

def aCg (md:Nat→Mode)(dr:List Nat)(l:List DOp)(ks:List Nat)(x y:DOp):Prop :=
 (x.isP=true→x.isB=false→y.isXc md=true→x.near l dr=true→∀ s∈x.reads,∀ q,qE l x s=some q→q∈ks) ∧
 (y.isP=true→y.isB=false→x.isXc md=true→y.near l dr=true→∀ s∈y.reads,∀ q,qE l y s=some q→q∈ks)

theorem aFj {l:List DOp}{S:List Nat}{x y:DOp}(hok:rU cx.mode cx.dry l x y=true){e:Env} {σ:St}(hks : ∀ s∈ks,∀ d∈l,d.ins.dst≠some s)(hkeep:aCg cx.mode cx.dry l ks x y)(hxl:x∈l)(hyl:y∈l)(hi:Inv l n0 S e)(hx : ∀ a∈x.after,a∈S)(hy : ∀ a∈y.after,a∈S)(hdx:Dry cx x e)(hdy:Dry cx y e){Q:Env→St→Prop}(hq:Ext Q)
  (h:Adm0 K cx n0 ks x e σ fun v s=>Adm0 K cx n0 ks y (eK e x.ins.dst v) s fun u s'=>Q (eK (eK e x.ins.dst v) y.ins.dst u) s') :
  Adm0 K cx n0 ks y e σ fun u s=>Adm0 K cx n0 ks x (eK e y.ins.dst u) s fun v s'=>Q (eK (eK e y.ins.dst u) x.ins.dst v) s':=by
 unfold rU at hok
 rw [aS] at hok
 obtain⟨hap,hk⟩:=hok
 have ha:=aAL hap
 have sx : ∀ (u:V) (σ:St),Same x.reads e σ (eK e y.ins.dst u) σ:=fun u σ=>uU ha.dr
 have sy : ∀ (v:V) (σ:St),Same y.reads e σ (eK e x.ins.dst v) σ:=fun v σ=>uU ha.rd
 have lx : ∀ (u:V),∀ s∈x.reads,e.get s=(eK e y.ins.dst u).get s:=fun u s hs=>(sx u σ s hs).1
 have ly : ∀ (v:V),∀ s∈y.reads,e.get s=(eK e x.ins.dst v).get s:=fun v s hs=>(sy v σ s hs).1
 simp only [Bool.or_eq_true,aS] at hk
 have kx : ∀ (u:V),∀ s∈ks,e.get s=(eK e y.ins.dst u).get s:=fun u s hs=>(iR (hks s hs y hyl) u).symm
 have ky : ∀ (v:V),∀ s∈ks,e.get s=(eK e x.ins.dst v).get s:=fun v s hs=>(iR (hks s hs x hxl) v).symm
 by_cases xb:x.isB=true
 ·-- the first doesn't look at the store
  have xN:=wU (md:=cx.mode) (aJg xb)
  simp only [oA xN] at h ⊢
  obtain⟨v,hv⟩:=AdmN.blind xb h
  have h1:=(hv e σ (fun _ _=>rfl) _).1 h
  refine(h1.slots (fun s hs=>(ly v s hs).symm) (fun s hs=>(ky v s hs).symm)).mono fun u s' hu=>?_
  exact(hv _ s' (lx u) _).2 (ha.swap hq hu)
 by_cases yb:y.isB=true
 ·-- the second doesn't look at the store
  have yN:=wU (md:=cx.mode) (aJg yb)
  simp only [oA yN] at h ⊢
  obtain⟨v1,s1,h1⟩:=h.some
  obtain⟨u,hu⟩:=AdmN.blind yb h1
  have hu' : ∀ (v:V) (s:St) (R':V→Prop),AdmN K cx n0 y (eK e x.ins.dst v) s R'↔R' u:=fun v s R' =>
   hu _ s (fun t ht=>(ly v1 t ht).symm.trans (ly v t ht)) R'
  refine(hu e σ (fun t ht=>(ly v1 t ht).symm) _).2 ?_
  refine(h.slots (lx u) (kx u)).mono fun v s' hv=>?_
  exact ha.swap hq ((hu' v s' _).1 hv)
 simp only [Bool.not_eq_true] at xb yb
 simp only [xb,yb,aP,false_or] at hk
 rcases hk with(((((((⟨xp,yk⟩ | ⟨xc,yp⟩) | ⟨⟨xe,yk⟩,ye⟩) | ⟨⟨xk,xe⟩,ye⟩) | ⟨⟨xn,yn⟩,hal⟩) | ⟨⟨xp,xe⟩,yx⟩) | ⟨⟨xx,yp⟩,ye⟩) | ⟨xk,yn⟩)
 ·-- both leave the store alone; the first has one outcome
  simp only [oA (wU xp),oA yk] at h ⊢
  obtain⟨v,hv⟩:=AdmN.single xp h
  have h1:=((hv _).1 h).same (sy v σ).symm (Agr.refl _ _)
  refine h1.mono fun u hu=>?_
  refine AdmN.same (sx u σ) (Agr.refl _ _) ((hv _).2 ?_)
  exact ha.swap hq hu
 ·simp only [oA xc,oA (wU yp)] at h ⊢
  obtain⟨v1,h1⟩:=h.some
  obtain⟨u,hu⟩:=AdmN.single yp (h1.same (sy v1 σ).symm (Agr.refl _ _))
  refine(hu _).2 (AdmN.same (sx u σ) (Agr.refl _ _) (h.mono fun v hv=>?_))
  exact ha.swap hq ((hu _).1 (hv.same (sy v σ).symm (Agr.refl _ _)))
 ·-- the first turns the store, the second looks at what was there before
  rw [mW xe] at h
  rw [oA yk]
  obtain⟨hg,dst,op,v,s1,hxi,hv,hkk,h⟩:=h
  rw [oA yk] at h
  have hagr:Agr n0 σ s1:=by
   rcases xe with xn | xs
   ·obtain⟨_,cs,_,_,rfl⟩:=sO xn hxi hv
    exact aBs (by omega)
   ·exact aEW hi xs hx hxi hv
  have h1:=(h.same (sy v s1).symm (Agr.refl _ _)).same (yW hi hy hdy ye hagr.1).symm hagr.symm
  refine h1.mono fun u hu=>?_
  rw [mW xe]
  refine⟨hg,dst,op,v,s1,hxi,?_,fun hs=>(mX (kx u) σ s1).1 (hkk hs),ha.swap hq hu⟩
  rw [← tJ xe hxi (e:=e) (e':=eK e y.ins.dst u) (fun s hs=>(sx u σ s (pY (by rw [hxi]; exact hs))).1) σ,hv]
 ·rw [oA xk] at h
  rw [mW ye]
  obtain⟨v1,h1⟩:=h.some
  rw [mW ye] at h1
  obtain⟨hg,dst,op,u,s1,hyi,hu,hkk,_⟩:=h1
  have hsame : ∀ v:V,dM op (eK e x.ins.dst v) σ (some (n0+y.al))=dM op e σ (some (n0+y.al)):=fun v =>
   (tJ ye hyi (fun s hs=>(sy v σ s (pY (by rw [hyi]; exact hs))).1) σ).symm
  rw [hsame] at hu
  refine⟨hg,dst,op,u,s1,hyi,hu,fun hs=>(mX (ky v1) σ s1).2 (hkk hs),?_⟩
  rw [oA xk]
  have hagr:Agr n0 σ s1:=by
   rcases ye with yn | ys
   ·obtain⟨_,cs,_,_,rfl⟩:=sO yn hyi hu
    exact aBs (by omega)
   ·exact aEW hi ys hy hyi hu
  have sxe:Same x.reads e σ (eK e y.ins.dst u) s1:=fun s hs=>⟨(sx u s1 s hs).1,(yW hi hx hdx xe hagr.1 s hs).2⟩
  refine AdmN.same sxe hagr (h.mono fun v hv=>?_)
  rw [mW ye] at hv
  obtain⟨_,dst',op',u',s1',hyi',hu',_,hv⟩:=hv
  rw [hyi] at hyi'
  cases hyi'
  rw [hsame,hu] at hu'
  cases hu'
  exact ha.swap hq hv
 ·-- two new objects
  have xn':x.isNew=true∨x.isSto l=true:=.inl xn
  have yn':y.isNew=true∨y.isSto l=true:=.inl yn
  rw [mW xn'] at h
  rw [mW yn']
  obtain⟨hgx,dx,ox,v,s1,hxi,hv,_,h⟩:=h
  rw [mW yn'] at h
  obtain⟨hgy,dy,oy,u,s2,hyi,hu,_,h⟩:=h
  have hne:n0+x.al≠n0+y.al:=by
   simp at hal
   omega
  obtain⟨rfl,cx',c1,c2,rfl⟩:=sO xn hxi hv
  obtain⟨rfl,cy,d1,d2,rfl⟩:=sO yn hyi hu
  have ry:nT oy e=some cy:=by
   rw [← d1]
   obtain⟨_,_,oy',hyi',_,hc⟩:=lA yn
   rw [hyi] at hyi'
   cases hyi'
   exact hc _ _ fun s hs=>(sy (.ref (n0+x.al) 0) σ s (pY (by rw [hyi]; exact hs))).1
  have rx:nT ox (eK e y.ins.dst (.ref (n0+y.al) 0))=some cx':=by
   rw [← c1]
   obtain⟨_,_,ox',hxi',_,hc⟩:=lA xn
   rw [hxi] at hxi'
   cases hxi'
   exact hc _ _ fun s hs=>(sx (.ref (n0+y.al) 0) σ s (pY (by rw [hxi]; exact hs))).1.symm
  have fy:σ.objs[n0+y.al]?=some .free:=by
   simp only [St.setObj] at d2
   rw [aF hne] at d2
   exact d2
  refine⟨hgy,dy,oy,.ref (n0+y.al) 0,σ.setObj (n0+y.al) (.cells cy),hyi,?_,(fun h=>by rw [xC yn hyi] at h; cases h),?_⟩
  ·obtain⟨_,_,oy',hyi',hE,_⟩:=lA yn
   rw [hyi] at hyi'
   cases hyi'
   rw [hE,ry]
   simp [newObj,St.place,St.spot,fy]
  ·rw [mW xn']
   refine⟨hgx,dx,ox,.ref (n0+x.al) 0,(σ.setObj (n0+y.al) (.cells cy)).setObj (n0+x.al) (.cells cx'),hxi,?_,(fun h=>by rw [xC xn hxi] at h; cases h),?_⟩
   ·obtain⟨_,_,ox',hxi',hE,_⟩:=lA xn
    rw [hxi] at hxi'
    cases hxi'
    rw [hE,rx]
    have:(σ.setObj (n0+y.al) (.cells cy)).objs[n0+x.al]?=some .free:=by
     simp only [St.setObj]
     rw [aF (Ne.symm hne)]
     exact c2
    simp [newObj,St.place,St.spot,this]
   ·have hsw:(σ.setObj (n0+y.al) (.cells cy)).setObj (n0+x.al) (.cells cx')=(σ.setObj (n0+x.al) (.cells cx')).setObj (n0+y.al) (.cells cy):=by
     simp only [St.setObj]
     rw [List.set_comm _ _ hne]
    rw [hsw]
    exact ha.swap hq h

 ·-- a look at what is kept, and a call
  have yN:=aGR yx
  rw [oA (wU xp)] at h
  obtain⟨v,hv⟩:=AdmN.single xp h
  have h1:=(((hv _).1 h).slots (fun s hs=>(ly v s hs).symm) (fun s hs=>(ky v s hs).symm))
  unfold Adm0 at h1 ⊢
  rw [yN] at h1 ⊢
  refine(AdmX.kept yx h1).mono fun u s' ⟨hkp,hu⟩=>?_
  have:=oA (K:=K) (n0:=n0) (ks:=ks) (wU (md:=cx.mode) xp) (eK e y.ins.dst u) s' (fun v s'=>Q (eK (eK e y.ins.dst u) x.ins.dst v) s')
  unfold Adm0 at this
  rw [this]
  refine AdmN.sameP xp (fun s hs=>⟨lx u s hs,fun r hr=>?_⟩) ((hv _).2 (ha.swap hq hu))
  rcases vM xe hs with⟨hp,hdr⟩ | ⟨q,hq2⟩
  ·rw [hdx hp s hdr hs] at hr; cases hr
  exact(hkp q (hkeep.1 xp xb yx xe s hs q hq2) r ((vR hi hx hq2).2 r hr)).symm
 ·have xN:=aGR xx
  rw [oA (wU yp)]
  have h0:=h
  unfold Adm0 at h0
  rw [xN] at h0
  have h2:=AdmX.kept xx h0
  obtain⟨v1,s1,hk1,h1⟩:=AdmX.some h2
  have back : ∀ (v:V) (s:St),Kept ks e σ s→Same y.reads (eK e x.ins.dst v) s e σ:=fun v s hkp t ht =>
   ⟨(ly v t ht).symm,fun r hr=>by
    rcases vM ye ht with⟨hp,hdr⟩ | ⟨q,hq2⟩
    ·rw [← ly v t ht,hdy hp t hdr ht] at hr; cases hr
    exact hkp q (hkeep.2 yp yb xx ye t ht q hq2) r ((vR hi hy hq2).2 r (by rw [ly v t ht]; exact hr))⟩
  have conv : ∀ (v:V) (s:St) (R:V→St→Prop),(match y.isN cx.mode with | true=>AdmN K cx n0 y (eK e x.ins.dst v) s fun u=>R u s | false=>AdmX K cx n0 ks y (eK e x.ins.dst v) s R)=AdmN K cx n0 y (eK e x.ins.dst v) s fun u=>R u s:=fun v s R=>by rw [wU (md:=cx.mode) yp]
  have h1':AdmN K cx n0 y (eK e x.ins.dst v1) s1 fun u=>Q (eK (eK e x.ins.dst v1) y.ins.dst u) s1:=by rw [← conv v1 s1 (fun u s'=>Q (eK (eK e x.ins.dst v1) y.ins.dst u) s')]; exact h1
  obtain⟨u,hu⟩:=AdmN.single yp (AdmN.sameP yp (back v1 s1 hk1) h1')
  refine(hu _).2 ?_
  unfold Adm0
  rw [xN]
  refine((AdmX.slots (lx u) (kx u) h2)).mono fun v s' ⟨hkp,hv⟩=>?_
  have hv':AdmN K cx n0 y (eK e x.ins.dst v) s' fun u=>Q (eK (eK e x.ins.dst v) y.ins.dst u) s':=by rw [← conv v s' (fun u s''=>Q (eK (eK e x.ins.dst v) y.ins.dst u) s'')]; exact hv
  exact ha.swap hq ((hu _).1 (AdmN.sameP yp (back v s' hkp) hv'))
 ·-- the first looks, the second lays a new object
  have ye:y.isNew=true∨y.isSto l=true:=.inl yn
  rw [oA xk] at h
  rw [mW ye]
  obtain⟨v1,h1⟩:=h.some
  rw [mW ye] at h1
  obtain⟨hg,dst,op,u,s1,hyi,hu,hkk,_⟩:=h1
  have hsame : ∀ v:V,dM op (eK e x.ins.dst v) σ (some (n0+y.al))=dM op e σ (some (n0+y.al)):=fun v =>
   (tJ ye hyi (fun s hs=>(sy v σ s (pY (by rw [hyi]; exact hs))).1) σ).symm
  rw [hsame] at hu
  refine⟨hg,dst,op,u,s1,hyi,hu,fun hs=>(mX (ky v1) σ s1).2 (hkk hs),?_⟩
  rw [oA xk]
  have h2:AdmN K cx n0 x e σ fun v=>Q (eK (eK e y.ins.dst u) x.ins.dst v) s1:=h.mono fun v hv=>by
   rw [mW ye] at hv
   obtain⟨_,dst',op',u',s1',hyi',hu',_,hv⟩:=hv
   rw [hyi] at hyi'
   cases hyi'
   rw [hsame,hu] at hu'
   cases hu'
   exact ha.swap hq hv
  obtain⟨_,cs,_,c2,rfl⟩:=sO yn hyi hu
  exact h2.free (lx u) c2 (by omega)

theorem aGI {l:List DOp}{S:List Nat}{x y:DOp}(hok:rU cx.mode cx.dry l x y=true){e:Env} {σ:St}(hks : ∀ s∈ks,∀ d∈l,d.ins.dst≠some s)(hkeep:aCg cx.mode cx.dry l ks x y)(hxl:x∈l)(hyl:y∈l)(hi:Inv l n0 S e)(hx : ∀ a∈x.after,a∈S)(hy : ∀ a∈y.after,a∈S){Q:Env→St→Prop}(hq:Ext Q)
  (h:Adm K cx n0 ks x e σ fun v s=>Adm K cx n0 ks y (eK e x.ins.dst v) s fun u s'=>Q (eK (eK e x.ins.dst v) y.ins.dst u) s') :
  Adm K cx n0 ks y e σ fun u s=>Adm K cx n0 ks x (eK e y.ins.dst u) s fun v s'=>Q (eK (eK e y.ins.dst u) x.ins.dst v) s':=by
 obtain⟨hdx,h0⟩:=h
 have hap:=hok
 unfold rU at hap
 rw [aS] at hap
 have ha:=aAL hap.1
 obtain⟨v1,s1,h1⟩:=h0.some
 have hdy:Dry cx y e:=h1.1.slots fun s hs=>(uU (σ:=σ) ha.rd s hs).1.symm
 exact⟨hdy,(aFj hok hks hkeep hxl hyl hi hx hy hdx hdy hq (h0.mono fun v s h=>h.2)).mono fun u s h=>⟨hdx.slots fun s hs=>(uU (σ:=σ) ha.dr s hs).1,h⟩⟩

end Go.Dn

/- A region that draws its order, in the order of the text. -/
namespace Go.Dn

variable {K:iI} {cx:Cx} {n0:Nat} {ks:List Nat}

theorem aIF {e e':Env}(h : ∀ s,e.get s=e'.get s)(d:Option Nat)(v:V) : ∀ s,(eK e d v).get s=(eK e' d v).get s:=fun s=>by
 cases d with
 | none=>exact h s
 | some t=>simp only [eK,Env.get_set,h s]

theorem aE4 {Q:Env→St→Prop}(hq:Ext Q) : ∀ (l:List DOp),Ext fun e σ=>wtx K cx n0 ks l e σ Q
 | []=>hq
 | d::r=>fun e e' σ he h=>by
  have ih:=aE4 hq r
  change wtx K cx n0 ks (d::r) e σ Q at h
  show wtx K cx n0 ks (d::r) e' σ Q
  simp only [wtx] at h ⊢
  exact(h.slots (fun s _=>he s) (fun s _=>he s)).mono fun v s hv=>ih _ _ _ (aIF he d.ins.dst v) hv

theorem aDX {d:DOp}(h:d.one=true):d.ins.simple=true:=by
 unfold DOp.one at h
 generalize d.ins=i at *
 cases i <;> first | rfl | cases h

theorem aGr {d:DOp}(hk:d.one=true){e:Env} {σ:St}{Q:Env→St→Prop}{cx':Cx}(h:Adm K cx n0 ks d e σ fun v s=>Q (eK e d.ins.dst v) s):aF8 K cx' n0 d e σ Q:=by
 replace h:=h.2
 rw [aCd]
 have hsim:=aDX hk
 have go:gM d.guard e=some true→dgo K cx' n0 d e σ Q:=fun hg=>by
  unfold Adm0 at h
  split at h
  ·unfold AdmN at h
   rw [hg] at h
   simp only at h
   unfold dgo
   generalize d.ins=i at *
   cases i with
   | p dst op =>
    simp only [nGo] at h
    simp only
    split at h
    ·rename_i v hv; first | (rw [hv]; exact h) | exact h
    ·exact h.elim
   | call dst f args =>
    simp only [nGo] at h
    simp only [jG]
    refine .inl ⟨cx.mode f,?_⟩
    cases hm:cx.mode f with
    | raw=>simp only [hm] at h
    | rnd=>simp only [hm] at h
    | val =>
     simp only [hm] at h
     simp only [wJ]
     split at h
     ·rename_i ds hds
      rw [hds]
      obtain⟨Q',a,b,c⟩:=h
      exact⟨Q',a,c⟩
     ·exact h.elim
    | rd =>
     simp only [hm] at h
     obtain⟨Q',a,b,c⟩:=h σ (Agr.refl _ _)
     exact⟨Q',a,c⟩
   | _=>exact h.elim
  ·unfold AdmX at h
   rw [hg] at h
   simp only at h
   unfold dgo
   generalize d.ins=i at *
   cases i with
   | e dst op =>
    simp only [xGo] at h
    refine h.imp (fun h=>?_) (fun h=>?_)
    ·split
     ·rename_i v s hv; rw [hv] at h; exact h.2
     ·rename_i hv; rw [hv] at h; exact h
    ·split
     ·rename_i v s hv; rw [hv] at h; exact h.2
     ·rename_i hv; rw [hv] at h; exact h
   | call dst f args=>simp only [jG]; exact xCall.callK h _
   | callv dst f args =>
    simp only [xGo] at h
    simp only [jG]
    split
    ·rename_i g first caps hf; rw [hf] at h; exact xCall.callK h _
    ·rename_i r hf; rw [hf] at h; exact h.elim
    ·rename_i hn hn2
     split at h
     ·rename_i g first caps hf; exact(hn _ _ _ hf).elim
     ·exact h
   | _=>exact h.elim
 have no:gM d.guard e=some false→Q (dG d.ins e) σ:=fun hg=>by
  rw [iZ hsim]
  unfold Adm0 at h
  split at h
  ·unfold AdmN at h; rw [hg] at h; exact h
  ·unfold AdmX at h; rw [hg] at h; exact h
 have nn:gM d.guard e≠none:=fun hg=>by
  unfold Adm0 at h
  split at h
  ·unfold AdmN at h; rw [hg] at h; exact h
  ·unfold AdmX at h; rw [hg] at h; exact h
 unfold gdo
 split
 ·rename_i hg; exact go (by rw [hg]; rfl)
 ·rename_i s want hg
  rw [hg] at go no nn
  simp only [gM] at go no nn
  split
  ·rename_i b hb
   rw [hb] at go no
   simp only at go no
   split
   ·rename_i hbw; exact go (by simp [hbw])
   ·rename_i hbw; exact no (by simp [hbw])
  ·rename_i hb
   rw [hb] at no
   exact no rfl
  ·rename_i h1 h2
   exfalso
   apply nn
   split
   ·rename_i b hb; exact(h1 _ hb).elim
   ·rename_i hb; exact(h2 hb).elim
   ·rfl

def sel (l:List DOp)(is:List Nat):List DOp:=is.filterMap fun i=>l[i]?
def lG (n:Nat)(S:List Nat):List Nat:=(List.range n).filter fun i=>!S.contains i

def aHL (l:List DOp)(S:List Nat):Prop:=∀ j∈S,∀ y,l[j]?=some y→∀ a∈y.after,a∈S

theorem wK {l:List DOp}{S:List Nat}(hS:aHL l S) : ∀ (r:List DOp) (acc:List (List Nat)),(∀ k,r[k]?=l[acc.length+k]?)→(∀ (j:Nat) (y:DOp),j<acc.length→l[j]?=some y→(∀ a∈y.after,a∈S)→∀ i∈acc.getD j [],i∈S) →
  ∀ (j:Nat) (y:DOp),l[j]?=some y→(∀ a∈y.after,a∈S)→∀ i∈(nX r acc).getD j [],i∈S
 | [],acc,hr,hacc,j,y,hj,ha=>by
  have hlt:j<acc.length:=by
   rcases bR j acc.length with h | h
   ·exact h
   ·have:=hr (j-acc.length)
    rw [show acc.length+(j-acc.length)=j by omega,hj] at this
    simp at this
  exact hacc j y hlt hj ha
 | d::r,acc,hr,hacc,j,y,hj,ha=>by
  simp only [nX]
  refine wK hS r _ (fun k=>?_) (fun j' y' hj' hy' ha'=>?_) j y hj ha
  ·have:=hr (k+1)
   simp only [List.getElem?_cons_succ] at this
   rw [this]
   congr 1
   simp
   omega
  ·simp at hj'
   rcases bR j' acc.length with h | h
   ·intro i hi
    rw [bA,aC h,← bA] at hi
    exact hacc j' y' h hy' ha' i hi
   ·have hje:j'=acc.length:=by omega
    subst hje
    have hd:l[acc.length]?=some d:=by
     have:=hr 0
     simpa using this.symm
    rw [hy'] at hd
    cases hd
    intro i hi
    rw [bA,bH (bB _)] at hi
    simp only [Nat.sub_self,List.getElem?_cons_zero,Option.getD_some] at hi
    rw [List.mem_eraseDups,aW,List.mem_flatMap] at hi
    rcases hi with hi | ⟨a,h1,h2⟩
    ·exact ha' i hi
    ·have haS:=ha' a h1
     rcases bR a acc.length with h3 | h3
     ·cases hla:l[a]? with
      | none =>
       rw [List.getElem?_eq_none_iff] at hla
       have:acc.length<l.length:=(aB.1 hy').1
       omega
      | some ya=>exact hacc a ya h3 hla (hS a haS ya hla) i h2
     ·rw [bA,aR h3] at h2
      simp at h2

structure Chk (md:Nat→Mode)(dr:List Nat)(l:List DOp):Prop where
 kind : ∀ (j:Nat) (y:DOp),l[j]?=some y→y.one=true
 back : ∀ (j:Nat) (y:DOp),l[j]?=some y→∀ a∈y.after,a<j
 pair : ∀ (i j:Nat) (x y:DOp),i<j→l[i]?=some x→l[j]?=some y→i∈(nX l []).getD j []∨rU md dr l x y=true
 news : ∀ (i j:Nat) (x y:DOp),i<j→l[i]?=some x→l[j]?=some y→x.isNF l=true∨y.isNF l=true→x.ins.dst≠y.ins.dst

theorem aJ3 {md:Nat→Mode}{dr:List Nat}{l:List DOp}(h:wP md dr l=true):Chk md dr l:=by
 unfold wP aEJ at h
 rw [List.all_eq_true] at h
 have get : ∀ (j:Nat) (y:DOp),l[j]?=some y→(y.one&&y.after.all (· < j) &&
   (List.range j).all fun i=>match l[i]? with
    | some x=>(((nX l []).getD j []).contains i||rU md dr l x y)&&(!(x.isNF l||y.isNF l)||x.ins.dst != y.ins.dst)
    | none=>false)=true:=fun j y hy=>by
  have:=h j (List.mem_range.2 (aB.1 hy).1)
  rw [hy] at this
  exact this
 refine⟨fun j y hy=>?_,fun j y hy a ha=>?_,fun i j x y hij hx hy=>?_,fun i j x y hij hx hy hn=>?_⟩
 ·have:=get j y hy
  simp only [aS,Bool.or_eq_true] at this
  exact this.1.1
 ·have:=get j y hy
  simp only [aS,List.all_eq_true] at this
  simpa using this.1.2 a ha
 ·have:=get j y hy
  rw [aS,List.all_eq_true] at this
  have:=this.2 i (List.mem_range.2 hij)
  rw [hx] at this
  simp only [aS,Bool.or_eq_true] at this
  rcases this.1 with h1 | h1
  ·exact .inl (by simpa using h1)
  ·exact .inr h1
 ·have:=get j y hy
  rw [aS,List.all_eq_true] at this
  have:=this.2 i (List.mem_range.2 hij)
  rw [hx] at this
  simp only [aS] at this
  have h2:=this.2
  rcases hn with hn | hn <;> simpa [hn] using h2

theorem tN {n i:Nat}{S pre post:List Nat}(h:lG n S=pre++i::post):lG n (i::S)=pre++post:=by
 have e:lG n (i::S)=(lG n S).filter (fun k=>k != i):=by
  unfold lG
  rw [List.filter_filter]
  apply List.filter_congr
  intro k _
  simp only [List.contains_cons,Bool.not_or]
  rfl
 have hnd:(lG n S).Nodup:=List.nodup_range.filter _
 rw [e,h]
 rw [h] at hnd
 rw [List.nodup_append] at hnd
 obtain⟨h1,h2,h3⟩:=hnd
 rw [List.nodup_cons] at h2
 rw [List.filter_append,List.filter_cons]
 simp only [bne_self_eq_false,aP,if_false]
 rw [List.filter_eq_self.2 (fun a ha=>by simpa using h3 a ha i (by simp)),List.filter_eq_self.2 (fun a ha=>by simp; rintro rfl; exact h2.1 ha)]

theorem aAf {n i:Nat}{S pre post:List Nat}(h:lG n S=pre++i::post):(∀ a∈pre,a<i)∧(∀ k,k<i→k∉pre→k∈S)∧i<n∧i∉S:=by
 have hs:(lG n S).Pairwise (· < ·):=List.pairwise_lt_range.filter _
 have hmem : ∀ k,k∈lG n S↔k<n∧k∉S:=fun k=>by simp [lG]
 rw [h] at hs
 rw [List.pairwise_append] at hs
 obtain⟨h1,h2,h3⟩:=hs
 rw [List.pairwise_cons] at h2
 have hi:=(hmem i).1 (by rw [h]; simp)
 refine⟨fun a ha=>h3 a ha i (by simp),fun k hk hp=>?_,hi.1,hi.2⟩
 apply Classical.byContradiction
 intro hS
 have:=(hmem k).2 ⟨by omega,hS⟩
 rw [h] at this
 rcases aW.1 this with h4 | h4
 ·exact hp h4
 ·rcases bU.1 h4 with h5 | h5
  ·omega
  ·have:=h2.1 k h5; omega

theorem aGq (l:List DOp){d:DOp}{e:Env} {σ:St}{R:V→St→Prop}(h:Adm0 K cx n0 ks d e σ R):Adm0 K cx n0 ks d e σ fun v s=>R v s∧(d.isNew=true→v = .ref (n0+d.al) 0)∧(∀ s q,d.faOf l=some (s,q)→∀ r∈jP v,r∈jP (e.get q)):=by
 cases hn:d.isNew with
 | false =>
  cases hf:d.faOf l with
  | none=>exact h.mono fun v s hv=>⟨hv,(fun h=>by cases h),(fun s q h=>by cases h)⟩
  | some p =>
   obtain⟨s,q⟩:=p
   obtain⟨hg,⟨k,hi⟩,_⟩:=uA hf
   have hN:d.isN cx.mode=true:=by simp [DOp.isN,hi]
   rw [oA hN] at h ⊢
   unfold AdmN at h ⊢
   rw [hg,hi] at h ⊢
   simp only [gM,nGo] at h ⊢
   split
   ·rename_i v hv
    rw [hv] at h
    refine⟨h,(fun h=>by cases h),fun s' q' h' r hr=>?_⟩
    cases h'
    simp only [dC,Opd.ev] at hv
    unfold cH at hv
    split at hv
    ·rename_i r0 o0 hq
     cases hv
     rw [hq]
     exact hr
    ·rename_i cs hq
     split at hv
     ·cases hv; simp [jP] at hr
     ·cases hv
    ·cases hv
   ·rename_i hv; rw [hv] at h; exact h
 | true =>
  have hfa:d.faOf l=none:=by
   obtain⟨_,s,op,hi,_⟩:=lA hn
   simp [DOp.faOf,hi]
  have hE:d.isNew=true∨d.isSto []=true:=.inl hn
  rw [mW hE] at *
  obtain⟨hg,dst,op,v,s,h1,h2,h3,h4⟩:=h
  exact⟨hg,dst,op,v,s,h1,h2,h3,h4,fun _=>(sO hn h1 h2).1,fun s q h=>by rw [hfa] at h; cases h⟩

theorem aEo (l:List DOp){d:DOp}{e:Env} {σ:St}{R:V→St→Prop}(h:Adm K cx n0 ks d e σ R):Adm K cx n0 ks d e σ fun v s=>R v s∧(d.isNew=true→v = .ref (n0+d.al) 0)∧(∀ s q,d.faOf l=some (s,q)→∀ r∈jP v,r∈jP (e.get q)):=⟨h.1,aGq l h.2⟩

theorem aCM {md:Nat→Mode}{dr:List Nat}{l:List DOp}(hc:Chk md dr l){S:List Nat}{e:Env}(hi:Inv l n0 S e){i:Nat}{x:DOp}(hx:l[i]?=some x)(hS:i∉S){v:V}(hv:(x.isNew=true→v = .ref (n0+x.al) 0)∧(∀ s q,x.faOf l=some (s,q)→∀ r∈jP v,r∈jP (e.get q))):Inv l n0 (i::S) (eK e x.ins.dst v):=by
 refine⟨fun s hs r hr=>?_,fun m hm d hd hn s hs=>?_,fun m hm d hd s q hf=>?_⟩
 ·rw [iR (hs x (aL hx))] at hr
  exact hi.low s hs r hr
 ·rcases bU.1 hm with rfl | hm
  ·rw [hx] at hd
   cases hd
   rw [hv.1 hn]
   rw [hs]
   simp [eK,Env.get_set]
  ·have hne:m≠i:=fun e=>hS (e▸hm)
   have hdst:x.ins.dst≠some s:=by
    rcases bR m i with h | h
    ·have:=hc.news m i d x h hd hx (.inl (by simp [DOp.isNF,hn]))
     rw [hs] at this
     exact fun e=>this e.symm
    ·have:=hc.news i m x d (by omega) hx hd (.inr (by simp [DOp.isNF,hn]))
     rw [hs] at this
     exact this
   rw [iR hdst]
   exact hi.new m hm d hd hn s hs
 ·obtain⟨hg,⟨k,hdi⟩,hq⟩:=uA hf
  rw [iR (hq x (aL hx))]
  have hs:d.ins.dst=some s:=by rw [hdi]; rfl
  rcases bU.1 hm with rfl | hm
  ·rw [hx] at hd
   cases hd
   rw [hs]
   simp only [eK,Env.get_set,if_true]
   exact hv.2 s q hf
  ·have hne:m≠i:=fun e=>hS (e▸hm)
   have hnf:d.isNF l=true:=by simp [DOp.isNF,hf]
   have hdst:x.ins.dst≠some s:=by
    rcases bR m i with h | h
    ·have:=hc.news m i d x h hd hx (.inl hnf)
     rw [hs] at this
     exact fun e=>this e.symm
    ·have:=hc.news i m x d (by omega) hx hd (.inr hnf)
     rw [hs] at this
     exact this
   rw [iR hdst]
   exact hi.fa m hm d hd s q hf

theorem aGy {l:List DOp}(hc:Chk cx.mode cx.dry l)(hks : ∀ s∈ks,∀ d∈l,d.ins.dst≠some s)(hkeep : ∀ (i j:Nat)(x y:DOp),i<j→l[i]?=some x→l[j]?=some y→i∉(nX l []).getD j []→aCg cx.mode cx.dry l ks x y){Q:Env→St→Prop}(hq:Ext Q){j:Nat}{y:DOp}(hy:l[j]?=some y)(post:List Nat) : ∀ (pre S:List Nat),lG l.length S=pre++j::post→aHL l S→(∀ a∈y.after,a∈S)→∀ (e:Env) (σ:St),Inv l n0 S e →
  wtx K cx n0 ks (sel l (pre++j::post)) e σ Q→Adm K cx n0 ks y e σ fun u s=>wtx K cx n0 ks (sel l (pre++post)) (eK e y.ins.dst u) s Q
 | [],S,hrem,hdown,haf,e,σ,hi,h=>by
  simp only [aH,sel,List.filterMap_cons,hy,wtx] at h
  exact h
 | i::pre,S,hrem,hdown,haf,e,σ,hi,h=>by
  have hl:=aAf (pre:=[]) (i:=i) (post:=pre++j::post) (by simpa using hrem)
  have hlj:=aAf hrem
  obtain⟨x,hx⟩ : ∃ x,l[i]?=some x:=⟨l[i]'hl.2.2.1,by simp [hl.2.2.1]⟩
  have hij:i<j:=hlj.1 i (by simp)
  have hafx : ∀ a∈x.after,a∈S:=fun a ha=>hl.2.1 a (hc.back i x hx a ha) (by simp)
  have hrem':lG l.length (i::S)=pre++j::post:=by
   have:=tN (pre:=[]) (i:=i) (post:=pre++j::post) (by simpa using hrem)
   simpa using this
  have hdown':aHL l (i::S):=fun k hk z hz a ha=>by
   rcases bU.1 hk with rfl | hk
   ·rw [hx] at hz; cases hz; exact List.mem_cons_of_mem _ (hafx a ha)
   ·exact List.mem_cons_of_mem _ (hdown k hk z hz a ha)
  simp only [aE,sel,List.filterMap_cons,hx,wtx] at h ⊢
  have h1:=(aEo l h).mono fun v s hv=>aGy hc hks hkeep hq hy post pre (i::S) hrem' hdown' (fun a ha=>List.mem_cons_of_mem _ (haf a ha)) _ _ (aCM hc hi hx hl.2.2.2 hv.2) hv.1
  have hnT:i∉(nX l []).getD j []:=fun hT=>hl.2.2.2 (wK hdown l [] (fun k=>by simp) (fun j y hj=>by simp at hj) j y hy haf i hT)
  have hok:rU cx.mode cx.dry l x y=true:=(hc.pair i j x y hij hx hy).resolve_left hnT
  exact aGI hok hks (hkeep i j x y hij hx hy hnT) (aL hx) (aL hy) hi hafx haf (aE4 hq _) h1

theorem aDk {cx':Cx}{l:List DOp}(hc:Chk cx.mode cx.dry l)(hks : ∀ s∈ks,∀ d∈l,d.ins.dst≠some s)(hkeep : ∀ (i j:Nat)(x y:DOp),i<j→l[i]?=some x→l[j]?=some y→i∉(nX l []).getD j []→aCg cx.mode cx.dry l ks x y){Q:Env→St→Prop}(hq:Ext Q) : ∀ (fuel:Nat) (S:List Nat),(lG l.length S).length=fuel→aHL l S→∀ (e:Env) (σ:St),Inv l n0 S e→wtx K cx n0 ks (sel l (lG l.length S)) e σ Q→aEe K cx' n0 l fuel S e σ Q
 | 0,S,hf,hdown,e,σ,hi,h=>by
  have hr:lG l.length S=[]:=bP hf
  rw [hr] at h
  refine⟨?_,h⟩
  unfold qW
  rw [List.filter_eq_nil_iff]
  intro k hk hb
  have:k∈lG l.length S:=by
   simp only [aS] at hb
   exact aY.2 ⟨hk,hb.1⟩
  rw [hr] at this
  cases this
 | fuel+1,S,hf,hdown,e,σ,hi,h=>by
  refine⟨fun hr=>?_,fun i hir=>?_⟩
  ·exfalso
   cases hrem:lG l.length S with
   | nil=>rw [hrem] at hf; simp at hf
   | cons i r =>
    have hl:=aAf (pre:=[]) (i:=i) (post:=r) (by simpa using hrem)
    obtain⟨x,hx⟩ : ∃ x,l[i]?=some x:=⟨l[i]'hl.2.2.1,by simp [hl.2.2.1]⟩
    have:i∈qW l S:=by
     unfold qW
     refine aY.2 ⟨List.mem_range.2 hl.2.2.1,?_⟩
     rw [hx]
     simp only [Option.map_some,Option.getD_some,aS,List.all_eq_true]
     exact⟨by simpa using hl.2.2.2,fun a ha=>by simpa using hl.2.1 a (hc.back i x hx a ha) (by simp)⟩
    rw [hr] at this
    cases this
  ·unfold qW at hir
   obtain⟨h1,h2⟩:=aY.1 hir
   have hlt:=List.mem_range.1 h1
   have hx:l[i]?=some l[i]:=by simp [hlt]
   rw [hx] at h2
   simp only [Option.map_some,Option.getD_some,aS,List.all_eq_true] at h2
   obtain⟨h3,h4⟩:=h2
   have haf : ∀ a∈l[i].after,a∈S:=fun a ha=>by simpa using h4 a ha
   have hnS:i∉S:=by simpa using h3
   have hmem:i∈lG l.length S:=aY.2 ⟨h1,h3⟩
   obtain⟨pre,post,hrem⟩:=List.append_of_mem hmem
   refine⟨l[i],hx,aGr (cx:=cx) (ks:=ks) (hc.kind i _ hx) ?_⟩
   rw [hrem] at h
   refine(aEo l (aGy hc hks hkeep hq hx post pre S hrem hdown haf e σ hi h)).mono fun v s hv=>?_
   refine aDk hc hks hkeep hq fuel (i::S) ?_ ?_ _ _ (aCM hc hi hx hnS hv.2) ?_
   ·rw [tN hrem]
    rw [hrem] at hf
    simp at hf ⊢
    omega
   ·intro k hk z hz a ha
    rcases bU.1 hk with rfl | hk
    ·rw [hx] at hz; cases hz; exact List.mem_cons_of_mem _ (haf a ha)
    ·exact List.mem_cons_of_mem _ (hdown k hk z hz a ha)
   ·rw [tN hrem]
    exact hv.1

theorem aBj (p:List DOp) : ∀ (l:List DOp),(List.range' p.length l.length).filterMap (fun i=>(p++l)[i]?)=l
 | []=>rfl
 | x::r=>by
  rw [List.length_cons,List.range'_succ,List.filterMap_cons]
  have h1:(p++x::r)[p.length]?=some x:=by simp
  rw [h1]
  have:=aBj (p++[x]) r
  simp only [aX,List.length_cons,List.length_nil,bV,aE,aH] at this
  simp only [this]

theorem aI1 (l:List DOp):sel l (lG l.length [])=l:=by
 have:lG l.length []=List.range l.length:=by
  unfold lG
  exact List.filter_eq_self.2 (fun a _=>by simp)
 rw [this,List.range_eq_range']
 exact aBj [] l

def aEF (md:Nat→Mode)(dr:List Nat)(l:List DOp):List Nat :=
 ((List.range l.length).flatMap fun j=>(List.range j).flatMap fun i=>if ((nX l []).getD j []).contains i then [] else
  match l[i]?,l[j]? with
  | some x,some y=>(if x.isP && !x.isB&&y.isXc md&&x.near l dr then x.reads.filterMap (qE l x) else [])++(if y.isP && !y.isB&&x.isXc md&&y.near l dr then y.reads.filterMap (qE l y) else [])
  | _,_=>[]).eraseDups

theorem aBW {l:List DOp}{x:DOp}{s0 s:Nat}(hs0:qE l x s0=some s) : ∀ d∈l,d.ins.dst≠some s:=fun d hd=>by
 unfold qE at hs0
 split at hs0
 ·rename_i h1
  cases hs0
  exact aDw h1 d hd
 ·obtain⟨m,hm,h1⟩:=List.exists_of_findSome?_eq_some hs0
  split at h1
  ·split at h1
   ·rename_i hf
    split at h1
    ·cases h1; exact(uA hf).2.2 d hd
    ·cases h1
   ·cases h1
  ·cases h1

theorem keepX_mem {md:Nat→Mode}{dr:List Nat}{l:List DOp}{s:Nat}:s∈aEF md dr l↔∃ i j x y,i<j∧l[i]?=some x∧l[j]?=some y∧i∉(nX l []).getD j [] ∧
  ((x.isP=true∧x.isB=false∧y.isXc md=true∧x.near l dr=true∧∃ s0∈x.reads,qE l x s0=some s)∨(y.isP=true∧y.isB=false∧x.isXc md=true∧y.near l dr=true∧∃ s0∈y.reads,qE l y s0=some s)):=by
 unfold aEF
 rw [List.mem_eraseDups,List.mem_flatMap]
 constructor
 ·rintro ⟨j,hj,h⟩
  obtain⟨i,hi,h⟩:=List.mem_flatMap.1 h
  rw [List.mem_range] at hi hj
  split at h
  ·cases h
  ·rename_i hT
   split at h
   ·rename_i x y hx hy
    refine⟨i,j,x,y,hi,hx,hy,by simpa using hT,?_⟩
    rcases aW.1 h with h | h
    ·split at h
     ·rename_i hc
      simp only [aS,Bool.not_eq_true'] at hc
      obtain⟨s0,h1,h2⟩:=List.mem_filterMap.1 h
      exact .inl ⟨hc.1.1.1,hc.1.1.2,hc.1.2,hc.2,s0,h1,h2⟩
     ·cases h
    ·split at h
     ·rename_i hc
      simp only [aS,Bool.not_eq_true'] at hc
      obtain⟨s0,h1,h2⟩:=List.mem_filterMap.1 h
      exact .inr ⟨hc.1.1.1,hc.1.1.2,hc.1.2,hc.2,s0,h1,h2⟩
     ·cases h
   ·cases h
 ·rintro ⟨i,j,x,y,hij,hx,hy,hT,h⟩
  refine⟨j,List.mem_range.2 (aB.1 hy).1,List.mem_flatMap.2 ⟨i,List.mem_range.2 hij,?_⟩⟩
  rw [if_neg (by simpa using hT),hx,hy]
  simp only
  rcases h with⟨h1,h2,h3,h4,s0,h5,h6⟩ | ⟨h1,h2,h3,h4,s0,h5,h6⟩
  ·exact List.mem_append_left _ (by rw [if_pos (by simp [h1,h2,h3,h4])]; exact List.mem_filterMap.2 ⟨s0,h5,h6⟩)
  ·exact bX _ (by rw [if_pos (by simp [h1,h2,h3,h4])]; exact List.mem_filterMap.2 ⟨s0,h5,h6⟩)

theorem aJq {cx':Cx}{ks kk:List Nat}{na:Nat}{l:List DOp}(hC:wP cx.mode cx.dry l=true)(hks : ∀ s∈kk,∀ d∈l,d.ins.dst≠some s)
  (hkeep : ∀ (i j:Nat) (x y:DOp),i<j→l[i]?=some x→l[j]?=some y→i∉(nX l []).getD j []→aCg cx.mode cx.dry l kk x y) {e:Env} {σ:St} {Q:gT} (h:wtx K cx σ.objs.length kk l e (σ.room na) fun e' σ'=>Q .normal (e'.pick ks) σ'):gF K cx' (.drw ks na l) e σ Q:=by
 simp only [gF]
 intro hok
 have hc:=aJ3 hC
 have hl:(lG l.length []).length=l.length:=by
  have:lG l.length []=List.range l.length:=by
   unfold lG
   exact List.filter_eq_self.2 (fun a _=>by simp)
  rw [this,List.length_range]
 refine aDk (ks:=kk) hc hks hkeep (fun e e' σ he hq=>?_) l.length [] hl (fun j hj=>by cases hj) e _ ⟨fun s _ r hr=>hok s r hr,(fun m hm=>by cases hm),(fun m hm=>by cases hm)⟩ (by rw [aI1]; exact h)
 have:e.pick ks=e'.pick ks:=by
  unfold Env.pick
  exact List.map_congr_left fun k _=>by rw [he k]
 rw [← this]
 exact hq

theorem aLL {cx':Cx}{ks:List Nat}{na:Nat}{l:List DOp}(hC:wP cx.mode cx.dry l=true){e:Env} {σ:St}{Q:gT}(h:wtx K cx σ.objs.length (aBJ cx.dry l) l e (σ.room na) fun e' σ'=>Q .normal (e'.pick ks) σ'):gF K cx' (.drw ks na l) e σ Q:=by
 refine aJq hC (fun s hs d hd=>?_) (fun i j x y hij hx hy hT=>⟨fun h1 h2 _ h3 s hs q hq=>?_,fun h1 h2 _ h3 s hs q hq=>?_⟩) h
 ·unfold aBJ at hs
  obtain⟨d',hd',hs'⟩:=List.mem_flatMap.1 hs
  obtain⟨s0,_,hs0⟩:=List.mem_filterMap.1 hs'
  exact aBW hs0 d hd
 ·exact List.mem_flatMap.2 ⟨x,aY.2 ⟨aL hx,by simp [h1,h2,h3]⟩,List.mem_filterMap.2 ⟨s,hs,hq⟩⟩
 ·exact List.mem_flatMap.2 ⟨y,aY.2 ⟨aL hy,by simp [h1,h2,h3]⟩,List.mem_filterMap.2 ⟨s,hs,hq⟩⟩

theorem aLy {cx':Cx}{ks:List Nat}{na:Nat}{l:List DOp}(hC:wP cx.mode cx.dry l=true){e:Env} {σ:St}{Q:gT}(h:wtx K cx σ.objs.length (aEF cx.mode cx.dry l) l e (σ.room na) fun e' σ'=>Q .normal (e'.pick ks) σ'):gF K cx' (.drw ks na l) e σ Q:=by
 refine aJq hC (fun s hs d hd=>?_) (fun i j x y hij hx hy hT=>⟨fun h1 h2 h3 h4 s hs q hq=>?_,fun h1 h2 h3 h4 s hs q hq=>?_⟩) h
 ·obtain⟨i,j,x,y,_,_,_,_,h⟩:=keepX_mem.1 hs
  rcases h with⟨_,_,_,_,s0,_,h⟩ | ⟨_,_,_,_,s0,_,h⟩
  ·exact aBW h d hd
  ·exact aBW h d hd
 ·exact keepX_mem.2 ⟨i,j,x,y,hij,hx,hy,hT,.inl ⟨h1,h2,h3,h4,s,hs,hq⟩⟩
 ·exact keepX_mem.2 ⟨i,j,x,y,hij,hx,hy,hT,.inr ⟨h1,h2,h3,h4,s,hs,hq⟩⟩

end Go.Dn

/- Rows: what the arguments are; a law's call. -/
namespace Go.Dn
open Go.Lib Go.RowKit

variable {P:Program} {w:World} {H:Type} {enc:TypeId×Value→H} {base:Nat} {spare:Nat→Bool} {held:Bool}

theorem aFH {cx:Cx}(hm:P.follows .mixedOrders=true) {Γ:Nat→Option FnC}(hΓ : ∀ f fc,Γ f=some fc→Nonempty (aE5 P cx.globs f fc)){f:Nat}{vs:List V}{b:Bool}
  (h:Call Γ cx .val f vs St.empty fun v _=>v = .d (.bool b)) {args:Array Value} (hv:VRs (Gh.bare P fun b q=>∃ v,w.cell? ⟨b,q,none⟩=some v) [] w vs args.toList) (hgl:GlobR cx.globs (Gh.bare P fun b q=>∃ v,w.cell? ⟨b,q,none⟩=some v) [] w) :
  Calls P f args w fun e w'=>e = .returned (.bool b)∧Below w.heap.size w w':=by
 have h1:=(aDF hm hΓ h).2 (Gh.bare P fun b q=>∃ v,w.cell? ⟨b,q,none⟩=some v) w args rfl hgl (Sim.bare fun b q h=>h) hv
 refine(h1 rfl).mono fun e w' h=>?_
 cases e with
 | returned v =>
  obtain⟨f',x,σ',rfl,hc,hx,hev⟩:=h
  cases hx.inv_bool
  exact⟨rfl,hev.os,hev.tape,hev.output,hev.size,fun k hk=>hev.frame k hk mP⟩
 | panicked c=>exact h.elim
 | outgrown=>exact h.elim

theorem yZ : ∀ {a b:List Lf} {x y:List D},fI a x=true→fI b y=true→fI (a++b) (x++y)=true
 | [],_,[],_,_,h=>h
 | k::a,b,d::x,y,h,h'=>by
  simp only [fI,aS,aE] at h ⊢
  exact⟨h.1,yZ h.2 h'⟩
 | [],_,_::_,_,h,_=>by simp [fI] at h
 | _::_,_,[],_,h,_=>by simp [fI] at h

end Go.Dn

/- For those who prove about the small language: calls from bodies, loops from invariants. -/
namespace Go.Dn

def LeK (K K':iI):Prop:=∀ m f vs σ Q,K m f vs σ Q→K' m f vs σ Q

variable {K K':iI} {cx:Cx}

theorem yP (hk:LeK K K'){f:Nat}{vs:List V} {σ:St}{Q Q':jD}(hq : ∀ v s,Q v s→Q' v s)(h:tF K cx f vs σ Q):tF K' cx f vs σ Q':=by
 obtain⟨m,h⟩:=h
 refine⟨m,?_⟩
 cases m with
 | rnd=>exact h.elim
 | raw =>
  obtain⟨q,h1,h2⟩:=h
  exact⟨q,hk _ _ _ _ _ h1,fun v s hv=>hq _ _ (h2 v s hv)⟩
 | rd =>
  obtain⟨q,h1,h2⟩:=h
  exact⟨q,hk _ _ _ _ _ h1,fun v s hv=>hq _ _ (h2 v s hv)⟩
 | val =>
  simp only [wJ] at *
  split
  ·rename_i ds hds
   rw [hds] at h
   obtain⟨q,h1,h2⟩:=h
   exact⟨q,hk _ _ _ _ _ h1,fun v s hv=>⟨(h2 v s hv).1,(h2 v s hv).2.1,hq _ _ (h2 v s hv).2.2⟩⟩
  ·rename_i hds
   rw [hds] at h
   exact h

theorem aAO (hk:LeK K K'){f:Nat}{vs:List V} {σ:St}{Q Q':jD}(hq : ∀ v s,Q v s→Q' v s)(h:callK K cx f vs σ Q):callK K' cx f vs σ Q' :=
 h.imp (yP hk hq) fun⟨vs',σ',ht,h⟩=>⟨vs',σ',ht,yP hk hq h⟩

mutual
theorem aCe (hk:LeK K K') : ∀ (l:List Ins) {e:Env} {σ:St} {Q Q':Env→St→Prop},(∀ e s,Q e s→Q' e s)→iD K cx l e σ Q→iD K' cx l e σ Q'
 | [],e,σ,Q,Q',hq,h=>by simp only [iD] at *; exact hq _ _ h
 | i::r,e,σ,Q,Q',hq,h=>by
  simp only [iD] at *
  exact vA hk i (fun e s=>aCe hk r hq) h
theorem vA (hk:LeK K K') : ∀ (i:Ins) {e:Env} {σ:St} {Q Q':Env→St→Prop},(∀ e s,Q e s→Q' e s)→jG K cx i e σ Q→jG K' cx i e σ Q'
 | .p dst op,e,σ,Q,Q',hq,h=>by
  simp only [jG] at *
  split
  ·rename_i ho
   rw [if_pos ho] at h
   split
   ·rename_i v s hf; rw [hf] at h; exact hq _ _ h
   ·rename_i hf; rw [hf] at h; exact h
  rename_i ho
  rw [if_neg ho] at h
  split
  ·rename_i v hv; rw [hv] at h; exact hq _ _ h
  ·rename_i hv; rw [hv] at h
   simp only at h ⊢
   split
   ·rename_i v s hf; rw [hf] at h; exact hq _ _ h
   ·rename_i hf; rw [hf] at h; exact h
 | .e dst op,e,σ,Q,Q',hq,h=>by
  simp only [jG] at *
  refine h.imp (fun h=>?_) (fun h=>?_)
  ·split
   ·rename_i v hv; rw [hv] at h; exact hq _ _ h
   ·rename_i hv; rw [hv] at h; exact h
  ·split
   ·rename_i v hv; rw [hv] at h; exact hq _ _ h
   ·rename_i hv; rw [hv] at h; exact h
 | .call dst f args,e,σ,Q,Q',hq,h=>by
  simp only [jG] at *
  exact aAO hk (fun v s=>hq _ _) h
 | .callv dst f args,e,σ,Q,Q',hq,h=>by
  simp only [jG] at *
  split
  ·rename_i g first caps hf; rw [hf] at h; exact aAO hk (fun v s=>hq _ _) h
  ·rename_i r hf
   rw [hf] at h
   obtain⟨q,h1,h2⟩:=h
   exact⟨q,hk _ _ _ _ _ h1,fun v s hv=>hq _ _ (h2 v s hv)⟩
  ·rename_i hn hn2
   split at h
   ·rename_i g first caps hf; exact(hn _ _ _ hf).elim
   ·rename_i r hf; exact(hn2 _ hf).elim
   ·exact h
 | .next dst it,e,σ,Q,Q',hq,h=>by
  simp only [jG] at *
  exact zV (fun v s=>hq _ _) h
 | .when s want body,e,σ,Q,Q',hq,h=>by
  simp only [jG] at *
  split
  ·rename_i b hb
   rw [hb] at h
   simp only at h
   split
   ·rename_i hw; rw [if_pos hw] at h; exact aCe hk body hq h
   ·rename_i hw; rw [if_neg hw] at h; exact hq _ _ h
  ·rename_i hb; rw [hb] at h; exact hq _ _ h
  ·rename_i h1 h2
   split at h
   ·rename_i b hb; exact(h1 _ hb).elim
   ·rename_i hb; exact(h2 hb).elim
   ·exact h
end

theorem aJ7 {gd:Option (Nat×Bool)}{i:Ins}{e:Env} {σ:St}{a b:Prop}(hab:a→b){Q Q':Env→St→Prop}(hq : ∀ e s,Q e s→Q' e s)(h:gdo gd i e σ a Q):gdo gd i e σ b Q':=by
 unfold gdo at *
 split
 ·exact hab h
 ·rename_i s want
  simp only at h
  split
  ·rename_i b hb
   rw [hb] at h
   simp only at h
   split
   ·rename_i hw; rw [if_pos hw] at h; exact hab h
   ·rename_i hw; rw [if_neg hw] at h; exact hq _ _ h
  ·rename_i hb; rw [hb] at h; exact hq _ _ h
  ·rename_i h1 h2
   split at h
   ·rename_i b hb; exact(h1 _ hb).elim
   ·rename_i hb; exact(h2 hb).elim
   ·exact h

theorem aI5 (hk:LeK K K'){n0:Nat}{d:DOp}{e:Env} {σ:St}{Q Q':Env→St→Prop}(hq : ∀ e s,Q e s→Q' e s)(h:aF8 K cx n0 d e σ Q):aF8 K' cx n0 d e σ Q':=by
 rw [aCd] at *
 refine aJ7 (fun h=>?_) hq h
 obtain⟨gd,i,af,al⟩:=d
 cases i with
 | e dst op =>
  simp only [dgo] at *
  refine h.imp (fun h=>?_) (fun h=>?_)
  ·split
   ·rename_i v s hv; rw [hv] at h; exact hq _ _ h
   ·rename_i hv; rw [hv] at h; exact h
  ·split
   ·rename_i v s hv; rw [hv] at h; exact hq _ _ h
   ·rename_i hv; rw [hv] at h; exact h
 | p dst op =>
  simp only [dgo] at *
  split
  ·rename_i v hv; rw [hv] at h; exact hq _ _ h
  ·rename_i hv; rw [hv] at h; exact h
 | call dst f args=>exact vA hk _ hq h
 | callv dst f args=>exact vA hk _ hq h
 | next dst it=>exact vA hk _ hq h
 | «when» s want body=>exact vA hk _ hq h

theorem aE1 (hk:LeK K K'){n0:Nat}{l:List DOp}{Q Q':Env→St→Prop}(hq : ∀ e s,Q e s→Q' e s) : ∀ (fuel:Nat) (S:List Nat) (e:Env) (σ:St),aEe K cx n0 l fuel S e σ Q→aEe K' cx n0 l fuel S e σ Q'
 | 0,S,e,σ,h=>⟨h.1,hq _ _ h.2⟩
 | f+1,S,e,σ,h=>⟨fun hr=>hq _ _ (h.1 hr),fun i hi=>by
  obtain⟨o,ho,hw⟩:=h.2 i hi
  exact⟨o,ho,aI5 hk (fun e s=>aE1 hk hq f (i::S) e s) hw⟩⟩

theorem kM (hk:LeK K K') : ∀ (c:C) {e:Env} {σ:St} {Q Q':gT},(∀ ex e s,Q ex e s→Q' ex e s)→gF K cx c e σ Q→gF K' cx c e σ Q'
 | .skip,e,σ,Q,Q',hq,h=>by simp only [gF] at *; exact hq _ _ _ h
 | .ops ks l,e,σ,Q,Q',hq,h=>by simp only [gF] at *; exact aCe hk l (fun e s=>hq _ _ _) h
 | .drw ks na l,e,σ,Q,Q',hq,h=>by simp only [gF] at *; exact fun ho=>aE1 hk (fun e s=>hq _ _ _) _ _ _ _ (h ho)
 | .seq a b,e,σ,Q,Q',hq,h=>by
  simp only [gF] at *
  refine kM hk a (fun ex e s h=>?_) h
  cases ex with
  | normal=>exact kM hk b hq h
  | exit id=>exact hq _ _ _ h
  | ret=>exact hq _ _ _ h
 | .cond c a b,e,σ,Q,Q',hq,h=>by
  simp only [gF] at *
  split
  ·rename_i t ht
   rw [ht] at h
   simp only at h
   split
   ·rename_i hb; rw [if_pos hb] at h; exact kM hk a hq h
   ·rename_i hb; rw [if_neg hb] at h; exact kM hk b hq h
  ·rename_i h1
   split at h
   ·rename_i t ht; exact(h1 _ ht).elim
   ·exact h
 | .block id c,e,σ,Q,Q',hq,h=>by
  simp only [gF] at *
  refine kM hk c (fun ex e s h=>?_) h
  cases ex with
  | normal=>exact hq _ _ _ h
  | exit j =>
   simp only at *
   split
   ·rename_i hj; rw [if_pos hj] at h; exact hq _ _ _ h
   ·rename_i hj; rw [if_neg hj] at h; exact hq _ _ _ h
  | ret=>exact hq _ _ _ h
 | .loop ks c,e,σ,Q,Q',hq,h=>by
  simp only [gF] at *
  intro I hI
  refine h I fun e σ hb=>hI e σ (kM hk c (fun ex e s h=>?_) hb)
  cases ex with
  | normal=>exact h
  | exit id=>exact hq _ _ _ h
  | ret=>exact hq _ _ _ h
 | .exit id,e,σ,Q,Q',hq,h=>by simp only [gF] at *; exact hq _ _ _ h
 | .ret,e,σ,Q,Q',hq,h=>by simp only [gF] at *; exact hq _ _ _ h
 | .rangeF ks f ps a b,e,σ,Q,Q',hq,h=>by
  simp only [gF] at *
  split
  ·rename_i g first caps hf
   rw [hf] at h
   obtain⟨q,h1,h2⟩:=h
   refine⟨q,hk _ _ _ _ _ h1,fun v s hv=>?_⟩
   have h3:=h2 v s hv
   simp only at h3 ⊢
   cases ho:s.objs[σ.objs.length]? with
   | none=>rw [ho] at h3; exact h3.elim
   | some o =>
    rw [ho] at h3
    cases o with
    | loop _ _ _ _ st =>
     cases st with
     | ready=>exact hq _ _ _ h3
     | busy=>exact h3.elim
     | done x=>exact hq _ _ _ h3
    | _=>exact h3.elim
  ·rename_i hn
   split at h
   ·rename_i g first caps hf; exact(hn _ _ _ hf).elim
   ·exact h

theorem aBf (hk:LeK K K'){r:Nat}{vs:List V} {σ:St}{Q Q':jD}(hq : ∀ v s,Q v s→Q' v s)(h:aAg K cx r vs σ Q):aAg K' cx r vs σ Q':=by
 obtain⟨e,ps,a,b,h1,h2,h⟩:=h
 refine⟨e,ps,a,b,h1,h2,kM hk a (fun ex e1 s1 h=>?_) h⟩
 cases ex with
 | exit id=>exact h
 | ret=>exact h
 | normal =>
  refine⟨h.1,kM hk b (fun ex e2 s2 h=>?_) h.2⟩
  refine⟨h.1,?_⟩
  cases ex with
  | normal=>exact hq _ _ h.2
  | exit id=>exact hq _ _ h.2
  | ret=>exact hq _ _ h.2

theorem aCm (hk:LeK K K'){m:Mode}{fc:FnC}{vs:List V} {σ:St}{Q Q':jD}(hq : ∀ v s,Q v s→Q' v s)(h:tP K cx m fc vs σ Q):tP K' cx m fc vs σ Q':=by
 refine⟨h.1,kM hk _ (fun ex e s h=>?_) h.2⟩
 cases ex with
 | exit id=>exact h
 | normal=>obtain⟨v,a,k,b⟩:=h; exact⟨v,a,k,hq _ _ b⟩
 | ret=>obtain⟨v,a,k,b⟩:=h; exact⟨v,a,k,hq _ _ b⟩

theorem aAv {Γ:Nat→Option FnC}(hk:LeK K K'){m:Mode}{f:Nat}{vs:List V} {σ:St}{Q Q':jD}(hq : ∀ v s,Q v s→Q' v s)(h:uW Γ K cx m f vs σ Q):uW Γ K' cx m f vs σ Q':=by
 unfold uW at *
 cases m with
 | rnd=>exact aBf hk hq h
 | _ =>
  obtain⟨fc,h1,h2⟩:=h
  exact⟨fc,h1,aCm hk hq h2⟩

theorem Call.body {Γ:Nat→Option FnC}{m:Mode}{f:Nat}{fc:FnC}(hf:Γ f=some fc){vs:List V} {σ:St}{Q:jD}(h:tP (Call Γ cx) cx m fc vs σ Q)(hm:m ≠ .rnd:=by decide):Call Γ cx m f vs σ Q:=by
 intro K hK
 refine hK m f vs σ Q ?_
 have:=aCm (cx:=cx) (fun m f vs σ Q (h:Call Γ cx m f vs σ Q)=>h K hK) (fun v s h=>h) h
 unfold uW
 cases m with
 | rnd=>exact absurd rfl hm
 | _=>exact⟨fc,hf,this⟩

theorem Call.round {Γ:Nat→Option FnC}{r:Nat}{vs:List V} {σ:St}{Q:jD}(h:aAg (Call Γ cx) cx r vs σ Q):Call Γ cx .rnd r vs σ Q:=by
 intro K hK
 exact hK .rnd r vs σ Q (aBf (cx:=cx) (fun m f vs σ Q (h:Call Γ cx m f vs σ Q)=>h K hK) (fun v s h=>h) h)

theorem Call.mono {Γ:Nat→Option FnC}{m:Mode}{f:Nat}{vs:List V} {σ:St}{Q Q':jD}(hq : ∀ v s,Q v s→Q' v s)(h:Call Γ cx m f vs σ Q):Call Γ cx m f vs σ Q':=by
 intro K hK
 have:=h (fun m f vs σ Q=>∀ Q',(∀ v s,Q v s→Q' v s)→K m f vs σ Q') fun m f vs σ Q hs Q' hq=>hK m f vs σ Q' (aAv (cx:=cx) (fun m f vs σ Q h=>h Q fun _ _ h=>h) hq hs)
 exact this Q' hq

theorem kA {Γ:Nat→Option FnC}{f:Nat}{vs ds:List V} {σ:St}(hds:cN σ vs=some ds){Q':jD}(h:Call Γ cx .val f ds St.empty Q'){Q:jD}(hq : ∀ v s,Q' v s→v.pure=true∧(vs.any V.borrows=true→v.scalars=true)∧Q v σ) :
  callK (Call Γ cx) cx f vs σ Q:=by
 refine .inl ⟨.val,?_⟩
 simp only [wJ]
 rw [hds]
 exact⟨Q',h,hq⟩

theorem gI {Γ:Nat→Option FnC}{f:Nat}{vs ds:List V} {σ:St}(hds:cN σ vs=some ds){r:V}(h:Call Γ cx .val f ds St.empty fun v _=>v=r)(hp:(r.pure&&(!vs.any V.borrows||r.scalars))=true){Q:jD}(hq:Q r σ) :
  callK (Call Γ cx) cx f vs σ Q:=by
 simp only [aS,Bool.or_eq_true,Bool.not_eq_true'] at hp
 exact kA hds h fun v s hv=>by
  subst hv
  exact⟨hp.1,fun hb=>hp.2.resolve_left (by simp [hb]),hq⟩

theorem jW {Γ:Nat→Option FnC}{f:Nat}{vs:List V} {σ:St}{r:V}(h:Call Γ cx .rd f vs σ fun v _=>v=r){Q:jD}(hq:Q r σ):callK (Call Γ cx) cx f vs σ Q :=
 .inl ⟨.rd,_,h,fun v s hv=>by subst hv; exact hq⟩

theorem fF {Γ:Nat→Option FnC}{f:Nat}{vs:List V} {σ:St}{Q':jD}(h:Call Γ cx .raw f vs σ Q'){Q:jD}(hq : ∀ v s,Q' v s→Q v s):callK (Call Γ cx) cx f vs σ Q :=
 .inl ⟨.raw,_,h,hq⟩

theorem aLM {ks:List Nat}{c:C}{e:Env} {σ:St}{Q:gT}(h:gF K cx c (e.pick ks) σ fun ex e' σ'=>match ex with | .normal=>gF K cx (.loop ks c) e' σ' Q | x=>Q x e' σ'):gF K cx (.loop ks c) e σ Q:=by
 simp only [gF] at h ⊢
 intro J hJ
 refine hJ _ _ (kM (fun _ _ _ _ _ h=>h) c (fun ex e s h=>?_) h)
 cases ex with
 | normal=>exact h J hJ
 | exit id=>exact h
 | ret=>exact h

theorem aLz {ks:List Nat}{c:C}{e:Env} {σ:St}{Q:gT}(I:Nat→Env→St→Prop){m:Nat}(h0:I m (e.pick ks) σ)
  (hs : ∀ m e σ,I m e σ→gF K cx c e σ fun ex e' σ'=>match ex with | .normal=>∃ m',m'<m∧I m' (e'.pick ks) σ' | x=>Q x e' σ'):gF K cx (.loop ks c) e σ Q:=by
 simp only [gF]
 intro J hJ
 have key : ∀ m e σ,I m e σ→J e σ:=by
  intro m
  induction m using Nat.strongRecOn with
  | _ m ih =>
   intro e σ hi
   refine hJ e σ (kM (fun _ _ _ _ _ h=>h) c (fun ex e s h=>?_) (hs m e σ hi))
   cases ex with
   | normal=>obtain⟨m',h1,h2⟩:=h; exact ih m' h1 _ _ h2
   | exit id=>exact h
   | ret=>exact h
 exact key m _ _ h0

end Go.Dn
