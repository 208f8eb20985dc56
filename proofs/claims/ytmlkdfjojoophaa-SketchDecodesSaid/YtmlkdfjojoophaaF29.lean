import Derived.Test.YtmlkdfjojoophaaF12
namespace Go.Proofs.Ytmlkdfjojoophaa.T
open Go.Dn
attribute [local simp] body_eq globEnv GB List.map_nil List.map_cons List.append_nil w_rangeF i_next i_makeMap i_range i_update i_delete i_entry i_clone entryV cloneV q_rndA q_rndB_n q_rndB_e q_rndB_r setAll w_skip w_ops w_seq w_cond w_block w_exit w_ret q_then_n q_then_e q_then_r q_blk_n q_blk_e q_blk_r q_ops q_cont q_end_n q_end_r q_end_e q_loop_n q_loop_e q_loop_r i_nil i_p i_alloc i_box i_store i_copy i_clear i_call i_callv i_when t_nil t_p t_call t_alloc t_box t_store kept_nil t_copy t_clear q_tcont gsel List.cons_append List.nil_append evalP evalE evalF evalB isObj thaw Opd.ev Env.get Env.set Env.pick putE initEnv evalBin intBin evalUn evalConv goneAll goneOne retV resAll Res.ev tupOf byVals byValsN bv_d bv_da bv_fl bv_tl bn_d bn_da bn_fl bn_tl cx Dn.newObj St.place St.push St.spot St.empty cell_d cell_da cell_agg cell_ref cell_sl cell_fl cell_tl cell_map cell_fn cell_ifc loadAt faddrV partOf extractV mkAgg ofD splice St.setObj fillV
set_option linter.unusedSimpArgs false

open Gf (dg trim addP pw Pl)
open Go.Sort (PermIn SortedIn)

theorem use_plN {cxr:Cx}{n0:Nat}{ks:List Nat}{e:Env}{f:Nat}(hm:cxr.mode f = .val)(ds:List D) {σ:St}{L:List W32}(h:Dn.Call Γ cx .val f (ds.map V.d) St.empty (isPL L)){Q:Post}(hq : ∀ d,PL d L→Q (.d d) σ):callN (Dn.Call Γ cx) cxr n0 ks e f (ds.map V.d) σ Q :=
 use_valN hm (byVals_d σ ds) h ⟨.d (.list (pR L)),St.empty,_,rfl,.list _⟩ fun v s ⟨d,hv,hd⟩=>by
  subst hv
  exact⟨rfl,fun hb=>(by rw [borrows_d] at hb; cases hb),hq d hd⟩
theorem parted_k0 {x z0 y:D}{b b1:Nat}(hb:b<32)(hb1:b+1=b1){Q0:List W32}(hz:PL z0 Q0)(l0:Q0.length≤1000) :
  wcode (Dn.Call Γ cx) cx c101_k0 [(1,.ref 0 0),(3,.d y),(4,.d z0),(25,B false)] ⟨[.cells [.d x,I b]],[]⟩ (endQ .val St.empty c101.res fun v _=>∃ z,v = .d (.list [[y,.int .i64 b1],[z,.int .i64 b1]])∧PL z (monic Q0)):=by
 have w9:IntKind.i64.wrap ((b:Int)+1)=(b1:Int):=by rw [wrap_i64 (by omega) (by omega)]; omega
 simp only [c101_k0,c101,w_seq]
 refine w_drwX (fun _=>.val) [] (by decide +kernel) ?_
 simp only [room_zero]
 simp -implicitDefEqProofs [w9]
 refine use_plN rfl [z0] (s_Monic hz l0) fun d hd=>?_
 simp only [q_tcont,putE,Env.set]
 simp -implicitDefEqProofs [w9,repl,rowsOf,frzV]
 exact hd
theorem s_parted {x:D}{P:List W32}(hx:PL x P)(h2:2<dg P)(lP:P.length≤100){b b1:Nat}(hb:b<32)(hb1:b+1=b1):Dn.Call Γ cx .val 101 [.da [x,.int .i64 b]] St.empty fun v _=>∃ y z,v = .d (.list [[y,.int .i64 b1],[z,.int .i64 b1]])∧PL y (oneP P b)∧PL z (otherP P b):=by
 refine Dn.Call.body (fc:=c101) rfl ?_
 have dP:=Gf.dg_le P
 have htl:(tracesP P (pw b 1)).length≤dg P-1:=(trIt_len P (pw b 1) 32).2
 obtain⟨p1,p2,p3,p4,p5⟩:=parts_len (p:=P) (by omega) b
 have hsl:shiftBin .shl .u32 1 (b:Int)=some (Xw (pw b 1)):=by
  have:=shl_32 (1#32) b hb
  rw [← Gf.pw_one b hb] at this
  exact this
 simp -implicitDefEqProofs [c101,c101_k4]
 refine w_drwX (fun _=>.val) [] (by decide +kernel) ?_
 simp only [room_zero]
 simp -implicitDefEqProofs [hsl]
 refine use_plN rfl [x,.int .u32 (un (pw b 1))] (s_traces hx lP (pw b 1)) fun t ht=>?_
 simp only [q_tcont,putE,Env.set]
 simp -implicitDefEqProofs
 refine use_plN rfl [x,t] (s_Common hx ht (by omega) (by omega)) fun y hy=>?_
 simp only [q_tcont,putE,Env.set]
 simp -implicitDefEqProofs [c101_k3]
 replace hy:PL y (oneP P b):=hy
 have hq0:dg (oneP P b)≠0:=by rw [p1]; exact p3
 have hql:=divide_quo (A:=P) hq0
 refine use_vd [x,y] (s_Divide hx hy (by omega) (by omega)) fun v s hv=>?_
 rcases hv with⟨h1,-⟩ | ⟨h1,q,r,rfl,hq,hr⟩
 ·exact absurd h1 hq0
 refine⟨rfl,?_⟩
 simp -implicitDefEqProofs [c101_k2,eqV,V.isNil,Opd.isC,c101_k1]
 have:=parted_k0 (x:=x) (y:=y) hb hb1 hq (by omega)
 refine wcode_le (fun _ _ _ _ _ h=>h) _ (fun ex e s h=>?_) this
 have key : ∀ (v:V) (s:St),(∃ z,v=V.d (.list [[y,.int .i64 b1],[z,.int .i64 b1]])∧PL z (monic (divide P (oneP P b)).1))→∃ y z,v=V.d (.list [[y,.int .i64 b1],[z,.int .i64 b1]])∧PL y (oneP P b)∧PL z (otherP P b):=fun v s ⟨z,hv,hz⟩=>⟨y,z,hv,hy,hz⟩
 cases ex with
 | exit id=>exact h
 | normal=>obtain⟨v,a,k,b⟩:=h; exact⟨v,a,k,key v s b⟩
 | ret=>obtain⟨v,a,k,b⟩:=h; exact⟨v,a,k,key v s b⟩

theorem appendM_new {σ s:St}{v:V}{T Z:List W32}(h:New σ s v T)(hne:noSl v T)(hZ:Z≠[])(hb:T.length+Z.length≤100000) :
  ∃ v' s',appendM s none 1 4 v (pR Z)=some (v',s')∧New σ s' v' (T++Z)∧(∀ q,q<s.objs.length→(∀ r off n sz,v = .sl r off n sz→q≠r)→s'.objs[q]?=s.objs[q]?)∧v' = .sl s.objs.length 0 (T.length+Z.length) 1∧s'.objs.length=s.objs.length+1:=by
 have hfit:fitR 1 (pR Z)=true:=fitR_iff.2 (pR_fit Z)
 have hpr:pR Z≠[]:=by simpa [pR] using hZ
 have hpl:=pR_len Z
 have b1:(T.length+Z.length)*4≤140737488355328:=by omega
 have b2:T.length+Z.length≤9223372036854775807:=by omega
 have hsl:=h.fr.len
 have hgo : ∀ objs':List Dn.Obj,objs'.length=s.objs.length→(∀ q,q<σ.objs.length→objs'[q]?=s.objs[q]?)→New σ ⟨objs'++[.cells (wV (T++Z))],s.toks⟩ (.sl s.objs.length 0 (T.length+Z.length) 1) (T++Z):=by
  intro objs' hl hq
  refine⟨?_,⟨by simp; omega,fun q _ hq2=>?_⟩,fun r off n sz e=>by cases e; exact hsl,h.tk⟩
  ·have:T.length+Z.length=(T++Z).length:=by simp
   rw [this]
   refine .sl ?_
   simp only
   rw [List.getElem?_append_right (by omega),hl,Nat.sub_self]
   rfl
  ·simp only
   rw [List.getElem?_append_left (by omega),hq q hq2]
   exact h.fr.at_ q (by simp) hq2
 have hfr1 : ∀ q,q<s.objs.length→(⟨s.objs++[.cells (wV (T++Z))],s.toks⟩:St).objs[q]?=s.objs[q]?:=fun q hq=>by simp only; rw [List.getElem?_append_left hq]
 have hob:=h.ob
 cases hob with
 | nils =>
  refine⟨_,_,?_,hgo s.objs rfl (fun _ _=>rfl),fun q hq _=>hfr1 q hq,rfl,by simp⟩
  simp only [List.length_nil,Nat.zero_add] at b1 b2 ⊢
  have:appendM s none 1 4 (.d .nils) (pR Z)=Dn.newObj s none (.cells ((pR Z).flatten.map V.d)) (fun r=>.sl r 0 (pR Z).length 1):=by
   unfold appendM
   rw [hfit]
   simp only [Bool.true_eq_false,false_or,hpr,if_false]
   rw [if_pos ⟨by omega,by rw [hpl]; exact b1,by rw [hpl]; exact b2⟩]
  rw [this,newObjN,pR_flat,hpl,List.nil_append]
 | fl =>
  refine⟨_,_,?_,hgo s.objs rfl (fun _ _=>rfl),fun q hq _=>hfr1 q hq,rfl,by simp⟩
  simp only [List.length_nil,Nat.zero_add] at b1 b2 ⊢
  have:appendM s none 1 4 (.fl []) (pR Z)=Dn.newObj s none (.cells (([]++pR Z).flatten.map V.d)) (fun r=>.sl r 0 (0+(pR Z).length) 1):=by
   unfold appendM
   rw [hfit]
   simp only [Bool.true_eq_false,false_or,hpr,if_false,List.length_nil,Nat.zero_add]
   rw [if_pos ⟨by omega,rfl,by rw [hpl]; exact b1,by rw [hpl]; exact b2⟩]
  rw [this,newObjN,List.nil_append,pR_flat,hpl,List.nil_append,Nat.zero_add]
 | sl ho =>
  rename_i r
  have hT:T≠[]:=fun e=>hne e _ _ _ _ rfl
  have hTl:0<T.length:=List.length_pos_iff.2 hT
  have hrf:σ.objs.length≤r:=h.nw _ _ _ _ rfl
  refine⟨_,_,?_,hgo (s.objs.set r .dead) (by simp) (fun q hq=>by rw [List.getElem?_set_ne (by omega)]),fun q hq hqr=>?_,rfl,by simp⟩
  ·have:appendM s none 1 4 (.sl r 0 T.length 1) (pR Z)=Dn.newObj (s.setObj r .dead) none (.cells (((wV T).drop 0).take (T.length*1)++(pR Z).flatten.map V.d)) (fun r=>.sl r 0 (T.length+(pR Z).length) 1):=by
    unfold appendM
    rw [hfit]
    simp only [Bool.true_eq_false,false_or,hpr,if_false,ho]
    rw [if_pos ⟨trivial,by omega,by rw [hpl]; exact b1,by rw [hpl]; exact b2⟩,if_pos ⟨by rw [wV_len]; omega,by rw [wV_len]; omega⟩]
   rw [this,newObjN,pR_flat,hpl,List.drop_zero,Nat.mul_one,List.take_of_length_le (by rw [wV_len]; exact Nat.le_refl _)]
   simp [St.setObj,wV]
  ·simp only
   rw [List.getElem?_append_left (by simpa using hq),List.getElem?_set_ne (fun e=>hqr r _ _ _ rfl e.symm)]

theorem wof_un (w:W32):wof (un w)=w:=by
 simp [wof,un]
theorem s_SortW {σ s:St}{v:V}{L:List W32}(hN:New σ s v L)(hL:L.length≤90)(hnil:L=[]→v = .d .nils):Dn.Call Γ cx .raw 96 [v] s fun _ s'=>∃ L':List W32,New σ s' v L'∧L'.Perm L∧L'.Pairwise (fun a b=>un a≤un b):=by
 by_cases h0:L=[]
 ·have:=hnil h0
  subst this
  refine Dn.Call.mono (fun v s' hs=>?_) s_Sort0
  subst hs
  exact⟨[],by rw [← h0]; exact hN,by rw [h0],List.Pairwise.nil⟩
 obtain⟨r,rfl⟩:=hN.is_sl h0
 have hob:=hN.obj.1
 have hat:At s r (L.map un).toArray:=⟨by simp [ar]; rw [hob]; rfl⟩
 refine Dn.Call.mono (fun v s' ⟨R,hR,p1,p2⟩=>?_) (s_Sort hat (by simp) hL)
 have q1:=perm_of (by simp) p1
 simp only at q1
 have q2:R.size=L.length:=by have:=q1.length_eq; simpa using this
 have hun : ∀ n∈R.toList,∃ w:W32,n=un w:=fun n hn=>by
  have:=q1.mem_iff.1 hn
  simp only [List.mem_map] at this
  obtain⟨w,_,rfl⟩:=this
  exact⟨w,rfl⟩
 have hRm:(R.toList.map wof).map un=R.toList:=by
  rw [List.map_map]
  refine(List.map_congr_left fun n hn=>?_).trans (List.map_id _)
  obtain⟨w,rfl⟩:=hun n hn
  simp only [Function.comp,wof_un,id]
 have hLm:(L.map un).map wof=L:=by
  rw [List.map_map]
  exact(List.map_congr_left fun n hn=>wof_un n).trans (List.map_id _)
 refine⟨R.toList.map wof,?_,by rw [← hLm]; exact q1.map wof,?_⟩
 ·have hlen:L.length=(R.toList.map wof).length:=by simp [q2]
  have hrl:=hN.nw _ _ _ _ rfl
  refine⟨?_,⟨Nat.le_trans hN.fr.len hR.fr.len,fun q _ hq=>?_⟩,hN.nw,hR.tk.trans hN.tk⟩
  ·rw [hlen]
   refine .sl ?_
   rw [hR.obj]
   congr 2
   unfold ar wV
   rw [← hRm,List.map_map,List.map_map]
   simp only [List.map_map]
   exact List.map_congr_left fun n hn=>by simp only [Function.comp,wof_un]
  ·rw [hR.fr.at_ q (by simp; omega) (Nat.lt_of_lt_of_le hq hN.fr.len)]
   exact hN.fr.at_ q (by simp) hq
 ·have:=rising_of q2 p2
  rw [← hRm] at this
  rw [List.pairwise_map] at this
  exact this

open Gf (dg trim addP pw Pl)

abbrev Sen:=D×(List W32×Nat)
def stC:List Sen→List V
 | []=>[]
 | x::es=>stC es++[.d x.1,I x.2.2]
theorem stC_len : ∀ es,(stC es).length=2*es.length
 | []=>rfl
 | x::es=>by simp [stC,stC_len es]; omega
def okB:List Sen→Prop
 | []=>True
 | x::es=>es.length≤x.2.2∧x.2.2≤32∧okB es
def degs:List Sen→Nat
 | []=>0
 | x::es=>(dg x.2.1-1)+degs es
structure Stk (s:St)(r n:Nat)(es:List Sen):Prop where
 len:n=es.length
 o : ∃ cs,s.objs[r]?=some (.cells cs)∧cs.take (2*n)=stC es∧2*n≤cs.length∧cs≠[]
structure FouS (P0:List W32)(m:Nat)(s:St)(vo:V)(out:List W32)(r:Nat)(es:List Sen):Prop where
 nw:New St.empty s vo out
 nl:out=[]→vo = .d .nils
 ne : ∀ ro off n sz,vo = .sl ro off n sz→ro≠r
 pl : ∀ x∈es,PL x.1 x.2.1∧dg x.2.1=x.2.1.length∧dg x.2.1≠0
 bb:okB es
 dd:degs es+out.length≤60
 wt:wts (es.map (·.2))≤m
 eq:foundL m (es.map (·.2)) out=foundP P0
def InvFou (P0:List W32)(m:Nat)(e:Env)(s:St):Prop:=∃ (r n:Nat)(vo:V)(out:List W32)(es:List Sen),e=[(3,vo),(4,.sl r 0 n 2)]∧Stk s r n es∧FouS P0 m s vo out r es
theorem foundL_nil (m:Nat)(out:List W32):foundL m [] out=out:=by cases m <;> rfl
theorem iaddr_sl2 (σ:St){q n i:Nat}(h:i<n):iaddrV σ 2 (.sl q 0 n 2) (I i)=some (.ref q (i*2)):=by
 simp [iaddrV,asIdx]; omega
theorem okB_len : ∀ {es:List Sen},okB es→es.length≤33
 | [],_=>by simp
 | x::es,h=>by simp only [okB] at h; simp; omega
theorem New.other {σ s s':St}{v:V}{L:List W32}(h:New σ s v L)(hl:s.objs.length≤s'.objs.length)(ho : ∀ r off n sz,v = .sl r off n sz→s'.objs[r]?=s.objs[r]?)(hf : ∀ q,q<σ.objs.length→s'.objs[q]?=s.objs[q]?)(ht:s'.toks=s.toks):New σ s' v L:=by
 have hob:=h.ob
 refine⟨?_,⟨Nat.le_trans h.fr.len hl,fun q _ hq=>(hf q hq).trans (h.fr.at_ q (by simp) hq)⟩,h.nw,ht.trans h.tk⟩
 cases hob with
 | sl h2 =>
  refine .sl ?_
  rw [ho _ _ _ _ rfl]
  exact h2
 | nils=>exact .nils
 | fl=>exact .fl

set_option maxHeartbeats 400000 in
theorem s_found {p:D}{P:List W32}(hp:PL p P)(htr:dg P=P.length)(h0:dg P≠0)(lP:dg P≤61):Dn.Call Γ cx .val 81 [.d p] St.empty fun v _=>∃ (d:D)(L':List W32),v = .d d∧PL d L'∧L'.Perm (foundP P)∧L'.Pairwise (fun a b=>un a≤un b)∧L'.length≤60:=by
 refine Dn.Call.body (fc:=c81) rfl ?_
 simp -implicitDefEqProofs [c81,c81_k15,c81_k14,isObj,evalB,repl,rowsOf,frzV,newObjN,c81_k13]
 refine wloopI (InvFou P) (m:=wt 0) ⟨0,1,.d .nils,[],[(p,P,0)],rfl,⟨rfl,[.d p,I 0],rfl,rfl,by simp,by simp⟩,⟨.nils,⟨by simp,fun q _ hq=>absurd hq (by simp)⟩,fresh_d _ _,rfl⟩,fun _=>rfl,(fun ro off n sz e=>by cases e),fun x hx=>?_,⟨by simp,by simp,trivial⟩,by simp [degs]; omega,Nat.le_refl _,rfl⟩ ?_
 ·simp only [List.mem_singleton] at hx
  subst hx
  exact⟨hp,htr,h0⟩
 clear hp htr h0 lP
 rintro m e s ⟨r,n,vo,out,es,rfl,⟨hn,cs,ho,hcs,hcl,hcne⟩,hS⟩
 have hnl:=okB_len hS.bb
 cases es with
 | nil =>
  obtain rfl:n=0:=hn
  have heq:=hS.eq
  simp only [List.map_nil,foundL_nil] at heq
  have hdd:=hS.dd
  simp -implicitDefEqProofs [lenT,Dn.lenV,c81_l12,c81_k11,c81_k1]
  refine use_raw (s_SortW hS.nw (by omega) hS.nl) fun v s2 ⟨L',h1,h2,h3⟩=>?_
  obtain⟨d,b1,l1⟩:=h1.ob.rd.byVal
  simp -implicitDefEqProofs [c81_k0,b1]
  exact⟨L',l1,by rw [← heq]; exact h2,h3,by have:=h2.length_eq; omega⟩
 | cons x es =>
 obtain⟨d,Q,b⟩:=x
 obtain⟨q1,q2,q3⟩:=hS.pl (d,Q,b) (by simp)
 simp only at q1 q2 q3
 have hpl':=fun y hy=>hS.pl y (List.mem_cons_of_mem _ hy)
 obtain⟨hb1,hb2,hb3⟩:=hS.bb
 simp only at hb1 hb2
 have hdd:(dg Q-1)+degs es+out.length≤60:=hS.dd
 have hwt:wt b+wts (es.map (·.2))≤m:=hS.wt
 have hwp:=wt_pos hb2
 have heq:foundL m ((Q,b)::es.map (·.2)) out=foundP P:=hS.eq
 obtain⟨k,rfl⟩ : ∃ k,m=k+1:=⟨m-1,by omega⟩
 simp only [foundL] at heq
 simp only [List.length_cons] at hn hnl
 obtain⟨n1,hn1⟩ : ∃ n1,es.length=n1:=⟨_,rfl⟩
 have hnn:n=n1+1:=by omega
 subst hnn
 have hpos:(0:Int)<((n1+1:Nat):Int):=by omega
 have w1:IntKind.i64.wrap (((n1+1:Nat):Int)-1)=(n1:Int):=by rw [wrap_i64 (by omega) (by omega)]; omega
 have hcell:mkAgg ((cs.drop (n1*2)).take 2) = .da [d,.int .i64 b]:=by
  have h1:=congrArg (fun l=>(l.drop (n1*2)).take 2) hcs
  simp only [stC] at h1
  rw [List.drop_take,List.take_take,List.drop_append,show(stC es).drop (n1*2)=[] from List.drop_of_length_le (by rw [stC_len]; omega),stC_len,List.nil_append] at h1
  rw [show min 2 (2*(n1+1)-n1*2)=2 by omega] at h1
  rw [h1,show n1*2-2*es.length=0 by omega]
  rfl
 have hcs2:cs.take (2*n1)=stC es:=by
  have h1:=congrArg (List.take (2*n1)) hcs
  rw [List.take_take,show min (2*n1) (2*(n1+1))=2*n1 by omega] at h1
  rw [h1]
  simp only [stC]
  rw [List.take_append,List.take_of_length_le (by rw [stC_len]; omega),stC_len,show 2*n1-2*es.length=0 by omega]
  simp
 have hla:loadAt s true 2 (.ref r (n1*2))=some (.da [d,.int .i64 b]):=by
  simp only [loadAt,ho,if_true]
  rw [if_pos (by omega),hcell]
 have hsx : ∀ σ,sliceX σ 2 (.sl r 0 (n1+1) 2) none (some (I n1)) none=some (.sl r 0 n1 2):=fun σ=>by
  simp [sliceX,Dn.lenV,boundV,asIdx,sliceV]
 have ia:=fun σ=>iaddr_sl2 σ (q:=r) (n:=n1+1) (i:=n1) (by omega)
 obtain⟨N1,hN1⟩ : ∃ N1,n1+1=N1:=⟨_,rfl⟩
 rw [hN1] at hpos w1 hsx ia hn
 rw [hN1]
 have hposN:0<N1:=by omega
 simp -implicitDefEqProofs [-loadAt,lenT,Dn.lenV,hpos,hposN,c81_l12,c81_k11,c81_k10,c81_k9,w1,ia,hla]
 have og:(s.objs++[Dn.Obj.cells [.d .nils,I 0]])[s.objs.length]?=some (.cells [.d .nils,I 0]):=by simp
 have os : ∀ o,(s.objs++[Dn.Obj.cells [.d .nils,I 0]]).set s.objs.length o=s.objs++[o]:=fun o=>by simp
 obtain⟨s2,hs2⟩ : ∃ s2:St,(⟨s.objs++[.cells [.d d,I b]],s.toks⟩:St)=s2:=⟨_,rfl⟩
 have hx2:s2.objs[s.objs.length]?=some (.cells [.d d,I b]):=by rw [← hs2]; simp
 have ho2:s2.objs[r]?=some (.cells cs):=by rw [← hs2]; simp only; rw [List.getElem?_append_left (List.getElem?_eq_some_iff.1 ho).1]; exact ho
 have hr2:r<s2.objs.length:=(List.getElem?_eq_some_iff.1 ho2).1
 have hN2:New St.empty s2 vo out:=hS.nw.other (by rw [← hs2]; simp) (fun ro off n sz e=>by have:=hS.nw.ob.lt e; rw [← hs2]; simp only; rw [List.getElem?_append_left this]) (fun q hq=>absurd hq (by simp)) (by rw [← hs2])
 have hne:=hS.ne
 have hnl2:=hS.nl
 rw [hs2]
 clear hs2 og os hla ia ho
 generalize s.objs.length=xo at *
 simp -implicitDefEqProofs [c81_k8,lenT,Dn.lenV,w1,hsx,c81_k7,hx2]
 refine use_fn (ds:=[.d d]) rfl (s_Degree q1 (by omega)) rfl ?_
 simp -implicitDefEqProofs [c81_k6,c81_k5]
 by_cases hd2:dg Q=2
 ·have e1:(dg Q:Int)-1=1:=by omega
  rw [if_pos hd2] at heq
  obtain⟨c,hc⟩ : ∃ c,Q[0]?=some c:=⟨_,List.getElem?_eq_getElem (by omega)⟩
  have hia:=fun σ=>q1.iaddr σ (k:=.i64) (sz:=1) (i:=0) (pR_at hc) rfl
  rw [getD_at hc] at heq
  have hns:noSl vo out:=fun e r off n sz h=>by rw [hnl2 e] at h; cases h
  obtain⟨v',s3,ha,hN3,hfr3,hv3,hl3⟩:=appendM_new (Z:=[c]) hN2 hns (by simp) (by simp; omega)
  simp -implicitDefEqProofs [e1,c81_k4,hx2]
  have hia0:iaddrV s2 1 (.d d) (.d (.int .i64 0))=some (.ro [.int .u32 (un c)]):=hia s2
  simp -implicitDefEqProofs [hia0,isObj,repl,rowsOf,frzV]
  refine i_app_m (v:=v') (s:=s3) ?_ ?_
  ·simp [evalM,Opd.ev,Env.get,V.rows]
   exact ha
  simp -implicitDefEqProofs
  refine⟨k,by omega,r,n1,v',out++[c],es,rfl,⟨hn1.symm,cs,?_,hcs2,by omega,hcne⟩,hN3,by simp,fun ro off n sz e=>?_,hpl',hb3,by simp; omega,by omega,heq⟩
  ·rw [hfr3 r hr2 (fun ro off n sz e=>(hne ro off n sz e).symm)]
   exact ho2
  ·rw [hv3] at e
   cases e
   omega
 have e1 : ¬ (dg Q:Int)-1=1:=by omega
 rw [if_neg hd2] at heq
 simp -implicitDefEqProofs [e1,c81_k4]
 by_cases hb:2<dg Q∧b<32
 ·rw [if_pos hb] at heq
  have e2:(1:Int)<(dg Q:Int)-1:=by omega
  have e3:(b:Int)<32:=by omega
  obtain⟨p1,p2,p3,p4,p5⟩:=parts_len q3 b
  have hw:=wt_step hb.2
  simp -implicitDefEqProofs [e2,e3,c81_k3,hx2,c81_k2]
  refine use_val (ds:=[.da [d,.int .i64 b]]) rfl (s_parted q1 hb.1 (by omega) hb.2 rfl) fun v s3 ⟨y,z,hv,hy,hz⟩=>?_
  subst hv
  refine⟨rfl,(fun h=>by cases h),?_⟩
  simp -implicitDefEqProofs
  obtain⟨cs3,hcs3⟩ : ∃ cs3:List V,cs.take (n1*2)++[.d y,.d (.int .i64 ((b:Int)+1)),.d z,.d (.int .i64 ((b:Int)+1))]=cs3:=⟨_,rfl⟩
  refine i_app_m (v:=.sl s2.objs.length 0 (n1+2) 2) (s:=⟨s2.objs.set r .dead++[.cells cs3],s2.toks⟩) ?_ ?_
  ·have l1:n1*2≤cs.length:=by omega
   have l2:0<cs.length:=List.length_pos_iff.2 hcne
   have l3:(n1+2)*32≤140737488355328:=by omega
   have l4:n1+2≤9223372036854775807:=by omega
   simp [evalM,Opd.ev,Env.get,V.rows,appendM,fitR,ho2,l1,l2,l3,l4,newObjN,St.setObj,hcs3]
  simp -implicitDefEqProofs
  have hb1c:((b+1:Nat):Int)=(b:Int)+1:=by omega
  refine⟨k,by omega,s2.objs.length,n1+2,vo,out,(z,otherP Q b,b+1)::(y,oneP Q b,b+1)::es,rfl,⟨by simp; omega,cs3,by simp,?_,?_,?_⟩,?_,hnl2,fun ro off n sz e=>?_,?_,⟨by simp; omega,by simp only; omega,by simp only; omega,by simp only; omega,hb3⟩,?_,?_,heq⟩
  ·rw [← hcs3,List.take_of_length_le (by simp; omega),Nat.mul_comm n1 2,hcs2]
   simp only [stC,hb1c]
   simp
  ·rw [← hcs3]; simp; omega
  ·rw [← hcs3]; simp
  ·refine hN2.other (by simp) (fun ro off n sz e=>?_) (fun q hq=>absurd hq (by simp)) rfl
   have h1:=hN2.ob.lt e
   have h2:=hne _ _ _ _ e
   simp only
   rw [List.getElem?_append_left (by simpa using h1),List.getElem?_set_ne (fun e=>h2 e.symm)]
  ·have:=hN2.ob.lt e
   omega
  ·have p6:dg (otherP Q b)≠0:=by rw [p2]; exact p4
   have p7:dg (oneP Q b)≠0:=by rw [p1]; exact p3
   intro u hu
   rw [List.mem_cons,List.mem_cons] at hu
   rcases hu with hu | hu | hu
   ·rw [hu]
    dsimp only
    exact⟨hz,p2,p6⟩
   ·rw [hu]
    dsimp only
    exact⟨hy,p1,p7⟩
   ·exact hpl' u hu
  ·simp only [degs,p1,p2]
   omega
  ·show wt (b+1)+(wt (b+1)+wts (es.map (·.2)))≤k
   omega
 ·rw [if_neg hb] at heq
  by_cases hd3:2<dg Q
  ·have e2:(1:Int)<(dg Q:Int)-1:=by omega
   have e3 : ¬ (b:Int)<32:=by omega
   simp -implicitDefEqProofs [e2,e3,c81_k3,hx2,c81_k2]
   exact⟨k,by omega,r,n1,vo,out,es,rfl,⟨hn1.symm,cs,ho2,hcs2,by omega,hcne⟩,hN2,hnl2,hne,hpl',hb3,by omega,by omega,heq⟩
  ·have e2 : ¬ (1:Int)<(dg Q:Int)-1:=by omega
   simp -implicitDefEqProofs [e2,c81_k3,hx2,c81_k2]
   exact⟨k,by omega,r,n1,vo,out,es,rfl,⟨hn1.symm,cs,ho2,hcs2,by omega,hcne⟩,hN2,hnl2,hne,hpl',hb3,by omega,by omega,heq⟩

open Gf (dg trim addP pw Pl)

def badP (P:List W32):Prop:=dg P=0∨61<dg P
def rootsOf (P:List W32)(L:List W32):Prop:=L.Perm (foundP (linearP P))∧L.Pairwise (fun a b=>un a≤un b)∧L.length≤60
theorem s_All {p:D}{P:List W32}(hp:PL p P)(lP:P.length≤100):Dn.Call Γ cx .val 62 [.d p] St.empty fun v _=>(badP P∧v = .tup [.d .nils,errV 1])∨(¬ badP P∧∃ (d:D)(L:List W32),v = .tup [.d d,.d .nili]∧PL d L∧rootsOf P L):=by
 refine Dn.Call.body (fc:=c62) rfl ?_
 simp -implicitDefEqProofs [c62,c62_k3]
 refine use_fn (ds:=[.d p]) rfl (s_check hp (by omega)) (by split <;> rfl) ?_
 by_cases hb:badP P
 ·have hb':dg P=0∨61<dg P:=hb
  rw [if_pos hb']
  simp -implicitDefEqProofs [c62_k2,errV,eqV,V.isNil,Opd.isC,c62_k1]
  exact hb
 ·have hb' : ¬ (dg P=0∨61<dg P):=hb
  rw [if_neg hb']
  have hc:=common_spec (A:=P) (B:=trim (addP (linIt P 32) (linIt P 0))) (by omega)
  have h1:=hc.tr
  have h2:=hc.ne
  have h3:=hc.la
  simp -implicitDefEqProofs [c62_k2,errV,eqV,V.isNil,Opd.isC,c62_k1,c62_k0]
  refine use_pl [p] (s_linear hp lP) fun q hq=>?_
  simp -implicitDefEqProofs
  refine use_vd [q] (s_found hq h1 (by unfold linearP; omega) (by unfold linearP; omega)) fun v s ⟨d,L,hv,hd,r1,r2,r3⟩=>?_
  subst hv
  refine⟨rfl,?_⟩
  simp -implicitDefEqProofs
  exact⟨hb,L,hd,r1,r2,r3⟩
def splitR (P:List W32)(v:V):Prop:=(v = .tup [.d .nils,B false]∧(badP P∨(foundP (linearP P)).length+1≠dg P))∨(¬ badP P∧∃ (d:D)(L:List W32),v = .tup [.d d,B true]∧PL d L∧rootsOf P L∧L.length+1=dg P)
theorem s_Split {p:D}{P:List W32}(hp:PL p P)(lP:P.length≤100):Dn.Call Γ cx .val 38 [.d p] St.empty fun v _=>splitR P v:=by
 refine Dn.Call.body (fc:=c38) rfl ?_
 simp -implicitDefEqProofs [c38,c38_k3]
 refine use_vd [p] (s_All hp lP) fun v s hv=>?_
 rcases hv with⟨hb,rfl⟩ | ⟨hb,d,L,rfl,hd,hr⟩
 ·refine⟨rfl,?_⟩
  simp -implicitDefEqProofs [errV,c38_k2,eqV,V.isNil,Opd.isC,c38_k1]
  exact .inl ⟨rfl,.inl hb⟩
 ·refine⟨rfl,?_⟩
  have hld : ∀ σ,lenT σ .slice (.d d)=some L.length:=fun σ=>by rw [hd.len,pR_len]
  have hlen:=hr.1.length_eq
  simp -implicitDefEqProofs [c38_k2,eqV,V.isNil,Opd.isC,hld]
  refine use_fn (ds:=[.d p]) rfl (s_Degree hp (by omega)) rfl ?_
  by_cases hl:L.length+1=dg P
  ·have e1:(L.length:Int)=(dg P:Int)-1:=by omega
   simp -implicitDefEqProofs [e1,c38_k1,c38_k0]
   exact .inr ⟨hb,d,L,rfl,hd,hr,hl⟩
  ·have e1 : ¬ (L.length:Int)=(dg P:Int)-1:=by omega
   simp -implicitDefEqProofs [e1,c38_k1]
   exact .inl ⟨rfl,.inr (by rw [← hlen]; exact hl)⟩

open Gf (dg trim addP pw Pl)

def offW (c S:List W32)(at_:Nat):W32:=Gf.sum (min c.length (at_+1)) fun j=>Gf.mul (c.getD j 0) (S.getD (at_-j) 0)
theorem minII (a b:Int):minAll [I a,I b]=some (I (if b<a then b else a)):=by
 simp only [minAll,minInts,if_true]
def InvOff (w:V)(sd:D)(C S:List W32)(at_ n:Nat)(m:Nat)(e:Env)(s:St):Prop:=∃ j:Nat,e=[(1,.d sd),(2,I at_),(7,Xw (Gf.sum j fun j=>Gf.mul (C.getD j 0) (S.getD (at_-j) 0))),(16,w),(17,I n),(18,I j)]∧m=n-j∧j≤n∧s=St.empty
theorem s_off {c sd:D}{C S:List W32}(hc:PL c C)(hs:PL sd S)(lC:C.length≤1000)(lS:S.length≤1000){at_:Nat}(ha:at_<S.length):Dn.Call Γ cx .val 98 [.d c,.d sd,I at_] St.empty fun v _=>v=Xw (offW C S at_):=by
 refine Dn.Call.body (fc:=c98) rfl ?_
 have hlc : ∀ σ,lenT σ .slice (.d c)=some C.length:=fun σ=>by rw [hc.len,pR_len]
 have w1:IntKind.i64.wrap ((at_:Int)+1)=((at_:Int)+1):=wrap_i64 (by omega) (by omega)
 obtain⟨n,hn⟩ : ∃ n,min C.length (at_+1)=n:=⟨_,rfl⟩
 have hmn:minAll [I C.length,I ((at_:Int)+1)]=some (I n):=by
  rw [minII]
  congr 3
  split <;> omega
 obtain⟨w,hw,hr,-⟩:=rd_cutX (σ:=St.empty) (.lv hc) (k:=n) (by omega)
 have hlw:=fun σ=>hr.len σ
 have hln:(C.take n).length=n:=by simp; omega
 rw [hln] at hlw
 simp only [St.empty] at hw
 simp -implicitDefEqProofs [c98,c98_k8,c98_k7,hlc,w1,hmn,hw,hlw,c98_k6]
 refine wloopI (InvOff w sd C S at_ n) (m:=n) ⟨0,rfl,rfl,by omega,rfl⟩ ?_
 rintro m e s ⟨j,rfl,rfl,hj,rfl⟩
 rcases hjn:decide ((j:Int)<n) with _ | _
 ·have hlt : ¬ (j:Int)<n:=of_decide_eq_false hjn
  obtain rfl:j=n:=by omega
  have ho:offW C S at_=Gf.sum j fun j=>Gf.mul (C.getD j 0) (S.getD (at_-j) 0):=by unfold offW; rw [hn]
  rw [ho]
  generalize (Gf.sum j fun j=>Gf.mul (C.getD j 0) (S.getD (at_-j) 0))=z
  simp -implicitDefEqProofs [hlt,c98_l5,c98_k4,c98_k0]
 have hlt:(j:Int)<n:=of_decide_eq_true hjn
 have hj2:j<n:=by omega
 obtain⟨a,hca⟩ : ∃ a,C[j]?=some a:=⟨_,List.getElem?_eq_getElem (by omega)⟩
 obtain⟨b,hsb⟩ : ∃ b,S[at_-j]?=some b:=⟨_,List.getElem?_eq_getElem (by omega)⟩
 have htk:(C.take n)[j]?=some a:=by rw [List.getElem?_take_of_lt hj2]; exact hca
 obtain⟨ad,h1,h2⟩:=hr.at htk
 have hst:(Gf.sum (j+1) fun j=>Gf.mul (C.getD j 0) (S.getD (at_-j) 0))=(Gf.sum j fun j=>Gf.mul (C.getD j 0) (S.getD (at_-j) 0))^^^Gf.mul a b:=by
  show _^^^Gf.mul (C.getD j 0) (S.getD (at_-j) 0)=_
  rw [getD_at hca,getD_at hsb]
 obtain⟨p,hp⟩ : ∃ p,at_-j=p:=⟨_,rfl⟩
 rw [hp] at hsb
 have hia:=fun σ=>hs.iaddr σ (k:=.i64) (sz:=1) (i:=p) (pR_at hsb) rfl
 have w2:IntKind.i64.wrap ((at_:Int)-j)=(p:Int):=by rw [wrap_i64 (by omega) (by omega)]; omega
 have w9:IntKind.i64.wrap ((j:Int)+1)=((j+1:Nat):Int):=by rw [wrap_i64 (by omega) (by omega)]; omega
 generalize (Gf.sum j fun j=>Gf.mul (C.getD j 0) (S.getD (at_-j) 0))=z at *
 have h1':iaddrV { objs:=[],toks:=[] } 1 w (.d (.int .i64 j))=some ad:=h1
 have h2':loadAt { objs:=[],toks:=[] } false 1 ad=some (Xw a):=h2
 simp -implicitDefEqProofs [-loadAt,hlt,c98_l5,c98_k4,c98_k3,c98_k2,h1',h2',c98_k1,w2,hia]
 have h3 : ∀ σ,loadAt σ false 1 (.ro [.int .u32 (un b)])=some (Xw b):=fun _=>rfl
 simp -implicitDefEqProofs [-loadAt,h3]
 refine use_fn rfl (s_Mul a b) rfl ?_
 simp -implicitDefEqProofs [xor_u32,w9]
 exact⟨n-(j+1),by omega,j+1,by rw [hst]; rfl,rfl,by omega,rfl⟩

theorem appendM_room {s:St}{sz b:Nat}{v:V}{ys:List (List D)}{v':V}{s':St}(hv : ∀ r off n z,v = .sl r off n z→r<s.objs.length)(h:appendM s none sz b v ys=some (v',s')):appendM (s.room 1) (some s.objs.length) sz b v ys=some (v',s'):=by
 have hr1:(s.room 1).objs=s.objs++[.free]:=rfl
 have hno : ∀ o f,Dn.newObj (s.room 1) (some s.objs.length) o f=Dn.newObj s none o f:=fun o f=>by
  simp [Dn.newObj,St.place,hr1,St.setObj,St.push,St.spot,St.room]
 unfold appendM at h ⊢
 split at h
 ·cases h
 rename_i hc
 rw [if_neg hc]
 split at h
 ·simp only [hno]
  exact h
 ·simp only [hno]
  exact h
 ·rename_i r off len s'
  have hrl:=hv _ _ _ _ rfl
  have ho:(s.room 1).objs[r]?=s.objs[r]?:=by rw [hr1,List.getElem?_append_left hrl]
  have hno2 : ∀ o f,Dn.newObj ((s.room 1).setObj r .dead) (some s.objs.length) o f=Dn.newObj (s.setObj r .dead) none o f:=fun o f=>by
   have h1:((s.room 1).setObj r .dead).objs=s.objs.set r .dead++[.free]:=by
    simp only [St.setObj,hr1]
    rw [List.set_append_left _ _ hrl]
   have h2:(s.objs.set r Dn.Obj.dead).length=s.objs.length:=by simp
   have h3:((s.room 1).setObj r .dead).toks=s.toks:=rfl
   simp only [Dn.newObj,St.place,h1]
   rw [List.getElem?_append_right (by omega)]
   have h4:((s.objs++[Dn.Obj.free]).set r .dead).set s.objs.length o=s.objs.set r .dead++[o]:=by
    rw [List.set_append_left _ _ hrl,List.set_append_right _ _ (by omega),h2]
    simp
   simp [h2,St.setObj,St.push,St.spot,h1,h3,St.room,h4]
  simp only [ho,hno2]
  exact h
 ·cases h
theorem New.growR {σ s:St}{v:V}{T:List W32}(h:New σ s v T)(hne:noSl v T)(k:Nat)(hb:T.length+k≤100000){e:Env}{a b:Nat}(ea:e.get a=v)(eb:e.get b=I k) :
  ∃ v' s',evalM (.appendZero 55 1 4 [.int .u32 0] (.t a) (.t b)) e (s.room 1) (some s.objs.length)=some (v',s')∧New σ s' v' (T++List.replicate k 0)∧noSl v' (T++List.replicate k 0):=by
 have hlen:=fun s=>h.ob.rd.lenV s
 by_cases hk:k=0
 ·subst hk
  refine⟨v,s.room 1,?_,?_,by simpa using hne⟩
  ·simp [evalM,Opd.ev,ea,eb,hlen]
  ·rw [List.replicate_zero,List.append_nil]
   have hfr : ∀ q,q<s.objs.length→(s.room 1).objs[q]?=s.objs[q]?:=fun q hq=>by
    show(s.objs++[Dn.Obj.free])[q]?=_
    rw [List.getElem?_append_left hq]
   exact h.other (by show s.objs.length≤(s.objs++[Dn.Obj.free]).length; simp) (fun r off n sz e=>hfr r (h.ob.lt e)) (fun q hq=>hfr q (Nat.lt_of_lt_of_le hq h.fr.len)) rfl
 ·obtain⟨v',s',h1,h2,h3⟩:=h.grow hne k hb ea eb
  have hkI : ¬ ((k:Int)=0):=by omega
  refine⟨v',s',?_,h2,h3⟩
  have e1:evalM (.appendZero 55 1 4 [.int .u32 0] (.t a) (.t b)) e s none=appendM s none 1 4 v (List.replicate k [D.int .u32 0]):=by
   simp [evalM,Opd.ev,ea,eb,hlen,hkI,hk]
  have e2:evalM (.appendZero 55 1 4 [.int .u32 0] (.t a) (.t b)) e (s.room 1) (some s.objs.length)=appendM (s.room 1) (some s.objs.length) 1 4 v (List.replicate k [D.int .u32 0]):=by
   simp [evalM,Opd.ev,ea,eb,hlen,hkI,hk]
  rw [e2]
  rw [e1] at h1
  exact appendM_room (fun r off n z e=>h.ob.lt e) h1

open Gf (dg trim addP pw Pl)

structure MSt where
 now:List W32
 old:List W32
 len:Nat
 gap:Nat
 was:W32
structure MS (s:St)(x:Nat)(t:MSt)(vn vo:V):Prop where
 o:s.objs[x]?=some (.cells [vn,vo,I t.len,I t.gap,Xw t.was])
 n:Rd s vn t.now
 ol:Rd s vo t.old
 nx : ∀ r off n sz,vn = .sl r off n sz→r≠x
 ox : ∀ r off n sz,vo = .sl r off n sz→r≠x
theorem MS.fr {σ s:St}{x:Nat}{t:MSt}{vn vo:V}(h:MS σ x t vn vo)(hf:Fr [] σ s):MS s x t vn vo:=⟨hf.get h.o (by simp),h.n.fr hf,h.ol.fr hf,h.nx,h.ox⟩
def mendL (t:MSt)(d:W32):List W32:=putL t.now t.old (Gf.mul d (Gf.inv t.was)) t.gap
def InvMend (σ:St)(x:Nat)(t:MSt)(vo:V)(P:List W32)(c:W32)(m:Nat)(e:Env)(s:St):Prop:=∃ (i:Nat)(v:V),e=[(0,.ref x 0),(1,Xw c),(5,v),(39,vo),(40,I t.old.length),(41,I i)]∧m=t.old.length-i∧i≤t.old.length∧New σ s v (putL P (t.old.take i) c t.gap)∧noSl v (putL P (t.old.take i) c t.gap)
theorem s_mended {σ:St}{x:Nat}{t:MSt}{vn vo:V}(h:MS σ x t vn vo)(hn0:t.now≠[])(ln:t.now.length≤1000)(lo:t.old.length≤1000)(lg:t.gap≤1000)(d:W32):Dn.Call Γ cx .raw 99 [.ref x 0,Xw d] σ fun v s=>New σ s v (mendL t d):=by
 refine Dn.Call.body (fc:=c99) rfl ?_
 simp -implicitDefEqProofs [c99,c99_k10,nilCheckV,h.o]
 refine use_fn rfl (s_Inv t.was) rfl ?_
 simp -implicitDefEqProofs
 refine use_fn rfl (s_Mul d (Gf.inv t.was)) rfl ?_
 have hml:mendL t d=putL t.now t.old (Gf.mul d (Gf.inv t.was)) t.gap:=rfl
 generalize Gf.mul d (Gf.inv t.was)=c at *
 simp -implicitDefEqProofs [c99_k9,nilCheckV,h.o]
 refine use_raw (s_Clone h.n (by omega)) fun v s hN=>?_
 have hS:=h.fr hN.fr
 have hlv:=fun s=>hN.ob.rd.len s
 have hlo:=fun s=>h.ol.len s
 have hns:noSl v t.now:=fun e=>absurd e hn0
 have w1:IntKind.i64.wrap ((t.gap:Int)+t.old.length)=(t.gap:Int)+t.old.length:=wrap_i64 (by omega) (by omega)
 have w2:IntKind.i64.wrap ((t.gap:Int)+t.old.length-t.now.length)=(t.gap:Int)+t.old.length-t.now.length:=wrap_i64 (by omega) (by omega)
 have hmx:=max0 ((t.gap:Int)+t.old.length-t.now.length)
 have hk:(((t.gap:Int)+t.old.length-t.now.length).toNat:Int)=((t.gap+t.old.length-t.now.length:Nat):Int):=by omega
 rw [hk] at hmx
 obtain⟨k,hkd⟩ : ∃ k,t.gap+t.old.length-t.now.length=k:=⟨_,rfl⟩
 rw [hkd] at hmx
 obtain⟨v2,s2,he,hN2,hns2⟩:=hN.growR hns k (by omega) (e:=[(0,.ref x 0),(1,Xw c),(5,v),(20,v),(21,.ref x 0),(22,.ref x 0),(23,.ref x 3),(24,I t.gap),(25,.ref x 0),(26,.ref x 0),(27,.ref x 1),(28,vo),(29,I t.old.length),(30,I ((t.gap:Int)+t.old.length)),(31,v),(32,I t.now.length),(33,I ((t.gap:Int)+t.old.length-t.now.length)),(34,I k)]) (a:=20) (b:=34) rfl rfl
 simp -implicitDefEqProofs [c99_k8]
 refine w_drwX (fun _=>.val) [] (by decide +kernel) ?_
 have hoR:(s.room 1).objs[x]?=some (.cells [vn,vo,I t.len,I t.gap,Xw t.was]):=room_at hS.o
 obtain⟨sR,hsR⟩ : ∃ sR,s.room 1=sR:=⟨_,rfl⟩
 rw [hsR] at hoR he
 rw [hsR]
 simp -implicitDefEqProofs [nilCheckV,hoR,hlo,hlv,w1,w2,hmx]
 refine t_app_m he ?_
 clear he
 simp -implicitDefEqProofs
 have hS2:=h.fr hN2.fr
 simp -implicitDefEqProofs [c99_k7,nilCheckV,hS2.o,hlo,c99_k6]
 have hPl:(t.now++List.replicate k (0:W32)).length=t.now.length+k:=by simp
 have hfin:putL (t.now++List.replicate k 0) t.old c t.gap=mendL t d:=by
  rw [hml]
  unfold putL
  have:=pad_add t.now (Gf.up t.gap (Gf.scl c t.old))
  rw [Gf.up_len,Gf.scl_len,hkd] at this
  exact this
 have h00:putL (t.now++List.replicate k 0) (t.old.take 0) c t.gap=t.now++List.replicate k 0:=by
  refine Gf.list_ext_co (putL_len (by simp; omega)) fun i hi=>?_
  rw [putL_co,List.take_zero,List.getD_nil]
  split
  ·exact Gf.x0 _
  ·rw [Gf.mul_zero]; exact Gf.x0 _
 refine wloopI (InvMend σ x t vo (t.now++List.replicate k 0) c) (m:=t.old.length) ⟨0,v2,rfl,rfl,by omega,by rw [h00]; exact hN2,by rw [h00]; exact hns2⟩ ?_
 clear hN2 hns2 hS2 hoR hsR h00
 generalize hP:t.now++List.replicate k (0:W32)=P at *
 rintro m e s3 ⟨i,v3,rfl,rfl,hi,hN3,hns3⟩
 have hS3:=h.fr hN3.fr
 rcases hin:decide ((i:Int)<t.old.length) with _ | _
 ·have hlt : ¬ (i:Int)<t.old.length:=of_decide_eq_false hin
  obtain rfl:i=t.old.length:=by omega
  rw [List.take_length,hfin] at hN3
  simp -implicitDefEqProofs [hlt,c99_l5,c99_k4,c99_k0]
  exact hN3
 have hlt:(i:Int)<t.old.length:=of_decide_eq_true hin
 have hi2:i<t.old.length:=by omega
 obtain⟨a,ha⟩ : ∃ a,t.old[i]?=some a:=⟨_,List.getElem?_eq_getElem hi2⟩
 have l1:(putL P (t.old.take i) c t.gap).length=P.length:=putL_len (by simp; omega)
 obtain⟨o,ho⟩ : ∃ o,(putL P (t.old.take i) c t.gap)[t.gap+i]?=some o:=⟨_,List.getElem?_eq_getElem (by omega)⟩
 have hst:=putL_step (by omega) ha ho
 obtain⟨r,hr⟩:=hN3.is_sl (fun e=>by rw [e] at ho; cases ho)
 subst hr
 rw [l1] at hN3 hns3 ⊢
 have hset:=hN3.set (i:=t.gap+i) (by omega) l1 (o^^^Gf.mul a c)
 have hsv:=wV_set (L:=putL P (t.old.take i) c t.gap) (i:=t.gap+i) (by omega) (o^^^Gf.mul a c)
 rw [hst] at hset hsv
 obtain⟨ad,h1,h2⟩:=hS3.ol.at ha
 have ia:=fun σ=>iaddr_sl σ (q:=r) (n:=P.length) (i:=t.gap+i) (by omega)
 have hob:=hN3.obj.1
 have hat:=wV_at ho
 have hlV:=wV_len (putL P (t.old.take i) c t.gap)
 rw [l1] at hlV
 have hxr:x≠r:=fun e=>by
  have h5:=hN3.nw _ _ _ _ rfl
  have h6:=(List.getElem?_eq_some_iff.1 h.o).1
  omega
 have wg:IntKind.i64.wrap ((t.gap:Int)+i)=((t.gap+i:Nat):Int):=by rw [wrap_i64 (by omega) (by omega)]; omega
 have w9:IntKind.i64.wrap ((i:Int)+1)=((i+1:Nat):Int):=by rw [wrap_i64 (by omega) (by omega)]; omega
 have hns4:noSl (.sl r 0 P.length 1) (putL P (t.old.take (i+1)) c t.gap):=fun e=>by
  have h5:=congrArg List.length e
  rw [putL_len (by simp; omega),List.length_nil] at h5
  omega
 have hgi1:t.gap+i+1≤P.length:=by omega
 obtain⟨j,hj⟩ : ∃ j,t.gap+i=j:=⟨_,rfl⟩
 rw [hj] at ia hsv hat wg hgi1
 have ho3:=hS3.o
 generalize wV (putL P (t.old.take i) c t.gap)=cs at *
 simp -implicitDefEqProofs [-loadAt,hlt,c99_l5,c99_k4,c99_k3,c99_k2,h1,h2,c99_k1]
 refine w_drwX (fun _=>.val) [] (by decide +kernel) ?_
 simp only [room_zero]
 simp -implicitDefEqProofs [nilCheckV,ho3,wg,ia,hob,hat]
 refine use_fnN rfl rfl (s_Mul a c) rfl ?_
 simp only [q_tcont,putE,Env.set]
 simp -implicitDefEqProofs [-splice,xor_u32,ia,hob,hlV,hgi1,hsv,w9]
 exact⟨t.old.length-(i+1),by omega,i+1,_,rfl,rfl,by omega,hset,hns4⟩

open Gf (dg trim addP pw Pl)

def stepM (S:List W32)(t:MSt)(at_:Nat):MSt :=
 if offW t.now S at_=0 then⟨t.now,t.old,t.len,t.gap+1,t.was⟩
 else if 2*t.len≤at_ then⟨mendL ⟨t.now,t.old,t.len,t.gap+1,t.was⟩ (offW t.now S at_),t.now,at_+1-t.len,0,offW t.now S at_⟩
 else⟨mendL ⟨t.now,t.old,t.len,t.gap+1,t.was⟩ (offW t.now S at_),t.old,t.len,t.gap+1,t.was⟩
def runM (S:List W32):Nat→MSt
 | 0=>⟨[1],[1],0,0,1⟩
 | n+1=>stepM S (runM S n) n
theorem mendL_len (t:MSt)(d:W32):(mendL t d).length=max t.now.length (t.gap+t.old.length):=by
 unfold mendL putL
 rw [Gf.addP_len,Gf.up_len,Gf.scl_len]
theorem runM_len (S:List W32) : ∀ n,(runM S n).now.length≤n+1∧(runM S n).gap+(runM S n).old.length≤n+1∧(runM S n).now.length≠0∧(runM S n).len≤n
 | 0=>by simp [runM]
 | n+1=>by
  obtain⟨h1,h2,h3,h4⟩:=runM_len S n
  simp only [runM,stepM]
  split
  ·refine⟨by simp only; omega,by simp only; omega,h3,by simp only; omega⟩
  ·split
   ·refine⟨?_,by simp only; omega,?_,by simp only; omega⟩
    ·simp only [mendL_len]; omega
    ·simp only [mendL_len]; omega
   ·refine⟨?_,by simp only; omega,?_,by simp only; omega⟩
    ·simp only [mendL_len]; omega
    ·simp only [mendL_len]; omega
theorem un_zero_iff (w:W32):un w=0↔w=0:=by
 constructor
 ·intro h
  apply BitVec.eq_of_toNat_eq
  simp only [un] at h
  show w.toNat=0
  omega
 ·rintro rfl; rfl
theorem Rd.set {s:St}{v:V}{L:List W32}{x:Nat}{o:Dn.Obj}(h:Rd s v L)(hx : ∀ r off n sz,v = .sl r off n sz→r≠x):Rd ⟨s.objs.set x o,s.toks⟩ v L:=h.mono fun r off n sz e=>by
 simp only
 rw [List.getElem?_set_ne (fun e2=>hx _ _ _ _ e e2.symm)]
theorem fr_set1 {σ s:St}{x:Nat}{o:Dn.Obj}(h:Fr [x] σ s):Fr [x] σ ⟨s.objs.set x o,s.toks⟩:=⟨by simpa using h.len,fun q hq hl=>by
 simp only
 rw [List.getElem?_set_ne (fun e=>hq (by simp [e]))]
 exact h.at_ q hq hl⟩
theorem s_mtake {σ:St}{x:Nat}{t:MSt}{vn vo:V}(h:MS σ x t vn vo){sd:D}{S:List W32}(hs:PL sd S)(lS:S.length≤400){at_:Nat}(ha:at_<S.length)(h1:t.now.length≤at_+1)(h2:t.gap+t.old.length≤at_+1)(h3:t.now.length≠0)(h4:t.len≤at_) :
  Dn.Call Γ cx .raw 78 [.ref x 0,.d sd,I at_] σ fun _ s=>(∃ vn' vo',MS s x (stepM S t at_) vn' vo')∧Fr [x] σ s∧s.toks=σ.toks:=by
 refine Dn.Call.body (fc:=c78) rfl ?_
 have hxl:x<σ.objs.length:=(List.getElem?_eq_some_iff.1 h.o).1
 have wg:IntKind.i64.wrap ((t.gap:Int)+1)=((t.gap+1:Nat):Int):=by rw [wrap_i64 (by omega) (by omega)]; omega
 obtain⟨g1,hg1⟩ : ∃ g1,t.gap+1=g1:=⟨_,rfl⟩
 rw [hg1] at wg
 simp -implicitDefEqProofs [c78,nilCheckV,h.o,wg]
 obtain⟨s1,hs1⟩ : ∃ s1:St,(⟨σ.objs.set x (.cells [vn,vo,I t.len,I g1,Xw t.was]),σ.toks⟩:St)=s1:=⟨_,rfl⟩
 have hS1:MS s1 x ⟨t.now,t.old,t.len,g1,t.was⟩ vn vo:=by
  rw [← hs1]
  exact⟨by simp [hxl],h.n.set h.nx,h.ol.set h.ox,h.nx,h.ox⟩
 have hf1:Fr [x] σ s1:=by rw [← hs1]; exact fr_set1 (Fr.refl _ _)
 have ht1:s1.toks=σ.toks:=by rw [← hs1]
 have hst:stepM S t at_=if offW t.now S at_=0 then⟨t.now,t.old,t.len,g1,t.was⟩
  else if 2*t.len≤at_ then⟨mendL ⟨t.now,t.old,t.len,g1,t.was⟩ (offW t.now S at_),t.now,at_+1-t.len,0,offW t.now S at_⟩
  else⟨mendL ⟨t.now,t.old,t.len,g1,t.was⟩ (offW t.now S at_),t.old,t.len,g1,t.was⟩:=by rw [← hg1]; rfl
 rw [hs1]
 clear hs1
 obtain⟨dc,b1,l1⟩:=hS1.n.byVal
 simp only at l1
 have ho1:=hS1.o
 simp only at ho1
 simp -implicitDefEqProofs [c78_k8,nilCheckV,ho1]
 refine use_fn (ds:=[.d dc,.d sd,I at_]) (by simp only [byVals,b1,bv_d]) (s_off l1 hs (by omega) (by omega) ha) (Bool.or_true _) ?_
 generalize offW t.now S at_=d at *
 by_cases hd:d=0
 ·rw [if_pos hd] at hst
  have hu:un d=0:=(un_zero_iff d).2 hd
  simp -implicitDefEqProofs [c78_k7,hu,c78_k6]
  rw [hst]
  exact⟨⟨_,_,hS1⟩,hf1,ht1⟩
 have hu : ¬ un d=0:=fun e=>hd ((un_zero_iff d).1 e)
 rw [if_neg hd] at hst
 simp -implicitDefEqProofs [c78_k7,hu,c78_k6,c78_k5]
 refine use_raw (s_mended hS1 (fun e=>h3 (by simp only at e; rw [e]; rfl)) (by simp only; omega) (by simp only; omega) (by simp only; omega) d) fun v s2 hN=>?_
 have hS2:=hS1.fr hN.fr
 have ho2:=hS2.o
 simp only at ho2
 have hx2:x<s2.objs.length:=(List.getElem?_eq_some_iff.1 ho2).1
 have hvx : ∀ r off n sz,v = .sl r off n sz→r≠x:=fun r off n sz e=>by
  have h5:=hN.nw _ _ _ _ e
  have h6:=(List.getElem?_eq_some_iff.1 ho1).1
  omega
 have hf2:Fr [x] σ s2:=hf1.trans (hN.fr.mono (by simp))
 have ht2:s2.toks=σ.toks:=hN.tk.trans ht1
 have hg : ∀ o,(s2.objs.set x o)[x]?=some o:=fun o=>by simp [hx2]
 have hrd:=hN.ob.rd
 have w2l:IntKind.i64.wrap (2*(t.len:Int))=2*(t.len:Int):=wrap_i64 (by omega) (by omega)
 have wa1:IntKind.i64.wrap ((at_:Int)+1)=(at_:Int)+1:=wrap_i64 (by omega) (by omega)
 have wa2:IntKind.i64.wrap ((at_:Int)+1-t.len)=((at_+1-t.len:Nat):Int):=by rw [wrap_i64 (by omega) (by omega)]; omega
 obtain⟨nl,hnl⟩ : ∃ nl,at_+1-t.len=nl:=⟨_,rfl⟩
 rw [hnl] at wa2 hst
 have hnc:=hrd.cells
 have hvn:=h.n.cells
 generalize mendL ⟨t.now,t.old,t.len,g1,t.was⟩ d=N at *
 by_cases hle:2*t.len≤at_
 ·rw [if_pos hle] at hst
  have hlI:2*(t.len:Int)≤at_:=by omega
  simp -implicitDefEqProofs [c78_k4,nilCheckV,ho2,w2l,hlI,c78_k3,c78_k2,hvn,hg,c78_k1,wa1,wa2,c78_k0,hnc]
  rw [hst]
  exact⟨⟨v,vn,⟨by simp [hx2],hrd.set hvx,hS2.n.set hS2.nx,hvx,hS2.nx⟩⟩,fr_set1 hf2,ht2⟩
 ·rw [if_neg hle] at hst
  have hlI : ¬ 2*(t.len:Int)≤at_:=by omega
  simp -implicitDefEqProofs [c78_k4,nilCheckV,ho2,w2l,hlI,c78_k3,c78_k0,hnc]
  rw [hst]
  exact⟨⟨v,vo,⟨by simp [hx2],hrd.set hvx,hS2.ol.set hS2.ox,hvx,hS2.ox⟩⟩,fr_set1 hf2,ht2⟩

def InvRun (σ:St)(sd:D)(S:List W32)(m:Nat)(e:Env)(s:St):Prop:=∃ i:Nat,e=[(0,.d sd),(3,.ref σ.objs.length 0),(10,I S.length),(11,I i)]∧m=S.length-i∧i≤S.length∧(∃ vn vo,MS s σ.objs.length (runM S i) vn vo)∧Fr [] σ s∧s.toks=σ.toks
theorem s_run {σ:St}{sd:D}{S:List W32}(hs:PL sd S)(lS:S.length≤400):Dn.Call Γ cx .raw 60 [.d sd] σ fun v s=>v = .ref σ.objs.length 0∧(∃ vn vo,MS s σ.objs.length (runM S S.length) vn vo)∧Fr [] σ s∧s.toks=σ.toks:=by
 refine Dn.Call.body (fc:=c60) rfl ?_
 have hls : ∀ σ,lenT σ .slice (.d sd)=some S.length:=fun σ=>by rw [hs.len,pR_len]
 simp -implicitDefEqProofs [c60,c60_k7,isObj,repl,rowsOf,frzV,mkAgg,c60_k6,hls,c60_k5]
 refine wloopI (InvRun σ sd S) (m:=S.length) ⟨0,rfl,rfl,by omega,⟨_,_,⟨by simp; exact⟨rfl,rfl,rfl,rfl⟩,.lv (.fl (pR [1])),.lv (.fl (pR [1])),(fun r off n sz e=>by cases e),(fun r off n sz e=>by cases e)⟩⟩,Fr.push1 _ _,rfl⟩ ?_
 rintro m e s ⟨i,rfl,rfl,hi,⟨vn,vo,hM⟩,hfr,htk⟩
 rcases hin:decide ((i:Int)<S.length) with _ | _
 ·have hlt : ¬ (i:Int)<S.length:=of_decide_eq_false hin
  obtain rfl:i=S.length:=by omega
  simp -implicitDefEqProofs [hlt,c60_l4,c60_k3,c60_k0]
  exact⟨⟨vn,vo,hM⟩,hfr,htk⟩
 have hlt:(i:Int)<S.length:=of_decide_eq_true hin
 obtain⟨h1,h2,h3,h4⟩:=runM_len S i
 have w9:IntKind.i64.wrap ((i:Int)+1)=((i+1:Nat):Int):=by rw [wrap_i64 (by omega) (by omega)]; omega
 simp -implicitDefEqProofs [hlt,c60_l4,c60_k3,c60_k2,c60_k1]
 refine use_raw (s_mtake hM hs lS (by omega) h1 h2 h3 h4) fun v s2 ⟨hM2,hfr2,htk2⟩=>?_
 simp -implicitDefEqProofs [w9]
 refine⟨S.length-(i+1),by omega,i+1,rfl,rfl,by omega,hM2,⟨Nat.le_trans hfr.len hfr2.len,fun q _ hq=>?_⟩,htk2.trans htk⟩
 rw [hfr2.at_ q (by simp; omega) (Nat.lt_of_lt_of_le hq hfr.len)]
 exact hfr.at_ q (by simp) hq
def ruleL (S:List W32):List W32:=(runM S S.length).now.take ((runM S S.length).len+1)++List.replicate ((runM S S.length).len+1-(runM S S.length).now.length) 0
theorem ruleL_len (S:List W32):(ruleL S).length=(runM S S.length).len+1:=by simp [ruleL]; omega
theorem s_Shortest {σ:St}{sd:D}{S:List W32}(hs:PL sd S)(lS:S.length≤400):Dn.Call Γ cx .raw 35 [.d sd] σ fun v s=>∃ r,v = .sl r 0 (ruleL S).length 1∧New σ s v (ruleL S):=by
 refine Dn.Call.body (fc:=c35) rfl ?_
 simp -implicitDefEqProofs [c35,c35_k3]
 refine use_raw (s_run hs lS) fun v s ⟨hv,⟨vn,vo,hM⟩,hfr,htk⟩=>?_
 subst hv
 obtain⟨h1,h2,h3,h4⟩:=runM_len S S.length
 have hrl:ruleL S=(runM S S.length).now.take ((runM S S.length).len+1)++List.replicate ((runM S S.length).len+1-(runM S S.length).now.length) 0:=rfl
 have hrlen:=ruleL_len S
 generalize runM S S.length=t at *
 have w1:IntKind.i64.wrap ((t.len:Int)+1)=((t.len+1:Nat):Int):=by rw [wrap_i64 (by omega) (by omega)]; omega
 obtain⟨N,hN⟩ : ∃ N,t.len+1=N:=⟨_,rfl⟩
 rw [hN] at w1 hrl hrlen
 simp -implicitDefEqProofs [c35_k2,nilCheckV,hM.o,w1]
 have hxl:σ.objs.length<s.objs.length:=(List.getElem?_eq_some_iff.1 hM.o).1
 refine i_app_f (v:=.sl s.objs.length 0 N 1) (s:=⟨s.objs++[.cells (wV (List.replicate N 0))],s.toks⟩) ?_ ?_
 ·have b1:(N:Int)*4≤140737488355328:=by omega
  have b2:(N:Int)≤9223372036854775807:=by omega
  simp [evalE,Opd.ev,Env.get,b1,b2,repl_wV,Dn.newObj,St.place,St.push,St.spot]
 obtain⟨s2,hs2⟩ : ∃ s2:St,(⟨s.objs++[.cells (wV (List.replicate N 0))],s.toks⟩:St)=s2:=⟨_,rfl⟩
 have hf2:Fr [] s s2:=by rw [← hs2]; exact Fr.push1 _ _
 have hM2:=hM.fr hf2
 have hq2:s2.objs[s.objs.length]?=some (.cells (wV (List.replicate N 0))):=by rw [← hs2]; simp
 have hl2:s.objs.length<s2.objs.length:=(List.getElem?_eq_some_iff.1 hq2).1
 have ht2:s2.toks=σ.toks:=by rw [← hs2]; exact htk
 have hf3:Fr [] σ s2:=hfr.trans hf2
 rw [hs2]
 clear hs2
 have hrows:=hM2.n.rows
 have hcopy:copyV s2 1 (.sl s.objs.length 0 N 1) (pR t.now)=some (I ((min t.now.length N:Nat):Int),⟨s2.objs.set s.objs.length (.cells (wV (ruleL S))),s2.toks⟩):=by
  have hfit:fitR 1 (pR t.now)=true:=fitR_iff.2 (pR_fit _)
  have hsp:splice (wV (List.replicate N 0)) 0 (((pR t.now).take N).flatten.map V.d)=wV (ruleL S):=by
   rw [pR_take,pR_flat,hrl]
   simp [splice,wV]
   omega
  unfold copyV
  rw [hfit]
  simp only [Bool.true_eq_false,if_false,hq2]
  rw [if_pos ⟨trivial,by omega⟩,if_pos (by rw [wV_len]; simp),hsp,pR_len]
  rfl
 simp -implicitDefEqProofs [c35_k1,nilCheckV,hM2.o,hrows,hcopy,c35_k0]
 refine⟨hrlen.symm,?_,?_,?_,?_⟩
 ·rw [← hrlen]
  exact .sl (by simp [hl2])
 ·exact⟨by simpa using hf3.len,fun q _ hq=>by simp only; rw [List.getElem?_set_ne (by omega)]; exact hf3.at_ q (by simp) hq⟩
 ·exact fun r off n sz e=>by cases e; omega
 ·exact ht2
end Go.Proofs.Ytmlkdfjojoophaa.T

namespace Go.Proofs.Ytmlkdfjojoophaa.T
open Go.Dn
set_option linter.unusedSimpArgs false

open Gf

def cv (C S:Pl)(i:Nat):W32:=sum (i+1) fun j=>mul (C.getD j 0) (S.getD (i-j) 0)
theorem sum_cut {f:Nat→W32}{n m:Nat}(h:n≤m)(hz : ∀ j,n≤j→j<m→f j=0):sum m f=sum n f:=by
 obtain⟨k,rfl⟩ : ∃ k,m=n+k:=⟨m-n,by omega⟩
 clear h
 induction k with
 | zero=>rfl
 | succ k ih =>
  show sum (n+k) f^^^f (n+k)=_
  rw [hz (n+k) (by omega) (by omega),x0]
  exact ih fun j h1 h2=>hz j h1 (by omega)
theorem off_cv (C S:Pl)(i:Nat):offW C S i=cv C S i:=by
 unfold offW cv
 rw [sum_cut (n:=min C.length (i+1)) (m:=i+1) (Nat.min_le_right _ _) fun j h1 h2=>by
  rw [getD_ge (L:=C) (by omega),zero_mul]]
theorem cv_deg {C S:Pl}{L i:Nat}(hC : ∀ j,L<j→C.getD j 0=0)(h:L≤i):cv C S i=sum (L+1) fun j=>mul (C.getD j 0) (S.getD (i-j) 0) :=
 sum_cut (by omega) fun j h1 h2=>by rw [hC j (by omega),zero_mul]
theorem sum_split (f:Nat→W32)(k:Nat) : ∀ n,sum (k+n) f=sum k f^^^sum n fun j=>f (k+j)
 | 0=>(x0 _).symm
 | n+1=>by
  show sum (k+n) f^^^f (k+n)=sum k f^^^(sum n (fun j=>f (k+j))^^^f (k+n))
  rw [sum_split f k n,BitVec.xor_assoc]
theorem sum_mul (c:W32)(f:Nat→W32)(n:Nat):mul c (sum n f)=sum n fun j=>mul c (f j):=sum_lin (mul_zero c) (mul_xor c) f n
theorem cv_put (A B S:Pl)(c:W32)(k i:Nat):cv (putL A B c k) S i=cv A S i^^^(if k≤i then mul c (cv B S (i-k)) else 0):=by
 have h1:cv (putL A B c k) S i=cv A S i^^^sum (i+1) fun j=>mul (if j<k then 0 else mul c (B.getD (j-k) 0)) (S.getD (i-j) 0):=by
  unfold cv
  rw [← sum_xor]
  exact sum_congr fun j _=>by rw [putL_co,xor_mul]
 rw [h1]
 congr 1
 by_cases hk:k≤i
 ·rw [if_pos hk,show i+1=k+(i-k+1) by omega,sum_split]
  have e1:(sum k fun j=>mul (if j<k then 0 else mul c (B.getD (j-k) 0)) (S.getD (i-j) 0))=0 :=
   (sum_congr (g:=fun _=>0) fun j hj=>by rw [if_pos hj,zero_mul]).trans (sum_zero k)
  rw [e1,zx]
  unfold cv
  rw [sum_mul]
  refine sum_congr fun j hj=>?_
  rw [if_neg (by omega),show k+j-k=j by omega,show i-(k+j)=i-k-j by omega,mul_assoc]
 ·rw [if_neg hk]
  exact(sum_congr (g:=fun _=>0) fun j hj=>by rw [if_pos (by omega),zero_mul]).trans (sum_zero _)

structure Gen (C S:Pl)(L n:Nat):Prop where
 one:C.getD 0 0=1
 deg : ∀ j,L<j→C.getD j 0=0
 off : ∀ i,L≤i→i<n→cv C S i=0
theorem gen_next {C D S:Pl}{L M n N:Nat}(hC:Gen C S L n)(hD:Gen D S M N)(hn:n<N)(h:L+M≤n):cv C S n=0:=by
 have h1:(sum (L+1) fun j=>sum (M+1) fun k=>mul (mul (C.getD j 0) (D.getD k 0)) (S.getD (n-j-k) 0))=0:=by
  refine(sum_congr (g:=fun _=>0) fun j hj=>?_).trans (sum_zero _)
  have:=hD.off (n-j) (by omega) (by omega)
  rw [cv_deg hD.deg (by omega)] at this
  have h2:=congrArg (mul (C.getD j 0)) this
  rw [sum_mul,mul_zero] at h2
  exact Eq.trans (sum_congr fun k _=>(mul_assoc _ _ _).symm) h2
 rw [sum_swap] at h1
 rw [sum_split _ 1 M |> fun e=>(by rw [Nat.add_comm] at e; exact e:sum (M+1) (fun j=>sum (L+1) fun i=>mul (mul (C.getD i 0) (D.getD j 0)) (S.getD (n-i-j) 0))=sum 1 (fun j=>sum (L+1) fun i=>mul (mul (C.getD i 0) (D.getD j 0)) (S.getD (n-i-j) 0))^^^sum M fun k=>sum (L+1) fun i=>mul (mul (C.getD i 0) (D.getD (1+k) 0)) (S.getD (n-i-(1+k)) 0))] at h1
 have h3:(sum M fun k=>sum (L+1) fun i=>mul (mul (C.getD i 0) (D.getD (1+k) 0)) (S.getD (n-i-(1+k)) 0))=0:=by
  refine(sum_congr (g:=fun _=>0) fun k hk=>?_).trans (sum_zero _)
  have:=hC.off (n-(1+k)) (by omega) (by omega)
  rw [cv_deg hC.deg (by omega)] at this
  have h2:=congrArg (mul (D.getD (1+k) 0)) this
  rw [sum_mul,mul_zero] at h2
  refine Eq.trans (sum_congr fun i _=>?_) h2
  rw [mul_comm (C.getD i 0),← mul_assoc,show n-i-(1+k)=n-(1+k)-i by omega]
 rw [h3,x0] at h1
 have h4:(sum 1 fun j=>sum (L+1) fun i=>mul (mul (C.getD i 0) (D.getD j 0)) (S.getD (n-i-j) 0))=sum (L+1) fun i=>mul (C.getD i 0) (S.getD (n-i) 0):=by
  show 0^^^_=_
  rw [zx]
  refine sum_congr fun i _=>?_
  rw [hD.one,mul_one,Nat.sub_zero]
 rw [h4] at h1
 rw [cv_deg hC.deg (by omega)]
 exact h1

structure BM (S:Pl)(n:Nat)(t:MSt):Prop where
 le:t.len+t.gap≤n
 gen:Gen t.now S t.len n
 odeg : ∀ j,n-t.gap-t.len<j→t.old.getD j 0=0
 was:t.was≠0
 old:t.gap<n→(∀ i,n-t.gap-t.len≤i→i<n-1-t.gap→cv t.old S i=0)∧cv t.old S (n-1-t.gap)=t.was
 none:t.gap=n→t.len=0
theorem mend_co (t:MSt)(d:W32)(i:Nat):(mendL t d).getD i 0=t.now.getD i 0^^^(if i<t.gap then 0 else mul (mul d (inv t.was)) (t.old.getD (i-t.gap) 0)):=putL_co _ _ _ _ _
theorem bm_step {S:Pl}{n:Nat}{t:MSt}(h:BM S n t):BM S (n+1) (stepM S t n):=by
 have hle:=h.le
 unfold stepM
 rw [off_cv]
 by_cases hd:cv t.now S n=0
 ·rw [if_pos hd]
  refine⟨by simp only; omega,⟨h.gen.one,h.gen.deg,fun i h1 h2=>?_⟩,fun j hj=>h.odeg j (by simp only at hj; omega),h.was,fun hg=>?_,fun hg=>h.none (by simp only at hg; omega)⟩
  ·by_cases hi:i=n
   ·rw [hi]; exact hd
   ·exact h.gen.off i h1 (by omega)
  ·simp only at hg ⊢
   have:=h.old (by omega)
   rw [show n+1-(t.gap+1)-t.len=n-t.gap-t.len by omega,show n+1-1-(t.gap+1)=n-1-t.gap by omega]
   exact this
 ·rw [if_neg hd]
  -- what the mended one is off
  have hcv : ∀ i,cv (mendL ⟨t.now,t.old,t.len,t.gap+1,t.was⟩ (cv t.now S n)) S i=cv t.now S i^^^(if t.gap+1≤i then mul (mul (cv t.now S n) (inv t.was)) (cv t.old S (i-(t.gap+1))) else 0):=fun i=>cv_put _ _ _ _ _ _
  have hone:(mendL ⟨t.now,t.old,t.len,t.gap+1,t.was⟩ (cv t.now S n)).getD 0 0=1:=by
   rw [mend_co]
   simp only
   rw [if_pos (by omega),x0,h.gen.one]
  have hdeg : ∀ j,max t.len (n+1-t.len)<j→(mendL ⟨t.now,t.old,t.len,t.gap+1,t.was⟩ (cv t.now S n)).getD j 0=0:=fun j hj=>by
   rw [mend_co]
   simp only
   rw [h.gen.deg j (by omega),zx]
   split
   ·rfl
   ·rw [h.odeg _ (by omega),mul_zero]
  have hoff:t.gap<n→∀ i,max t.len (n+1-t.len)≤i→i<n+1→cv (mendL ⟨t.now,t.old,t.len,t.gap+1,t.was⟩ (cv t.now S n)) S i=0:=fun hg i h1 h2=>by
   obtain⟨o1,o2⟩:=h.old hg
   rw [hcv]
   by_cases hi:i=n
   ·subst hi
    rw [if_pos (by omega),show i-(t.gap+1)=i-1-t.gap by omega,o2,← mul_assoc,inv_mul h.was,mul_one,Gf.xs]
   ·rw [h.gen.off i (by omega) (by omega),zx]
    split
    ·rw [o1 _ (by omega) (by omega),mul_zero]
    ·rfl
  by_cases h2:2*t.len≤n
  ·rw [if_pos h2]
   refine⟨by simp only; omega,⟨hone,fun j hj=>hdeg j (by simp only at hj; omega),fun i h3 h4=>?_⟩,fun j hj=>h.gen.deg j (by simp only at hj; omega),hd,fun _=>?_,fun hg=>?_⟩
   ·simp only at h3
    by_cases hg:t.gap<n
    ·exact hoff hg i (by omega) h4
    ·have:=h.none (by omega)
     omega
   ·simp only
    rw [show n+1-0-(n+1-t.len)=t.len by omega,show n+1-1-0=n by omega]
    exact⟨h.gen.off,rfl⟩
   ·simp only at hg
    omega
  ·rw [if_neg h2]
   have hg:t.gap<n:=by
    rcases Nat.lt_or_ge t.gap n with h3 | h3
    ·exact h3
    ·have:=h.none (by omega)
     omega
   refine⟨by simp only; omega,⟨hone,fun j hj=>hdeg j (by simp only at hj; omega),fun i h3 h4=>hoff hg i (by simp only at h3; omega) h4⟩,fun j hj=>h.odeg j (by simp only at hj; omega),h.was,fun hg2=>?_,fun hg2=>by simp only at hg2; omega⟩
   simp only at hg2 ⊢
   have:=h.old hg
   rw [show n+1-(t.gap+1)-t.len=n-t.gap-t.len by omega,show n+1-1-(t.gap+1)=n-1-t.gap by omega]
   exact this
theorem bm_run (S:Pl) : ∀ n,BM S n (runM S n)
 | 0=>by
  refine⟨by simp [runM],⟨rfl,fun j hj=>?_,fun i h1 h2=>absurd h2 (by omega)⟩,fun j hj=>?_,by show(1:W32)≠0; decide,fun h=>absurd h (by simp [runM]),fun _=>rfl⟩
  ·exact getD_ge (by simp [runM] at hj ⊢; omega)
  ·exact getD_ge (by simp [runM] at hj ⊢; omega)
 | n+1=>bm_step (bm_run S n)
theorem bm_least {D S:Pl}{M N:Nat}(hD:Gen D S M N) : ∀ n,n≤N→(runM S n).len≤M
 | 0,_=>by simp [runM]
 | n+1,h=>by
  have ih:=bm_least hD n (by omega)
  have hb:=bm_run S n
  simp only [runM]
  unfold stepM
  rw [off_cv]
  split
  ·exact ih
  ·rename_i hd
   split
   ·simp only
    rcases Nat.lt_or_ge M (n+1-(runM S n).len) with h1 | h1
    ·exact absurd (gen_next hb.gen hD (by omega) (by omega)) hd
    ·exact h1
   ·exact ih

open Gf

def lsum:List W32→(W32→W32)→W32
 | [],_=>0
 | x::T,f=>f x^^^lsum T f
theorem lsum_congr : ∀ {T:List W32}{f g:W32→W32},(∀ x∈T,f x=g x)→lsum T f=lsum T g
 | [],_,_,_=>rfl
 | x::T,f,g,h=>by simp only [lsum]; rw [h x (by simp),lsum_congr fun y hy=>h y (by simp [hy])]
theorem lsum_zero : ∀ T:List W32,lsum T (fun _=>0)=0
 | []=>rfl
 | x::T=>by simp only [lsum]; rw [lsum_zero T,x0]
theorem lsum_mul (c:W32)(f:W32→W32) : ∀ T:List W32,mul c (lsum T f)=lsum T fun x=>mul c (f x)
 | []=>mul_zero c
 | x::T=>by simp only [lsum]; rw [mul_xor,lsum_mul c f T]
theorem lsum_xor (f g:W32→W32) : ∀ T:List W32,lsum T (fun x=>f x^^^g x)=lsum T f^^^lsum T g
 | []=>(x0 _).symm
 | x::T=>by simp only [lsum]; rw [lsum_xor f g T,x4]
theorem lsum_sum (g:W32→Nat→W32)(T:List W32) : ∀ n,lsum T (fun x=>sum n (g x))=sum n fun j=>lsum T fun x=>g x j
 | 0=>lsum_zero T
 | n+1=>by simp only [sum]; rw [lsum_xor,lsum_sum g T n]
theorem lsum_single {f:W32→W32}{r:W32} : ∀ {T:List W32},T.Nodup→r∈T→(∀ x∈T,x≠r→f x=0)→lsum T f=f r
 | [],_,h,_=>by simp at h
 | x::T,hn,hr,h=>by
  rw [List.nodup_cons] at hn
  simp only [lsum]
  by_cases hx:x=r
  ·subst hx
   have:lsum T f=0:=(lsum_congr (g:=fun _=>0) fun y hy=>h y (by simp [hy]) (fun e=>hn.1 (e▸hy))).trans (lsum_zero T)
   rw [this,x0]
  ·rw [h x (by simp) hx,zx]
   exact lsum_single hn.2 ((List.mem_cons.1 hr).resolve_left (fun e=>hx e.symm)) fun y hy=>h y (by simp [hy])
theorem sum_rev (f:Nat→W32) : ∀ n,sum (n+1) (fun k=>f (n-k))=sum (n+1) f
 | 0=>rfl
 | n+1=>by
  have h1:sum (n+1+1) (fun k=>f (n+1-k))=f (n+1-0)^^^sum (n+1) fun k=>f (n+1-(k+1)):=sum_first _ _
  rw [h1]
  have h2:(sum (n+1) fun k=>f (n+1-(k+1)))=sum (n+1) fun k=>f (n-k):=sum_congr fun k _=>by rw [show n+1-(k+1)=n-k by omega]
  rw [h2,sum_rev f n,Nat.sub_zero]
  show _=sum (n+1) f^^^f (n+1)
  rw [BitVec.xor_comm]
theorem ev_sum : ∀ (a:Pl)(x:W32),ev a x=sum a.length fun j=>mul (a.getD j 0) (npow x j)
 | [],x=>rfl
 | c::a,x=>by
  show c^^^mul x (ev a x)=_
  rw [ev_sum a x,List.length_cons,sum_first,sum_mul]
  have h0:mul ((c::a).getD 0 0) (npow x 0)=c:=mul_one c
  rw [h0]
  congr 1
  refine sum_congr fun j _=>?_
  rw [npow_succ',mul_left]
  rfl
theorem getD_rev {a:Pl}{n k:Nat}(hl:a.length=n+1)(hk:k≤n):a.reverse.getD k 0=a.getD (n-k) 0:=by
 rw [List.getD_eq_getElem?_getD,List.getD_eq_getElem?_getD,List.getElem?_reverse (by omega),hl]
 congr 2
def Pows (T:List W32)(S:Pl):Prop:=∀ i,i<S.length→S.getD i 0=lsum T fun x=>npow x (i+1)
theorem cv_pows {T S:Pl}(hS:Pows T S){C:Pl}{L:Nat}(hC : ∀ j,L<j→C.getD j 0=0){R:Pl}(hR:R.length=L+1)(hRC : ∀ j,j≤L→R.getD (L-j) 0=C.getD j 0){i:Nat}(h1:L≤i)(h2:i<S.length) :
  cv C S i=lsum T fun x=>mul (npow x (i-L+1)) (ev R x):=by
 rw [cv_deg hC h1]
 have e1:(sum (L+1) fun j=>mul (C.getD j 0) (S.getD (i-j) 0))=sum (L+1) fun j=>lsum T fun x=>mul (C.getD j 0) (npow x (i-j+1)) :=
  sum_congr fun j hj=>by rw [hS (i-j) (by omega),lsum_mul]
 rw [e1,← lsum_sum (fun x j=>mul (C.getD j 0) (npow x (i-j+1)))]
 refine lsum_congr fun x _=>?_
 rw [ev_sum,hR,sum_mul,← sum_rev (fun j=>mul (npow x (i-L+1)) (mul (R.getD j 0) (npow x j)))]
 refine sum_congr fun j hj=>?_
 rw [hRC j (by omega),mul_left,← npow_add,show i-L+1+(L-j)=i-j+1 by omega]
theorem gen_prod {T S:Pl}(hS:Pows T S):Gen (prodL T).reverse S T.length S.length:=by
 have hl:=prodL_len T
 have hdeg : ∀ j,T.length<j→(prodL T).reverse.getD j 0=0:=fun j hj=>getD_ge (by simp [hl]; omega)
 refine⟨?_,hdeg,fun i h1 h2=>?_⟩
 ·rw [getD_rev hl (by omega),Nat.sub_zero,prodL_top]
 ·rw [cv_pows hS hdeg hl (fun j hj=>by rw [getD_rev hl hj]) h1 h2]
  refine(lsum_congr (g:=fun _=>0) fun x hx=>?_).trans (lsum_zero T)
  rw [ev_prodL.2 hx,mul_zero]
theorem ruleL_co (S:Pl){j:Nat}(h:j≤(runM S S.length).len):(ruleL S).getD j 0=(runM S S.length).now.getD j 0:=by
 unfold ruleL
 generalize runM S S.length=t at *
 simp only [List.getD_eq_getElem?_getD]
 by_cases h1:j<t.now.length
 ·rw [List.getElem?_append_left (by simp; omega),List.getElem?_take_of_lt (by omega)]
 ·rw [List.getElem?_append_right (by simp; omega),List.getElem?_replicate,List.getElem?_eq_none (l:=t.now) (by omega)]
  split <;> rfl
theorem rule_prod {T S:Pl}(hn:T.Nodup)(h0:(0:W32)∉T)(hS:Pows T S)(hl:2*T.length≤S.length):(ruleL S).reverse=prodL T:=by
 have hb:=bm_run S S.length
 have hle:=bm_least (gen_prod hS) S.length (Nat.le_refl _)
 have hrl:=ruleL_len S
 have hco:=fun j (h:j≤(runM S S.length).len)=>ruleL_co S h
 generalize runM S S.length=t at *
 have hR:(ruleL S).reverse.length=t.len+1:=by simp [hrl]
 have hRC : ∀ j,j≤t.len→(ruleL S).reverse.getD (t.len-j) 0=t.now.getD j 0:=fun j hj=>by
  rw [getD_rev hrl (by omega),show t.len-(t.len-j)=j by omega,hco j hj]
 generalize (ruleL S).reverse=R at *
 have hp : ∀ e,e<S.length-t.len→(lsum T fun x=>mul (npow x (e+1)) (ev R x))=0:=fun e he=>by
  have h1:=hb.gen.off (e+t.len) (by omega) (by omega)
  rw [cv_pows hS hb.gen.deg hR hRC (by omega) (by omega),Nat.add_sub_cancel] at h1
  exact h1
 have hg : ∀ g:Pl,g.length≤S.length-t.len→(lsum T fun x=>mul x (mul (ev g x) (ev R x)))=0:=fun g hg=>by
  have e1:(lsum T fun x=>mul x (mul (ev g x) (ev R x)))=lsum T fun x=>sum g.length fun j=>mul (g.getD j 0) (mul (npow x (j+1)) (ev R x)):=lsum_congr fun x _=>by
   rw [ev_sum g x,mul_comm _ (ev R x),sum_mul,sum_mul]
   refine sum_congr fun j _=>?_
   rw [npow_succ',mul_comm (ev R x),← mul_assoc (g.getD j 0),mul_left x,mul_assoc x]
  rw [e1,lsum_sum (fun x j=>mul (g.getD j 0) (mul (npow x (j+1)) (ev R x)))]
  refine(sum_congr (g:=fun _=>0) fun j hj=>?_).trans (sum_zero _)
  rw [← lsum_mul,hp j (by omega),mul_zero]
 have hz : ∀ r∈T,ev R r=0:=fun r hr=>by
  have hpos:0<T.length:=List.length_pos_of_mem hr
  have hel:(T.erase r).length=T.length-1:=List.length_erase_of_mem hr
  have h1:=hg (prodL (T.erase r)) (by rw [prodL_len,hel]; omega)
  rw [lsum_single hn hr (fun x hx hxr=>by
   rw [ev_prodL.2 ((List.mem_erase_of_ne hxr).2 hx),zero_mul,mul_zero])] at h1
  have h2:r≠0:=fun e=>h0 (e▸hr)
  have h3:ev (prodL (T.erase r)) r≠0:=fun e=>by
   rw [ev_prodL,List.Nodup.mem_erase_iff hn] at e
   exact e.1 rfl
  exact(mul_eq_zero ((mul_eq_zero h1).resolve_left h2)).resolve_left h3
 have htop:R.getD t.len 0=1:=by
  have:=hRC 0 (by omega)
  rw [Nat.sub_zero,hb.gen.one] at this
  exact this
 have hdg:dg R=t.len+1:=dg_unique (fun i hi=>getD_ge (by omega)) (.inr (by
  rw [Nat.add_sub_cancel,htop]
  decide))
 have:=roots_lt hn hz (by omega)
 have hlen:t.len=T.length:=by omega
 refine mon_unique hn (by omega) ?_ hz
 rw [← hlen]
 exact htop
end Go.Proofs.Ytmlkdfjojoophaa.T

namespace Go.Proofs.Ytmlkdfjojoophaa.T
open Go.Dn
attribute [local simp] body_eq globEnv GB List.map_nil List.map_cons List.append_nil w_rangeF i_next i_makeMap i_range i_update i_delete i_entry i_clone entryV cloneV q_rndA q_rndB_n q_rndB_e q_rndB_r setAll w_skip w_ops w_seq w_cond w_block w_exit w_ret q_then_n q_then_e q_then_r q_blk_n q_blk_e q_blk_r q_ops q_cont q_end_n q_end_r q_end_e q_loop_n q_loop_e q_loop_r i_nil i_p i_alloc i_box i_store i_copy i_clear i_call i_callv i_when t_nil t_p t_call t_alloc t_box t_store kept_nil t_copy t_clear q_tcont gsel List.cons_append List.nil_append evalP evalE evalF evalB isObj thaw Opd.ev Env.get Env.set Env.pick putE initEnv evalBin intBin evalUn evalConv goneAll goneOne retV resAll Res.ev tupOf byVals byValsN bv_d bv_da bv_fl bv_tl bn_d bn_da bn_fl bn_tl cx Dn.newObj St.place St.push St.spot St.empty cell_d cell_da cell_agg cell_ref cell_sl cell_fl cell_tl cell_map cell_fn cell_ifc loadAt faddrV partOf extractV mkAgg ofD splice St.setObj fillV
set_option linter.unusedSimpArgs false

def revTo (L:List W32)(k:Nat):List W32:=(List.range L.length).map fun i=>if i<k∨L.length-k≤i then L.getD (L.length-1-i) 0 else L.getD i 0
theorem revTo_len (L:List W32)(k:Nat):(revTo L k).length=L.length:=by simp [revTo]
theorem revTo_co (L:List W32)(k:Nat){i:Nat}(h:i<L.length):(revTo L k).getD i 0=if i<k∨L.length-k≤i then L.getD (L.length-1-i) 0 else L.getD i 0:=by
 rw [List.getD_eq_getElem?_getD]
 simp [revTo,h]
theorem revTo_zero (L:List W32):revTo L 0=L:=Gf.list_ext_co (revTo_len L 0) fun i hi=>by
 rw [revTo_len] at hi
 rw [revTo_co L 0 hi,if_neg (by omega)]
theorem revTo_all {L:List W32}{k:Nat}(h:L.length≤2*k+1):revTo L k=L.reverse:=Gf.list_ext_co (by rw [revTo_len,List.length_reverse]) fun i hi=>by
 rw [revTo_len] at hi
 obtain⟨n,hn⟩ : ∃ n,L.length=n+1:=⟨L.length-1,by omega⟩
 rw [revTo_co L k hi,getD_rev hn (by omega),hn]
 split
 ·rw [Nat.add_sub_cancel]
 ·rw [show n-i=i by omega]
theorem revTo_step {L:List W32}{k:Nat}{a b:W32}(hk:2*k+1<L.length)(ha:L[k]?=some a)(hb:L[L.length-1-k]?=some b):((revTo L k).set k b).set (L.length-1-k) a=revTo L (k+1):=by
 refine Gf.list_ext_co (by simp [revTo_len]) fun i hi=>?_
 rw [List.length_set,List.length_set,revTo_len] at hi
 rw [getD_set (by rw [List.length_set,revTo_len]; omega),getD_set (by rw [revTo_len]; omega),revTo_co L k hi,revTo_co L (k+1) hi]
 by_cases h1:i=L.length-1-k
 ·rw [if_pos h1,if_pos (by omega),show L.length-1-i=k by omega,getD_at ha]
 ·rw [if_neg h1]
  by_cases h2:i=k
  ·rw [if_pos h2,if_pos (by omega),h2,getD_at hb]
  ·rw [if_neg h2]
   by_cases h3:i<k∨L.length-k≤i
   ·rw [if_pos h3,if_pos (by omega)]
   ·rw [if_neg h3,if_neg (by omega)]
theorem revTo_mid {L:List W32}{k i:Nat}(h1:k≤i)(h2:i<L.length-k):(revTo L k)[i]?=L[i]?:=by
 have hi:i<L.length:=by omega
 have h3:=revTo_co L k hi
 rw [if_neg (by omega)] at h3
 rw [List.getD_eq_getElem?_getD,List.getD_eq_getElem?_getD,List.getElem?_eq_getElem hi,List.getElem?_eq_getElem (by rw [revTo_len]; exact hi)] at h3
 rw [List.getElem?_eq_getElem hi,List.getElem?_eq_getElem (by rw [revTo_len]; exact hi)]
 simpa using h3
def InvRev (σ:St)(r:Nat)(L:List W32)(m:Nat)(e:Env)(s:St):Prop:=∃ k:Nat,e=[(0,.sl r 0 L.length 1),(2,I k),(3,I ((L.length:Int)-1-k))]∧m=L.length-k∧2*k≤L.length∧s.objs[r]?=some (.cells (wV (revTo L k)))∧Fr [r] σ s∧s.toks=σ.toks
theorem s_Reverse {σ:St}{r:Nat}{L:List W32}(h:σ.objs[r]?=some (.cells (wV L)))(hl:L.length≤100000):Dn.Call Γ cx .raw 37 [.sl r 0 L.length 1] σ fun _ s=>s.objs[r]?=some (.cells (wV L.reverse))∧Fr [r] σ s∧s.toks=σ.toks:=by
 refine Dn.Call.body (fc:=c37) rfl ?_
 have w1:IntKind.i64.wrap ((L.length:Int)-1)=(L.length:Int)-1:=wrap_i64 (by omega) (by omega)
 simp -implicitDefEqProofs [c37,lenT,Dn.lenV,w1,c37_k5]
 refine wloopI (InvRev σ r L) (m:=L.length) ⟨0,by simp [Env.pick,Env.get],rfl,by omega,by rw [revTo_zero]; exact h,Fr.refl _ _,rfl⟩ ?_
 rintro m e s ⟨k,rfl,rfl,hk,ho,hfr,htk⟩
 rcases hkd:decide ((k:Int)<(L.length:Int)-1-k) with _ | _
 ·have hlt : ¬ (k:Int)<(L.length:Int)-1-k:=of_decide_eq_false hkd
  rw [revTo_all (by omega)] at ho
  simp -implicitDefEqProofs [hlt,c37_l4,c37_k3]
  exact⟨ho,hfr,htk⟩
 have hlt:(k:Int)<(L.length:Int)-1-k:=of_decide_eq_true hkd
 obtain⟨a,ha⟩ : ∃ a,L[k]?=some a:=⟨_,List.getElem?_eq_getElem (by omega)⟩
 obtain⟨b,hb⟩ : ∃ b,L[L.length-1-k]?=some b:=⟨_,List.getElem?_eq_getElem (by omega)⟩
 have hst:=revTo_step (by omega) ha hb
 have ha':(revTo L k)[k]?=some a:=by rw [revTo_mid (by omega) (by omega)]; exact ha
 have hb':(revTo L k)[L.length-1-k]?=some b:=by rw [revTo_mid (by omega) (by omega)]; exact hb
 have hl0:=revTo_len L k
 obtain⟨j,hj⟩ : ∃ j,L.length-1-k=j:=⟨_,rfl⟩
 have hjI:(L.length:Int)-1-k=(j:Int):=by omega
 rw [hj] at hst hb' hb
 rw [hjI] at hlt ⊢
 obtain⟨n,hn⟩ : ∃ n,L.length=n:=⟨_,rfl⟩
 have s1:=wV_set (L:=revTo L k) (i:=k) (by omega) b
 have s2:=wV_set (L:=(revTo L k).set k b) (i:=j) (by simp; omega) a
 rw [hst] at s2
 have iak:=fun σ=>iaddr_sl σ (q:=r) (n:=n) (i:=k) (by omega)
 have iaj:=fun σ=>iaddr_sl σ (q:=r) (n:=n) (i:=j) (by omega)
 have hak:=wV_at ha'
 have hbj:=wV_at hb'
 have l1:=wV_len (revTo L k)
 have l2:=wV_len ((revTo L k).set k b)
 rw [List.length_set,hl0,hn] at l2
 rw [hl0,hn] at l1
 have hrs:r<s.objs.length:=(List.getElem?_eq_some_iff.1 ho).1
 have og : ∀ o,(s.objs.set r o)[r]?=some o:=fun o=>by simp [hrs]
 have wk:IntKind.i64.wrap ((k:Int)+1)=((k+1:Nat):Int):=by rw [wrap_i64 (by omega) (by omega)]; omega
 have wj:IntKind.i64.wrap ((j:Int)-1)=(n:Int)-1-((k+1:Nat):Int):=by rw [wrap_i64 (by omega) (by omega)]; omega
 have hk1:k+1≤n:=by omega
 have hj1:j+1≤n:=by omega
 generalize wV (revTo L k)=ca at *
 generalize wV ((revTo L k).set k b)=cb at *
 rw [hn]
 simp -implicitDefEqProofs [hlt,c37_l4,c37_k3,c37_k2,c37_k1]
 refine w_drwX (fun _=>.val) [] (by decide +kernel) ?_
 simp only [room_zero]
 simp -implicitDefEqProofs [-splice,iak,iaj,ho,hak,hbj,l1,hk1,s1]
 simp -implicitDefEqProofs [-splice,iaj,og,l2,hj1,s2,c37_k0,wk,wj]
 exact⟨n-(k+1),by omega,k+1,by rw [hn]; rfl,by rw [hn],by omega,by simp [hrs],fr_set1 hfr,htk⟩

def InvEq (x y:D)(n:Nat)(m:Nat)(e:Env)(s:St):Prop:=∃ i:Nat,e=[(0,.d x),(1,.d y),(12,I n),(13,I i)]∧m=n-i∧i≤n∧s=St.empty
theorem s_Equal {x y:D}{X Y:List W32}(hx:PL x X)(hy:PL y Y)(lX:X.length≤100000)(lY:Y.length≤100000):Dn.Call Γ cx .val 39 [.d x,.d y] St.empty fun v _=>v=B (decide (X=Y)):=by
 refine Dn.Call.body (fc:=c39) rfl ?_
 have hlx : ∀ σ,lenT σ .slice (.d x)=some X.length:=fun σ=>by rw [hx.len,pR_len]
 have hly : ∀ σ,lenT σ .slice (.d y)=some Y.length:=fun σ=>by rw [hy.len,pR_len]
 by_cases hl:X.length=Y.length
 rotate_left
 ·have hne:X≠Y:=fun e=>hl (by rw [e])
  have hlI : ¬ (X.length:Int)=Y.length:=by omega
  simp -implicitDefEqProofs [c39,c39_k9,hlx,hly,hl,hlI,c39_k8,hne]
 simp -implicitDefEqProofs [c39,c39_k9,hlx,hly,hl,c39_k8,c39_k7,c39_k6]
 refine wloopI (fun m e s=>InvEq x y X.length m e s∧∀ i,i+m<X.length→X.getD i 0=Y.getD i 0) (m:=X.length) ⟨⟨0,by rw [hl]; rfl,rfl,by omega,rfl⟩,fun i hi=>by omega⟩ ?_
 rintro m e s ⟨⟨i,rfl,rfl,hi,rfl⟩,hall⟩
 rcases hin:decide ((i:Int)<X.length) with _ | _
 ·have hlt : ¬ (i:Int)<X.length:=of_decide_eq_false hin
  have heq:X=Y:=Gf.list_ext_co hl fun j hj=>hall j (by omega)
  simp -implicitDefEqProofs [hlt,c39_l5,c39_k4,heq]
  omega
 have hlt:(i:Int)<X.length:=of_decide_eq_true hin
 obtain⟨a,ha⟩ : ∃ a,X[i]?=some a:=⟨_,List.getElem?_eq_getElem (by omega)⟩
 obtain⟨b,hb⟩ : ∃ b,Y[i]?=some b:=⟨_,List.getElem?_eq_getElem (by omega)⟩
 have hia:=fun σ=>hx.iaddr σ (k:=.i64) (sz:=1) (i:=i) (pR_at ha) rfl
 have hib:=fun σ=>hy.iaddr σ (k:=.i64) (sz:=1) (i:=i) (pR_at hb) rfl
 have w9:IntKind.i64.wrap ((i:Int)+1)=((i+1:Nat):Int):=by rw [wrap_i64 (by omega) (by omega)]; omega
 simp -implicitDefEqProofs [hlt,c39_l5,c39_k4,c39_k3,c39_k2,c39_k1]
 refine w_drwX (fun _=>.val) [] (by decide +kernel) ?_
 simp only [room_zero]
 simp -implicitDefEqProofs [hia,hib]
 by_cases hab:a=b
 ·subst hab
  simp -implicitDefEqProofs [c39_k0,w9]
  refine⟨X.length-(i+1),by omega,⟨i+1,rfl,rfl,by omega,rfl⟩,fun j hj=>?_⟩
  by_cases hji:j=i
  ·subst hji
   have e1:=getD_at ha
   have e2:=getD_at hb
   rw [List.getD_eq_getElem?_getD] at e1 e2
   exact e1.trans e2.symm
  ·have:=hall j (by omega)
   rw [List.getD_eq_getElem?_getD,List.getD_eq_getElem?_getD] at this
   exact this
 ·have hu : ¬ un a=un b:=fun e=>hab (by rw [← wof_un a,e,wof_un])
  have hne:X≠Y:=fun e=>hab (by rw [e,hb] at ha; exact(Option.some.inj ha).symm)
  simp -implicitDefEqProofs [hu,c39_k0,hne]

def fnL (n:Nat)(f:Nat→W32):List W32:=(List.range n).map f
theorem fnL_len (n:Nat)(f:Nat→W32):(fnL n f).length=n:=by simp [fnL]
theorem fnL_wV (n:Nat)(f:Nat→W32):wV (fnL n f)=fnV n f:=by
 unfold wV fnL fnV
 rw [List.map_map]
 rfl
theorem fnL_co {n:Nat}(f:Nat→W32){k:Nat}(h:k<n):(fnL n f).getD k 0=f k:=by
 rw [List.getD_eq_getElem?_getD]
 simp [fnL,h]
structure SkR (s:St)(y:Nat)(v:V)(L:List W32):Prop where
 o:s.objs[y]?=some (.cells [v])
 r:Rd s v L
 n : ∀ r off n sz,v = .sl r off n sz→r≠y
theorem SkR.fr {σ s:St}{y:Nat}{v:V}{L:List W32}(h:SkR σ y v L)(hf:Fr [] σ s):SkR s y v L:=⟨hf.get h.o (by simp),h.r.fr hf,h.n⟩
theorem Sk.toR {s:St}{y r n:Nat}{f:Nat→W32}(h:Sk s y r n f)(hne:r≠y):SkR s y (.sl r 0 n 1) (fnL n f):=by
 refine⟨h.o,?_,fun r' off n' sz e=>by cases e; exact hne⟩
 have hl:=h.l
 rw [← fnL_wV] at hl
 have:=Rd.whole hl
 rwa [fnL_len] at this
def powTo (L:List W32):Nat→List W32
 | 0=>[]
 | i+1=>powTo L i++[if i % 2=0 then L.getD (i / 2) 0 else Gf.sq ((powTo L i).getD (i / 2) 0)]
theorem powTo_len (L:List W32) : ∀ i,(powTo L i).length=i
 | 0=>rfl
 | i+1=>by simp [powTo,powTo_len L i]
def powL (L:List W32):List W32:=powTo L (2*L.length)
theorem powTo_co (L:List W32) : ∀ {n i:Nat},i<n→(powTo L n).getD i 0=if i % 2=0 then L.getD (i / 2) 0 else Gf.sq ((powTo L i).getD (i / 2) 0)
 | 0,i,h=>by omega
 | n+1,i,h=>by
  simp only [powTo]
  rw [List.getD_eq_getElem?_getD]
  by_cases hi:i<n
  ·rw [List.getElem?_append_left (by rw [powTo_len]; exact hi),← List.getD_eq_getElem?_getD]
   exact powTo_co L hi
  ·obtain rfl:i=n:=by omega
   rw [List.getElem?_append_right (by rw [powTo_len]; exact Nat.le_refl _),powTo_len,Nat.sub_self]
   rfl
def InvPw (σ:St)(y:Nat)(L:List W32)(N:Nat)(m:Nat)(e:Env)(s:St):Prop:=∃ i:Nat,e=[(0,.ref y 0),(3,.sl σ.objs.length 0 N 1),(13,I N),(14,I i)]∧m=N-i∧i≤N∧New σ s (.sl σ.objs.length 0 N 1) (powTo L i++List.replicate (N-i) 0)
theorem pow_set (L:List W32){N i:Nat}(hi:i<N)(w:W32):(powTo L i++List.replicate (N-i) 0).set i w=(powTo L i++[w])++List.replicate (N-(i+1)) 0:=by
 obtain⟨k,hk⟩ : ∃ k,N-i=k+1:=⟨N-i-1,by omega⟩
 have hk2:N-(i+1)=k:=by omega
 rw [hk,hk2,List.set_append_right _ _ (by rw [powTo_len]; exact Nat.le_refl _),powTo_len,Nat.sub_self,List.replicate_succ,List.set_cons_zero,List.append_assoc]
 rfl
theorem s_powers {σ:St}{y:Nat}{v:V}{L:List W32}(h:SkR σ y v L)(lL:L.length≤100):Dn.Call Γ cx .rd 36 [.ref y 0] σ (isPL (powL L)):=by
 refine Dn.Call.body (fc:=c36) rfl ?_
 have hl:=fun σ=>h.r.len σ
 have w1:IntKind.i64.wrap (2*(L.length:Int))=((2*L.length:Nat):Int):=by rw [wrap_i64 (by omega) (by omega)]; omega
 obtain⟨N,hN⟩ : ∃ N,2*L.length=N:=⟨_,rfl⟩
 rw [hN] at w1
 simp -implicitDefEqProofs [c36,c36_k10,nilCheckV,h.o,hl,w1]
 refine i_app_f (v:=.sl σ.objs.length 0 N 1) (s:=⟨σ.objs++[.cells (wV (List.replicate N 0))],σ.toks⟩) ?_ ?_
 ·have b1:(N:Int)*4≤140737488355328:=by omega
  have b2:(N:Int)≤9223372036854775807:=by omega
  simp [evalE,Opd.ev,Env.get,b1,b2,repl_wV,Dn.newObj,St.place,St.push,St.spot]
 simp -implicitDefEqProofs [c36_k9,lenT,Dn.lenV,c36_k8]
 have hyl:y<σ.objs.length:=(List.getElem?_eq_some_iff.1 h.o).1
 have h00:New σ ⟨σ.objs++[.cells (wV (List.replicate N 0))],σ.toks⟩ (.sl σ.objs.length 0 N 1) (powTo L 0++List.replicate (N-0) 0):=by
  refine⟨?_,Fr.push1 _ _,fun r off n sz e=>by cases e; exact Nat.le_refl _,rfl⟩
  have:Ob ⟨σ.objs++[.cells (wV (List.replicate N 0))],σ.toks⟩ (.sl σ.objs.length 0 (List.replicate N (0:W32)).length 1) (List.replicate N 0):=.sl (by simp)
  rw [List.length_replicate] at this
  exact this
 refine wloopI (InvPw σ y L N) (m:=N) ⟨0,rfl,rfl,by omega,h00⟩ ?_
 rintro m e s ⟨i,rfl,rfl,hi,hN2⟩
 have hS:=h.fr hN2.fr
 rcases hin:decide ((i:Int)<N) with _ | _
 ·have hlt : ¬ (i:Int)<N:=of_decide_eq_false hin
  obtain rfl:i=N:=by omega
  rw [Nat.sub_self,List.replicate_zero,List.append_nil] at hN2
  obtain⟨d,b1,l1⟩:=hN2.ob.rd.byVal
  have hbn:V.byValN σ.objs.length s (.sl σ.objs.length 0 i 1)=some (.d d):=by
   simp only [V.byValN]
   rw [if_pos (Nat.le_refl _)]
   exact b1
  simp -implicitDefEqProofs [hlt,c36_l7,c36_k6,c36_k0,hbn]
  exact⟨hN2.fr.keeps (fun t k ht=>by rw [hN2.tk]; exact ht),d,rfl,by unfold powL; rw [hN]; exact l1⟩
 have hlt:(i:Int)<N:=of_decide_eq_true hin
 have hi2:i<N:=by omega
 have hset:=fun w=>hN2.set (i:=i) hi2 (by simp [powTo_len]; omega) w
 have hsv:=fun w=>wV_set (L:=powTo L i++List.replicate (N-i) 0) (i:=i) (by simp [powTo_len]; omega) w
 have hps:=fun w=>pow_set L hi2 w
 have hob:=hN2.obj.1
 have hlV:=wV_len (powTo L i++List.replicate (N-i) (0:W32))
 have hll:(powTo L i++List.replicate (N-i) (0:W32)).length=N:=by simp [powTo_len]; omega
 rw [hll] at hlV
 have ia:=fun s=>iaddr_sl s (q:=σ.objs.length) (n:=N) (i:=i) hi2
 have w9:IntKind.i64.wrap ((i:Int)+1)=((i+1:Nat):Int):=by rw [wrap_i64 (by omega) (by omega)]; omega
 have w2:IntKind.i64.wrap ((i:Int) / 2)=((i / 2:Nat):Int):=by
  rw [wrap_i64 (by omega) (by omega)]
  omega
 have hrem:(i:Int).tmod 2=((i % 2:Nat):Int):=rfl
 obtain⟨k,hk⟩ : ∃ k,i / 2=k:=⟨_,rfl⟩
 rw [hk] at w2
 have hi1:i+1≤N:=by omega
 by_cases hev:i % 2=0
 ·obtain⟨a,ha⟩ : ∃ a,L[k]?=some a:=⟨_,List.getElem?_eq_getElem (by omega)⟩
  obtain⟨ad,h1,h2⟩:=hS.r.at ha
  have hstep:powTo L (i+1)=powTo L i++[a]:=by
   simp only [powTo]
   rw [if_pos hev,hk,getD_at ha]
  have e0:((i % 2:Nat):Int)=0:=by omega
  have hs1:=hset a
  have hs2:=hsv a
  rw [hps,← hstep] at hs1 hs2
  generalize wV (powTo L i++List.replicate (N-i) (0:W32))=cs at *
  simp -implicitDefEqProofs [-loadAt,-splice,hlt,c36_l7,c36_k6,c36_k5,c36_k4,c36_k3,hrem,e0,hev,c36_k2,c36_k1]
  have hl0:loadAt s false 1 (.ref y 0)=some v:=by simp [loadAt,hS.o]
  simp -implicitDefEqProofs [-loadAt,-splice,nilCheckV,hl0,w2,h1,h2,ia,hob,hlV,hi1,hs2,w9]
  exact⟨N-(i+1),by omega,i+1,rfl,rfl,by omega,hs1⟩
 ·obtain⟨a,ha⟩ : ∃ a,(powTo L i)[k]?=some a:=⟨_,List.getElem?_eq_getElem (by rw [powTo_len]; omega)⟩
  have ha2:(powTo L i++List.replicate (N-i) (0:W32))[k]?=some a:=by rw [List.getElem?_append_left (by rw [powTo_len]; omega)]; exact ha
  have hat:=wV_at ha2
  have hstep:powTo L (i+1)=powTo L i++[Gf.mul a a]:=by
   simp only [powTo]
   rw [if_neg hev,hk,getD_at ha]
   rfl
  have e0 : ¬ (i:Int) % 2=0:=by omega
  have hs1:=hset (Gf.mul a a)
  have hs2:=hsv (Gf.mul a a)
  rw [hps,← hstep] at hs1 hs2
  have iak:=fun s=>iaddr_sl s (q:=σ.objs.length) (n:=N) (i:=k) (by omega)
  generalize wV (powTo L i++List.replicate (N-i) (0:W32))=cs at *
  simp -implicitDefEqProofs [hlt,c36_l7,c36_k6,c36_k5,c36_k4,c36_k3,hrem,e0,hev,c36_k2,w2,iak,hob,hat]
  refine use_fn rfl (s_Square a) rfl ?_
  simp -implicitDefEqProofs [-splice,ia,hob,hlV,hi1,hs2,w9]
  exact⟨N-(i+1),by omega,i+1,rfl,rfl,by omega,hs1⟩

open Gf (dg)

def osum (T:List W32)(k:Nat):W32:=lsum T fun x=>oddp x k
theorem acc_map (f:Nat→W32)(k:Nat) : ∀ (T:List W32),acc f (T.map un) k=f k^^^osum T k:=by
 intro T
 unfold acc osum
 generalize f k=a
 induction T generalizing a with
 | nil=>exact(Gf.x0 a).symm
 | cons x T ih =>
  simp only [List.map_cons,List.foldl_cons,lsum]
  rw [ih,wof_un,BitVec.xor_assoc]
theorem acc_osum (T:List W32):acc (fun _=>0) (T.map un)=osum T:=by
 funext k
 rw [acc_map]
 exact Gf.zx _
theorem uRows_map (T:List W32):uRows (T.map un)=pR T:=by
 unfold uRows pR
 rw [List.map_map]
 rfl
theorem un_bound (T:List W32) : ∀ i∈T.map un,0≤i∧i≤4294967295:=fun i hi=>by
 obtain⟨w,_,rfl⟩:=List.mem_map.1 hi
 have:=w.isLt
 simp only [un]
 omega
theorem un_zero_mem (T:List W32):(0:Int)∈T.map un↔(0:W32)∈T:=by
 constructor
 ·intro h
  obtain⟨w,hw,h0⟩:=List.mem_map.1 h
  have:=(un_zero_iff w).1 h0
  rwa [this] at hw
 ·intro h
  exact List.mem_map.2 ⟨0,h,rfl⟩
structure Valid (L T:List W32):Prop where
 nd:T.Nodup
 nz:(0:W32)∉T
 ln:T.length≤L.length
 sm : ∀ k,k<L.length→L.getD k 0=osum T k
theorem sq_npow (x:W32)(n:Nat):Gf.sq (Gf.npow x n)=Gf.npow x (2*n):=by
 unfold Gf.sq
 rw [← Gf.npow_add,Nat.two_mul]
theorem sq_lsum (f:W32→W32) : ∀ T:List W32,Gf.sq (lsum T f)=lsum T fun x=>Gf.sq (f x)
 | []=>Gf.sq_zero
 | x::T=>by simp only [lsum]; rw [Gf.sq_xor,sq_lsum f T]
theorem pows_of {L T:List W32}(h : ∀ k,k<L.length→L.getD k 0=osum T k) : ∀ n,n≤2*L.length→∀ i,i<n→(powTo L n).getD i 0=lsum T fun x=>Gf.npow x (i+1):=by
 intro n hn i
 induction i using Nat.strongRecOn generalizing n with
 | _ i ih =>
  intro hi
  rw [powTo_co L hi]
  split
  ·rename_i he
   rw [h _ (by omega)]
   unfold osum oddp
   rw [show 2*(i / 2)+1=i+1 by omega]
  ·rename_i he
   rw [ih (i / 2) (by omega) i (by omega) (by omega),sq_lsum]
   refine lsum_congr fun x _=>?_
   rw [sq_npow,show 2*(i / 2+1)=i+1 by omega]
theorem Valid.pows {L T:List W32}(h:Valid L T):Pows T (powL L):=fun i hi=>pows_of h.sm (2*L.length) (Nat.le_refl _) i (by
 unfold powL at hi
 rwa [powTo_len] at hi)
theorem Valid.rule {L T:List W32}(h:Valid L T):(ruleL (powL L)).reverse=Gf.prodL T :=
 rule_prod h.nd h.nz h.pows (by unfold powL; rw [powTo_len]; have:=h.ln; omega)
theorem Valid.unique {L T T':List W32}(h:Valid L T)(h':Valid L T'):T.Perm T':=by
 have e:Gf.prodL T=Gf.prodL T':=h.rule.symm.trans h'.rule
 refine(List.perm_ext_iff_of_nodup h.nd h'.nd).2 fun x=>?_
 rw [← Gf.ev_prodL (S:=T),e,Gf.ev_prodL]
theorem lsum_perm (f:W32→W32){T T':List W32}(h:T.Perm T'):lsum T f=lsum T' f:=by
 induction h with
 | nil=>rfl
 | cons x _ ih=>simp only [lsum]; rw [ih]
 | swap x y l=>simp only [lsum]; rw [← BitVec.xor_assoc,← BitVec.xor_assoc,BitVec.xor_comm (f y)]
 | trans _ _ h1 h2=>exact h1.trans h2
theorem Valid.perm {L T T':List W32}(h:Valid L T)(hp:T.Perm T'):Valid L T' :=
 ⟨hp.nodup_iff.1 h.nd,fun e=>h.nz (hp.mem_iff.2 e),by rw [← hp.length_eq]; exact h.ln,fun k hk=>by rw [h.sm k hk]; exact lsum_perm _ hp⟩
theorem odd_set : ∀ ids:List W32,∃ T:List W32,T.Nodup∧(∀ x∈T,x∈ids)∧T.length≤ids.length∧∀ f,lsum T f=lsum ids f
 | []=>⟨[],List.nodup_nil,by simp,Nat.le_refl _,fun _=>rfl⟩
 | x::ids=>by
  obtain⟨T,h1,h2,h3,h4⟩:=odd_set ids
  by_cases hx:x∈T
  ·have hp:=List.perm_cons_erase hx
   refine⟨T.erase x,h1.erase x,fun y hy=>List.mem_cons_of_mem _ (h2 y (List.mem_of_mem_erase hy)),?_,fun f=>?_⟩
   ·have:=hp.length_eq
    simp at this ⊢
    omega
   ·have:=lsum_perm f hp
    simp only [lsum] at this ⊢
    rw [← h4 f,this,← BitVec.xor_assoc,Gf.xs,Gf.zx]
  ·exact⟨x::T,List.nodup_cons.2 ⟨hx,h1⟩,fun y hy=>by
    rcases List.mem_cons.1 hy with rfl | hy
    ·simp
    ·exact List.mem_cons_of_mem _ (h2 y hy),by simp; omega,fun f=>by simp only [lsum]; rw [h4 f]⟩

theorem s_skPutZ {σ:St}{x:Nat}{v:V}{ids:List Int}(hv:LV v (uRows ids))(hz:(0:Int)∈ids)(hlen:ids.length≤1000) :
  Dn.Call Γ cx .raw 28 [.ref x 0,v] σ fun w s=>w=errV 1∧s=σ:=by
 refine Dn.Call.body (fc:=c28) rfl ?_
 have hdv:=hv.dv σ
 obtain⟨y,hy⟩:=hdv.2.2.1
 have hc:=s_Contains (x:=y) (L:=ids) (hy▸hdv.2.1) (h:=0) (by omega)
 have hcv:decide ((0:Int)∈ids)=true:=by simpa using hz
 rw [hcv] at hc
 simp -implicitDefEqProofs [c28,c28_k7,eqV,V.isNil,Opd.isC]
 refine use_fn (ds:=[.d y,X 0]) (by simp only [byVals,bv_d,hdv.1,hy]) hc (Bool.or_true _) ?_
 simp -implicitDefEqProofs [c28_k6,mkifV,errV]
theorem s_skNewZ {σ:St}{n:Nat}(h1:1≤n)(h2:n≤40){v:V}{ids:List Int}(hv:LV v (uRows ids))(hz:(0:Int)∈ids)(hlen:ids.length≤1000) :
  Dn.Call Γ cx .raw 11 [I n,v] σ fun w s=>w = .tup [.d .nilp,errV 1]∧Fr [] σ s∧s.toks=σ.toks:=by
 refine Dn.Call.body (fc:=c11) rfl ?_
 have l1 : ¬ (n:Int)<1:=by omega
 have l2 : ¬ (40:Int)<n:=by omega
 have l1':(1:Int)≤n:=by omega
 have l2':(n:Int)≤40:=by omega
 obtain⟨n1,hn1⟩ : ∃ n1:Int,(n:Int)=n1:=⟨_,rfl⟩
 simp -implicitDefEqProofs [c11,c11_k6,l1,l2,c11_k5]
 simp -implicitDefEqProofs [c11_k4]
 refine i_app_f (v:=.sl σ.objs.length 0 n 1) (s:=⟨σ.objs++[.cells (fnV n fun _=>0)],σ.toks⟩) ?_ ?_
 ·have hb:(n:Int)*4≤140737488355328:=by omega
  have hb2:(n:Int)≤9223372036854775807:=by omega
  have hr:repl n [.int .u32 0]=fnV n fun _=>0:=by
   rw [← zeros_fn]
   exact repl_one n
  simp [evalE,Opd.ev,Env.get,hb,hb2,hr,Dn.newObj,St.place,St.push,St.spot]
 simp -implicitDefEqProofs
 refine use_raw (s_skPutZ hv hz hlen) fun w s ⟨hw,hs⟩=>?_
 subst hw hs
 simp -implicitDefEqProofs [errV,eqV,V.isNil,Opd.isC,c11_k3,c11_k2,c11_k1]
 exact⟨by simp,fun q _ hq=>by simp only; rw [List.getElem?_append_left hq]⟩

open Gf (dg)

def decQ (L:List W32)(v:V):Prop:=(v = .tup [.d .nils,errV 13]∧∀ T,¬ Valid L T)∨(∃ d T,v = .tup [.d d,.d .nili]∧PL d T∧Valid L T∧T.Pairwise fun a b=>un a≤un b)
theorem dec_eq {σ s:St}{y x r:Nat}{v:V}{L ids:List W32}{d:D}(hy:SkR s y v L)(lL:L.length≤40)(hx:SkR s x (.sl r 0 L.length 1) (fnL L.length (osum ids)))(hf:Fr [] σ s)(ht:s.toks=σ.toks)(hok:fnL L.length (osum ids)=L→∃ T,PL d T∧Valid L T∧T.Pairwise fun a b=>un a≤un b)(hno:fnL L.length (osum ids)≠L→∀ T,¬ Valid L T) :
  wcode (Dn.Call Γ cx) cx c15_k2 [(0,.ref y 0),(5,.d d),(7,.ref x 0),(8,.d .nili)] s (endQ .raw σ c15.res fun w s=>decQ L w∧Fr [] σ s∧s.toks=σ.toks):=by
 obtain⟨d1,b1,l1⟩:=hx.r.byVal
 obtain⟨d2,b2,l2⟩:=hy.r.byVal
 have hlx:=fnL_len L.length (osum ids)
 simp only [c15_k2,w_seq,c15]
 refine w_drwX (fun _=>.val) [] (by decide +kernel) ?_
 simp only [room_zero]
 simp -implicitDefEqProofs [eqV,V.isNil,Opd.isC,nilCheckV,hx.o,hy.o]
 refine use_fnN (ds:=[.d d1,.d d2]) rfl (by simp only [byVals,b1,b2]) (s_Equal l1 l2 (by omega) (by omega)) (Bool.or_true _) ?_
 simp only [q_tcont,putE,Env.set]
 by_cases he:fnL L.length (osum ids)=L
 ·obtain⟨T,h1,h2,h3⟩:=hok he
  simp -implicitDefEqProofs [he,c15_k1,c15_k0]
  exact⟨.inr ⟨d,T,rfl,h1,h2,h3⟩,hf,ht⟩
 ·simp -implicitDefEqProofs [he,c15_k1,mkifV]
  exact⟨.inl ⟨rfl,hno he⟩,hf,ht⟩
theorem dec_err {σ s:St}{y:Nat}{L:List W32}{d:D}(hf:Fr [] σ s)(ht:s.toks=σ.toks)(hno : ∀ T,¬ Valid L T) :
  wcode (Dn.Call Γ cx) cx c15_k2 [(0,.ref y 0),(5,.d d),(7,.d .nilp),(8,.d (.iface 39 (.int .i64 1)))] s (endQ .raw σ c15.res fun w s=>decQ L w∧Fr [] σ s∧s.toks=σ.toks):=by
 simp only [c15_k2,w_seq,c15]
 refine w_drwX (fun _=>.val) [] (by decide +kernel) ?_
 simp only [room_zero]
 simp -implicitDefEqProofs [eqV,V.isNil,Opd.isC,nilCheckV,c15_k1,mkifV]
 exact⟨.inl ⟨rfl,hno⟩,hf,ht⟩
theorem s_Decode {σ:St}{y:Nat}{v:V}{L:List W32}(h:SkR σ y v L)(l1:1≤L.length)(l40:L.length≤40):Dn.Call Γ cx .raw 15 [.ref y 0] σ fun w s=>decQ L w∧Fr [] σ s∧s.toks=σ.toks:=by
 refine Dn.Call.body (fc:=c15) rfl ?_
 have hlv:=fun σ=>h.r.len σ
 have lp:(powL L).length=2*L.length:=powTo_len L _
 simp -implicitDefEqProofs [c15,c15_k12,eqV,V.isNil,Opd.isC,c15_k11,c15_k10]
 refine use_rd' (s_powers h (by omega)) fun w s ⟨d,hw,hd⟩=>?_
 subst hw
 simp -implicitDefEqProofs
 refine use_raw (s_Shortest hd (by omega)) fun w s ⟨r,hw,hN⟩=>?_
 have hrl:=ruleL_len (powL L)
 have hvr:=fun {T:List W32} (hT:Valid L T)=>hT.rule
 have hnb:=(runM_len (powL L) (powL L).length).2.2.2
 generalize ruleL (powL L)=R at *
 generalize (runM (powL L) (powL L).length).len=n at *
 subst hw
 have hS:=h.fr hN.fr
 have hob:=hN.obj.1
 have hlsl : ∀ σ m,lenT σ .slice (.sl r 0 m 1)=some m:=fun _ _=>rfl
 have w1:IntKind.i64.wrap (n:Int)=(n:Int):=wrap_i64 (by omega) (by omega)
 by_cases hgt:L.length<n
 ·have hgI:(L.length:Int)<n:=by omega
  simp -implicitDefEqProofs [c15_k9,nilCheckV,hS.o,hlv,hlsl,hrl,w1,hgI,hgt,c15_k8,mkifV]
  refine⟨.inl ⟨rfl,fun T hT=>?_⟩,hN.fr,hN.tk⟩
  have h2:=congrArg List.length (hvr hT)
  rw [List.length_reverse,hrl,Gf.prodL_len] at h2
  have:=hT.ln
  omega
 have hgI : ¬ (L.length:Int)<n:=by omega
 simp -implicitDefEqProofs [c15_k9,nilCheckV,hS.o,hlv,hlsl,hrl,w1,hgI,hgt,c15_k8,c15_k7]
 rw [← hrl]
 refine use_raw (s_Reverse hob (by omega)) fun w s2 ⟨ho2,hf2,ht2⟩=>?_
 have hrf:σ.objs.length≤r:=hN.nw _ _ _ _ rfl
 have hf2':Fr [] σ s2:=⟨Nat.le_trans hN.fr.len hf2.len,fun q _ hq=>by
  rw [hf2.at_ q (by simp; omega) (Nat.lt_of_lt_of_le hq hN.fr.len)]
  exact hN.fr.at_ q (by simp) hq⟩
 have hrv:R.reverse.length=R.length:=List.length_reverse
 have hlr:R.reverse.length=n+1:=by omega
 have hrow:V.rows s2 (.sl r 0 R.length 1)=some (pR R.reverse):=by
  rw [← hrv]
  exact(Rd.whole ho2).rows
 generalize R.reverse=P at *
 simp -implicitDefEqProofs [c15_k6]
 refine use_thaw (ds:=[.d (.list (pR P))]) (σ':=s2.setObj r .dead) (by simp only [thawV,hrow]) rfl rfl (s_Split (.list (pR P)) (by omega)) fun w s3 hw=>?_
 have hf3:Fr [] σ (s2.setObj r .dead):=⟨by simpa [St.setObj] using hf2'.len,fun q _ hq=>by
  simp only [St.setObj]
  rw [List.getElem?_set_ne (by omega)]
  exact hf2'.at_ q (by simp) hq⟩
 have ht3:(s2.setObj r .dead).toks=σ.toks:=ht2.trans hN.tk
 have hS3:=h.fr hf3
 generalize s2.setObj r .dead=s4 at *
 have dP:=Gf.dg_le P
 have hval : ∀ T,Valid L T→¬ badP P∧(foundP (linearP P)).Perm T∧dg P=T.length+1:=fun T hT=>by
  have hPT:P=Gf.prodL T:=hvr hT
  have hln:=hT.ln
  have hd:=Gf.prodL_dg T
  rw [hPT]
  refine⟨?_,found_prod hT.nd (by omega),hd⟩
  unfold badP
  omega
 rcases hw with⟨rfl,hbad⟩ | ⟨hnb2,d2,ids,rfl,hd2,hr2,hl2⟩
 ·refine⟨rfl,?_⟩
  simp -implicitDefEqProofs [c15_k5,c15_k4,mkifV]
  refine⟨.inl ⟨rfl,fun T hT=>?_⟩,hf3,ht3⟩
  obtain⟨v1,v2,v3⟩:=hval T hT
  rcases hbad with hb | hb
  ·exact v1 hb
  ·rw [v2.length_eq,v3] at hb
   exact hb rfl
 refine⟨rfl,?_⟩
 simp -implicitDefEqProofs [c15_k5,c15_k4,c15_k3,nilCheckV,hS3.o,hlv]
 have hidl:ids.length≤60:=hr2.2.2
 have hlvI:LV (.d d2) (uRows (ids.map un)):=by rw [uRows_map]; exact hd2
 have hvp : ∀ T,Valid L T→ids.Perm T:=fun T hT=>hr2.1.trans (hval T hT).2.1
 by_cases hz:(0:W32)∈ids
 ·refine use_raw (s_skNewZ l1 l40 hlvI ((un_zero_mem ids).2 hz) (by simp; omega)) fun w s5 ⟨hw,hf5,ht5⟩=>?_
  subst hw
  simp -implicitDefEqProofs [errV]
  exact dec_err (hf3.trans hf5) (ht5.trans ht3) fun T hT=>hT.nz ((hvp T hT).mem_iff.1 hz)
 refine use_raw (s_skNew l1 l40 hlvI (un_bound ids) (fun e=>hz ((un_zero_mem ids).1 e)) (by simp; omega)) fun w s5 ⟨hw,hSk,hf5,ht5⟩=>?_
 subst hw
 simp -implicitDefEqProofs
 rw [acc_osum] at hSk
 have hlS:=(List.getElem?_eq_some_iff.1 hSk.l).1
 refine dec_eq (hS3.fr hf5) l40 (hSk.toR (by omega)) (hf3.trans hf5) (ht5.trans ht3) (fun he=>?_) (fun he T hT=>?_)
 ·obtain⟨T0,t1,t2,t3,t4⟩:=odd_set ids
  have hsm : ∀ k,k<L.length→L.getD k 0=osum ids k:=fun k hk=>by
   have h6:=fnL_co (osum ids) hk
   rw [he] at h6
   exact h6
  have hT0:Valid L T0:=⟨t1,fun e=>hz (t2 0 e),by omega,fun k hk=>by rw [hsm k hk]; exact(t4 _).symm⟩
  exact⟨ids,hd2,hT0.perm (hvp T0 hT0).symm,hr2.2.1⟩
 ·apply he
  refine Gf.list_ext_co (fnL_len _ _) fun k hk=>?_
  rw [fnL_len] at hk
  rw [fnL_co _ hk,hT.sm k hk]
  exact lsum_perm _ (hvp T hT)

theorem s_WordsW {x y:D}{X Y:List W32}(hx:PL x X)(hy:PL y Y)(lX:X.length≤100000)(lY:Y.length≤100000):Dn.Call Γ cx .val 16 [.d x,.d y] St.empty fun v _=>v=B (decide (X=Y)):=by
 refine Dn.Call.body (fc:=c16) rfl ?_
 have hlx : ∀ σ,lenT σ .slice (.d x)=some X.length:=fun σ=>by rw [hx.len,pR_len]
 have hly : ∀ σ,lenT σ .slice (.d y)=some Y.length:=fun σ=>by rw [hy.len,pR_len]
 by_cases hl:X.length=Y.length
 rotate_left
 ·have hne:X≠Y:=fun e=>hl (by rw [e])
  have hlI : ¬ (X.length:Int)=Y.length:=by omega
  simp -implicitDefEqProofs [c16,c16_k9,hlx,hly,hl,hlI,c16_k8,hne]
 simp -implicitDefEqProofs [c16,c16_k9,hlx,hly,hl,c16_k8,c16_k7,c16_k6]
 refine wloopI (fun m e s=>InvEq x y X.length m e s∧∀ i,i+m<X.length→X.getD i 0=Y.getD i 0) (m:=X.length) ⟨⟨0,by rw [hl]; rfl,rfl,by omega,rfl⟩,fun i hi=>by omega⟩ ?_
 rintro m e s ⟨⟨i,rfl,rfl,hi,rfl⟩,hall⟩
 rcases hin:decide ((i:Int)<X.length) with _ | _
 ·have hlt : ¬ (i:Int)<X.length:=of_decide_eq_false hin
  have heq:X=Y:=Gf.list_ext_co hl fun j hj=>hall j (by omega)
  simp -implicitDefEqProofs [hlt,c16_l5,c16_k4,heq]
  omega
 have hlt:(i:Int)<X.length:=of_decide_eq_true hin
 obtain⟨a,ha⟩ : ∃ a,X[i]?=some a:=⟨_,List.getElem?_eq_getElem (by omega)⟩
 obtain⟨b,hb⟩ : ∃ b,Y[i]?=some b:=⟨_,List.getElem?_eq_getElem (by omega)⟩
 have hia:=fun σ=>hx.iaddr σ (k:=.i64) (sz:=1) (i:=i) (pR_at ha) rfl
 have hib:=fun σ=>hy.iaddr σ (k:=.i64) (sz:=1) (i:=i) (pR_at hb) rfl
 have w9:IntKind.i64.wrap ((i:Int)+1)=((i+1:Nat):Int):=by rw [wrap_i64 (by omega) (by omega)]; omega
 simp -implicitDefEqProofs [hlt,c16_l5,c16_k4,c16_k3,c16_k2,c16_k1]
 refine w_drwX (fun _=>.val) [] (by decide +kernel) ?_
 simp only [room_zero]
 simp -implicitDefEqProofs [hia,hib]
 by_cases hab:a=b
 ·subst hab
  simp -implicitDefEqProofs [c16_k0,w9]
  refine⟨X.length-(i+1),by omega,⟨i+1,rfl,rfl,by omega,rfl⟩,fun j hj=>?_⟩
  by_cases hji:j=i
  ·subst hji
   have e1:=getD_at ha
   have e2:=getD_at hb
   rw [List.getD_eq_getElem?_getD] at e1 e2
   exact e1.trans e2.symm
  ·have:=hall j (by omega)
   rw [List.getD_eq_getElem?_getD,List.getD_eq_getElem?_getD] at this
   exact this
 ·have hu : ¬ un a=un b:=fun e=>hab (by rw [← wof_un a,e,wof_un])
  have hne:X≠Y:=fun e=>hab (by rw [e,hb] at ha; exact(Option.some.inj ha).symm)
  simp -implicitDefEqProofs [hu,c16_k0,hne]
theorem errV_bv (c:Int)(s:St):V.byVal s (errV c)=some (errV c):=by
 unfold errV
 split <;> rfl
theorem s_Is (c k:Int):Dn.Call Γ cx .val 17 [errV c,I k] St.empty fun v _=>v=B (decide (c=k)):=by
 refine Dn.Call.body (fc:=c17) rfl ?_
 simp -implicitDefEqProofs [c17,c17_k0]
 refine use_fn (ds:=[errV c]) (by simp only [byVals,errV_bv]) (s_Num c) (Bool.or_true _) ?_
 simp -implicitDefEqProofs
def bL (L:List W32):List UInt8:=skB (fun i=>L.getD i 0) L.length
theorem pR_w (L:List W32):pR L=wRows (fun i=>L.getD i 0) L.length:=by
 apply List.ext_getElem?
 intro i
 by_cases h:i<L.length
 ·rw [wRows_at _ h,pR_at (w:=L.getD i 0) (by rw [List.getD_eq_getElem?_getD,List.getElem?_eq_getElem h]; rfl)]
 ·rw [List.getElem?_eq_none (by rw [pR_len]; omega),List.getElem?_eq_none (by rw [wRows_len]; omega)]
def InvSbR (σ:St)(v0:V)(L:List W32)(m:Nat)(e:Env)(s:St):Prop:=∃ (i:Nat)(v:V),e=[(3,v),(7,v0),(8,I L.length),(9,I i)]∧m=L.length-i∧i≤L.length∧Two σ s 1 1 v (.d .nils) (byteRows (skB (fun i=>L.getD i 0) i)) []
def InvSb2R (σ:St)(v0:V)(L:List W32)(i:Nat)(m:Nat)(e:Env)(s:St):Prop:=∃ (k:Nat)(v:V),e=[(3,v),(5,Xw (L.getD i 0)),(7,v0),(8,I L.length),(9,I i),(13,I k)]∧m=4-k∧k≤4∧Two σ s 1 1 v (.d .nils) (byteRows (skB (fun i=>L.getD i 0) i++(le4 (L.getD i 0)).take k)) []
theorem s_bytesR {σ:St}{v0:V}{L:List W32}(h:Rd σ v0 L)(hn:L.length≤1000):Dn.Call Γ cx .rd 41 [v0] σ fun v _=>∃ d,v = .d d∧LV (.d d) (byteRows (bL L)):=by
 refine Dn.Call.body (fc:=c41) rfl ?_
 have hlv:=fun σ=>h.len σ
 simp -implicitDefEqProofs [c41,c41_k13,c41_k12,hlv,c41_k11]
 refine wloopI (InvSbR σ v0 L) (m:=L.length) ⟨0,_,rfl,rfl,by omega,Two.nil σ 1 1⟩ ?_
 rintro m e s ⟨i,v,rfl,rfl,hi,hT⟩
 have hrd:Rd s v0 L:=h.fr hT.fr
 rcases hin:decide ((i:Int)<L.length) with _ | _
 ·have hlt : ¬ (i:Int)<L.length:=of_decide_eq_false hin
  obtain rfl:i=L.length:=by omega
  have hdv:=hT.pa.lv.dv s
  obtain⟨d,hd⟩:=hdv.2.2.1
  simp -implicitDefEqProofs [hlt,c41_l10,c41_k9,c41_k0,hT.pa.lv.byValN,hdv.1]
  exact⟨hT.keeps,d,hd,hd▸hdv.2.1⟩
 have hlt:(i:Int)<L.length:=of_decide_eq_true hin
 obtain⟨w,hw⟩ : ∃ w,L[i]?=some w:=⟨_,List.getElem?_eq_getElem (by omega)⟩
 obtain⟨ad,ha1,ha2⟩:=hrd.at hw
 have hgw:L.getD i 0=w:=getD_at hw
 have w9:IntKind.i64.wrap ((i:Int)+1)=((i+1:Nat):Int):=by rw [wrap_i64 (by omega) (by omega)]; omega
 simp -implicitDefEqProofs [-loadAt,hlt,c41_l10,c41_k9,c41_k8,ha1,ha2,c41_k7,c41_k6]
 refine wloopI (InvSb2R σ v0 L i) (m:=4) ⟨0,v,by rw [hgw]; rfl,rfl,by omega,by simpa using hT⟩ ?_
 rintro m e s2 ⟨k,v2,rfl,rfl,hk,hT2⟩
 rw [hgw] at hT2 ⊢
 by_cases hk4:k<4
 rotate_left
 ·obtain rfl:k=4:=by omega
  simp -implicitDefEqProofs [c41_l5,c41_k4,w9]
  refine⟨L.length-(i+1),by omega,i+1,v2,rfl,rfl,by omega,?_⟩
  have:skB (fun i=>L.getD i 0) (i+1)=skB (fun i=>L.getD i 0) i++(le4 w).take 4:=by
   simp only [skB,hgw]
   rfl
  rw [this]
  exact hT2
 have hkk:(k:Int)<4:=by omega
 have h8:IntKind.i64.wrap (8*(k:Int))=((8*k:Nat):Int):=by rw [wrap_i64 (by omega) (by omega)]; omega
 have hsr:=shr_32 w (8*k) (by omega)
 have hc8:IntKind.u8.wrap (un (w >>> (8*k)))=((bt w k).toNat:Int):=by
  have:=wrap_u8n (w >>> (8*k)).toNat
  simp only [un] at this ⊢
  rw [this]
  simp [bt]
 have hle:(le4 w).take (k+1)=(le4 w).take k++[bt w k]:=by
  match k,hk4 with
  | 0,_ | 1,_ | 2,_ | 3,_=>rfl
 have hln:=skB_len (fun i=>L.getD i 0) i
 have hlt4:(byteRows (skB (fun i=>L.getD i 0) i++(le4 w).take k)).length≤4*i+4:=by
  rw [byteRows_len,List.length_append,List.length_take,hln]
  omega
 obtain⟨v3,s3,hap,hT3,ho3⟩:=hT2.push (bytes:=1) (by decide) (byteRows_fit _) (y:=[.int .u8 (bt w k).toNat]) rfl (by have:=hlt4; omega) (by have:=hlt4; omega)
 rw [show byteRows (skB (fun i=>L.getD i 0) i++(le4 w).take k)++[[.int .u8 (bt w k).toNat]]=byteRows (skB (fun i=>L.getD i 0) i++(le4 w).take (k+1)) by rw [hle,← List.append_assoc,byteRows_app _ [bt w k]]; rfl] at hT3
 obtain⟨k8,hk8⟩ : ∃ k8,8*k=k8:=⟨_,rfl⟩
 rw [hk8] at h8 hsr hc8
 clear hk4
 simp -implicitDefEqProofs [hkk,c41_l5,c41_k4,c41_k3,c41_k2,c41_k1,h8,hsr,hc8,repl,rowsOf,frzV]
 refine i_app_f (v:=v3) (s:=s3) ?_ ?_
 ·simp -implicitDefEqProofs [V.rows]
  exact hap none
 simp -implicitDefEqProofs [wrap_i64 (n:=(k:Int)+1) (by omega) (by omega)]
 exact⟨4-(k+1),by omega,k+1,v3,by rw [hgw]; rfl,rfl,by omega,by rw [hgw]; exact hT3⟩
theorem s_bytesOfR {σ:St}{y:Nat}{v:V}{L:List W32}(h:SkR σ y v L)(hn:L.length≤1000):Dn.Call Γ cx .rd 18 [.ref y 0] σ fun v _=>∃ d,v = .d d∧LV (.d d) (byteRows (bL L)):=by
 refine Dn.Call.body (fc:=c18) rfl ?_
 simp -implicitDefEqProofs [c18,c18_k2,eqV,V.isNil,Opd.isC,c18_k1,c18_k0,nilCheckV,h.o]
 refine use_rd' (s_bytesR h.r hn) fun v s ⟨d,hv,hd⟩=>?_
 subst hv
 simp -implicitDefEqProofs
 exact⟨⟨fun i hi=>rfl,fun t k ht=>ht⟩,hd⟩
theorem s_rBytesL {x:D}{L:List W32}(hn:L.length≤1000)(hx:PL x L):Dn.Call Γ cx .val 20 [.d x] St.empty fun v _=>∃ d,v = .d d∧LV (.d d) (byteRows (bL L)) :=
 s_rBytes hn (by rw [← pR_w]; exact hx)
theorem conv_bytes {σ:St}{d:D}{l:List UInt8}(h:LV (.d d) (byteRows l)):evalConv σ .bytesStr (.d d)=some (.d (.str l)):=by
 simp only [evalConv,h.rows σ,rowBytes_byteRows]

theorem Valid.sorted_unique {L T T':List W32}(h:Valid L T)(h':Valid L T')(s:T.Pairwise fun a b=>un a≤un b)(s':T'.Pairwise fun a b=>un a≤un b):T=T' :=
 List.Perm.eq_of_pairwise (le:=fun a b=>un a≤un b) (fun a b _ _ h1 h2=>by rw [← wof_un a,← wof_un b,show un a=un b by omega]) s s' (h.unique h')
theorem alive_valid:Valid (fnL 2 (osum [1#32,2#32])) [1#32,2#32]:=⟨by decide,by decide,by rw [fnL_len]; simp,fun k hk=>by
 rw [fnL_len] at hk
 rw [fnL_co _ hk]⟩
theorem alive_bytes:bL (fnL 2 (osum [1#32,2#32]))=[3,0,0,0,9,0,0,0]:=by decide +kernel
theorem s_alive:Dn.Call Γ cx .val 9 [] St.empty fun v _=>v=B true:=by
 refine Dn.Call.body (fc:=c9) rfl ?_
 have hids:[1#32,2#32].map un=[1,2]:=rfl
 have hur:uRows [1,2]=[[.int .u32 1],[.int .u32 2]]:=rfl
 simp -implicitDefEqProofs [c9,c9_k4,isObj,repl,rowsOf,frzV]
 refine use_raw (s_skNew (n:=2) (ids:=[1,2]) (by omega) (by omega) (v:=.fl [[.int .u32 1],[.int .u32 2]]) (.fl _) (by simp) (by simp) (by simp)) fun w s ⟨hw,hSk,hf,ht⟩=>?_
 subst hw
 rw [← hids,acc_osum] at hSk
 have hR:=hSk.toR (by omega)
 simp at hR
 simp -implicitDefEqProofs [c9_k3,eqV,V.isNil,Opd.isC,c9_k2,c9_k1]
 refine use_raw (s_Decode hR (by rw [fnL_len]; omega) (by rw [fnL_len]; omega)) fun w s2 ⟨hd,hf2,ht2⟩=>?_
 have hR2:=hR.fr hf2
 rcases hd with⟨-,h1⟩ | ⟨d,T,rfl,h1,h2,h3⟩
 ·exact absurd alive_valid (h1 _)
 have hT:=h2.sorted_unique alive_valid h3 (by decide)
 subst hT
 have hw:=s_WordsW (X:=[1#32,2#32]) (Y:=[1#32,2#32]) (y:=.list [[.int .u32 1],[.int .u32 2]]) h1 (.list _) (by simp) (by simp)
 simp at hw
 simp -implicitDefEqProofs [c9_k0,eqV,V.isNil,Opd.isC,isObj,repl,rowsOf,frzV]
 refine use_fn (ds:=[.d d,.d (.list [[.int .u32 1],[.int .u32 2]])]) rfl hw rfl ?_
 simp -implicitDefEqProofs
 refine use_rd' (s_bytesOfR hR2 (by rw [fnL_len]; omega)) fun w s3 ⟨x,hw,hx⟩=>?_
 subst hw
 rw [alive_bytes] at hx
 have hcv:=fun σ=>conv_bytes (σ:=σ) hx
 simp -implicitDefEqProofs [-evalConv,hcv,strBin]
end Go.Proofs.Ytmlkdfjojoophaa.T

namespace Go.Proofs.Ytmlkdfjojoophaa.T
open Go.Dn
set_option linter.unusedSimpArgs false

abbrev wordsK:Lk:=.list [.int .u32]
theorem words_fit {d:D}(h:wordsK.fits d) : ∃ L:List W32,PL d L:=by
 simp only [Lk.fits] at h
 rcases h with rfl | ⟨rows,rfl,-,hr⟩
 ·exact⟨[],.nil⟩
 ·have : ∀ rows:List (List D),(∀ row∈rows,Lks [.int .u32] row)→∃ L:List W32,rows=pR L:=by
   intro rows
   induction rows with
   | nil=>exact fun _=>⟨[],rfl⟩
   | cons r rows ih =>
    intro h
    obtain⟨L,rfl⟩:=ih fun row hr=>h row (by simp [hr])
    have h0:=h r (by simp)
    simp only [Lks,Lk.fits] at h0
    obtain⟨d,_,rfl,⟨n,rfl,h1,h2⟩,rfl⟩:=h0
    have e1:IntKind.u32.min=0:=rfl
    have e2:IntKind.u32.max=4294967295:=rfl
    refine⟨wof n::L,?_⟩
    simp only [pR,List.map_cons]
    rw [un_wof (by omega) (by omega)]
  obtain⟨L,rfl⟩:=this rows hr
  exact⟨L,.list _⟩
end Go.Proofs.Ytmlkdfjojoophaa.T
