import Derived.Test.YtmlkdfjojoophaaE8
namespace Go.Proofs.Ytmlkdfjojoophaa.T
open Go.Dn
attribute [local simp] body_eq globEnv GB List.map_nil List.map_cons List.append_nil w_rangeF i_next i_makeMap i_range i_update i_delete i_entry i_clone entryV cloneV q_rndA q_rndB_n q_rndB_e q_rndB_r setAll w_skip w_ops w_seq w_cond w_block w_exit w_ret q_then_n q_then_e q_then_r q_blk_n q_blk_e q_blk_r q_ops q_cont q_end_n q_end_r q_end_e q_loop_n q_loop_e q_loop_r i_nil i_p i_alloc i_box i_store i_copy i_clear i_call i_callv i_when t_nil t_p t_call t_alloc t_box t_store kept_nil t_copy t_clear q_tcont gsel List.cons_append List.nil_append evalP evalE evalF evalB isObj thaw Opd.ev Env.get Env.set Env.pick putE initEnv evalBin intBin evalUn evalConv goneAll goneOne retV resAll Res.ev tupOf byVals byValsN bv_d bv_da bv_fl bv_tl bn_d bn_da bn_fl bn_tl cx Dn.newObj St.place St.push St.spot St.empty cell_d cell_da cell_agg cell_ref cell_sl cell_fl cell_tl cell_map cell_fn cell_ifc loadAt faddrV partOf extractV mkAgg ofD splice St.setObj fillV
set_option linter.unusedSimpArgs false

open Go.Sort (swp PermIn SortedIn Below partition partitionEqual choosePivot breakPatterns bitsLen Hint)

theorem nw_to {σ s s1:St}{q:Nat}{d:Array Int}(h:To σ q d s)(hn:Nw s s1):To σ q d s1:=⟨hn.fr.get h.obj (by simp),h.fr.trans (hn.fr.mono (by simp)),hn.tk.trans h.tk⟩

theorem st21 {σ:St}{q n a b l lim:Nat}{d d3:Array Int}{wb wp:Bool}{Q1:PostC}{s:St}{tl:Env}(htl:tl=[]∨tl=[(35,B false)])(hR:Rnd σ q n a b d Q1)(ih:Ih q n (b-a))(hto:To σ q d3 s)(hn3:d3.size=n)(hP:PermIn a b d d3)(hB:Below lt a b d3)
  (hl:b-a=l) (hN:n≤90) (hb:b≤n) (hab:a<b) (hlim:lim≤1000) :
  wcode (Dn.Call Γ cx) cx c114_k21 ((0,.sl q 0 n 1)::(1,I a)::(2,I b)::(3,I lim)::(8,B wb)::(9,B wp)::(10,I l)::tl) s (blkQ 1 Q1):=by
 have hcp:=Go.Sort.choosePivot_holds lt d3 a b hab
 have step:=s_choose hto.at hn3 hab hb (by omega)
 rcases hc:choosePivot lt d3 a b with⟨pv,h⟩
 rw [hc] at hcp step
 simp only at hcp
 rcases htl with rfl | rfl
 all_goals
  simp -implicitDefEqProofs [c114_k21]
  refine use_raw step fun v s4 ⟨hv,hnw⟩=>?_
  have ht4:=nw_to hto hnw
  subst hv
  simp -implicitDefEqProofs [c114_k20]
  by_cases hd:h = .decreasing
  ·subst hd
   have hrv:=s_reverse ht4.at hn3 hab hb (by omega)
   have hpr:=Go.Sort.reverseRange_holds d3 a b (by omega) (by omega)
   have e1:IntKind.i64.wrap ((b:Int)-1)=((b-1:Nat):Int):=by rw [wrap_i64 (by omega) (by omega)]; omega
   have e2:IntKind.i64.wrap ((pv:Int)-a)=((pv-a:Nat):Int):=by rw [wrap_i64 (by omega) (by omega)]; omega
   have e3:IntKind.i64.wrap (((b-1:Nat):Int)-((pv-a:Nat):Int))=((b-1-(pv-a):Nat):Int):=by rw [wrap_i64 (by omega) (by omega)]; omega
   obtain⟨x,hx⟩ : ∃ x,b-1=x:=⟨_,rfl⟩
   obtain⟨y,hy⟩ : ∃ y,pv-a=y:=⟨_,rfl⟩
   obtain⟨z,hz⟩ : ∃ z,x-y=z:=⟨_,rfl⟩
   rw [hx] at e1 e3
   rw [hy] at e2 e3
   rw [hz] at e3
   have hb3:b≤d3.size:=by omega
   simp -implicitDefEqProofs [hintN,c114_k19,c114_k18]
   refine use_raw hrv fun v s5 ht5=>?_
   simp -implicitDefEqProofs [c114_k17,e1,e2,e3]
   exact st16 (.inl rfl) hR ih (ht4.trans ht5) (by rw [hpr.1,hn3]) (Go.Sort.permIn_trans _ _ _ a b hP hpr) (hB.perm hb3 hpr) hl hN hb (by omega) (by omega) hlim
  ·have hh : ¬ hintN h=2:=by cases h <;> simp [hintN] at hd ⊢
   simp -implicitDefEqProofs [hh,c114_k19]
   exact st16 (.inr rfl) hR ih ht4 hn3 hP hB hl hN hb hcp.1 hcp.2 hlim

theorem st29 {σ:St}{q n a b lim:Nat}{d:Array Int}{wb wp:Bool}{Q1:PostC}(hR:Rnd σ q n a b d Q1)(ih:Ih q n (b-a))(hat:At σ q d)(hn:d.size=n)(hB:Below lt a b d)
  (hN:n≤90) (hb:b≤n) (hab:a≤b) (hlim:lim≤1000) :
  wcode (Dn.Call Γ cx) cx c114_k29 [(0,.sl q 0 n 1),(1,I a),(2,I b),(3,I lim),(8,B wb),(9,B wp)] σ (blkQ 1 Q1):=by
 obtain⟨l,hl⟩ : ∃ l,b-a=l:=⟨_,rfl⟩
 have e0:IntKind.i64.wrap ((b:Int)-a)=(l:Int):=by rw [wrap_i64 (by omega) (by omega)]; omega
 simp -implicitDefEqProofs [c114_k29,e0,c114_k28]
 by_cases h12:l≤12
 ·have h12':(l:Int)≤12:=by omega
  have hin:=Go.Sort.insertionSort_holds swo d a b hab (by omega)
  simp -implicitDefEqProofs [h12',c114_k27]
  refine use_raw (s_ins hat hn hab hb (by omega)) fun v s ht=>?_
  simp -implicitDefEqProofs
  exact hR.ret _ _ _ ht hin.1 hin.2
 have h12' : ¬ (l:Int)≤12:=by omega
 simp -implicitDefEqProofs [h12',c114_k27,c114_k26]
 by_cases h0:lim=0
 ·subst h0
  have hin:=Go.Sort.heapSort_holds swo d a b hab (by omega)
  simp -implicitDefEqProofs [c114_k25]
  refine use_raw (s_heap hat hn hab hb (by omega)) fun v s ht=>?_
  simp -implicitDefEqProofs
  exact hR.ret _ _ _ ht hin.1 hin.2
 have h0' : ¬ (lim:Int)=0:=by omega
 simp -implicitDefEqProofs [h0',h0,c114_k25,c114_k24]
 have hlt:a<b:=by omega
 cases wb with
 | false =>
  have hpb:=Go.Sort.breakPatterns_holds (α:=Int) d a b hab (by omega)
  have e1:IntKind.i64.wrap ((lim:Int)-1)=((lim-1:Nat):Int):=by rw [wrap_i64 (by omega) (by omega)]; omega
  obtain⟨l1,hl1⟩ : ∃ l1,lim-1=l1:=⟨_,rfl⟩
  rw [hl1] at e1
  have hb3:b≤d.size:=by omega
  simp -implicitDefEqProofs [c114_k23]
  refine use_raw (s_break hat hn hab hb hN) fun v s ht=>?_
  simp -implicitDefEqProofs [c114_k22,e1]
  exact st21 (.inl rfl) hR ih ht (by rw [hpb.1,hn]) hpb (hB.perm hb3 hpb) hl hN hb hlt (by omega)
 | true =>
  simp -implicitDefEqProofs [c114_k23]
  exact st21 (.inr rfl) hR ih (To.refl hat) hn (Go.Sort.permIn_refl _ _ _) hB hl hN hb hlt hlim

def InvPq (σ0:St)(q n a0 b0:Nat)(d0:Array Int)(m:Nat)(e:Env) (σ:St):Prop:=∃ (a b l:Nat)(wb wp:Bool)(d:Array Int),e=[(0,.sl q 0 n 1),(1,I a),(2,I b),(3,I l),(8,B wb),(9,B wp)]∧b-a=m∧To σ0 q d σ∧a≤b∧b≤n∧b-a≤b0-a0∧d.size=n∧l≤1000∧Below lt a b d ∧
  (∀ R,PermIn a b d R→SortedIn lt a b R→PermIn a0 b0 d0 R∧SortedIn lt a0 b0 R)

theorem s_pdq {q n:Nat}(hN:n≤90) : ∀ m,Ih q n m:=by
 intro m
 induction m with
 | zero=>intro σ a b l d h; omega
 | succ m ihm =>
  intro σ a b l d hlt hat hn hab hb hlim hB
  refine Dn.Call.body (fc:=c114) rfl ?_
  simp -implicitDefEqProofs [c114,c114_k32,c114_k31]
  refine wloopI (InvPq σ q n a b d) (m:=b-a) ⟨a,b,l,true,true,d,rfl,rfl,To.refl hat,hab,hb,Nat.le_refl _,hn,hlim,hB,fun R h1 h2=>⟨h1,h2⟩⟩ ?_
  rintro m' e s ⟨a1,b1,l1,wb,wp,d1,rfl,rfl,ht1,hab1,hb1,hle,hn1,hl1,hB1,hfin⟩
  simp only [body_eq,globEnv,GB,List.map_nil,List.map_cons,List.append_nil,w_rangeF,i_next,i_makeMap,i_range,i_update,i_delete,i_entry,i_clone,entryV,cloneV,q_rndA,q_rndB_n,q_rndB_e,q_rndB_r,setAll,w_skip,w_ops,w_seq,w_cond,w_block,w_exit,w_ret,q_then_n,q_then_e,q_then_r,q_blk_n,q_blk_e,q_blk_r,q_ops,q_cont,q_end_n,q_end_r,q_end_e,q_loop_n,q_loop_e,q_loop_r,i_nil,i_p,i_alloc,i_box,i_store,i_copy,i_clear,i_call,i_callv,i_when,t_nil,t_p,t_call,t_alloc,t_box,t_store,kept_nil,t_copy,t_clear,q_tcont,gsel,List.cons_append,List.nil_append,evalP,evalE,evalF,evalB,isObj,thaw,Opd.ev,Env.get,Env.set,Env.pick,putE,initEnv,evalBin,intBin,evalUn,evalConv,goneAll,goneOne,retV,resAll,Res.ev,tupOf,byVals,byValsN,bv_d,bv_da,bv_fl,bv_tl,bn_d,bn_da,bn_fl,bn_tl,cx,Dn.newObj,St.place,St.push,St.spot,St.empty,cell_d,cell_da,cell_agg,cell_ref,cell_sl,cell_fl,cell_tl,cell_map,cell_fn,cell_ifc,loadAt,faddrV,partOf,extractV,mkAgg,ofD,splice,St.setObj,fillV,c114_l30]
  refine st29 ⟨fun e s2 R hR p1 p2=>?_,fun a' b' l' wb' wp' d' s2 ht2 h1 h2 h3 h4 h5 h6 h7=>?_⟩ (fun σ' a' b' l' d' h=>ihm σ' a' b' l' d' (by omega)) ht1.at hn1 hB1 hN hb1 hab1 hl1
  ·simp -implicitDefEqProofs
   exact⟨R,ht1.trans hR,(hfin R p1 p2).1,(hfin R p1 p2).2⟩
  ·simp only [body_eq,globEnv,GB,List.map_nil,List.map_cons,List.append_nil,w_rangeF,i_next,i_makeMap,i_range,i_update,i_delete,i_entry,i_clone,entryV,cloneV,q_rndA,q_rndB_n,q_rndB_e,q_rndB_r,setAll,w_skip,w_ops,w_seq,w_cond,w_block,w_exit,w_ret,q_then_n,q_then_e,q_then_r,q_blk_n,q_blk_e,q_blk_r,q_ops,q_cont,q_end_n,q_end_r,q_end_e,q_loop_n,q_loop_e,q_loop_r,i_nil,i_p,i_alloc,i_box,i_store,i_copy,i_clear,i_call,i_callv,i_when,t_nil,t_p,t_call,t_alloc,t_box,t_store,kept_nil,t_copy,t_clear,q_tcont,gsel,List.cons_append,List.nil_append,evalP,evalE,evalF,evalB,isObj,thaw,Opd.ev,Env.get,Env.set,Env.pick,putE,initEnv,evalBin,intBin,evalUn,evalConv,goneAll,goneOne,retV,resAll,Res.ev,tupOf,byVals,byValsN,bv_d,bv_da,bv_fl,bv_tl,bn_d,bn_da,bn_fl,bn_tl,cx,Dn.newObj,St.place,St.push,St.spot,St.empty,cell_d,cell_da,cell_agg,cell_ref,cell_sl,cell_fl,cell_tl,cell_map,cell_fn,cell_ifc,loadAt,faddrV,partOf,extractV,mkAgg,ofD,splice,St.setObj,fillV]
   refine⟨b'-a',h3,a',b',l',wb',wp',d',rfl,rfl,ht1.trans ht2,h1,h2,by omega,h4,h5,h6,fun R p1 p2=>?_⟩
   obtain⟨k1,k2⟩:=h7 R p1 p2
   exact hfin R k1 k2

theorem s_Sort {σ:St}{q n:Nat}{d:Array Int}(h:At σ q d)(hn:d.size=n)(hN:n≤90) :
  Dn.Call Γ cx .raw 96 [.sl q 0 n 1] σ fun _ s=>∃ R,To σ q R s∧PermIn 0 n d R∧SortedIn lt 0 n R:=by
 refine Dn.Call.body (fc:=c96) rfl ?_
 have u1:IntKind.u64.wrap (n:Int)=n:=wrap_u64 (by omega) (by omega)
 have hbl:=bits_256 ⟨n,by omega⟩
 simp only at hbl
 simp -implicitDefEqProofs [c96,lenT,Dn.lenV,c96_k0,u1]
 refine use_fn rfl (s_Len (x:=n) (by omega)) rfl ?_
 simp -implicitDefEqProofs
 refine use_raw (s_pdq hN (n+1) σ 0 n (bitsLen n) d (by omega) h hn (by omega) (by omega) (by omega) (.inl rfl)) fun v s hR=>?_
 simp -implicitDefEqProofs
 exact hR

abbrev Ent:=Nat×V×V
structure Bn (es:List Ent)(clock:Nat):Prop where
 nd:(es.map (·.1)).Nodup
 lt : ∀ x∈es,x.1<clock

def Col (lo:Nat)(s:St)(v:V)(l:List Int):Prop:=(l=[]∧v = .d .nils)∨∃ r,v = .sl r 0 l.length 1∧lo≤r∧s.objs[r]?=some (.cells (l.map X))∧l≠[]

theorem Col.push {lo:Nat}{s:St}{v:V}{l:List Int}(h:Col lo s v l)(hl:l.length≤1000000)(hlo:lo≤s.objs.length)(k:Int) : ∃ v' s',appendM s none 1 4 v [[.int .u32 k]]=some (v',s')∧Col lo s' v' (l++[k])∧(∀ r,r<lo→s'.objs[r]?=s.objs[r]?)∧s.objs.length≤s'.objs.length∧s'.toks=s.toks:=by
 rcases h with⟨rfl,rfl⟩ | ⟨r,rfl,hr,ho,hne⟩
 ·refine⟨.sl s.objs.length 0 1 1,⟨s.objs++[.cells [X k]],s.toks⟩,by simp [appendM,fitR,newObj,St.place,St.push,St.spot],.inr ⟨s.objs.length,rfl,hlo,by simp,by simp⟩,fun r hr=>by simp only; rw [List.getElem?_append_left (by omega)],by simp,rfl⟩
 ·have hrl:r<s.objs.length:=(List.getElem?_eq_some_iff.1 ho).1
  have hpos:0<l.length:=List.length_pos_iff.2 hne
  have etk:(l.map X).take l.length=l.map X:=List.take_of_length_le (by simp)
  refine⟨.sl s.objs.length 0 (l.length+1) 1,⟨(s.objs.set r .dead)++[.cells (l.map X++[X k])],s.toks⟩,?_,.inr ⟨s.objs.length,by simp,hlo,by simp [List.getElem?_append],by simp⟩,fun r' hr'=>?_,by simp,rfl⟩
  ·simp only [appendM,ho,fitR,List.length_map,List.drop_zero,Nat.mul_one,etk]
   simp [newObj,St.place,St.push,St.spot,St.setObj,hpos,show(l.length+1)*4≤140737488355328 by omega,show l.length+1≤9223372036854775807 by omega]
  ·simp only
   rw [List.getElem?_append_left (by simp; omega),List.getElem?_set_ne (by omega)]

open Go.Sort (PermIn SortedIn)

theorem s_Sort0 {σ:St}:Dn.Call Γ cx .raw 96 [.d .nils] σ fun _ s=>s=σ:=by
 refine Dn.Call.body (fc:=c96) rfl ?_
 simp -implicitDefEqProofs [c96,lenT,Dn.lenV,c96_k0]
 refine use_fn rfl (s_Len (x:=0) (by omega)) rfl ?_
 simp -implicitDefEqProofs
 have hins:Dn.Call Γ cx .raw 122 [.d .nils,I 0,I 0] σ fun _ s=>s=σ:=by
  refine Dn.Call.body (fc:=c122) rfl ?_
  simp -implicitDefEqProofs [c122,wrap_i64 (n:=1) (by omega) (by omega),c122_k10]
  refine wloopI (fun m e s=>e=[(0,.d .nils),(1,I 0),(2,I 0),(6,I 1)]∧s=σ) (m:=0) ⟨rfl,rfl⟩ ?_
  rintro m e s ⟨rfl,rfl⟩
  simp -implicitDefEqProofs [c122_l9,c122_k8]
 have hp:Dn.Call Γ cx .raw 114 [.d .nils,I 0,I 0,I (Go.Sort.bitsLen 0)] σ fun _ s=>s=σ:=by
  refine Dn.Call.body (fc:=c114) rfl ?_
  have e0:IntKind.i64.wrap 0=0:=rfl
  simp -implicitDefEqProofs [c114,c114_k32,c114_k31]
  refine wloopI (fun m e s=>e=[(0,.d .nils),(1,I 0),(2,I 0),(3,I (Go.Sort.bitsLen 0)),(8,B true),(9,B true)]∧s=σ) (m:=0) ⟨rfl,rfl⟩ ?_
  rintro m e s ⟨rfl,rfl⟩
  simp -implicitDefEqProofs [c114_l30,c114_k29,e0,c114_k28,c114_k27]
  refine use_raw hins fun v s hs=>?_
  subst hs
  simp -implicitDefEqProofs
 refine use_raw hp fun v s hs=>?_
 subst hs
 simp -implicitDefEqProofs

theorem perm_of {n:Nat}{d R:Array Int}(hd:d.size=n)(h:PermIn 0 n d R):R.toList.Perm d.toList:=by
 obtain⟨h1,-,h3⟩:=h
 have e1:R.extract 0 n=R:=by rw [← hd,← h1]; simp
 have e2:d.extract 0 n=d:=by rw [← hd]; simp
 rw [e1,e2] at h3
 exact h3
theorem rising_of {n:Nat}{R:Array Int}(hR:R.size=n)(h:SortedIn lt 0 n R):R.toList.Pairwise (· ≤ ·):=by
 rw [List.pairwise_iff_getElem]
 intro i j hi hj hij
 simp at hi hj
 have:=h i j (by omega) hij (by omega)
 simp only [lt,Go.Sort.ltInt,decide_eq_false_iff_not,Int.not_lt] at this
 simpa [hi,hj] using this

def uRows (l:List Int):List (List D):=l.map fun n=>[.int .u32 n]
abbrev Item:=Int×List UInt8
structure Plain (M:List Item):Prop where
 up:M.Pairwise fun a b=>a.1<b.1
 h : ∀ p∈M,p.2.length=32
 i : ∀ p∈M,0≤p.1∧p.1≤4294967295
 n:M.length≤90

namespace Sip
def rot (x:W64)(k:Nat):W64:=x <<< k|||x >>> (64-k)
structure S4 where
 a:W64
 b:W64
 c:W64
 d:W64
def S4.round (s:S4):S4 :=
 let a:=s.a+s.b
 let b:=rot s.b 13^^^a
 let a:=rot a 32
 let c:=s.c+s.d
 let d:=rot s.d 16^^^c
 let a:=a+d
 let d:=rot d 21^^^a
 let c:=c+b
 let b:=rot b 17^^^c
 let c:=rot c 32
 ⟨a,b,c,d⟩
def S4.take (s:S4)(m:W64):S4 :=
 let s:=(S4.mk s.a s.b s.c (s.d^^^m)).round.round
 ⟨s.a^^^m,s.b,s.c,s.d⟩
def num:List UInt8→Nat
 | []=>0
 | b::r=>b.toNat+256*num r
def word (l:List UInt8):W64:=BitVec.ofNat 64 (num l)
def start (k0 k1:W64):S4:=⟨k0^^^0x736f6d6570736575,k1^^^0x646f72616e646f6d,k0^^^0x6c7967656e657261,k1^^^0x7465646279746573⟩
def blk (t:List UInt8)(i:Nat):W64:=word ((t.drop (8*i)).take 8)
def after (k0 k1:W64)(t:List UInt8):Nat→S4
 | 0=>start k0 k1
 | i+1=>(after k0 k1 t i).take (blk t i)
theorem num_lt : ∀ l:List UInt8,num l<256 ^ l.length
 | []=>by decide
 | b::r=>by
  have:=num_lt r
  have hb:=b.toNat_lt
  simp only [num,List.length_cons,Nat.pow_succ]
  omega
theorem num_app : ∀ (l:List UInt8)(b:UInt8),num (l++[b])=num l+256 ^ l.length*b.toNat
 | [],b=>by simp [num]
 | a::r,b=>by
  simp only [List.cons_append,num,num_app r b,List.length_cons,Nat.pow_succ]
  rw [Nat.mul_add,← Nat.add_assoc]
  congr 1
  rw [← Nat.mul_assoc,Nat.mul_comm 256 (256 ^ _)]
theorem num_take {l:List UInt8}{i:Nat}{b:UInt8}(h:l[i]?=some b):num (l.take (i+1))=num (l.take i)+256 ^ i*b.toNat:=by
 obtain⟨hi,rfl⟩:=List.getElem?_eq_some_iff.1 h
 rw [← List.take_append_getElem hi,num_app]
 simp [Nat.min_eq_left (Nat.le_of_lt hi)]
end Sip
open Sip

theorem shl_sh (x : W64) (n : Nat) (h : n < 64) : shiftBin .shl .u64 (un x) (n : Int) = some (Wd (x <<< n)) := by
 have h1 : min n 64 = n := by omega
 have h2 : IntKind.u64.bits = 64 := rfl
 have h3 : ¬ ((n : Int) < 0) := by omega
 simp [shiftBin, h1, h2, h3, shl_u64]
theorem shr_sh (x : W64) (n : Nat) (h : n < 64) : shiftBin .shr .u64 (un x) (n : Int) = some (Wd (x >>> n)) := by
 have h1 : min n 64 = n := by omega
 have h2 : IntKind.u64.bits = 64 := rfl
 have h3 : ¬ ((n : Int) < 0) := by omega
 simp [shiftBin, h1, h2, h3, shr_u64]
def s4 (s:S4):List V:=[Wd s.a,Wd s.b,Wd s.c,Wd s.d]

abbrev Y (n:Int):V:=.d (.int .u8 n)

open Sip

def InvChunk (r rs rn n:Nat)(rows:List (List D))(J:Nat→St→Prop)(m:Nat)(e:Env) (σ:St):Prop:=∃ i:Nat,e=[(0,.yld r),(1,.ref rs 0),(2,.ref rn 0),(4,I ((i*n:Nat):Int))]∧m=rows.length-i*n∧J i σ∧∀ j,j<i→j*n<rows.length

theorem sliceV_max {v:V}{rows:List (List D)}(hv:LV v rows){sz lo hi:Nat}(hf : ∀ r∈rows,r.length=sz)(h1:lo<hi)(h2:hi≤rows.length):sliceV sz v lo hi (some hi)=some (.fl ((rows.drop lo).take (hi-lo))):=by
 have hf':=fitR_iff.2 hf
 cases hv with
 | nil=>simp at h2; omega
 | list rows=>simp [sliceV,hf',h2]
 | fl rows=>simp [sliceV,hf',h2]
 | tl rows t st s=>simp [sliceV,hf',h2]

theorem s_Chunk1 {σ:St}{r rs rn n:Nat}{v:V}{rows:List (List D)}(hn:0<n)(hnb:n≤1000000)(hv:LV v rows)(hfit : ∀ x∈rows,x.length=1)(hts : ∀ r t st s,v = .tl r t st s→s=1)(hl:rows.length≤1000000000000)
  (J:Nat→St→Prop) (h0:J 0 σ) (hst : ∀ i s,J i s→s.objs[rs]?=some (.cells [v])∧s.objs[rn]?=some (.cells [I n]))
  (hround : ∀ i s,J i s→i*n<rows.length→Dn.Call Γ cx .rnd r [.fl ((rows.drop (i*n)).take n)] s fun w s'=>w=B true∧J (i+1) s') :
  Dn.Call Γ cx .raw 83 [.yld r,.ref rs 0,.ref rn 0] σ fun _ s=>∃ k,J k s∧rows.length≤k*n∧∀ j,j<k→j*n<rows.length:=by
 refine Dn.Call.body (fc:=c83) rfl ?_
 simp -implicitDefEqProofs [c83,c83_k7]
 refine wloopI (InvChunk r rs rn n rows J) (m:=rows.length) ⟨0,by simp [Env.pick,Env.get],by simp,h0,fun j hj=>by omega⟩ ?_
 rintro m e σ ⟨i,rfl,rfl,hJ,hlt⟩
 obtain⟨hs,hnn⟩:=hst i σ hJ
 have hlen:=hv.len σ
 obtain⟨p,hp⟩ : ∃ p,i*n=p:=⟨_,rfl⟩
 have hr1:=hround i σ hJ
 rw [hp] at hr1 ⊢
 simp -implicitDefEqProofs [c83_l6,c83_k5,hs,hnn,hlen]
 by_cases hil:p<rows.length
 rotate_left
 ·have h1 : ¬ ((p:Int)<(rows.length:Int)):=by omega
  simp -implicitDefEqProofs [h1,hil]
  exact⟨i,hJ,by omega,hlt⟩
 have h1:((p:Int)<(rows.length:Int)):=by omega
 simp -implicitDefEqProofs [h1,hil,c83_k4,c83_k3]
 refine w_drw (fun _=>.val) [2,1] (by decide +kernel) ?_
 obtain⟨z,hz,hzl,-⟩:=hv.slice σ hfit hts (lo:=p) (hi:=rows.length) (by omega) (Nat.le_refl _)
 have hlv:=hv.lenV σ
 have hsx:sliceX σ 1 v (some (I p)) none none=some z:=by simp [sliceX,hlv,boundV,asIdx,hz,show p≤rows.length by omega]
 have hzlen:=hzl.len σ
 have hdl:(List.take (rows.length-p) (rows.drop p)).length=rows.length-p:=by simp
 rw [hdl] at hzlen
 obtain⟨t,ht⟩ : ∃ t,min n (rows.length-p)=t:=⟨_,rfl⟩
 have hmin:minAll [I n,I ((rows.length-p:Nat):Int)]=some (I t):=by
  have:minInts (n:Int) [I ((rows.length-p:Nat):Int)] .i64=some (min (n:Int) ((rows.length-p:Nat):Int)):=by
   simp [minInts]
   split <;> omega
  simp only [minAll,this]
  congr 3
  omega
 have htk:(rows.drop p).take t=(rows.drop p).take n:=by
  rcases Nat.le_total n (rows.length-p) with h | h
  ·rw [Nat.min_eq_left h] at ht; rw [← ht]
  ·rw [Nat.min_eq_right h] at ht
   rw [List.take_of_length_le (i:=n) (by simp; omega),← ht,List.take_of_length_le (by simp)]
 have hsx3:sliceX σ 1 v (some (I p)) (some (.d (.int .i64 ((p:Int)+(t:Int))))) (some (.d (.int .i64 ((p:Int)+(t:Int)))))=some (.fl ((rows.drop p).take n)):=by
  have h3:=sliceV_max hv (lo:=p) (hi:=p+t) hfit (by omega) (by omega)
  rw [Nat.add_sub_cancel_left,htk] at h3
  have e1:((p:Int)+(t:Int)).toNat=p+t:=by omega
  have e2:(p:Int)+(t:Int)≤rows.length:=by omega
  have e3:(0:Int)≤(p:Int)+t:=by omega
  simp [sliceX,hlv,boundV,asIdx,h3,e1,e2,e3]
  try omega
 simp -implicitDefEqProofs [room_zero,hs,hnn,hsx,hzlen,hmin,hsx3,c83_k2,wrap_i64 (n:=(p:Int)+t) (by omega) (by omega)]
 refine⟨_,hr1 hil,fun w s ⟨hw,hJ'⟩=>?_⟩
 obtain⟨-,hn2⟩:=hst (i+1) s hJ'
 subst hw
 have hp1:(i+1)*n=p+n:=by rw [Nat.add_mul,hp,Nat.one_mul]
 simp -implicitDefEqProofs [c83_k1,c83_k0,hn2,wrap_i64 (n:=(p:Int)+n) (by omega) (by omega)]
 refine⟨rows.length-(p+n),by omega,i+1,by rw [hp1]; rfl,by rw [hp1],hJ',fun j hj=>?_⟩
 rcases Nat.lt_or_ge j i with h | h
 ·exact hlt j h
 ·obtain rfl:j=i:=by omega
  omega
theorem s_Chunk {σ:St}{v:V}{n:Nat}(hn:0<n)(hc:v.cells=some [v]):Dn.Call Γ cx .raw 64 [v,I n] σ fun w s=>w = .fn (.func 83) [] [.ref σ.objs.length 0,.ref (σ.objs.length+1) 0]∧s=⟨σ.objs++[.cells [v],.cells [I n]],σ.toks⟩:=by
 refine Dn.Call.body (fc:=c64) rfl ?_
 have h1 : ¬ ((n:Int)<1):=by omega
 have e1:(σ.objs++[Dn.Obj.cells [v],Dn.Obj.cells [I n]])[σ.objs.length+1]?=some (.cells [I n]):=by
  rw [List.getElem?_append_right (by omega)]
  simp
 simp -implicitDefEqProofs [c64,c64_k2,c64_k1,c64_k0,hc,h1,e1]

def hE (t:List UInt8):Env:=[(1,.d (.list (byteRows t))),(5,.ref 2 0),(6,I 32)]
def sd:Nat→Dn.Mode:=fun f=>if f=92 then .raw else .val

end Go.Proofs.Ytmlkdfjojoophaa.T

namespace Go.Proofs.Ytmlkdfjojoophaa.T
open Go.Dn
set_option linter.unusedSimpArgs false

open Sip

theorem uRows_len (M:List Int):(uRows M).length=M.length:=by simp [uRows]

open Sip

def ins (i:Int)(t:List UInt8):List Item→List Item
 | []=>[(i,t)]
 | p::r=>if i<p.1 then(i,t)::p::r else p::ins i t r
end Go.Proofs.Ytmlkdfjojoophaa.T

namespace Go.Proofs.Ytmlkdfjojoophaa.T
open Go.Dn
attribute [local simp] body_eq globEnv GB List.map_nil List.map_cons List.append_nil w_rangeF i_next i_makeMap i_range i_update i_delete i_entry i_clone entryV cloneV q_rndA q_rndB_n q_rndB_e q_rndB_r setAll w_skip w_ops w_seq w_cond w_block w_exit w_ret q_then_n q_then_e q_then_r q_blk_n q_blk_e q_blk_r q_ops q_cont q_end_n q_end_r q_end_e q_loop_n q_loop_e q_loop_r i_nil i_p i_alloc i_box i_store i_copy i_clear i_call i_callv i_when t_nil t_p t_call t_alloc t_box t_store kept_nil t_copy t_clear q_tcont gsel List.cons_append List.nil_append evalP evalE evalF evalB isObj thaw Opd.ev Env.get Env.set Env.pick putE initEnv evalBin intBin evalUn evalConv goneAll goneOne retV resAll Res.ev tupOf byVals byValsN bv_d bv_da bv_fl bv_tl bn_d bn_da bn_fl bn_tl cx Dn.newObj St.place St.push St.spot St.empty cell_d cell_da cell_agg cell_ref cell_sl cell_fl cell_tl cell_map cell_fn cell_ifc loadAt faddrV partOf extractV mkAgg ofD splice St.setObj fillV
set_option linter.unusedSimpArgs false

open Sip

def errV (c:Int):V:=if c=0 then .d .nili else .d (.iface 39 (.int .i64 c))

open Sip

structure Two (σ0 s:St)(sa sb:Nat)(a b:V)(ra rb:List (List D)):Prop where
 pa:App s sa a ra
 pb:App s sb b rb
 oa : ∀ t,Dn.own a=some t→σ0.toks.length≤t
 ob : ∀ t,Dn.own b=some t→σ0.toks.length≤t
 ne : ∀ t,Dn.own a=some t→Dn.own b≠some t
 kp : ∀ (t k:Nat),σ0.toks[t]?=some k→s.toks[t]?=some k
 fr:Fr [] σ0 s
theorem Two.nil (σ:St)(sa sb:Nat):Two σ σ sa sb (.d .nils) (.d .nils) [] []:=⟨.nil,.nil,(fun t h=>nomatch h),(fun t h=>nomatch h),(fun t h=>nomatch h),fun t k h=>h,Fr.refl _ _⟩
theorem own_lt {σ:St}{sz:Nat}{v:V}{rows:List (List D)}(h:App σ sz v rows){t:Nat}(ho:Dn.own v=some t):t<σ.toks.length:=by
 cases h with
 | nil=>cases ho
 | fl=>cases ho
 | tl rows t' st h=>cases ho; exact(List.getElem?_eq_some_iff.1 h).1
theorem Two.push {σ0 s:St}{sa sb:Nat}{a b:V}{ra rb:List (List D)}(h:Two σ0 s sa sb a b ra rb){bytes:Nat}(hpos:0<sa)(hfr : ∀ r∈ra,r.length=sa){y:List D}(hy:y.length=sa)(hb:(ra.length+1)*bytes≤140737488355328)(h63:ra.length+1≤9223372036854775807) :
  ∃ a' s',(∀ tg,appendV s tg sa bytes a [y]=some (a',s'))∧Two σ0 s' sa sb a' b (ra++[y]) rb∧s'.objs=s.objs:=by
 obtain⟨a',s',hap,happ,ho,ht,_⟩:=h.pa.push (bytes:=bytes) hpos hfr (ys:=[y]) (by simp [hy]) (by simpa using hb) (by simpa using h63)
 refine⟨a',s',hap,⟨happ,h.pb.other ht (fun t hb ha=>h.ne t ha hb),fun t hn=>?_,h.ob,fun t hn hb=>?_,fun t k hk=>?_,⟨by rw [ho]; exact h.fr.len,fun r hr hl=>by rw [ho]; exact h.fr.at_ r hr hl⟩⟩,ho⟩
 ·rcases ht.own with e | ⟨t',e,hl⟩
  ·rw [e] at hn; exact h.oa t hn
  ·rw [e] at hn
   cases hn
   have:σ0.toks.length≤s.toks.length:=by
    refine Nat.le_of_not_lt fun hlt=>?_
    have h1:σ0.toks[s.toks.length]?=some σ0.toks[s.toks.length]:=by simp [hlt]
    have h2:=(List.getElem?_eq_some_iff.1 (h.kp _ _ h1)).1
    omega
   omega
 ·rcases ht.own with e | ⟨t',e,hl⟩
  ·rw [e] at hn; exact h.ne t hn hb
  ·rw [e] at hn
   cases hn
   have:=own_lt h.pb hb
   omega
 ·refine ht.other t k (h.kp t k hk) fun e=>?_
  have:=h.oa t e
  have:=(List.getElem?_eq_some_iff.1 hk).1
  omega
theorem Two.keeps {σ0 s:St}{sa sb:Nat}{a b:V}{ra rb:List (List D)}(h:Two σ0 s sa sb a b ra rb):Keeps σ0 s:=⟨fun i hi=>h.fr.at_ i (by simp) hi,h.kp⟩

theorem uRows_at {l:List Int}{i:Nat}{h:Int}(hi:l[i]?=some h):(uRows l)[i]?=some [.int .u32 h]:=by simp [uRows,hi]
def InvIdx (x:D)(L:List Int)(h:Int)(m:Nat)(e:Env) (σ:St):Prop:=∃ i:Nat,e=[(0,.d x),(1,X h),(7,I L.length),(8,I i)]∧i≤L.length∧m=L.length-i∧σ=St.empty∧h∉L.take i
theorem s_Index {x:D}{L:List Int}(hx:LV (.d x) (uRows L)){h:Int}(hlen:L.length≤1000000):Dn.Call Γ cx .val 71 [.d x,X h] St.empty fun v _=>∃ n:Int,v=I n∧(0≤n↔h∈L):=by
 refine Dn.Call.body (fc:=c71) rfl ?_
 have hlx : ∀ σ,lenT σ .slice (.d x)=some L.length:=fun σ=>by rw [hx.len,uRows_len]
 simp -implicitDefEqProofs [c71,c71_k7,c71_k6,hlx]
 refine wloopI (InvIdx x L h) (m:=L.length) ⟨0,rfl,by omega,rfl,rfl,by simp⟩ ?_
 rintro m e σ ⟨i,rfl,hi,rfl,rfl,hni⟩
 by_cases hil:i<L.length
 ·obtain⟨g,hg⟩ : ∃ g,L[i]?=some g:=⟨L[i],by simp [hil]⟩
  have hia:=fun σ=>hx.iaddr σ (k:=.i64) (sz:=1) (uRows_at hg) rfl
  have hii:(i:Int)<L.length:=by omega
  have hgm:=List.mem_of_getElem? hg
  have htk:L.take (i+1)=L.take i++[g]:=by rw [List.take_add_one,hg]; rfl
  clear hil
  simp -implicitDefEqProofs [c71_l5,c71_k4,hii,c71_k3,c71_k2,c71_k1,hia,c71_k0]
  by_cases hhg:h=g
  ·subst hhg
   simp -implicitDefEqProofs
   exact hgm
  ·simp -implicitDefEqProofs [hhg,wrap_i64 (n:=(i:Int)+1) (by omega) (by omega)]
   refine⟨L.length-(i+1),by omega,i+1,rfl,by omega,rfl,rfl,?_⟩
   rw [htk]
   simp [hni,hhg]
 ·obtain rfl:i=L.length:=by omega
  rw [List.take_length] at hni
  simp -implicitDefEqProofs [c71_l5,c71_k4]
  exact hni

theorem s_Contains {x:D}{L:List Int}(hx:LV (.d x) (uRows L)){h:Int}(hlen:L.length≤1000000):Dn.Call Γ cx .val 54 [.d x,X h] St.empty fun v _=>v=B (decide (h∈L)):=by
 refine Dn.Call.body (fc:=c54) rfl ?_
 simp -implicitDefEqProofs [c54,c54_k0]
 refine use_val rfl (s_Index hx hlen) fun v s ⟨n,hv,hn⟩=>?_
 subst hv
 refine⟨rfl,fun _=>rfl,?_⟩
 simp -implicitDefEqProofs
 by_cases hm:h∈L
 ·simp [hm,hn.2 hm]
 ·have : ¬ (0≤n):=fun e=>hm (hn.1 e)
  simp [hm,this]

open Sip

theorem s_Num (c:Int):Dn.Call Γ cx .val 40 [errV c] St.empty fun v _=>v=I c:=by
 refine Dn.Call.body (fc:=c40) rfl ?_
 by_cases h:c=0
 ·subst h
  simp -implicitDefEqProofs [errV,c40,c40_k4,c40_k3,eqV,V.isNil,Opd.isC]
 ·simp -implicitDefEqProofs [errV,h,c40,c40_k4,c40_k3,c40_k2,c40_k1,c40_k0,eqV,V.isNil,Opd.isC,assertV,unwrapD]

theorem lv_br {v:V}{rows:List (List D)}(h:LV v rows):v.borrows=false:=by cases h <;> rfl
end Go.Proofs.Ytmlkdfjojoophaa.T

namespace Go.Proofs.Ytmlkdfjojoophaa.T
set_option linter.unusedSimpArgs false

namespace Gf
abbrev W:=BitVec 32
def sh (a:W):W:=if a.msb=true then(a <<< 1)^^^0x8d#32 else a <<< 1
theorem xcc (x y c:W):x^^^y=(x^^^c)^^^(y^^^c):=by
 apply BitVec.eq_of_getLsbD_eq
 intro i hi
 simp only [BitVec.getLsbD_xor]
 cases x.getLsbD i <;> cases y.getLsbD i <;> cases c.getLsbD i <;> rfl
theorem xc1 (x y c:W):(x^^^y)^^^c=x^^^(y^^^c):=BitVec.xor_assoc x y c
theorem xc2 (x y c:W):(x^^^y)^^^c=(x^^^c)^^^y:=by rw [BitVec.xor_assoc,BitVec.xor_comm y,BitVec.xor_assoc]
theorem sh_xor (a b:W):sh (a^^^b)=sh a^^^sh b:=by
 unfold sh
 rw [BitVec.msb_xor,BitVec.shiftLeft_xor_distrib]
 generalize a <<< 1=x
 generalize b <<< 1=y
 cases a.msb <;> cases b.msb
 ·rfl
 ·exact xc1 x y _
 ·exact xc2 x y _
 ·exact xcc x y _
theorem sh_zero:sh 0=0:=by decide
def pw:Nat→W→W
 | 0,a=>a
 | n+1,a=>sh (pw n a)
theorem pw_xor (a b:W) : ∀ n,pw n (a^^^b)=pw n a^^^pw n b
 | 0=>rfl
 | n+1=>by simp only [pw]; rw [pw_xor a b n,sh_xor]
theorem pw_zero : ∀ n,pw n 0=0
 | 0=>rfl
 | n+1=>by simp only [pw]; rw [pw_zero n,sh_zero]
theorem pw_add (a:W)(m:Nat) : ∀ n,pw (n+m) a=pw n (pw m a)
 | 0=>by simp [pw]
 | n+1=>by
  rw [show n+1+m=(n+m)+1 by omega]
  simp only [pw]
  rw [pw_add a m n]

def sum:Nat→(Nat→W)→W
 | 0,_=>0
 | n+1,f=>sum n f^^^f n
theorem sum_xor (f g:Nat→W) : ∀ n,sum n (fun i=>f i^^^g i)=sum n f^^^sum n g
 | 0=>by simp [sum]
 | n+1=>by
  simp only [sum]
  rw [sum_xor f g n]
  generalize sum n f=a
  generalize sum n g=b
  rw [BitVec.xor_assoc,BitVec.xor_assoc,← BitVec.xor_assoc b,BitVec.xor_comm b,BitVec.xor_assoc (f n)]
theorem sum_congr {f g:Nat→W} : ∀ {n:Nat},(∀ i,i<n→f i=g i)→sum n f=sum n g
 | 0,_=>rfl
 | n+1,h=>by simp only [sum]; rw [sum_congr fun i hi=>h i (by omega),h n (by omega)]
theorem sum_zero : ∀ n,sum n (fun _=>0)=0
 | 0=>rfl
 | n+1=>by simp only [sum]; rw [sum_zero n]; simp
theorem sum_lin {φ:W→W}(h0:φ 0=0)(hx : ∀ a b,φ (a^^^b)=φ a^^^φ b)(f:Nat→W) : ∀ n,φ (sum n f)=sum n fun i=>φ (f i)
 | 0=>by simpa [sum] using h0
 | n+1=>by simp only [sum]; rw [hx,sum_lin h0 hx f n]
theorem sum_swap (f:Nat→Nat→W)(m:Nat) : ∀ n,sum n (fun i=>sum m (fun j=>f i j))=sum m fun j=>sum n fun i=>f i j
 | 0=>by simp only [sum]; exact(sum_zero m).symm
 | n+1=>by
  simp only [sum]
  rw [sum_swap f m n,← sum_xor]

def bit (b:Bool)(a:W):W:=if b=true then a else 0
theorem bit_xor (b:Bool)(x y:W):bit b (x^^^y)=bit b x^^^bit b y:=by cases b <;> simp [bit]
theorem bit_xorb (b c:Bool)(x:W):bit (b ^^ c) x=bit b x^^^bit c x:=by cases b <;> cases c <;> simp [bit]
theorem bit_zero (b:Bool):bit b 0=0:=by cases b <;> rfl
theorem bit_pw (b:Bool)(n:Nat)(x:W):pw n (bit b x)=bit b (pw n x):=by
 cases b
 ·exact pw_zero n
 ·rfl

def mul (a b:W):W:=sum 32 fun i=>bit (b.getLsbD i) (pw i a)
theorem mul_xor (a b c:W):mul a (b^^^c)=mul a b^^^mul a c:=by
 unfold mul
 rw [← sum_xor]
 exact sum_congr fun i _=>by rw [BitVec.getLsbD_xor,bit_xorb]
theorem mul_zero (a:W):mul a 0=0:=by
 unfold mul
 exact(sum_congr (g:=fun _=>0) fun i _=>by rw [show BitVec.getLsbD (0:W) i=false from BitVec.getLsbD_zero]; rfl).trans (sum_zero 32)
theorem mul_pw_left (a b:W)(n:Nat):mul (pw n a) b=pw n (mul a b):=by
 unfold mul
 rw [sum_lin (pw_zero n) (fun a b=>pw_xor a b n)]
 refine sum_congr fun i _=>?_
 rw [bit_pw,← pw_add,← pw_add,Nat.add_comm]
theorem pw_one : ∀ j,j<32→pw j 1=1#32 <<< j:=by decide +kernel
theorem sum_bits (a:W):sum 32 (fun j=>bit (a.getLsbD j) (pw j 1))=a:=by
 have key : ∀ n,n≤32→sum n (fun j=>bit (a.getLsbD j) (pw j 1))=a&&&(BitVec.ofNat 32 (2 ^ n-1)):=by
  intro n
  induction n with
  | zero=>intro _; simp [sum]
  | succ n ih =>
   intro hn
   simp only [sum]
   rw [ih (by omega),pw_one n (by omega)]
   apply BitVec.eq_of_getLsbD_eq
   intro i hi
   have hb : ∀ b:Bool,(bit b (1#32 <<< n)).getLsbD i=(b&&decide (i=n)):=fun b=>by
    cases b
    ·simp [bit]
    ·simp only [bit,if_true,BitVec.getLsbD_shiftLeft,Bool.true_and,BitVec.getLsbD_one]
     by_cases h1:i<n
     ·simp [h1,Nat.ne_of_lt h1]
     ·by_cases h2:i=n
      ·simp [h2]; omega
      ·simp [h1,h2]; omega
   rw [BitVec.getLsbD_xor,BitVec.getLsbD_and,BitVec.getLsbD_and,hb,BitVec.getLsbD_ofNat,BitVec.getLsbD_ofNat,Nat.testBit_two_pow_sub_one,Nat.testBit_two_pow_sub_one]
   by_cases h1:i<n
   ·simp [h1,hi,Nat.ne_of_lt h1,show i<n+1 by omega]
   ·by_cases h2:i=n
    ·subst h2; simp [hi]
    ·simp [h1,h2,show ¬ i<n+1 by omega]
 have:=key 32 (by omega)
 rw [this]
 have h1:BitVec.ofNat 32 (2 ^ 32-1)=BitVec.allOnes 32:=rfl
 rw [h1,BitVec.and_allOnes]
theorem mul_comm (a b:W):mul a b=mul b a:=by
 have h1:mul a b=sum 32 fun i=>sum 32 fun j=>bit (b.getLsbD i) (bit (a.getLsbD j) (pw (i+j) 1)):=by
  conv=>lhs; rw [← sum_bits a]
  unfold mul
  refine sum_congr fun i _=>?_
  rw [sum_lin (pw_zero i) (fun a b=>pw_xor a b i),sum_lin (bit_zero _) (bit_xor _)]
  exact sum_congr fun j _=>by rw [bit_pw,pw_add]
 have h2:mul b a=sum 32 fun j=>sum 32 fun i=>bit (b.getLsbD i) (bit (a.getLsbD j) (pw (i+j) 1)):=by
  conv=>lhs; rw [← sum_bits b]
  unfold mul
  refine sum_congr fun j _=>?_
  rw [sum_lin (pw_zero j) (fun a b=>pw_xor a b j),sum_lin (bit_zero _) (bit_xor _)]
  exact sum_congr fun i _=>by
   rw [bit_pw,← pw_add,Nat.add_comm]
   cases a.getLsbD j <;> cases b.getLsbD i <;> simp [bit]
 rw [h1,h2,sum_swap]
theorem mul_assoc (a b c:W):mul a (mul b c)=mul (mul a b) c:=by
 have h : ∀ i x,mul a (pw i x)=pw i (mul a x):=fun i x=>by rw [mul_comm,mul_pw_left,mul_comm]
 conv=>lhs; rw [show mul b c=sum 32 fun i=>bit (c.getLsbD i) (pw i b) from rfl]
 rw [sum_lin (mul_zero a) (mul_xor a)]
 unfold mul
 refine sum_congr fun i _=>?_
 have h2:=h i b
 unfold mul at h2
 cases c.getLsbD i
 ·have:=mul_zero a
  unfold mul at this
  simpa [bit] using this
 ·simpa [bit] using h2
theorem one_mul (a:W):mul 1 a=a:=by
 unfold mul
 exact sum_bits a
theorem mul_one (a:W):mul a 1=a:=by rw [mul_comm,one_mul]

def npow (a:W):Nat→W
 | 0=>1
 | n+1=>mul (npow a n) a
theorem npow_add (a:W)(m:Nat) : ∀ n,npow a (m+n)=mul (npow a m) (npow a n)
 | 0=>(mul_one _).symm
 | n+1=>by
  rw [show m+(n+1)=(m+n)+1 by omega]
  simp only [npow]
  rw [npow_add a m n,mul_assoc]
end Gf
end Go.Proofs.Ytmlkdfjojoophaa.T

namespace Go.Proofs.Ytmlkdfjojoophaa.T
open Go.Dn
attribute [local simp] body_eq globEnv GB List.map_nil List.map_cons List.append_nil w_rangeF i_next i_makeMap i_range i_update i_delete i_entry i_clone entryV cloneV q_rndA q_rndB_n q_rndB_e q_rndB_r setAll w_skip w_ops w_seq w_cond w_block w_exit w_ret q_then_n q_then_e q_then_r q_blk_n q_blk_e q_blk_r q_ops q_cont q_end_n q_end_r q_end_e q_loop_n q_loop_e q_loop_r i_nil i_p i_alloc i_box i_store i_copy i_clear i_call i_callv i_when t_nil t_p t_call t_alloc t_box t_store kept_nil t_copy t_clear q_tcont gsel List.cons_append List.nil_append evalP evalE evalF evalB isObj thaw Opd.ev Env.get Env.set Env.pick putE initEnv evalBin intBin evalUn evalConv goneAll goneOne retV resAll Res.ev tupOf byVals byValsN bv_d bv_da bv_fl bv_tl bn_d bn_da bn_fl bn_tl cx Dn.newObj St.place St.push St.spot St.empty cell_d cell_da cell_agg cell_ref cell_sl cell_fl cell_tl cell_map cell_fn cell_ifc loadAt faddrV partOf extractV mkAgg ofD splice St.setObj fillV
set_option linter.unusedSimpArgs false

abbrev Xw (x:W32):V:=.d (.int .u32 (un x))
theorem shl_32 (x : W32) (n : Nat) (h : n < 32) : shiftBin .shl .u32 (un x) (n : Int) = some (Xw (x <<< n)) := by
 have hb : IntKind.u32.bits = 32 := rfl
 have h1 : ¬ ((n : Int) < 0) := by omega
 have hm : min n 32 = n := by omega
 have h2 := shl_u32 x n
 simp only [shiftBin, h1, if_false, hb, Int.toNat_natCast, hm, h2]
theorem shr_32 (x : W32) (n : Nat) (h : n < 32) : shiftBin .shr .u32 (un x) (n : Int) = some (Xw (x >>> n)) := by
 have hb : IntKind.u32.bits = 32 := rfl
 have h1 : ¬ ((n : Int) < 0) := by omega
 have hm : min n 32 = n := by omega
 have h2 := shr_u32 x n
 simp only [shiftBin, h1, if_false, hb, Int.toNat_natCast, hm, h2]
theorem top_and (x:W32):bits .and .u32 (un x) 2147483648=if x.msb=true then 2147483648 else 0:=by
 have h1:bits .and .u32 (un x) 2147483648=un (x&&&0x80000000#32):=and_u32 x 0x80000000#32
 have h2:(0x80000000#32:W32)=BitVec.twoPow 32 31:=rfl
 rw [h1,h2,BitVec.and_twoPow,BitVec.msb_eq_getLsbD_last]
 split <;> rfl

theorem s_shift (x:W32):Dn.Call Γ cx .val 100 [Xw x] St.empty fun v _=>v=Xw (Gf.sh x):=by
 refine Dn.Call.body (fc:=c100) rfl ?_
 have h1:shiftBin .shl .u32 (un x) 1=some (Xw (x <<< 1)):=shl_32 x 1 (by omega)
 have h2:bits .xor .u32 (un (x <<< 1)) 141=un ((x <<< 1)^^^0x8d#32):=xor_u32 (x <<< 1) 0x8d#32
 have h3:=top_and x
 cases hm:x.msb with
 | true =>
  rw [hm] at h3
  simp -implicitDefEqProofs [c100,c100_k2,h3,c100_k1,h1,h2,Gf.sh,hm]
 | false =>
  rw [hm] at h3
  simp -implicitDefEqProofs [c100,c100_k2,h3,c100_k1,c100_k0,h1,Gf.sh,hm]

def hor (a b:W32):Nat→W32
 | 0=>0
 | n+1=>Gf.sh (hor a b n)^^^Gf.bit (b.getLsbD (31-n)) a
theorem hor_mul (a b:W32) : ∀ n,n≤32→Gf.mul a b=Gf.sum (32-n) (fun i=>Gf.bit (b.getLsbD i) (Gf.pw i a))^^^Gf.pw (32-n) (hor a b n)
 | 0,_=>by
  have:Gf.pw 32 (0:W32)=0:=Gf.pw_zero 32
  simp only [hor,Nat.sub_zero,this]
  simp [Gf.mul]
 | n+1,h=>by
  rw [hor_mul a b n (by omega)]
  obtain⟨k,hk⟩ : ∃ k,32-n=k+1:=⟨31-n,by omega⟩
  have hk2:31-n=k:=by omega
  have hk3:32-(n+1)=k:=by omega
  rw [hk,hk3]
  simp only [Gf.sum,hor,hk2]
  rw [Gf.pw_xor,Gf.bit_pw]
  have:Gf.pw (k+1) (hor a b n)=Gf.pw k (Gf.sh (hor a b n)):=Gf.pw_add _ 1 k
  rw [this,BitVec.xor_assoc,BitVec.xor_comm (Gf.bit _ _)]
theorem hor_all (a b:W32):hor a b 32=Gf.mul a b:=by
 have:=hor_mul a b 32 (by omega)
 simp only [Nat.sub_self,Gf.sum,Gf.pw] at this
 rw [this]
 simp

theorem bit_and (b:W32)(k:Nat):bits .and .u32 (un (b >>> k)) 1=if b.getLsbD k=true then 1 else 0:=by
 have h1:bits .and .u32 (un (b >>> k)) 1=un ((b >>> k)&&&1#32):=and_u32 (b >>> k) 1#32
 have h2:(1#32:W32)=BitVec.twoPow 32 0:=rfl
 rw [h1,h2,BitVec.and_twoPow,BitVec.getLsbD_ushiftRight,Nat.add_zero]
 split <;> rfl

def InvMul (a b:W32)(m:Nat)(e:Env)(s:St):Prop:=∃ n:Nat,e=[(0,Xw a),(1,Xw b),(5,Xw (hor a b n)),(6,I (31-(n:Int)))]∧m=32-n∧n≤32∧s=St.empty
theorem s_Mul (a b:W32):Dn.Call Γ cx .val 79 [Xw a,Xw b] St.empty fun v _=>v=Xw (Gf.mul a b):=by
 refine Dn.Call.body (fc:=c79) rfl ?_
 simp -implicitDefEqProofs [c79,c79_k10,c79_k9,c79_k8]
 refine wloopI (InvMul a b) (m:=32) ⟨0,rfl,rfl,by omega,rfl⟩ ?_
 rintro m e s ⟨n,rfl,rfl,hn,rfl⟩
 by_cases hn2:n<32
 ·obtain⟨k,hk⟩ : ∃ k:Nat,31-n=k:=⟨_,rfl⟩
  have hk2:31-(n:Int)=(k:Int):=by omega
  have hk0:(0:Int)≤k:=by omega
  have hsr:=shr_32 b k (by omega)
  have hba:=bit_and b k
  have w9:IntKind.i64.wrap ((k:Int)-1)=31-((n+1:Nat):Int):=by rw [wrap_i64 (by omega) (by omega)]; omega
  have hh:hor a b (n+1)=Gf.sh (hor a b n)^^^Gf.bit (b.getLsbD k) a:=by simp only [hor,hk]
  rw [hk2]
  simp -implicitDefEqProofs [hk0,c79_l7,c79_k6,c79_k5,c79_k4]
  refine use_fn rfl (s_shift (hor a b n)) rfl ?_
  cases hb:b.getLsbD k with
  | true =>
   rw [hb] at hba hh
   simp -implicitDefEqProofs [c79_k3,hsr,hba,c79_k2,xor_u32,c79_k1,w9]
   exact⟨32-(n+1),by omega,n+1,by rw [hh]; rfl,rfl,by omega,rfl⟩
  | false =>
   rw [hb] at hba hh
   simp -implicitDefEqProofs [c79_k3,hsr,hba,c79_k2,c79_k1,w9]
   exact⟨32-(n+1),by omega,n+1,by rw [hh]; simp [Gf.bit],rfl,by omega,rfl⟩
 ·obtain rfl:n=32:=by omega
  simp -implicitDefEqProofs [c79_l7,c79_k6,c79_k0,hor_all]
theorem s_Square (a:W32):Dn.Call Γ cx .val 61 [Xw a] St.empty fun v _=>v=Xw (Gf.mul a a):=by
 refine Dn.Call.body (fc:=c61) rfl ?_
 simp -implicitDefEqProofs [c61,c61_k0]
 refine use_fn rfl (s_Mul a a) rfl ?_
 simp -implicitDefEqProofs

def tcell (a:W32)(j:Nat):W32:=Gf.mul a (BitVec.ofNat 32 (j % 256) <<< (8*(j / 256)))
def tpart (a:W32)(j:Nat):List V:=(List.range j).map (fun k=>Xw (tcell a k))++List.replicate (1024-j) (Xw 0)
theorem tpart_len (a:W32){j:Nat}(h:j≤1024):(tpart a j).length=1024:=by simp [tpart]; omega
theorem tpart_set (a:W32){j:Nat}(h:j<1024):splice (tpart a j) j [Xw (tcell a j)]=tpart a (j+1):=by
 have h1:(tpart a j).take j=(List.range j).map (fun k=>Xw (tcell a k)):=by
  unfold tpart
  rw [List.take_left' (by simp)]
 have h2:(tpart a j).drop (j+1)=List.replicate (1024-(j+1)) (Xw 0):=by
  unfold tpart
  rw [List.drop_append,List.drop_of_length_le (by simp),List.length_map,List.length_range,Nat.add_sub_cancel_left,List.drop_replicate,List.nil_append,Nat.sub_sub]
 simp only [splice,List.length_singleton,h1,h2]
 simp only [tpart,List.range_succ,List.map_append,List.map_cons,List.map_nil,List.append_assoc]
theorem tpart_at (a:W32){j:Nat}(h:j<1024):(tpart a 1024)[j]?=some (Xw (tcell a j)):=by
 simp [tpart,h]
theorem ofD_rep (d:D) : ∀ n,ofD (List.replicate n (V.d d))=some (List.replicate n d)
 | 0=>rfl
 | n+1=>by simp only [List.replicate_succ,ofD,ofD_rep d n]

def InvBy1 (σ:St)(a:W32)(m:Nat)(e:Env)(s:St):Prop:=∃ i:Nat,e=[(0,Xw a),(3,.ref σ.objs.length 0),(8,I i)]∧m=4-i∧i≤4∧s=⟨σ.objs++[.cells (tpart a (256*i))],σ.toks⟩
structure By2 (σ:St)(a:W32)(i:Nat)(m:Nat)(e:Env)(s:St)(b:Nat):Prop where
 e:e=[(0,Xw a),(3,.ref σ.objs.length 0),(4,I i),(8,I i),(11,I b)]
 m:m+b=256
 s:s=⟨σ.objs++[.cells (tpart a (256*i+b))],σ.toks⟩
def InvBy2 (σ:St)(a:W32)(i:Nat)(m:Nat)(e:Env)(s:St):Prop:=∃ b:Nat,By2 σ a i m e s b

set_option maxRecDepth 20000 in
theorem s_By {σ:St}(a:W32):Dn.Call Γ cx .raw 72 [Xw a] σ fun v s=>v = .ref σ.objs.length 0∧s=⟨σ.objs++[.cells (tpart a 1024)],σ.toks⟩:=by
 refine Dn.Call.body (fc:=c72) rfl ?_
 have hz:List.replicate 1024 (V.d (.int .u32 0))=tpart a 0:=by
  have e:(V.d (.int .u32 0))=Xw 0:=rfl
  unfold tpart
  rw [List.range_zero,List.map_nil,List.nil_append,Nat.sub_zero,e]
 have hm:(List.replicate 1024 (D.int .u32 0)).map V.d=List.replicate 1024 (V.d (.int .u32 0)):=by rw [List.map_replicate]
 have ho:ofD (List.replicate 1024 (V.d (.int .u32 0)))=some (List.replicate 1024 (.int .u32 0)):=by rw [ofD_rep]
 have og : ∀ o,(σ.objs++[o])[σ.objs.length]?=some o:=fun o=>by simp
 have os : ∀ o o',(σ.objs++[o]).set σ.objs.length o'=σ.objs++[o']:=fun o o'=>by simp
 simp -implicitDefEqProofs [-List.reduceReplicate,c72,c72_k13,mkAgg,hm,ho]
 rw [hz]
 simp -implicitDefEqProofs [c72_k12,c72_k11]
 refine wloopI (InvBy1 σ a) (m:=4) ⟨0,rfl,rfl,by omega,rfl⟩ ?_
 rintro m e s ⟨i,rfl,rfl,hi,rfl⟩
 by_cases hi4:i<4
 rotate_left
 ·obtain rfl:i=4:=by omega
  simp -implicitDefEqProofs [c72_l10,c72_k9,c72_k0]
 have hii:(i:Int)<4:=by omega
 simp -implicitDefEqProofs [c72_l10,c72_k9,hii,c72_k8,c72_k7,c72_k6]
 refine wloopI (InvBy2 σ a i) (m:=256) ⟨0,rfl,rfl,rfl⟩ ?_
 rintro m e s ⟨b,hB⟩
 obtain⟨he,hmm,hs⟩:=hB
 subst he hs
 have hb:b≤256:=by omega
 rcases Nat.lt_or_ge b 256 with hb2 | hb2
 rotate_left
 ·have hb3:b=256:=by omega
  subst hb3
  simp -implicitDefEqProofs [c72_l5,c72_k4,wrap_i64 (n:=(i:Int)+1) (by omega) (by omega)]
  exact⟨4-(i+1),by omega,i+1,rfl,rfl,by omega,by rw [show 256*(i+1)=256*i+256 by omega]⟩
 have hbb:(b:Int)<256:=by omega
 have hc:IntKind.u32.wrap (b:Int)=un (BitVec.ofNat 32 b):=wrap_u32 b
 have h8:IntKind.i64.wrap (8*(i:Int))=((8*i:Nat):Int):=by rw [wrap_i64 (by omega) (by omega)]; omega
 have hsl:=shl_32 (BitVec.ofNat 32 b) (8*i) (by omega)
 have hj:tcell a (256*i+b)=Gf.mul a (BitVec.ofNat 32 b <<< (8*i)):=by
  unfold tcell
  rw [show(256*i+b) % 256=b by omega,show(256*i+b) / 256=i by omega]
 have hset:=tpart_set a (j:=256*i+b) (by omega)
 have hlen:=tpart_len a (j:=256*i+b) (by omega)
 rw [hj] at hset
 have w9:IntKind.i64.wrap ((b:Int)+1)=((b+1:Nat):Int):=by rw [wrap_i64 (by omega) (by omega)]; omega
 have hidx:i*256+b=256*i+b:=by omega
 obtain⟨i8,hi8⟩ : ∃ i8,8*i=i8:=⟨_,rfl⟩
 rw [hi8] at h8 hsl hset
 obtain⟨j,hjd⟩ : ∃ j,256*i+b=j:=⟨_,rfl⟩
 have hj1:j+1≤1024:=by omega
 rw [hjd] at hset hlen hidx
 rw [hjd]
 simp -implicitDefEqProofs [c72_l5,c72_k4,hbb,c72_k3,c72_k2,c72_k1]
 refine w_drw (fun _=>.val) [] (by decide +kernel) ?_
 simp only [room_zero]
 simp -implicitDefEqProofs [hc,h8,hsl]
 refine use_fnN rfl rfl (s_Mul a _) rfl ?_
 simp only [q_tcont,putE,Env.set]
 simp -implicitDefEqProofs [-splice,nilCheckV,iaddrArrV,asIdx,hii,hbb,hidx,og,os,hlen,hj1,hset,w9]
 exact⟨m-1,by omega,b+1,rfl,by omega,by rw [← hjd,Nat.add_assoc]⟩

def psum (a b:W32):Nat→W32
 | 0=>0
 | n+1=>psum a b n^^^Gf.mul a (((b >>> (8*n))&&&255#32) <<< (8*n))
theorem bytes_xor (b:W32):(((b >>> 0)&&&255#32) <<< 0)^^^(((b >>> 8)&&&255#32) <<< 8)^^^(((b >>> 16)&&&255#32) <<< 16)^^^(((b >>> 24)&&&255#32) <<< 24)=b:=by
 apply BitVec.eq_of_getLsbD_eq
 intro i hi
 have hl : ∀ k,(255#32).getLsbD k=decide (k<8):=fun k=>by
  have:=Nat.testBit_two_pow_sub_one 8 k
  have h2:(255#32:W32).getLsbD k=(decide (k<32)&&Nat.testBit 255 k):=by rw [BitVec.getLsbD_ofNat]
  rw [h2]
  rw [show(255:Nat)=2 ^ 8-1 by decide,this]
  by_cases h:k<8
  ·simp [h,show k<32 by omega]
  ·simp [h]
 simp only [BitVec.getLsbD_xor,BitVec.getLsbD_shiftLeft,BitVec.getLsbD_and,BitVec.getLsbD_ushiftRight,hl,hi,decide_true,Bool.true_and]
 have ge : ∀ n:Nat,¬ i<n→n+(i-n)=i:=fun n h=>by omega
 by_cases h8:i<8
 ·simp [h8,show i<16 by omega,show i<24 by omega]
 ·by_cases h16:i<16
  ·simp [h8,h16,show i<24 by omega,show i-8<8 by omega,ge 8 h8]
  ·by_cases h24:i<24
   ·simp [h8,h16,h24,show ¬ i-8<8 by omega,show i-16<8 by omega,ge 16 h16]
   ·simp [h8,h16,h24,show ¬ i-8<8 by omega,show ¬ i-16<8 by omega,show i-24<8 by omega,ge 24 h24]
theorem psum_all (a b:W32):psum a b 4=Gf.mul a b:=by
 conv=>rhs; rw [← bytes_xor b]
 rw [Gf.mul_xor,Gf.mul_xor,Gf.mul_xor]
 simp only [psum]
 simp

def InvTm (x:Nat)(a b:W32)(s0:St)(m:Nat)(e:Env)(s:St):Prop:=∃ i:Nat,e=[(0,.ref x 0),(1,Xw b),(5,Xw (psum a b i)),(9,I i)]∧m=4-i∧i≤4∧s=s0
theorem s_Tmul {σ:St}{x:Nat}{a:W32}(hx:σ.objs[x]?=some (.cells (tpart a 1024)))(b:W32):Dn.Call Γ cx .rd 73 [.ref x 0,Xw b] σ fun v _=>v=Xw (Gf.mul a b):=by
 refine Dn.Call.body (fc:=c73) rfl ?_
 simp -implicitDefEqProofs [c73,c73_k10,eqV,V.isNil,Opd.isC,c73_k9,c73_k8,c73_k7,c73_k6]
 refine wloopI (InvTm x a b σ) (m:=4) ⟨0,rfl,rfl,by omega,rfl⟩ ?_
 rintro m e s ⟨i,rfl,rfl,hi,rfl⟩
 by_cases hi4:i<4
 rotate_left
 ·obtain rfl:i=4:=by omega
  simp -implicitDefEqProofs [c73_l5,c73_k4,c73_k0,psum_all]
  exact⟨fun i hi=>rfl,fun t k ht=>ht⟩
 have hii:(i:Int)<4:=by omega
 have h8:IntKind.i64.wrap (8*(i:Int))=((8*i:Nat):Int):=by rw [wrap_i64 (by omega) (by omega)]; omega
 have hsr:=shr_32 b (8*i) (by omega)
 have han:bits .and .u32 (un (b >>> (8*i))) 255=un ((b >>> (8*i))&&&255#32):=and_u32 (b >>> (8*i)) 255#32
 have hps:psum a b (i+1)=psum a b i^^^Gf.mul a (((b >>> (8*i))&&&255#32) <<< (8*i)):=rfl
 obtain⟨k,hk⟩ : ∃ k,(b >>> (8*i))&&&255#32=k:=⟨_,rfl⟩
 have hk256:k.toNat<256:=by
  rw [← hk,BitVec.toNat_and]
  have:=Nat.and_le_right (n:=(b >>> (8*i)).toNat) (m:=(255#32).toNat)
  have h2:(255#32:W32).toNat=255:=rfl
  omega
 rw [hk] at han hps
 have hcell:(tpart a 1024)[i*256+k.toNat]?=some (Xw (Gf.mul a (k <<< (8*i)))):=by
  rw [tpart_at a (by omega)]
  unfold tcell
  rw [show(i*256+k.toNat) % 256=k.toNat by omega,show(i*256+k.toNat) / 256=i by omega,BitVec.ofNat_toNat,BitVec.setWidth_eq]
 have hun:un k=(k.toNat:Int):=rfl
 have hkk:(k.toNat:Int)<256:=by omega
 obtain⟨i8,hi8⟩ : ∃ i8,8*i=i8:=⟨_,rfl⟩
 rw [hi8] at h8 hsr han hps hcell
 clear hi4
 simp -implicitDefEqProofs [c73_l5,c73_k4,hii,c73_k3,c73_k2,c73_k1]
 refine w_drw (fun _=>.val) [] (by decide +kernel) ?_
 simp only [room_zero]
 simp -implicitDefEqProofs [h8,hsr,han,nilCheckV,iaddrArrV,asIdx,hii,hun,hkk,hx,hcell,xor_u32,wrap_i64 (n:=(i:Int)+1) (by omega) (by omega)]
 exact⟨4-(i+1),by omega,i+1,by rw [hps]; rfl,rfl,by omega,rfl⟩

def oddp (a:W32)(k:Nat):W32:=Gf.npow a (2*k+1)
theorem oddp_zero (a:W32):oddp a 0=a:=by
 show Gf.mul 1 a=a
 exact Gf.one_mul a
theorem oddp_succ (a:W32)(k:Nat):oddp a (k+1)=Gf.mul (Gf.mul a a) (oddp a k):=by
 unfold oddp
 rw [show 2*(k+1)+1=(2*k+1)+2 by omega,Gf.npow_add,Gf.mul_comm]
 have:Gf.npow a 2=Gf.mul a a:=by
  show Gf.mul (Gf.mul 1 a) a=_
  rw [Gf.one_mul]
 rw [this]
def fnV (n:Nat)(f:Nat→W32):List V:=(List.range n).map fun k=>Xw (f k)
theorem fnV_len (n:Nat)(f:Nat→W32):(fnV n f).length=n:=by simp [fnV]
theorem fnV_at {n:Nat}(f:Nat→W32){k:Nat}(h:k<n):(fnV n f)[k]?=some (Xw (f k)):=by simp [fnV,h]
theorem fnV_congr {n:Nat}{f g:Nat→W32}(h : ∀ k,k<n→f k=g k):fnV n f=fnV n g:=by
 unfold fnV
 refine List.map_congr_left fun k hk=>?_
 rw [h k (List.mem_range.1 hk)]
theorem fnV_set {n:Nat}(f:Nat→W32){i:Nat}(h:i<n)(v:W32):splice (fnV n f) i [Xw v]=fnV n fun k=>if k=i then v else f k:=by
 apply List.ext_getElem?
 intro k
 simp only [splice,List.length_singleton]
 rcases Nat.lt_trichotomy k i with hk | hk | hk
 ·rw [List.getElem?_append_left (by simp [fnV_len]; omega),List.getElem?_append_left (by simp [fnV_len]; omega),List.getElem?_take_of_lt hk,fnV_at _ (by omega),fnV_at _ (by omega),if_neg (by omega)]
 ·subst hk
  rw [List.getElem?_append_left (by simp [fnV_len]; omega),List.getElem?_append_right (by simp [fnV_len]; omega),fnV_at _ h]
  simp [fnV_len,Nat.min_eq_left (Nat.le_of_lt h)]
 ·rw [List.getElem?_append_right (by simp [fnV_len]; omega)]
  simp only [List.length_append,List.length_take,fnV_len,List.length_singleton,Nat.min_eq_left (Nat.le_of_lt h)]
  rw [List.getElem?_drop,show i+1+(k-(i+1))=k by omega]
  by_cases hkn:k<n
  ·rw [fnV_at _ hkn,fnV_at _ hkn,if_neg (by omega)]
  ·rw [List.getElem?_eq_none (by rw [fnV_len]; omega),List.getElem?_eq_none (by rw [fnV_len]; omega)]

def mid (a:W32)(f:Nat→W32)(i:Nat):Nat→W32:=fun k=>if k<i then f k^^^oddp a k else f k
structure PutS (σ s:St)(r p n:Nat)(a:W32)(f:Nat→W32)(i:Nat):Prop where
 l:s.objs[r]?=some (.cells (fnV n (mid a f i)))
 t:s.objs[p]?=some (.cells (tpart (Gf.mul a a) 1024))
 fr:Fr [r] σ s
 tk:s.toks=σ.toks
def InvPutS (σ:St)(r p n:Nat)(a:W32)(f:Nat→W32)(m:Nat)(e:Env)(s:St):Prop:=∃ i:Nat,e=[(0,.sl r 0 n 1),(1,Xw (oddp a i)),(4,.ref p 0),(10,I n),(11,I i)]∧m=n-i∧i≤n∧PutS σ s r p n a f i

theorem s_put {σ:St}{r n:Nat}{f:Nat→W32}(h:σ.objs[r]?=some (.cells (fnV n f)))(hn:n≤1000)(a:W32):Dn.Call Γ cx .raw 55 [.sl r 0 n 1,Xw a] σ fun _ s=>s.objs[r]?=some (.cells (fnV n fun k=>f k^^^oddp a k))∧Fr [r] σ s∧s.toks=σ.toks:=by
 refine Dn.Call.body (fc:=c55) rfl ?_
 have hrl:r<σ.objs.length:=(List.getElem?_eq_some_iff.1 h).1
 simp -implicitDefEqProofs [c55]
 refine use_fn rfl (s_Square a) rfl ?_
 simp -implicitDefEqProofs
 refine use_raw (s_By (Gf.mul a a)) fun v s ⟨hv,hs⟩=>?_
 subst hv
 have h0:PutS σ s r σ.objs.length n a f 0:=by
  refine⟨?_,by rw [hs]; simp,⟨by rw [hs]; simp,fun q _ hq=>by rw [hs]; simp only; rw [List.getElem?_append_left hq]⟩,by rw [hs]⟩
  rw [hs]
  simp only
  rw [List.getElem?_append_left hrl,h]
  congr 2
 have hrp:r≠σ.objs.length:=by omega
 generalize σ.objs.length=p at *
 clear hs
 simp -implicitDefEqProofs [c55_k7,lenT,lenV,c55_k6]
 refine wloopI (InvPutS σ r p n a f) (m:=n) ⟨0,by rw [oddp_zero]; rfl,rfl,by omega,h0⟩ ?_
 rintro m e s ⟨i,rfl,rfl,hi,hP⟩
 rcases hin:decide ((i:Int)<n) with _ | _
 ·have hlt : ¬ (i:Int)<n:=of_decide_eq_false hin
  obtain rfl:i=n:=by omega
  simp -implicitDefEqProofs [c55_l5,c55_k4]
  refine⟨?_,hP.fr,hP.tk⟩
  rw [hP.l]
  congr 2
  exact fnV_congr fun k hk=>by simp [mid,hk]
 have hlt:(i:Int)<n:=of_decide_eq_true hin
 have hin2:i<n:=by omega
 have ia:=fun σ=>iaddr_sl σ (q:=r) (n:=n) (i:=i) hin2
 have hat:=fnV_at (mid a f i) hin2
 have hset:=fnV_set (mid a f i) hin2 (mid a f i i^^^oddp a i)
 have hlen:=fnV_len n (mid a f i)
 have hmid:fnV n (fun k=>if k=i then mid a f i i^^^oddp a i else mid a f i k)=fnV n (mid a f (i+1)):=fnV_congr fun k hk=>by
  simp only [mid]
  by_cases h1:k=i
  ·subst h1; simp
  ·by_cases h2:k<i
   ·simp [h1,h2,show k<i+1 by omega]
   ·simp [h1,h2,show ¬ k<i+1 by omega]
 rw [hmid] at hset
 have hi1:i+1≤n:=by omega
 have w9:IntKind.i64.wrap ((i:Int)+1)=((i+1:Nat):Int):=by rw [wrap_i64 (by omega) (by omega)]; omega
 have hl:=hP.l
 have hrs:r<s.objs.length:=(List.getElem?_eq_some_iff.1 hl).1
 have hnext:PutS σ ⟨s.objs.set r (.cells (fnV n (mid a f (i+1)))),s.toks⟩ r p n a f (i+1) :=
  ⟨by simp only; rw [List.getElem?_set_self hrs],by simp only; rw [List.getElem?_set_ne hrp]; exact hP.t,hP.fr.trans ⟨by simp,fun q hq _=>by simp only; rw [List.getElem?_set_ne (fun e=>hq (by simp [e]))]⟩,hP.tk⟩
 generalize mid a f i=g at *
 clear hin2 hrs
 simp -implicitDefEqProofs [-splice,hlt,c55_l5,c55_k4,c55_k3,c55_k2,c55_k1,ia,hl,hat,xor_u32,hlen,hi1,hset]
 obtain⟨s2,hs2⟩ : ∃ s2:St,(⟨s.objs.set r (.cells (fnV n (mid a f (i+1)))),s.toks⟩:St)=s2:=⟨_,rfl⟩
 rw [hs2] at hnext ⊢
 simp -implicitDefEqProofs [c55_k0]
 refine use_rd (s_Tmul hnext.t (oddp a i)) ?_
 rw [← oddp_succ]
 simp -implicitDefEqProofs [w9]
 exact⟨n-(i+1),by omega,i+1,rfl,rfl,by omega,hnext⟩

def wof (i:Int):W32:=BitVec.ofNat 32 i.toNat
theorem un_wof {i:Int}(h0:0≤i)(h1:i≤4294967295):un (wof i)=i:=by
 simp only [un,wof,BitVec.toNat_ofNat]
 omega
def acc (f:Nat→W32)(ids:List Int)(k:Nat):W32:=ids.foldl (fun a i=>a^^^oddp (wof i) k) (f k)
theorem acc_snoc (f:Nat→W32)(ids:List Int)(i:Int):acc f (ids++[i])=fun k=>acc f ids k^^^oddp (wof i) k:=by
 funext k
 simp [acc]
structure Sk (s:St)(x r n:Nat)(f:Nat→W32):Prop where
 o:s.objs[x]?=some (.cells [.sl r 0 n 1])
 l:s.objs[r]?=some (.cells (fnV n f))
def InvSkP (σ:St)(x r n:Nat)(f:Nat→W32)(v:V)(ids:List Int)(m:Nat)(e:Env)(s:St):Prop:=∃ i:Nat,e=[(0,.ref x 0),(14,v),(15,I ids.length),(16,I i)]∧m=ids.length-i∧i≤ids.length∧Sk s x r n (acc f (ids.take i))∧Fr [r] σ s∧s.toks=σ.toks

theorem s_skPut {σ:St}{x r n:Nat}{f:Nat→W32}(h:Sk σ x r n f)(hxr:x≠r)(hn:n≤1000){v:V}{ids:List Int}(hv:LV v (uRows ids))(hids : ∀ i∈ids,0≤i∧i≤4294967295)(hz:(0:Int)∉ids)(hlen:ids.length≤1000) :
  Dn.Call Γ cx .raw 28 [.ref x 0,v] σ fun w s=>w = .d .nili∧Sk s x r n (acc f ids)∧Fr [r] σ s∧s.toks=σ.toks:=by
 refine Dn.Call.body (fc:=c28) rfl ?_
 have hlv : ∀ σ,lenT σ .slice v=some ids.length:=fun σ=>by rw [hv.len,uRows_len]
 have hdv:=hv.dv σ
 obtain⟨y,hy⟩:=hdv.2.2.1
 have hc:=s_Contains (x:=y) (L:=ids) (hy▸hdv.2.1) (h:=0) (by omega)
 have hcv:decide ((0:Int)∈ids)=false:=by simpa using hz
 rw [hcv] at hc
 have hbr:=lv_br hv
 simp -implicitDefEqProofs [c28,c28_k7,eqV,V.isNil,Opd.isC]
 refine use_fn (ds:=[.d y,X 0]) (by simp only [byVals,bv_d,hdv.1,hy]) hc (Bool.or_true _) ?_
 simp -implicitDefEqProofs [c28_k6,c28_k5,hlv,c28_k4]
 refine wloopI (InvSkP σ x r n f v ids) (m:=ids.length) ⟨0,rfl,rfl,by omega,h,Fr.refl _ _,rfl⟩ ?_
 rintro m e s ⟨i,rfl,rfl,hi,hS,hfr,htk⟩
 rcases hin:decide ((i:Int)<ids.length) with _ | _
 ·have hlt : ¬ (i:Int)<ids.length:=of_decide_eq_false hin
  obtain rfl:i=ids.length:=by omega
  rw [List.take_length] at hS
  simp -implicitDefEqProofs [c28_l3,c28_k2]
  exact⟨hS,hfr,htk⟩
 have hlt:(i:Int)<ids.length:=of_decide_eq_true hin
 obtain⟨q,hq⟩ : ∃ q,ids[i]?=some q:=⟨_,List.getElem?_eq_getElem (by omega)⟩
 have hqb:=hids q (List.mem_of_getElem? hq)
 have hia:=fun σ=>hv.iaddr σ (k:=.i64) (sz:=1) (i:=i) (uRows_at hq) rfl
 have hta:ids.take (i+1)=ids.take i++[q]:=by rw [List.take_add_one,hq]; rfl
 have w9:IntKind.i64.wrap ((i:Int)+1)=((i+1:Nat):Int):=by rw [wrap_i64 (by omega) (by omega)]; omega
 have hun:=un_wof hqb.1 hqb.2
 have step:=s_put hS.l hn (wof q)
 have hX:Xw (wof q)=X q:=by show V.d (.int .u32 (un (wof q)))=_; rw [hun]
 rw [hX] at step
 simp -implicitDefEqProofs [hlt,c28_l3,c28_k2,c28_k1,hia,c28_k0,nilCheckV,hS.o]
 refine use_raw step fun w s2 ⟨hl2,hfr2,htk2⟩=>?_
 have hS2:Sk s2 x r n (acc f (ids.take (i+1))):=⟨hfr2.get hS.o (by simp [hxr]),by rw [hl2,hta,acc_snoc]⟩
 simp -implicitDefEqProofs [w9]
 exact⟨ids.length-(i+1),by omega,i+1,rfl,rfl,by omega,hS2,hfr.trans hfr2,by rw [htk2,htk]⟩

theorem zeros_fn (n:Nat):List.replicate n (V.d (.int .u32 0))=fnV n fun _=>0:=by
 have e:(V.d (.int .u32 0))=Xw 0:=rfl
 unfold fnV
 rw [e,List.map_const']
 simp

theorem repl_one : ∀ n:Nat,repl n [.int .u32 0]=List.replicate n (V.d (.int .u32 0))
 | 0=>rfl
 | n+1=>by
  simp only [repl,repl_one n,List.replicate_succ]
  rfl
theorem s_skNew {σ:St}{n:Nat}(h1:1≤n)(h2:n≤40){v:V}{ids:List Int}(hv:LV v (uRows ids))(hids : ∀ i∈ids,0≤i∧i≤4294967295)(hz:(0:Int)∉ids)(hlen:ids.length≤1000) :
  Dn.Call Γ cx .raw 11 [I n,v] σ fun w s=>w = .tup [.ref (σ.objs.length+1) 0,.d .nili]∧Sk s (σ.objs.length+1) σ.objs.length n (acc (fun _=>0) ids)∧Fr [] σ s∧s.toks=σ.toks:=by
 refine Dn.Call.body (fc:=c11) rfl ?_
 have l1 : ¬ (n:Int)<1:=by omega
 have l2 : ¬ (40:Int)<n:=by omega
 have l1':(1:Int)≤n:=by omega
 have l2':(n:Int)≤40:=by omega
 obtain⟨n1,hn1⟩ : ∃ n1:Int,(n:Int)=n1:=⟨_,rfl⟩
 simp -implicitDefEqProofs [c11,c11_k6,l1,l2,c11_k5]
 have hl0:(fnV n fun _=>0).length=n:=fnV_len n _
 simp -implicitDefEqProofs [c11_k4]
 refine i_app_f (v:=.sl σ.objs.length 0 n 1) (s:=⟨σ.objs++[.cells (fnV n fun _=>0)],σ.toks⟩) ?_ ?_
 ·have hb:(n:Int)*4≤140737488355328:=by omega
  have hb2:(n:Int)≤9223372036854775807:=by omega
  have hr:repl n [.int .u32 0]=fnV n fun _=>0:=by
   rw [← zeros_fn]
   exact repl_one n
  simp [evalE,Opd.ev,Env.get,hb,hb2,hr,Dn.newObj,St.place,St.push,St.spot]
 have hsk:Sk ⟨σ.objs++[.cells (fnV n fun _=>0),.cells [.sl σ.objs.length 0 n 1]],σ.toks⟩ (σ.objs.length+1) σ.objs.length n (fun _=>0):=⟨by simp [List.getElem?_append],by simp⟩
 simp -implicitDefEqProofs
 refine use_raw (s_skPut hsk (by omega) (by omega) hv hids hz hlen) fun w s ⟨hw,hS,hfr,htk⟩=>?_
 subst hw
 simp -implicitDefEqProofs [eqV,V.isNil,Opd.isC,c11_k3,c11_k2,c11_k1,c11_k0]
 refine⟨hS,⟨Nat.le_trans (by simp) hfr.len,fun q _ hq=>?_⟩,htk⟩
 rw [hfr.at_ q (by simp; omega) (by simp; omega)]
 simp only
 rw [List.getElem?_append_left hq]

open Sip

def bt (w:W32)(i:Nat):UInt8:=UInt8.ofNat ((w >>> (8*i)).toNat)
def le4 (w:W32):List UInt8:=[bt w 0,bt w 1,bt w 2,bt w 3]
def skB (f:Nat→W32):Nat→List UInt8
 | 0=>[]
 | n+1=>skB f n++le4 (f n)
theorem skB_len (f:Nat→W32) : ∀ n,(skB f n).length=4*n
 | 0=>rfl
 | n+1=>by simp [skB,skB_len f n,le4]; omega

namespace Gf
abbrev P64:=BitVec 64
def phi (x:P64):W:=sum 64 fun i=>bit (x.getLsbD i) (pw i 1)
theorem phi_xor (x y:P64):phi (x^^^y)=phi x^^^phi y:=by
 unfold phi
 rw [← sum_xor]
 exact sum_congr fun i _=>by rw [BitVec.getLsbD_xor,bit_xorb]
theorem phi_zero:phi 0=0:=by
 unfold phi
 exact(sum_congr (g:=fun _=>0) fun i _=>by rw [show BitVec.getLsbD (0:P64) i=false from BitVec.getLsbD_zero]; rfl).trans (sum_zero 64)
theorem phi_mod : ∀ k,k<32→phi (0x10000008d#64 <<< k)=0:=by decide +kernel
theorem sum_trunc {f:Nat→W}{n:Nat}(h : ∀ i,n≤i→f i=0) : ∀ k,sum (n+k) f=sum n f
 | 0=>rfl
 | k+1=>by
  show sum (n+k) f^^^f (n+k)=_
  rw [h (n+k) (by omega),sum_trunc h k]
  simp
theorem phi_low {x:P64}(h : ∀ j,32≤j→x.getLsbD j=false):phi x=x.setWidth 32:=by
 unfold phi
 have h1:=sum_trunc (n:=32) (f:=fun i=>bit (x.getLsbD i) (pw i 1)) (fun i hi=>by simp only [h i hi]; rfl) 32
 refine Eq.trans h1 ?_
 rw [← sum_bits (x.setWidth 32)]
 refine sum_congr fun i hi=>?_
 rw [BitVec.getLsbD_setWidth]
 simp [hi]
theorem sum_first (f:Nat→W) : ∀ n,sum (n+1) f=f 0^^^sum n fun i=>f (i+1)
 | 0=>by simp [sum]
 | n+1=>by
  show sum (n+1) f^^^f (n+1)=f 0^^^(sum n (fun i=>f (i+1))^^^f (n+1))
  rw [sum_first f n,BitVec.xor_assoc]
theorem phi_shl {y:P64}(h:y.getLsbD 63=false):phi (y <<< 1)=sh (phi y):=by
 unfold phi
 rw [sum_lin sh_zero sh_xor]
 refine Eq.trans (sum_first _ 63) ?_
 have h0:bit ((y <<< 1).getLsbD 0) (pw 0 1)=0:=by simp [bit]
 rw [h0]
 show 0^^^_=sum 63 _^^^sh (bit (y.getLsbD 63) (pw 63 1))
 rw [h]
 have h1:sh (bit false (pw 63 1))=0:=sh_zero
 rw [h1]
 have h2 : ∀ z:W,(0:W)^^^z=z^^^0:=fun z=>BitVec.xor_comm _ _
 rw [h2]
 congr 1
 refine sum_congr fun i hi=>?_
 have h3:(y <<< 1).getLsbD (i+1)=y.getLsbD i:=by
  rw [BitVec.getLsbD_shiftLeft]
  simp [show i+1<64 by omega]
 rw [h3]
 cases y.getLsbD i
 ·exact sh_zero.symm
 ·rfl
theorem hi_false (a:W)(n:Nat)(hn:n<32):((a.setWidth 64) <<< n).getLsbD 63=false:=by
 rw [BitVec.getLsbD_shiftLeft,BitVec.getLsbD_setWidth]
 have:a.getLsbD (63-n)=false:=BitVec.getLsbD_of_ge a (63-n) (by omega)
 simp [this]
theorem phi_pw (a:W) : ∀ n,n≤32→phi ((a.setWidth 64) <<< n)=pw n a
 | 0,_=>by
  rw [BitVec.shiftLeft_zero,phi_low (fun j hj=>by rw [BitVec.getLsbD_setWidth,BitVec.getLsbD_of_ge a j hj]; simp)]
  simp [pw]
 | n+1,h=>by
  rw [BitVec.shiftLeft_add,phi_shl (hi_false a n (by omega)),phi_pw a n (by omega)]
  rfl
def pacc (a b:W):Nat→P64
 | 0=>0
 | n+1=>if b.getLsbD n=true then pacc a b n^^^((a.setWidth 64) <<< n) else pacc a b n
theorem phi_pacc (a b:W) : ∀ n,n≤32→phi (pacc a b n)=sum n fun i=>bit (b.getLsbD i) (pw i a)
 | 0,_=>phi_zero
 | n+1,h=>by
  simp only [pacc,sum]
  cases b.getLsbD n
  ·simp only [Bool.false_eq_true,if_false]
   rw [phi_pacc a b n (by omega)]
   simp [bit]
  ·simp only [if_true]
   rw [phi_xor,phi_pacc a b n (by omega),phi_pw a n (by omega)]
   rfl
end Gf

theorem mod_hi (k:Nat)(h:33≤k):(0x10000008d#64).getLsbD k=false:=by
 show Nat.testBit 4294967437 k=false
 refine Nat.testBit_lt_two_pow ?_
 have:=Nat.pow_le_pow_right (n:=2) (by decide) h
 have h2:(2:Nat) ^ 33=8589934592:=by decide
 omega
theorem rem2 (x:W64)(i:Nat):(un (x >>> i)).tmod 2=if x.getLsbD i=true then 1 else 0:=by
 have h:x.getLsbD i=decide (x.toNat / 2 ^ i % 2=1):=by
  show x.toNat.testBit i=_
  rw [Nat.testBit_eq_decide_div_mod_eq]
 have h0:0≤un (x >>> i):=Int.natCast_nonneg _
 rw [Int.tmod_eq_emod_of_nonneg h0,h]
 simp only [un,BitVec.toNat_ushiftRight,Nat.shiftRight_eq_div_pow]
 generalize x.toNat / 2 ^ i=z
 by_cases hz:z % 2=1
 ·simp [hz]; omega
 ·simp [hz]; omega
def InvRest (x0:W64)(m:Nat)(e:Env)(s:St):Prop:=∃ (n:Nat)(x:W64),e=[(0,Wd x),(3,I (31+(n:Int)))]∧n=m∧n≤32∧s=St.empty∧Gf.phi x=Gf.phi x0∧∀ j,32+n≤j→x.getLsbD j=false
theorem s_rest (x0:W64):Dn.Call Γ cx .val 65 [Wd x0] St.empty fun v _=>v=Xw (Gf.phi x0):=by
 refine Dn.Call.body (fc:=c65) rfl ?_
 simp -implicitDefEqProofs [c65,c65_k8,c65_k7]
 refine wloopI (InvRest x0) (m:=32) ⟨32,x0,rfl,rfl,by omega,rfl,rfl,fun j hj=>BitVec.getLsbD_of_ge _ _ (by omega)⟩ ?_
 rintro m e s ⟨n,x,rfl,rfl,hn,rfl,hph,hz⟩
 cases n with
 | zero =>
  have hlow:=Gf.phi_low (x:=x) hz
  have hc:IntKind.u32.wrap (un x)=un (x.setWidth 32):=by
   have:=wrap_u32 x.toNat
   simp only [un] at this ⊢
   rw [this]
   simp
  simp -implicitDefEqProofs [c65_l6,c65_k5,c65_k0,hc]
  rw [← hph,hlow]
 | succ n =>
  obtain⟨i,hi⟩ : ∃ i:Nat,32+n=i:=⟨_,rfl⟩
  have e0:(31+((n+1:Nat):Int))=(i:Int):=by omega
  have h32:(32:Int)≤i:=by omega
  have wi:IntKind.u64.wrap (i:Int)=i:=wrap_u64 (by omega) (by omega)
  have w32:IntKind.i64.wrap ((i:Int)-32)=(n:Int):=by rw [wrap_i64 (by omega) (by omega)]; omega
  have wn:IntKind.u64.wrap (n:Int)=n:=wrap_u64 (by omega) (by omega)
  have w1:IntKind.i64.wrap ((i:Int)-1)=31+(n:Int):=by rw [wrap_i64 (by omega) (by omega)]; omega
  have hsr:=shr_sh x i (by omega)
  have hsl:shiftBin .shl .u64 4294967437 (n:Int)=some (Wd (0x10000008d#64 <<< n)):=shl_sh 0x10000008d#64 n (by omega)
  have hr:=rem2 x i
  have hxr:=xor_u64 x (0x10000008d#64 <<< n)
  rw [e0]
  cases hb:x.getLsbD i with
  | true =>
   rw [hb] at hr
   simp -implicitDefEqProofs [c65_l6,h32,c65_k5,c65_k4,c65_k3,wi,hsr,hr,c65_k2,w32,wn,hsl,hxr,c65_k1,w1]
   refine⟨n,by omega,n,_,rfl,rfl,by omega,rfl,?_,fun j hj=>?_⟩
   ·rw [Gf.phi_xor,Gf.phi_mod n (by omega),hph]
    simp
   ·rw [BitVec.getLsbD_xor,BitVec.getLsbD_shiftLeft]
    by_cases h1:j=i
    ·have h2:(0x10000008d#64).getLsbD 32=true:=by decide
     have h3:j-n=32:=by omega
     rw [h3,h2,h1,hb]
     simp [show i<64 by omega,show ¬ i<n by omega]
    ·have h2:(0x10000008d#64).getLsbD (j-n)=false:=mod_hi (j-n) (by omega)
     rw [h2,hz j (by omega)]
     simp
  | false =>
   rw [hb] at hr
   simp -implicitDefEqProofs [c65_l6,h32,c65_k5,c65_k4,c65_k3,wi,hsr,hr,c65_k2,c65_k1,w1]
   refine⟨n,by omega,n,x,rfl,rfl,by omega,rfl,hph,fun j hj=>?_⟩
   by_cases h1:j=i
   ·rw [h1]; exact hb
   ·exact hz j (by omega)

theorem rem2w (x:W32)(i:Nat):(un (x >>> i)).tmod 2=if x.getLsbD i=true then 1 else 0:=by
 have h:x.getLsbD i=decide (x.toNat / 2 ^ i % 2=1):=by
  show x.toNat.testBit i=_
  rw [Nat.testBit_eq_decide_div_mod_eq]
 have h0:0≤un (x >>> i):=Int.natCast_nonneg _
 rw [Int.tmod_eq_emod_of_nonneg h0,h]
 simp only [un,BitVec.toNat_ushiftRight,Nat.shiftRight_eq_div_pow]
 generalize x.toNat / 2 ^ i=z
 by_cases hz:z % 2=1
 ·simp [hz]; omega
 ·simp [hz]; omega
def InvRM (a b:W32)(m:Nat)(e:Env)(s:St):Prop:=∃ n:Nat,e=[(0,Xw a),(1,Xw b),(5,Wd (Gf.pacc a b n)),(6,I n)]∧m=32-n∧n≤32∧s=St.empty
theorem s_rMul (a b:W32):Dn.Call Γ cx .val 44 [Xw a,Xw b] St.empty fun v _=>v=Xw (Gf.mul a b):=by
 refine Dn.Call.body (fc:=c44) rfl ?_
 simp -implicitDefEqProofs [c44,c44_k9,c44_k8,c44_k7]
 refine wloopI (InvRM a b) (m:=32) ⟨0,rfl,rfl,by omega,rfl⟩ ?_
 rintro m e s ⟨n,rfl,rfl,hn,rfl⟩
 by_cases hn2:n<32
 rotate_left
 ·obtain rfl:n=32:=by omega
  have hp:Gf.phi (Gf.pacc a b 32)=Gf.mul a b:=Gf.phi_pacc a b 32 (by omega)
  have hr:=s_rest (Gf.pacc a b 32)
  rw [hp] at hr
  generalize Gf.pacc a b 32=p at *
  simp -implicitDefEqProofs [c44_l6,c44_k5,c44_k0]
  refine use_fn rfl hr rfl ?_
  simp -implicitDefEqProofs
 have hnn:(n:Int)<32:=by omega
 have wn:IntKind.u64.wrap (n:Int)=n:=wrap_u64 (by omega) (by omega)
 have wa:IntKind.u64.wrap (un a)=un (a.setWidth 64):=by
  have:=a.isLt
  have h1:un (a.setWidth 64)=un a:=by simp [un]; omega
  rw [h1]
  exact wrap_u64 (by simp only [un]; omega) (by simp only [un]; omega)
 have w1:IntKind.i64.wrap ((n:Int)+1)=((n+1:Nat):Int):=by rw [wrap_i64 (by omega) (by omega)]; omega
 have hsr:=shr_32 b n hn2
 have hsl:=shl_sh (a.setWidth 64) n (by omega)
 have hr:=rem2w b n
 have hxr:=xor_u64 (Gf.pacc a b n) (a.setWidth 64 <<< n)
 have hpa:Gf.pacc a b (n+1)=if b.getLsbD n=true then Gf.pacc a b n^^^((a.setWidth 64) <<< n) else Gf.pacc a b n:=rfl
 cases hb:b.getLsbD n with
 | true =>
  rw [hb] at hr hpa
  simp only [if_true] at hpa
  rw [← hpa] at hxr
  simp -implicitDefEqProofs [c44_l6,hnn,c44_k5,c44_k4,c44_k3,wn,hsr,hr,c44_k2,wa,hsl,hxr,c44_k1,w1]
  exact⟨32-(n+1),by omega,n+1,rfl,rfl,by omega,rfl⟩
 | false =>
  rw [hb] at hr hpa
  simp only [Bool.false_eq_true,if_false] at hpa
  simp -implicitDefEqProofs [c44_l6,hnn,c44_k5,c44_k4,c44_k3,wn,hsr,hr,c44_k2,c44_k1,w1]
  exact⟨32-(n+1),by omega,n+1,by rw [hpa]; rfl,rfl,by omega,rfl⟩

theorem npow_half (a:W32)(n:Nat):Gf.npow a n=if n % 2=1 then Gf.mul (Gf.mul (Gf.npow a (n / 2)) (Gf.npow a (n / 2))) a else Gf.mul (Gf.npow a (n / 2)) (Gf.npow a (n / 2)):=by
 rw [← Gf.npow_add]
 split
 ·rename_i h
  conv=>lhs; rw [show n=(n / 2+n / 2)+1 by omega]
  rfl
 ·rename_i h
  conv=>lhs; rw [show n=n / 2+n / 2 by omega]

theorem s_Power (a:W32) : ∀ n:Nat,n≤1000000→Dn.Call Γ cx .val 51 [Xw a,.d (.int .u64 (n:Int))] St.empty fun v _=>v=Xw (Gf.npow a n):=by
 intro n
 induction n using Nat.strongRecOn with
 | ind n ih =>
  intro hn
  refine Dn.Call.body (fc:=c51) rfl ?_
  by_cases h0:n=0
  ·subst h0
   simp -implicitDefEqProofs [c51,c51_k6,c51_k5]
   rfl
  have h0' : ¬ (n:Int)=0:=by omega
  have hih:=ih (n / 2) (by omega) (by omega)
  have hh:=npow_half a n
  obtain⟨z,hz⟩ : ∃ z,n / 2=z:=⟨_,rfl⟩
  rw [hz] at hih hh
  have hd:(n:Int).tdiv 2=(z:Int):=by rw [← hz]; rfl
  have hd2:(n:Int) / 2=(z:Int):=by omega
  have hwz:IntKind.u64.wrap (z:Int)=z:=wrap_u64 (by omega) (by omega)
  have hr:(n:Int).tmod 2=((n % 2:Nat):Int):=rfl
  have hr2:(n:Int) % 2=((n % 2:Nat):Int):=by omega
  simp -implicitDefEqProofs [c51,c51_k6,h0,h0',c51_k5,c51_k4,hd,hd2,hwz]
  refine use_fn rfl hih rfl ?_
  simp -implicitDefEqProofs [c51_k3]
  refine use_fn rfl (s_rMul _ _) rfl ?_
  by_cases h1:n % 2=1
  ·have h1':(n:Int) % 2=1:=by omega
   rw [if_pos h1] at hh
   simp -implicitDefEqProofs [c51_k2,h1',hr,h1,c51_k1]
   refine use_fn rfl (s_rMul _ _) rfl ?_
   simp -implicitDefEqProofs [c51_k0,hh]
  ·have h1' : ¬ (n:Int) % 2=1:=by omega
   rw [if_neg h1] at hh
   have h2:n % 2=0:=by omega
   simp -implicitDefEqProofs [c51_k2,h1',hr,h2,c51_k1,c51_k0,hh]

def wRows (f:Nat→W32)(n:Nat):List (List D):=(List.range n).map fun k=>[.int .u32 (un (f k))]
theorem wRows_len (f:Nat→W32)(n:Nat):(wRows f n).length=n:=by simp [wRows]
theorem wRows_fit (f:Nat→W32)(n:Nat) : ∀ r∈wRows f n,r.length=1:=by
 intro r hr
 obtain⟨k,_,rfl⟩:=List.mem_map.1 hr
 rfl
theorem wRows_succ (f:Nat→W32)(n:Nat):wRows f (n+1)=wRows f n++[[.int .u32 (un (f n))]]:=by simp [wRows,List.range_succ]
theorem wRows_at (f:Nat→W32){n k:Nat}(h:k<n):(wRows f n)[k]?=some [.int .u32 (un (f k))]:=by simp [wRows,h]
def InvOf (n:Nat)(d:D)(f:Nat→W32)(m:Nat)(e:Env)(s:St):Prop:=∃ (k:Nat)(v:V),e=[(0,I n),(1,.d d),(5,v),(6,I k)]∧m=n-k∧k≤n∧App s 1 v (wRows f k)
def InvOf2 (n:Nat)(d:D)(ids:List Int)(k:Nat)(v:V)(s0:St)(m:Nat)(e:Env)(s:St):Prop:=∃ i:Nat,e=[(0,I n),(1,.d d),(5,v),(6,I k),(7,Xw (acc (fun _=>0) (ids.take i) k)),(8,I i)]∧m=ids.length-i∧i≤ids.length∧s=s0

theorem s_Of {n:Nat}(hn:n≤1000){d:D}{ids:List Int}(hd:LV (.d d) (uRows ids))(hids : ∀ i∈ids,0≤i∧i≤4294967295)(hlen:ids.length≤1000):Dn.Call Γ cx .val 24 [I n,.d d] St.empty fun v _=>∃ x,v = .d x∧LV (.d x) (wRows (acc (fun _=>0) ids) n):=by
 refine Dn.Call.body (fc:=c24) rfl ?_
 have hld : ∀ σ,lenT σ .slice (.d d)=some ids.length:=fun σ=>by rw [hd.len,uRows_len]
 simp -implicitDefEqProofs [c24,c24_k16,c24_k15,c24_k14]
 refine wloopI (InvOf n d (acc (fun _=>0) ids)) (m:=n) ⟨0,_,rfl,rfl,by omega,.nil⟩ ?_
 rintro m e s ⟨k,v,rfl,rfl,hk,hv⟩
 rcases hkn:decide ((k:Int)<n) with _ | _
 ·have hlt : ¬ (k:Int)<n:=of_decide_eq_false hkn
  obtain rfl:k=n:=by omega
  have hdv:=hv.lv.dv s
  obtain⟨x,hx⟩:=hdv.2.2.1
  simp -implicitDefEqProofs [c24_l13,c24_k12,c24_k0,hdv.1]
  exact⟨x,hx,hx▸hdv.2.1⟩
 have hlt:(k:Int)<n:=of_decide_eq_true hkn
 have w9:IntKind.i64.wrap ((k:Int)+1)=((k+1:Nat):Int):=by rw [wrap_i64 (by omega) (by omega)]; omega
 have w2:IntKind.i64.wrap (2*(k:Int))=((2*k:Nat):Int):=by rw [wrap_i64 (by omega) (by omega)]; omega
 have w3:IntKind.i64.wrap (((2*k:Nat):Int)+1)=((2*k+1:Nat):Int):=by rw [wrap_i64 (by omega) (by omega)]; omega
 have w4:IntKind.u64.wrap ((2*k+1:Nat):Int)=((2*k+1:Nat):Int):=wrap_u64 (by omega) (by omega)
 have hpw : ∀ a:W32,Dn.Call Γ cx .val 51 [Xw a,.d (.int .u64 ((2*k+1:Nat):Int))] St.empty fun v _=>v=Xw (oddp a k):=fun a=>s_Power a (2*k+1) (by omega)
 simp -implicitDefEqProofs [hlt,c24_l13,c24_k12,c24_k11,c24_k10,c24_k9,c24_k8]
 refine wloopI (InvOf2 n d ids k v s) (m:=ids.length) ⟨0,by simp [Env.pick,Env.get,acc,un],rfl,by omega,rfl⟩ ?_
 rintro m e s2 ⟨i,rfl,rfl,hi,rfl⟩
 rcases hin:decide ((i:Int)<ids.length) with _ | _
 ·have hlt2 : ¬ (i:Int)<ids.length:=of_decide_eq_false hin
  obtain rfl:i=ids.length:=by omega
  rw [List.take_length]
  obtain⟨v3,s3,hap,happ,ho,-,-⟩:=hv.push (bytes:=4) (by decide) (wRows_fit _ _) (ys:=[[.int .u32 (un (acc (fun _=>0) ids k))]]) (by simp) (by simp [wRows_len]; omega) (by simp [wRows_len]; omega)
  rw [← wRows_succ] at happ
  simp -implicitDefEqProofs [c24_l7,c24_k6,hld,c24_k2,repl,rowsOf,frzV]
  refine i_app_f (v:=v3) (s:=s3) ?_ ?_
  ·simp -implicitDefEqProofs [V.rows]
   exact hap none
  simp -implicitDefEqProofs [c24_k1,w9]
  exact⟨n-(k+1),by omega,k+1,v3,rfl,rfl,by omega,happ⟩
 have hlt2:(i:Int)<ids.length:=of_decide_eq_true hin
 obtain⟨q,hq⟩ : ∃ q,ids[i]?=some q:=⟨_,List.getElem?_eq_getElem (by omega)⟩
 have hqb:=hids q (List.mem_of_getElem? hq)
 have hia:=fun σ=>hd.iaddr σ (k:=.i64) (sz:=1) (i:=i) (uRows_at hq) rfl
 have hta:ids.take (i+1)=ids.take i++[q]:=by rw [List.take_add_one,hq]; rfl
 have hX:X q=Xw (wof q):=by show _=V.d (.int .u32 (un (wof q))); rw [un_wof hqb.1 hqb.2]
 have hun:=un_wof hqb.1 hqb.2
 have hac:acc (fun _=>0) (ids.take (i+1)) k=acc (fun _=>0) (ids.take i) k^^^oddp (wof q) k:=by rw [hta,acc_snoc]
 have w8:IntKind.i64.wrap ((i:Int)+1)=((i+1:Nat):Int):=by rw [wrap_i64 (by omega) (by omega)]; omega
 have hp:=hpw (wof q)
 rw [← hX] at hp
 obtain⟨A,hA⟩ : ∃ A,acc (fun _=>0) (ids.take i) k=A:=⟨_,rfl⟩
 rw [hA] at hac
 have hxr:=xor_u32 A (oddp (wof q) k)
 rw [hA]
 obtain⟨k2,hk2⟩ : ∃ k2,2*k=k2:=⟨_,rfl⟩
 obtain⟨k3,hk3⟩ : ∃ k3,k2+1=k3:=⟨_,rfl⟩
 rw [hk2] at w2 w3 w4 hp
 rw [hk3] at w3 w4 hp
 simp -implicitDefEqProofs [hlt2,hld,c24_l7,c24_k6,c24_k5,c24_k4,hia,w2,w3,w4]
 refine use_fn rfl hp rfl ?_
 simp -implicitDefEqProofs [hxr,c24_k3,w8]
 exact⟨ids.length-(i+1),by omega,i+1,by rw [hac]; rfl,rfl,by omega,rfl⟩

theorem bt_nat (w:W32)(i:Nat):(bt w i).toNat=w.toNat / 2 ^ (8*i) % 256:=by
 simp [bt,Nat.shiftRight_eq_div_pow]
def InvRBy (x:D)(f:Nat→W32)(n:Nat)(m:Nat)(e:Env)(s:St):Prop:=∃ (i:Nat)(v:V),e=[(0,.d x),(3,v),(4,I i)]∧m=n-i∧i≤n∧App s 1 v (byteRows (skB f i))
theorem s_rBytes {x:D}{f:Nat→W32}{n:Nat}(hn:n≤1000)(hx:LV (.d x) (wRows f n)):Dn.Call Γ cx .val 20 [.d x] St.empty fun v _=>∃ d,v = .d d∧LV (.d d) (byteRows (skB f n)):=by
 refine Dn.Call.body (fc:=c20) rfl ?_
 have hlx : ∀ σ,lenT σ .slice (.d x)=some n:=fun σ=>by rw [hx.len,wRows_len]
 simp -implicitDefEqProofs [c20,c20_k8,c20_k7,c20_k6]
 refine wloopI (InvRBy x f n) (m:=n) ⟨0,_,rfl,rfl,by omega,.nil⟩ ?_
 rintro m e s ⟨i,v,rfl,rfl,hi,hv⟩
 rcases hin:decide ((i:Int)<n) with _ | _
 ·have hlt : ¬ (i:Int)<n:=of_decide_eq_false hin
  obtain rfl:i=n:=by omega
  have hdv:=hv.lv.dv s
  obtain⟨d,hd⟩:=hdv.2.2.1
  simp -implicitDefEqProofs [c20_l5,c20_k4,hlx,c20_k0,hdv.1]
  exact⟨d,hd,hd▸hdv.2.1⟩
 have hlt:(i:Int)<n:=of_decide_eq_true hin
 have hia:=fun σ=>hx.iaddr σ (k:=.i64) (sz:=1) (i:=i) (wRows_at f (n:=n) (by omega)) rfl
 have w9:IntKind.i64.wrap ((i:Int)+1)=((i+1:Nat):Int):=by rw [wrap_i64 (by omega) (by omega)]; omega
 have hln:=skB_len f i
 simp -implicitDefEqProofs [hlt,c20_l5,c20_k4,hlx,c20_k3,c20_k2]
 refine w_drw (fun _=>.val) [] (by decide +kernel) ?_
 have w32 : ∀ m:Nat,m<4294967296→IntKind.u32.wrap (m:Int)=m:=fun m hm=>by
  simp only [IntKind.wrap,IntKind.signed,IntKind.bits]; simp; omega
 have hz:=(f i).isLt
 have d1:(un (f i)).tdiv 256=(((f i).toNat / 256:Nat):Int):=rfl
 have d2:(un (f i)).tdiv 65536=(((f i).toNat / 65536:Nat):Int):=rfl
 have d3:(un (f i)).tdiv 16777216=(((f i).toNat / 16777216:Nat):Int):=rfl
 have b0:IntKind.u8.wrap ((un (f i)).tmod 256)=((bt (f i) 0).toNat:Int):=by
  rw [show(un (f i)).tmod 256=(((f i).toNat % 256:Nat):Int) from rfl,wrap_u8n,bt_nat]
  simp
 have b1:IntKind.u8.wrap ((IntKind.u32.wrap ((un (f i)).tdiv 256)).tmod 256)=((bt (f i) 1).toNat:Int):=by
  rw [d1,w32 _ (by omega),show(((f i).toNat / 256:Nat):Int).tmod 256=(((f i).toNat / 256 % 256:Nat):Int) from rfl,wrap_u8n,bt_nat]
  simp
 have b2:IntKind.u8.wrap ((IntKind.u32.wrap ((un (f i)).tdiv 65536)).tmod 256)=((bt (f i) 2).toNat:Int):=by
  rw [d2,w32 _ (by omega),show(((f i).toNat / 65536:Nat):Int).tmod 256=(((f i).toNat / 65536 % 256:Nat):Int) from rfl,wrap_u8n,bt_nat]
  simp
 have b3:IntKind.u8.wrap (IntKind.u32.wrap ((un (f i)).tdiv 16777216))=((bt (f i) 3).toNat:Int):=by
  rw [d3,w32 _ (by omega),wrap_u8n,bt_nat]
 have hv1:=hv.toks (room_toks s 1)
 obtain⟨v3,s3,hap,happ,ho,-,-⟩:=hv1.push (bytes:=1) (by decide) (byteRows_fit _) (ys:=byteRows (le4 (f i))) (byteRows_fit _) (by simp [byteRows_len,hln,le4]; omega) (by simp [byteRows_len,hln,le4]; omega)
 rw [← byteRows_app] at happ
 simp -implicitDefEqProofs [hia,b0,b1,b2,b3,repl,rowsOf,frzV]
 refine t_app_f (v:=v3) (s:=s3) ?_ ?_
 ·simp -implicitDefEqProofs [V.rows]
  exact hap _
 simp -implicitDefEqProofs [c20_k1,w9]
 exact⟨n-(i+1),by omega,i+1,v3,rfl,rfl,by omega,happ⟩
end Go.Proofs.Ytmlkdfjojoophaa.T

namespace Go.Proofs.Ytmlkdfjojoophaa.T
open Go.Dn
set_option linter.unusedSimpArgs false

namespace Gf
theorem xs (a:W):a^^^a=0:=BitVec.xor_self
theorem x0 (a:W):a^^^0=a:=BitVec.xor_zero
theorem zx (a:W):0^^^a=a:=BitVec.zero_xor
theorem bit_add {f:W→W}(h0:f 0=0)(b:Bool)(x:W):f (bit b x)=bit b (f x):=by
 cases b
 ·exact h0
 ·rfl
theorem lin_ext {f g:W→W}(f0:f 0=0)(fx : ∀ a b,f (a^^^b)=f a^^^f b)(g0:g 0=0)(gx : ∀ a b,g (a^^^b)=g a^^^g b)(h : ∀ j,j<32→f (pw j 1)=g (pw j 1))(a:W):f a=g a:=by
 rw [← sum_bits a,sum_lin f0 fx,sum_lin g0 gx]
 exact sum_congr fun j hj=>by rw [bit_add f0,bit_add g0,h j hj]
theorem zero_mul (a:W):mul 0 a=0:=by rw [mul_comm,mul_zero]
theorem xor_mul (a b c:W):mul (a^^^b) c=mul a c^^^mul b c:=by rw [mul_comm,mul_xor,mul_comm c,mul_comm c]
theorem mul_left (a b c:W):mul a (mul b c)=mul b (mul a c):=by rw [mul_assoc,mul_comm a b,← mul_assoc]
theorem pw_mul (j:Nat)(a:W):mul (pw j 1) a=pw j a:=by rw [mul_pw_left,one_mul]
def sq (a:W):W:=mul a a
theorem sq_xor (a b:W):sq (a^^^b)=sq a^^^sq b:=by
 unfold sq
 rw [xor_mul,mul_xor,mul_xor,mul_comm b a]
 generalize mul a a=x
 generalize mul a b=y
 generalize mul b b=z
 rw [BitVec.xor_assoc,← BitVec.xor_assoc y,xs,zx]
theorem sq_zero:sq 0=0:=mul_zero 0
theorem sq_mul (a b:W):sq (mul a b)=mul (sq a) (sq b):=by
 unfold sq
 rw [← mul_assoc,mul_left b,mul_assoc a a]
def sqn:Nat→W→W
 | 0,a=>a
 | n+1,a=>sq (sqn n a)
theorem sqn_xor (a b:W) : ∀ n,sqn n (a^^^b)=sqn n a^^^sqn n b
 | 0=>rfl
 | n+1=>by simp only [sqn]; rw [sqn_xor a b n,sq_xor]
theorem sqn_zero : ∀ n,sqn n 0=0
 | 0=>rfl
 | n+1=>by simp only [sqn]; rw [sqn_zero n,sq_zero]
theorem sqn_mul (a b:W) : ∀ n,sqn n (mul a b)=mul (sqn n a) (sqn n b)
 | 0=>rfl
 | n+1=>by simp only [sqn]; rw [sqn_mul a b n,sq_mul]
theorem sqn_one : ∀ n,sqn n 1=1
 | 0=>rfl
 | n+1=>by simp only [sqn]; rw [sqn_one n]; exact mul_one 1
def nstep (a b r k:Nat):Nat:=((r*2 % 4294967296)^^^(r / 2147483648*141))^^^(b / 2 ^ k % 2*a)
def nmul (a b:Nat)(n:Nat):Nat:=Nat.rec 0 (fun n r=>nstep a b r (31-n)) n
theorem sh_nat (x:W):(sh x).toNat=(x.toNat*2 % 4294967296)^^^(x.toNat / 2147483648*141):=by
 have hx:=x.isLt
 have h1:(x <<< 1).toNat=x.toNat*2 % 4294967296:=by
  rw [BitVec.toNat_shiftLeft,Nat.shiftLeft_eq]
 unfold sh
 rw [BitVec.msb_eq_decide]
 by_cases h:2 ^ (32-1)≤x.toNat
 ·have hd:x.toNat / 2147483648=1:=by omega
  have hb:(BitVec.toNat 0x8d#32)=141:=rfl
  rw [if_pos (by simpa using h),BitVec.toNat_xor,h1,hd,hb]
 ·have hd:x.toNat / 2147483648=0:=by omega
  rw [if_neg (by simpa using h),h1,hd]
  simp
theorem bit_nat (b:W)(k:Nat)(a:W):(bit (b.getLsbD k) a).toNat=b.toNat / 2 ^ k % 2*a.toNat:=by
 have h:b.getLsbD k=decide (b.toNat / 2 ^ k % 2=1):=by
  show b.toNat.testBit k=_
  rw [Nat.testBit_eq_decide_div_mod_eq]
 rw [h]
 have h2:=Nat.mod_two_eq_zero_or_one (b.toNat / 2 ^ k)
 rcases h2 with h2 | h2
 ·rw [h2]; simp [bit]
 ·rw [h2]; simp [bit]
end Gf
theorem hor_nat (a b:W32) : ∀ n,(hor a b n).toNat=Gf.nmul a.toNat b.toNat n
 | 0=>rfl
 | n+1=>by
  show(Gf.sh (hor a b n)^^^Gf.bit (b.getLsbD (31-n)) a).toNat=Gf.nstep a.toNat b.toNat (Gf.nmul a.toNat b.toNat n) (31-n)
  rw [BitVec.toNat_xor,Gf.sh_nat,Gf.bit_nat,hor_nat a b n]
  rfl
namespace Gf
def nm (a b:Nat):Nat:=nmul a b 32
theorem mul_nat (a b:W):(mul a b).toNat=nm a.toNat b.toNat:=by rw [← hor_all,hor_nat]; rfl
def nsqn (a n:Nat):Nat:=Nat.rec a (fun _ r=>nm r r) n
theorem sqn_nat (a:W) : ∀ n,(sqn n a).toNat=nsqn a.toNat n
 | 0=>rfl
 | n+1=>by
  show(mul (sqn n a) (sqn n a)).toNat=nm (nsqn a.toNat n) (nsqn a.toNat n)
  rw [mul_nat,sqn_nat a n]
theorem x32n:nsqn 2 32=2:=by decide +kernel
theorem x32:sqn 32 (pw 1 1)=pw 1 1:=by
 apply BitVec.eq_of_toNat_eq
 rw [sqn_nat]
 exact x32n
theorem x32_pw : ∀ j,sqn 32 (pw j 1)=pw j 1
 | 0=>sqn_one 32
 | j+1=>by
  have h:pw (j+1) 1=mul (pw 1 1) (pw j 1):=by rw [pw_mul,← pw_add,Nat.add_comm]
  rw [h,sqn_mul,x32,x32_pw j]
theorem sqn32 (a:W):sqn 32 a=a:=lin_ext (g:=fun a=>a) (sqn_zero 32) (fun a b=>sqn_xor a b 32) rfl (fun _ _=>rfl) (fun j _=>x32_pw j) a
theorem npow_sqn (a:W) : ∀ k,npow a (2 ^ k)=sqn k a
 | 0=>one_mul a
 | k+1=>by
  rw [Nat.pow_succ,Nat.mul_two,npow_add,npow_sqn a k]
  rfl

def psiT:List W:=[0x54fd1264#32,0xc26fcd64#32,0xc26fcd66#32,0x238a7462#32,0xc26fcd62#32,0x973bccaa#32,0x238a746a#32,0x77766712#32,0xc26fcd72#32,0xc1bdd556#32,0x973bcc8a#32,0x572a094c#32,0x238a742a#32,0xb693be84#32,0x77766792#32,0x9555c03e#32,0xc26fcc72#32,0x568419f8#32,0xc1bdd756#32,0x96c3d2ca#32,0x973bc88a#32,0x54861fdc#32,0x572a014c#32,0xb79badc4#32,0x238a642a#32,0x0#32,0xb6939e84#32,0xc519fa86#32,0x77762792#32,0xb9b99fe0#32,0x9555403e#32,0x377627ba#32]
def psi (y:W):W:=sum 32 fun j=>bit (y.getLsbD j) (psiT.getD j 0)
theorem psi_zero:psi 0=0:=by
 unfold psi
 exact(sum_congr (g:=fun _=>0) fun i _=>by rw [show BitVec.getLsbD (0:W) i=false from BitVec.getLsbD_zero]; rfl).trans (sum_zero 32)
theorem psi_xor (a b:W):psi (a^^^b)=psi a^^^psi b:=by
 unfold psi
 rw [← sum_xor]
 exact sum_congr fun i _=>by rw [BitVec.getLsbD_xor,bit_xorb]
theorem psi_basis : ∀ j,j<32→psi (sq (pw j 1)^^^pw j 1)=pw j 1&&&0xfffffffe#32:=by decide +kernel
theorem psi_sq (a:W):psi (sq a^^^a)=a&&&0xfffffffe#32:=by
 refine lin_ext (f:=fun a=>psi (sq a^^^a)) (g:=fun a=>a&&&0xfffffffe#32) ?_ ?_ ?_ ?_ psi_basis a
 ·show psi (sq 0^^^0)=0
  rw [sq_zero,xs]; exact psi_zero
 ·intro a b
  show psi (sq (a^^^b)^^^(a^^^b))=psi (sq a^^^a)^^^psi (sq b^^^b)
  rw [← psi_xor,sq_xor]
  congr 1
  rw [BitVec.xor_assoc,BitVec.xor_assoc,← BitVec.xor_assoc (sq b),BitVec.xor_comm (sq b),BitVec.xor_assoc a]
 ·rfl
 ·intro a b
  apply BitVec.eq_of_getLsbD_eq
  intro i hi
  simp only [BitVec.getLsbD_xor,BitVec.getLsbD_and]
  cases a.getLsbD i <;> cases b.getLsbD i <;> cases (BitVec.getLsbD 0xfffffffe#32 i) <;> rfl
theorem idem {a:W}(h:sq a=a):a=0∨a=1:=by
 have h1:=psi_sq a
 rw [h,xs,psi_zero] at h1
 have h2:a.toNat&&&4294967294=0:=by
  have:=congrArg BitVec.toNat h1
  simpa using this.symm
 have h3:a.toNat<2:=by
  rcases Nat.lt_or_ge a.toNat 2 with h4 | h4
  ·exact h4
  ·exfalso
   have hlt:=a.isLt
   have h5 : ∃ i,1≤i∧i<32∧a.toNat.testBit i=true:=by
    have hne:a.toNat / 2≠0:=by omega
    obtain⟨i,hi⟩:=Nat.exists_testBit_of_ne_zero hne
    rw [Nat.testBit_div_two] at hi
    refine⟨i+1,by omega,?_,hi⟩
    rcases Nat.lt_or_ge (i+1) 32 with h6 | h6
    ·exact h6
    ·have:a.toNat.testBit (i+1)=false:=Nat.testBit_lt_two_pow (Nat.lt_of_lt_of_le hlt (Nat.pow_le_pow_right (by decide) h6))
     rw [this] at hi; cases hi
   obtain⟨i,i1,i2,i3⟩:=h5
   have h7:Nat.testBit 4294967294 i=true:=by
    have : ∀ i,i<32→1≤i→Nat.testBit 4294967294 i=true:=by decide
    exact this i i2 i1
   have h8:(a.toNat&&&4294967294).testBit i=true:=by rw [Nat.testBit_and,i3,h7]; rfl
   rw [h2] at h8
   simp at h8
 rcases Nat.lt_or_ge a.toNat 1 with h4 | h4
 ·left
  apply BitVec.eq_of_toNat_eq
  show a.toNat=0
  omega
 ·right
  apply BitVec.eq_of_toNat_eq
  show a.toNat=1
  omega

def inv (a:W):W:=npow a (2 ^ 32-2)
theorem inv_mul {a:W}(ha:a≠0):mul (inv a) a=1:=by
 have key : ∀ N,npow a (N+2)=a→mul (npow a N) a=1:=by
  intro N h
  have e1:mul (npow a (N+1)) a=a:=h
  have e2:sq (npow a (N+1))=npow a (N+1):=by
   unfold sq
   rw [← npow_add,show N+1+(N+1)=(N+2)+N by omega,npow_add,h,mul_comm]
   rfl
  rcases idem e2 with h0 | h1
  ·rw [h0,zero_mul] at e1
   exact absurd e1.symm ha
  ·exact h1
 refine key (2 ^ 32-2) ?_
 rw [Nat.sub_add_cancel (by decide),npow_sqn,sqn32]
theorem mul_inv {a:W}(ha:a≠0):mul a (inv a)=1:=by rw [mul_comm,inv_mul ha]
theorem mul_eq_zero {a b:W}(h:mul a b=0):a=0∨b=0:=by
 by_cases ha:a=0
 ·exact .inl ha
 ·right
  have:=congrArg (mul (inv a)) h
  rwa [mul_assoc,inv_mul ha,one_mul,mul_zero] at this
theorem mul_ne {a b:W}(ha:a≠0)(hb:b≠0):mul a b≠0:=fun h=>(mul_eq_zero h).elim ha hb
theorem inv_ne {a:W}(ha:a≠0):inv a≠0:=fun h=>by
 have:=inv_mul ha
 rw [h,zero_mul] at this
 exact absurd this (by decide)
theorem xor_zero_eq {a b:W}(h:a^^^b=0):a=b:=by
 have:=congrArg (· ^^^ b) h
 simp only [BitVec.xor_assoc,xs,x0,zx] at this
 exact this
theorem mul_cancel {a b c:W}(ha:a≠0)(h:mul a b=mul a c):b=c:=by
 refine xor_zero_eq ?_
 refine(mul_eq_zero (a:=a) ?_).resolve_left ha
 rw [mul_xor,h,xs]

def tr (a:W):W:=sum 32 fun i=>sqn i a
theorem tr_xor (a b:W):tr (a^^^b)=tr a^^^tr b:=by
 unfold tr
 rw [← sum_xor]
 exact sum_congr fun i _=>sqn_xor a b i
theorem tr_zero:tr 0=0:=(sum_congr (g:=fun _=>0) fun i _=>sqn_zero i).trans (sum_zero 32)
theorem tr_sq (a:W):sq (tr a)=tr a:=by
 have h1:sq (tr a)=sum 32 fun i=>sqn (i+1) a:=sum_lin sq_zero sq_xor _ 32
 have h2:sum 33 (fun i=>sqn i a)=sqn 0 a^^^sum 32 fun i=>sqn (i+1) a:=sum_first _ 32
 have h3:sum 33 (fun i=>sqn i a)=tr a^^^sqn 32 a:=rfl
 rw [sqn32] at h3
 rw [h3] at h2
 rw [h1]
 have h4:a^^^(tr a^^^a)=a^^^(a^^^sum 32 fun i=>sqn (i+1) a):=congrArg (a ^^^ ·) h2
 rw [← BitVec.xor_assoc a a,xs,zx,BitVec.xor_comm,BitVec.xor_assoc,xs,x0] at h4
 exact h4.symm
theorem tr_bit (a:W):tr a=0∨tr a=1:=idem (tr_sq a)
def ntr (a:Nat)(n:Nat):Nat×Nat:=Nat.rec (0,a) (fun _ p=>(p.1^^^p.2,nm p.2 p.2)) n
theorem ntr_eq (a:W) : ∀ n,ntr a.toNat n=((sum n fun i=>sqn i a).toNat,(sqn n a).toNat)
 | 0=>rfl
 | n+1=>by
  show((ntr a.toNat n).1^^^(ntr a.toNat n).2,nm (ntr a.toNat n).2 (ntr a.toNat n).2)=_
  rw [ntr_eq a n]
  show _=((sum n (fun i=>sqn i a)^^^sqn n a).toNat,(mul (sqn n a) (sqn n a)).toNat)
  rw [BitVec.toNat_xor,mul_nat]
def npw (n a:Nat):Nat:=Nat.rec a (fun _ r=>(r*2 % 4294967296)^^^(r / 2147483648*141)) n
theorem pw_nat (a:W) : ∀ n,(pw n a).toNat=npw n a.toNat
 | 0=>rfl
 | n+1=>by
  show(sh (pw n a)).toNat=_
  rw [sh_nat,pw_nat a n]
  rfl
def trT:List Bool:=[false,false,false,false,false,false,false,false,false,false,false,false,false,false,false,false,false,false,false,false,false,false,false,false,false,true,false,false,false,true,false,false,false,false,false,false,false,false,false,false,false,false,false,false,false,false,false,false,false,false,true,false,false,false,false,true,false,true,true,true,false,true,false]
theorem trN : ∀ k,k<63→(ntr (npw k 1) 32).1=(if trT.getD k false=true then 1 else 0):=by decide +kernel
theorem tr_pw (k:Nat)(h:k<63):tr (pw k 1)=bit (trT.getD k false) 1:=by
 apply BitVec.eq_of_toNat_eq
 have h1:=ntr_eq (pw k 1) 32
 have h2:=trN k h
 rw [pw_nat] at h1
 have h3:(1:W).toNat=1:=rfl
 rw [h3] at h1
 rw [h1] at h2
 refine Eq.trans h2 ?_
 cases trT.getD k false <;> rfl
def dualT:List W:=[0x2888889d#32,0x94444408#32,0x62aaaa99#32,0x99dddd97#32,0xcceeee8d#32,0xe6777700#32,0x733bbb80#32,0x1115555d#32,0x888aaae8#32,0x44455574#32,0x2222aaba#32,0x1111555d#32,0x8888aae8#32,0x44445574#32,0x22222aba#32,0x1111155d#32,0x88888ae8#32,0x44444574#32,0x222222ba#32,0x1111115d#32,0x888888e8#32,0x44444474#32,0x2222223a#32,0x1111111d#32,0x888888c8#32,0x44444464#32,0x22222232#32,0x11111119#32,0x888888ca#32,0x44444465#32,0xa2222274#32,0x5111113a#32]
theorem dual_basis : ∀ i,i<32→(sum 32 fun j=>bit (trT.getD (j+i) false) (dualT.getD j 0))=pw i 1:=by decide +kernel
theorem mul_bit (b:Bool)(x:W):mul (bit b 1) x=bit b x:=by
 cases b
 ·exact zero_mul x
 ·exact one_mul x
theorem dual (x:W):(sum 32 fun j=>mul (tr (mul (pw j 1) x)) (dualT.getD j 0))=x:=by
 refine lin_ext (f:=fun x=>sum 32 fun j=>mul (tr (mul (pw j 1) x)) (dualT.getD j 0)) (g:=fun x=>x) ?_ ?_ rfl (fun _ _=>rfl) (fun i hi=>?_) x
 ·exact(sum_congr (g:=fun _=>0) fun j _=>by rw [mul_zero,tr_zero,zero_mul]).trans (sum_zero 32)
 ·intro a b
  rw [← sum_xor]
  exact sum_congr fun j _=>by rw [mul_xor,tr_xor,xor_mul]
 ·show(sum 32 fun j=>mul (tr (mul (pw j 1) (pw i 1))) (dualT.getD j 0))=pw i 1
  refine Eq.trans (sum_congr fun j hj=>?_) (dual_basis i hi)
  rw [pw_mul,← pw_add,tr_pw _ (by omega),mul_bit]
theorem tr_inj {x y:W}(h : ∀ j,j<32→tr (mul (pw j 1) x)=tr (mul (pw j 1) y)):x=y:=by
 rw [← dual x,← dual y]
 exact sum_congr fun j hj=>by rw [h j hj]
end Gf
end Go.Proofs.Ytmlkdfjojoophaa.T
