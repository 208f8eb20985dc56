import Derived.Test.YtmlkdfjojoophaaF29
namespace Go.Proofs.Ytmlkdfjojoophaa.T
open Go.Dn
attribute [local simp] body_eq globEnv GB List.map_nil List.map_cons List.append_nil w_rangeF i_next i_makeMap i_range i_update i_delete i_entry i_clone entryV cloneV q_rndA q_rndB_n q_rndB_e q_rndB_r setAll w_skip w_ops w_seq w_cond w_block w_exit w_ret q_then_n q_then_e q_then_r q_blk_n q_blk_e q_blk_r q_ops q_cont q_end_n q_end_r q_end_e q_loop_n q_loop_e q_loop_r i_nil i_p i_alloc i_box i_store i_copy i_clear i_call i_callv i_when t_nil t_p t_call t_alloc t_box t_store kept_nil t_copy t_clear q_tcont gsel List.cons_append List.nil_append evalP evalE evalF evalB isObj thaw Opd.ev Env.get Env.set Env.pick putE initEnv evalBin intBin evalUn evalConv goneAll goneOne retV resAll Res.ev tupOf byVals byValsN bv_d bv_da bv_fl bv_tl bn_d bn_da bn_fl bn_tl cx Dn.newObj St.place St.push St.spot St.empty cell_d cell_da cell_agg cell_ref cell_sl cell_fl cell_tl cell_map cell_fn cell_ifc loadAt faddrV partOf extractV mkAgg ofD splice St.setObj fillV
set_option linter.unusedSimpArgs false

open Sip (num num_lt num_take)

def w4 (l:List UInt8):W32:=BitVec.ofNat 32 (num l)
def chk (l:List UInt8)(i:Nat):List UInt8:=(l.drop (i*4)).take 4
def wds (l:List UInt8)(n:Nat):List W32:=fnL n fun i=>w4 (chk l i)
def words (l:List UInt8):List W32:=wds l (l.length / 4)
theorem wds_len (l:List UInt8)(n:Nat):(wds l n).length=n:=fnL_len _ _
theorem words_len (l:List UInt8):(words l).length=l.length / 4:=wds_len _ _
theorem wds_succ (l:List UInt8)(n:Nat):wds l (n+1)=wds l n++[w4 (chk l n)]:=by simp [wds,fnL,List.range_succ]
theorem chk_len {l:List UInt8}{i:Nat}(h:i*4+4≤l.length):(chk l i).length=4:=by simp [chk]; omega
theorem num_bound {l:List UInt8}(h:l.length≤4):num l<4294967296:=by
 have:=num_lt l
 have h2:256 ^ l.length≤256 ^ 4:=Nat.pow_le_pow_right (by decide) h
 omega
theorem un_w4 {l:List UInt8}(h:l.length≤4):un (w4 l)=(num l:Int):=by
 have:=num_bound h
 simp only [un,w4,BitVec.toNat_ofNat]
 rw [Nat.mod_eq_of_lt (by omega)]
theorem w4_le4 (w:W32):w4 (le4 w)=w:=by
 have hz:=w.isLt
 have:num (le4 w)=w.toNat:=by
  have b0:=bt_nat w 0
  have b1:=bt_nat w 1
  have b2:=bt_nat w 2
  have b3:=bt_nat w 3
  simp only [le4,num]
  simp at b0 b1 b2 b3
  omega
 unfold w4
 rw [this]
 simp
theorem skB_chk (f:Nat→W32) : ∀ {n i:Nat},i<n→chk (skB f n) i=le4 (f i)
 | 0,i,h=>by omega
 | n+1,i,h=>by
  have hl:=skB_len f n
  simp only [skB]
  by_cases hi:i<n
  ·rw [← skB_chk f hi]
   unfold chk
   rw [List.drop_append_of_le_length (by omega),List.take_append_of_le_length (by simp; omega)]
  ·obtain rfl:i=n:=by omega
   unfold chk
   rw [List.drop_append,List.drop_of_length_le (by omega),hl,show i*4-4*i=0 by omega]
   rfl
theorem words_bL (L:List W32):words (bL L)=L:=by
 have hl:(bL L).length=4*L.length:=skB_len _ _
 refine Gf.list_ext_co (by rw [words_len,hl]; omega) fun k hk=>?_
 rw [words_len,hl] at hk
 have hk2:k<L.length:=by omega
 unfold words wds
 rw [fnL_co _ (by rw [hl]; omega)]
 unfold bL
 rw [skB_chk _ hk2,w4_le4]
def sumE:Env:=[(4,.ref 0 0)]
def InvSm (d:D)(l:List UInt8)(i:Nat)(s:St):Prop:=∃ v tk,s=⟨[.cells [v],.cells [.d d],.cells [I 4],.loop sumE [15] c42_a1 c42_b11 .ready],tk⟩∧App s 1 v (pR (wds l i))
theorem sums_a {e:Env}{s:St}{Q:PostC}(h:Q .normal ((putE e (some 5) (e.get 15)).pick [4,5]) s):wcode (Dn.Call Γ cx) cx c42_a1 e s Q:=by
 simp only [c42_a1,w_ops,i_p,isObj,Bool.false_eq_true,if_false,evalP,Opd.ev,i_nil,q_ops]
 exact h
theorem or_nat32 (m c i:Nat)(hm:m<2 ^ (8*i))(hi:i<4)(hc:c<256):bits .or .u32 (m:Int) ((c*2 ^ (8*i):Nat):Int)=((m+c*2 ^ (8*i):Nat):Int):=by
 have hp:2 ^ (8*i)*256≤2 ^ 32:=by
  have:2 ^ (8*i)*2 ^ 8=2 ^ (8*i+8):=by rw [← Nat.pow_add]
  have h2:2 ^ (8*i+8)≤2 ^ 32:=Nat.pow_le_pow_right (by decide) (by omega)
  omega
 have hcm:c*2 ^ (8*i)≤255*2 ^ (8*i):=Nat.mul_le_mul_right _ (by omega)
 have e1:(m:Int)=un (BitVec.ofNat 32 m):=by
  simp only [un,BitVec.toNat_ofNat]
  rw [Nat.mod_eq_of_lt (by omega)]
 have e2:((c*2 ^ (8*i):Nat):Int)=un (BitVec.ofNat 32 (c*2 ^ (8*i))):=by
  simp only [un,BitVec.toNat_ofNat]
  rw [Nat.mod_eq_of_lt (by omega)]
 rw [e1,e2,or_u32]
 simp only [un,BitVec.toNat_or,BitVec.toNat_ofNat]
 rw [Nat.mod_eq_of_lt (by omega),Nat.mod_eq_of_lt (by omega)]
 have:=Nat.two_pow_add_eq_or_of_lt hm c
 rw [Nat.or_comm,Nat.mul_comm c,← this,Nat.add_comm]
def InvCk (l:List UInt8)(sx:St)(m:Nat)(e:Env)(s:St):Prop:=∃ i:Nat,e=[(4,.ref 0 0),(6,X (num (l.take i))),(16,.fl (byteRows l)),(17,I l.length),(18,I i)]∧i≤l.length∧m=l.length-i∧s=sx
theorem sums_b {s s':St}{v v':V}{l:List UInt8}{Q:PostC}(h0:s.objs[0]?=some (.cells [v]))(hl:l.length≤4)(hap : ∀ tg,appendV s tg 1 4 v (pR [w4 l])=some (v',s'))(ho:s'.objs=s.objs)(hc:v'.cells=some [v'])
  (hQ:Q .normal [] ⟨s.objs.set 0 (.cells [v']),s'.toks⟩):wcode (Dn.Call Γ cx) cx c42_b11 [(4,.ref 0 0),(5,.fl (byteRows l))] s Q:=by
 have hv:LV (.fl (byteRows l)) (byteRows l):=.fl _
 have hlen : ∀ σ,lenT σ .slice (.fl (byteRows l))=some l.length:=fun σ=>by rw [hv.len,byteRows_len]
 simp -implicitDefEqProofs [c42_b11,c42_k10,c42_k9,c42_k8,hlen]
 refine wloopI (InvCk l s) (m:=l.length) ⟨0,rfl,by omega,by omega,rfl⟩ ?_
 rintro m e σ ⟨i,rfl,hi,rfl,rfl⟩
 simp -implicitDefEqProofs [c42_l7,c42_k6]
 by_cases hil:i<l.length
 rotate_left
 ·obtain rfl:i=l.length:=by omega
  have hun:=un_w4 hl
  have h0':s'.objs[0]?=some (.cells [v]):=by rw [ho]; exact h0
  simp -implicitDefEqProofs [c42_k2,h0,repl,rowsOf,frzV]
  refine i_app_f (v:=v') (s:=s') ?_ ?_
  ·have:=hap none
   simp only [pR,List.map_cons,List.map_nil,hun] at this
   simp [evalE,Opd.ev,Env.get,V.rows]
   exact this
  simp -implicitDefEqProofs [h0',hc]
  rw [ho]
  exact hQ
 obtain⟨b,hb⟩ : ∃ b,l[i]?=some b:=⟨l[i],by simp [hil]⟩
 have hia:=fun σ=>hv.iaddr σ (k:=.i64) (i:=i) (byteRows_at hb) (sz:=1) rfl
 have hbl:=b.toNat_lt
 have hnt:=num_take hb
 have hnl:=num_lt (l.take i)
 have e256:256 ^ i=2 ^ (8*i):=by rw [show 256=2 ^ 8 from rfl,← Nat.pow_mul]
 rw [List.length_take,Nat.min_eq_left hi,e256] at hnl
 rw [e256] at hnt
 have hor:=or_nat32 (num (l.take i)) b.toNat i hnl (by omega) hbl
 have w1:IntKind.u32.wrap (b.toNat:Int)=(b.toNat:Int):=by
  simp only [IntKind.wrap,IntKind.signed,IntKind.bits]; simp; omega
 have w2:IntKind.i64.wrap (8*(i:Int))=((8*i:Nat):Int):=by rw [wrap_i64 (by omega) (by omega)]; omega
 have hsh:shiftBin .shl .u32 (b.toNat:Int) ((8*i:Nat):Int)=some (X ((b.toNat*2 ^ (8*i):Nat):Int)):=by
  have e1:(b.toNat:Int)=un (BitVec.ofNat 32 b.toNat):=by
   simp only [un,BitVec.toNat_ofNat]
   rw [Nat.mod_eq_of_lt (by omega)]
  rw [e1,shl_32 _ _ (by omega)]
  have hp:2 ^ (8*i)*256≤2 ^ 32:=by
   have:2 ^ (8*i)*2 ^ 8=2 ^ (8*i+8):=by rw [← Nat.pow_add]
   have h2:2 ^ (8*i+8)≤2 ^ 32:=Nat.pow_le_pow_right (by decide) (by omega)
   omega
  have hcm:b.toNat*2 ^ (8*i)≤255*2 ^ (8*i):=Nat.mul_le_mul_right _ (by omega)
  simp only [Xw,X,un,BitVec.toNat_shiftLeft,BitVec.toNat_ofNat,Nat.shiftLeft_eq]
  rw [Nat.mod_eq_of_lt (a:=b.toNat) (by omega),Nat.mod_eq_of_lt (by omega)]
 obtain⟨sh,hshd⟩ : ∃ sh:Nat,8*i=sh:=⟨_,rfl⟩
 rw [hshd] at w2 hsh hor hnt
 obtain⟨y,hy⟩ : ∃ y:Nat,b.toNat*2 ^ sh=y:=⟨_,rfl⟩
 rw [hy] at hsh hor
 rw [Nat.mul_comm,hy] at hnt
 rw [← hnt] at hor
 simp -implicitDefEqProofs [hil,c42_k5,c42_k4,hia,c42_k3,w1,w2,hsh,hor,wrap_i64 (n:=(i:Int)+1) (by omega) (by omega)]
 exact⟨l.length-(i+1),by omega,i+1,rfl,by omega,rfl,rfl⟩
theorem app_vcells {s:St}{sz:Nat}{v:V}{rows:List (List D)}(h:App s sz v rows):v.cells=some [v]:=by
 cases h <;> rfl
def sumS (v:V)(d:D)(tk:List Nat)(st:Dn.LSt):St:=⟨[.cells [v],.cells [.d d],.cells [I 4],.loop sumE [15] c42_a1 c42_b11 st],tk⟩
theorem s_sums {d:D}{l:List UInt8}(hd:LV (.d d) (byteRows l))(hl:l.length≤100000):Dn.Call Γ cx .val 42 [.d d] St.empty fun w _=>(l.length % 4≠0∧w = .tup [.d .nils,B false])∨(l.length % 4=0∧∃ x,w = .tup [.d x,B true]∧PL x (words l)):=by
 refine Dn.Call.body (fc:=c42) rfl ?_
 have hlen : ∀ σ,lenT σ .slice (.d d)=some l.length:=fun σ=>by rw [hd.len,byteRows_len]
 have hrem:(l.length:Int).tmod 4=((l.length % 4:Nat):Int):=rfl
 have hbl:=byteRows_len l
 by_cases h4:l.length % 4=0
 rotate_left
 ·have e0 : ¬ (((l.length % 4:Nat):Int)=0):=by omega
  obtain⟨q,hq⟩ : ∃ q,l.length % 4=q:=⟨_,rfl⟩
  rw [hq] at hrem h4 e0
  simp -implicitDefEqProofs [c42,c42_k16,hlen,hrem,h4,e0,c42_k15]
  omega
 have hrem0:(l.length:Int).tmod 4=0:=by rw [hrem,h4]; rfl
 simp -implicitDefEqProofs [c42,c42_k16,hlen,hrem0,c42_k15,c42_k14,c42_k13]
 refine use_raw (s_Chunk (v:=.d d) (n:=4) (by omega) rfl) fun w s ⟨hw,hs⟩=>?_
 subst hw hs
 simp -implicitDefEqProofs [c42_k12]
 refine⟨_,s_Chunk1 (n:=4) (by omega) (by omega) hd (byteRows_fit _) (by rintro r t st s h; cases h) (by omega) (InvSm d l) ?_ ?_ ?_,?_⟩
 ·exact⟨_,_,rfl,.nil⟩
 ·rintro i s ⟨v,tk,rfl,hA⟩
  exact⟨rfl,rfl⟩
 ·rintro i s ⟨v,tk,rfl,hA⟩ hi
  rw [hbl] at hi
  refine Call.rnd (e:=sumE) (ps:=[15]) (a:=c42_a1) (b:=c42_b11) rfl rfl ?_
  refine sums_a ?_
  simp only [q_rndA]
  refine⟨rfl,?_⟩
  rw [byteRows_drop,byteRows_take]
  have hcl:(chk l i).length=4:=chk_len (by omega)
  have hA2:App (sumS v d tk .busy) 1 v (pR (wds l i)):=hA.toks rfl
  obtain⟨v2,s2,p2,a2,o2,-,-⟩:=hA2.push (bytes:=4) (by decide) (pR_fit _) (ys:=pR [w4 (chk l i)]) (pR_fit _) (by simp [pR_len,wds_len]; omega) (by simp [pR_len,wds_len]; omega)
  rw [← pR_app,← wds_succ] at a2
  refine sums_b (s:=sumS v d tk .busy) (l:=chk l i) rfl (by omega) p2 o2 (app_vcells a2) ?_
  simp only [q_rndB_n]
  exact⟨rfl,trivial,v2,s2.toks,rfl,a2.toks rfl⟩
 ·rintro w s ⟨k,⟨v,tk,rfl,hA⟩,hk1,hk2⟩
  refine rfQ_ready rfl ?_
  rw [hbl] at hk1 hk2
  have hk4:k=l.length / 4:=by
   have:=hk2 (k-1)
   rcases Nat.eq_zero_or_pos k with h | h
   ·omega
   ·have:=this (by omega)
    omega
  subst hk4
  have hdv:=fun s=>hA.lv.dv s
  obtain⟨x,hx⟩:=(hdv St.empty).2.2.1
  simp -implicitDefEqProofs [c42_k0,sumE,(fun s=>(hdv s).1),h4]
  refine⟨x,hx,?_⟩
  have:=(hdv St.empty).2.1
  rw [hx] at this
  exact this

open Sip (num num_lt num_take)

def badB (l:List UInt8):Prop:=l.length % 4≠0∨l.length / 4<1∨40<l.length / 4
theorem s_Read {σ:St}{d:D}{l:List UInt8}(hd:LV (.d d) (byteRows l))(hl:l.length≤100000):Dn.Call Γ cx .raw 19 [.d d] σ fun w s=>(badB l∧w = .tup [.d .nilp,errV 2]∧s=σ)∨(¬ badB l∧∃ y x,w = .tup [.ref y 0,.d .nili]∧PL x (words l)∧SkR s y (.d x) (words l)∧Fr [] σ s∧s.toks=σ.toks):=by
 refine Dn.Call.body (fc:=c19) rfl ?_
 have e2:errV 2 = .d (.iface 39 (.int .i64 2)):=rfl
 simp -implicitDefEqProofs [c19,c19_k3]
 refine use_val (ds:=[.d d]) rfl (s_sums hd hl) fun w s hw=>?_
 rcases hw with⟨h4,rfl⟩ | ⟨h4,x,rfl,hx⟩
 ·refine⟨rfl,fun h=>Bool.noConfusion (show false=true from h),?_⟩
  simp -implicitDefEqProofs [c19_k2,c19_k1,mkifV]
  exact⟨.inl h4,e2.symm⟩
 have hlx : ∀ σ,lenT σ .slice (.d x)=some (words l).length:=fun σ=>by rw [hx.len,pR_len]
 have hwl:=words_len l
 refine⟨rfl,fun h=>Bool.noConfusion (show false=true from h),?_⟩
 by_cases h1:l.length / 4<1
 ·have hI:((words l).length:Int)<1:=by omega
  simp -implicitDefEqProofs [c19_k2,hlx,hI,c19_k1,mkifV]
  exact⟨.inr (.inl h1),e2.symm⟩
 by_cases h2:40<l.length / 4
 ·have hI : ¬ ((words l).length:Int)<1:=by omega
  have hI2:(40:Int)<(words l).length:=by omega
  simp -implicitDefEqProofs [c19_k2,hlx,hI,hI2,c19_k1,mkifV]
  exact⟨.inr (.inr h2),e2.symm⟩
 have hI : ¬ ((words l).length:Int)<1:=by omega
 have hI2 : ¬ (40:Int)<(words l).length:=by omega
 simp -implicitDefEqProofs [c19_k2,hlx,hI,hI2,c19_k1,c19_k0]
 refine⟨by unfold badB; omega,x,hx,⟨by simp,.lv hx (by rintro r t st s h; cases h),by rintro r t st s h; cases h⟩,Fr.push1 _ _⟩

theorem s_OfW {n:Nat}(hn:n≤1000){d:D}{A:List W32}(hd:PL d A)(hl:A.length≤1000):Dn.Call Γ cx .val 24 [I n,.d d] St.empty (isPL (fnL n (osum A))):=by
 have h:LV (.d d) (uRows (A.map un)):=by rw [uRows_map]; exact hd
 refine Dn.Call.mono (fun w s ⟨x,hw,hx⟩=>⟨x,hw,?_⟩) (s_Of hn h (un_bound A) (by simpa using hl))
 rw [acc_osum] at hx
 have e:pR (fnL n (osum A))=wRows (osum A) n:=by
  unfold pR fnL wRows
  rw [List.map_map]
  rfl
 unfold PL
 rw [e]
 exact hx

theorem all_zero (L:List W32):decide (∀ x∈L,x=0)=decide (L=List.replicate L.length 0):=by
 congr 1
 refine propext ⟨fun h=>List.eq_replicate_iff.2 ⟨rfl,h⟩,fun h=>(List.eq_replicate_iff.1 h).2⟩

theorem sliceD {d:D}{L:List W32}(h:PL d L){lo hi:Nat}(h1:lo≤hi)(h2:hi≤L.length) : ∃ d',sliceV 1 (.d d) lo hi none=some (.d d')∧PL d' ((L.drop lo).take (hi-lo)):=by
 obtain⟨w,e1,e2,-⟩:=h.slice St.empty (sz:=1) (pR_fit L) (by rintro r t st s h; cases h) h1 (by rw [pR_len]; exact h2)
 rw [pR_drop,pR_take] at e2
 have : ∃ d',w = .d d':=by
  cases d with
  | nils =>
   simp only [sliceV] at e1
   split at e1
   ·cases e1; exact⟨_,rfl⟩
   ·cases e1
  | list rows =>
   simp only [sliceV] at e1
   split at e1
   ·cases e1; exact⟨_,rfl⟩
   ·cases e1
  | _=>simp [sliceV] at e1
 obtain⟨d',rfl⟩:=this
 exact⟨d',e1,e2⟩
theorem read_ok {L:List W32}(l1:1≤L.length)(l40:L.length≤40) : ¬ badB (bL L):=by
 have hbl:(bL L).length=4*L.length:=skB_len _ _
 unfold badB
 omega

open Gf (dg trim)

def InvSame (x y:D)(n:Nat)(m:Nat)(e:Env)(s:St):Prop:=∃ i:Nat,e=[(0,.d x),(1,.d y),(5,I i)]∧m=n-i∧i≤n∧s=St.empty
theorem s_same {x y:D}{X Y:List W32}(hx:PL x X)(hy:PL y Y)(lX:X.length≤100000)(lY:Y.length≤100000):Dn.Call Γ cx .val 43 [.d x,.d y] St.empty fun v _=>v=B (decide (X=Y)):=by
 refine Dn.Call.body (fc:=c43) rfl ?_
 have hlx : ∀ σ,lenT σ .slice (.d x)=some X.length:=fun σ=>by rw [hx.len,pR_len]
 have hly : ∀ σ,lenT σ .slice (.d y)=some Y.length:=fun σ=>by rw [hy.len,pR_len]
 by_cases hl:X.length=Y.length
 rotate_left
 ·have hne:X≠Y:=fun e=>hl (by rw [e])
  have hlI : ¬ (X.length:Int)=Y.length:=by omega
  simp -implicitDefEqProofs [c43,c43_k9,hlx,hly,hl,hlI,c43_k8,hne]
 simp -implicitDefEqProofs [c43,c43_k9,hlx,hly,hl,c43_k8,c43_k7,c43_k6]
 refine wloopI (fun m e s=>InvSame x y X.length m e s∧∀ i,i+m<X.length→X.getD i 0=Y.getD i 0) (m:=X.length) ⟨⟨0,rfl,rfl,by omega,rfl⟩,fun i hi=>by omega⟩ ?_
 rintro m e s ⟨⟨i,rfl,rfl,hi,rfl⟩,hall⟩
 rcases hin:decide ((i:Int)<X.length) with _ | _
 ·have hlt : ¬ (i:Int)<X.length:=of_decide_eq_false hin
  have heq:X=Y:=Gf.list_ext_co hl fun j hj=>hall j (by omega)
  have hlt2 : ¬ (i:Int)<Y.length:=by omega
  have hlt3 : ¬ i<Y.length:=by omega
  simp -implicitDefEqProofs [hlx,hl,hlt,hlt2,hlt3,c43_l5,c43_k4,heq]
 have hlt:(i:Int)<X.length:=of_decide_eq_true hin
 have hltY:(i:Int)<Y.length:=by omega
 have hltN:i<Y.length:=by omega
 obtain⟨a,ha⟩ : ∃ a,X[i]?=some a:=⟨_,List.getElem?_eq_getElem (by omega)⟩
 obtain⟨b,hb⟩ : ∃ b,Y[i]?=some b:=⟨_,List.getElem?_eq_getElem (by omega)⟩
 have hia:=fun σ=>hx.iaddr σ (k:=.i64) (sz:=1) (i:=i) (pR_at ha) rfl
 have hib:=fun σ=>hy.iaddr σ (k:=.i64) (sz:=1) (i:=i) (pR_at hb) rfl
 have w9:IntKind.i64.wrap ((i:Int)+1)=((i+1:Nat):Int):=by rw [wrap_i64 (by omega) (by omega)]; omega
 simp -implicitDefEqProofs [hlx,hl,hlt,hltY,hltN,c43_l5,c43_k4,c43_k3,c43_k2]
 refine w_drwX (fun _=>.val) [] (by decide +kernel) ?_
 simp only [room_zero]
 simp -implicitDefEqProofs [hia,hib]
 by_cases hab:a=b
 ·subst hab
  simp -implicitDefEqProofs [c43_k1,c43_k0,w9]
  refine⟨Y.length-(i+1),by omega,⟨i+1,rfl,by omega,by omega,rfl⟩,fun j hj=>?_⟩
  by_cases hji:j=i
  ·subst hji
   have e1:=getD_at ha
   have e2:=getD_at hb
   rw [List.getD_eq_getElem?_getD] at e1 e2
   exact e1.trans e2.symm
  ·have:=hall j (by omega)
   rw [List.getD_eq_getElem?_getD,List.getD_eq_getElem?_getD] at this
   exact this
 ·have hu : ¬ un a=un b:=fun e=>hab (by rw [← wof_un a,e,wof_un])
  have hne:X≠Y:=fun e=>hab (by rw [e,hb] at ha; exact(Option.some.inj ha).symm)
  simp -implicitDefEqProofs [hu,c43_k1,hne]
theorem s_coef {x:D}{X:List W32}(hx:PL x X)(lX:X.length≤100000)(i:Nat)(hi:i≤1000000):Dn.Call Γ cx .val 109 [.d x,I i] St.empty fun v _=>v=Xw (X.getD i 0):=by
 refine Dn.Call.body (fc:=c109) rfl ?_
 have hlx : ∀ σ,lenT σ .slice (.d x)=some X.length:=fun σ=>by rw [hx.len,pR_len]
 have g0 : ¬ (i:Int)<0:=by omega
 by_cases h:i<X.length
 ·obtain⟨a,ha⟩ : ∃ a,X[i]?=some a:=⟨_,List.getElem?_eq_getElem h⟩
  have hia:=fun σ=>hx.iaddr σ (k:=.i64) (sz:=1) (i:=i) (pR_at ha) rfl
  have g1 : ¬ (X.length:Int)≤i:=by omega
  have g2 : ¬ X.length≤i:=by omega
  rw [getD_at ha]
  clear h
  simp -implicitDefEqProofs [c109,c109_k2,hlx,g0,g1,g2,c109_k1,c109_k0,hia]
 ·have g1:(X.length:Int)≤i:=by omega
  have g2:X.length≤i:=by omega
  rw [List.getD_eq_getElem?_getD,List.getElem?_eq_none g2]
  simp -implicitDefEqProofs [c109,c109_k2,hlx,g0,g1,g2,c109_k1]
  rfl
def InvRTm (x:D)(X:List W32)(m:Nat)(e:Env)(s:St):Prop:=e=[(0,.d x),(3,I m)]∧m≤X.length∧(∀ i,m≤i→X.getD i 0=0)∧s=St.empty
theorem s_rTrim {x:D}{X:List W32}(hx:PL x X)(lX:X.length≤100000):Dn.Call Γ cx .val 48 [.d x] St.empty (isPL (trim X)):=by
 refine Dn.Call.body (fc:=c48) rfl ?_
 have hlx : ∀ σ,lenT σ .slice (.d x)=some X.length:=fun σ=>by rw [hx.len,pR_len]
 have fin : ∀ m,m≤X.length→dg X=m→wcode (Dn.Call Γ cx) cx c48_k0 [(0,.d x),(3,I m)] St.empty (endQ .val St.empty c48.res (isPL (trim X))):=by
  intro m hm hd
  obtain⟨dt,t1,t2⟩:=sliceD hx (Nat.zero_le m) hm
  rw [List.drop_zero,Nat.sub_zero] at t2
  have hlV:=fun σ=>hx.lenV σ
  have hsx : ∀ σ,sliceX σ 1 (.d x) none (some (I m)) none=some (.d dt):=fun σ=>by simp [sliceX,hlV,pR_len,boundV,asIdx,t1,hm]
  have htm:X.take m=trim X:=by unfold trim; rw [hd]
  rw [htm] at t2
  have hlt:=Gf.trim_len X
  obtain⟨v1,s1,p1,a1,o1,-,-⟩:=(App.fl []:App St.empty 1 (.fl []) []).push (bytes:=4) (by decide) (by simp) (pR_fit (trim X)) (by simp [pR_len]; omega) (by simp [pR_len]; omega)
  rw [List.nil_append] at a1
  have hdv:=a1.lv.dv s1
  obtain⟨d2,hd2⟩:=hdv.2.2.1
  simp -implicitDefEqProofs [c48,c48_k0,isObj,repl,rowsOf,frzV,hsx]
  refine i_app_f (v:=v1) (s:=s1) ?_ ?_
  ·simp [evalE,Opd.ev,Env.get,t2.rows]
   exact p1 _
  simp -implicitDefEqProofs [hdv.1]
  exact⟨d2,hd2,by have:=hdv.2.1; rw [hd2] at this; exact this⟩
 simp -implicitDefEqProofs [c48,c48_k5,hlx,c48_k4]
 refine wloopI (InvRTm x X) (m:=X.length) ⟨rfl,Nat.le_refl _,fun i hi=>by rw [List.getD_eq_getElem?_getD,List.getElem?_eq_none hi]; rfl,rfl⟩ ?_
 rintro m e s ⟨rfl,hm,hz,rfl⟩
 cases m with
 | zero =>
  have h0:dg X=0:=Gf.dg_unique hz (.inl rfl)
  simp -implicitDefEqProofs [c48_l3,c48_k2]
  exact fin 0 hm h0
 | succ k =>
  obtain⟨w,hw⟩ : ∃ w,X[k]?=some w:=⟨_,List.getElem?_eq_getElem (by omega)⟩
  have hia:=fun σ=>hx.iaddr σ (k:=.i64) (sz:=1) (i:=k) (pR_at hw) rfl
  have hgd:X.getD k 0=w:=getD_at hw
  have e2:(0:Int)<((k+1:Nat):Int):=by omega
  have w2:IntKind.i64.wrap (((k+1:Nat):Int)-1)=(k:Int):=by rw [wrap_i64 (by omega) (by omega)]; omega
  obtain⟨k1,hk1⟩ : ∃ k1,k+1=k1:=⟨_,rfl⟩
  have hkp:0<k1:=by omega
  rw [hk1] at e2 w2 hm hz ⊢
  by_cases hw0:w=0
  ·subst hw0
   have hu:un (0#32:W32)=0:=rfl
   simp -implicitDefEqProofs [e2,hkp,hia,hu,c48_l3,c48_k2,c48_k1,w2]
   refine⟨k,by omega,rfl,by omega,fun i hi=>?_,rfl⟩
   rcases Nat.lt_or_ge k i with h | h
   ·exact hz i (by omega)
   ·obtain rfl:i=k:=by omega
    exact hgd
  ·have hu : ¬ un w=0:=fun e=>hw0 ((un_zero_iff w).1 e)
   have hd:dg X=k1:=Gf.dg_unique hz (.inr (by rw [show k1-1=k by omega,hgd]; exact hw0))
   simp -implicitDefEqProofs [e2,hkp,hia,hu,c48_l3,c48_k2,w2]
   exact fin k1 hm hd

open Gf (dg trim addP)

theorem addP_take_succ (X Y:List W32){i:Nat}:(fnL (i+1) fun k=>X.getD k 0^^^Y.getD k 0)=(fnL i fun k=>X.getD k 0^^^Y.getD k 0)++[X.getD i 0^^^Y.getD i 0]:=by simp [fnL,List.range_succ]
theorem addP_fn (X Y:List W32):(fnL (max X.length Y.length) fun k=>X.getD k 0^^^Y.getD k 0)=addP X Y:=by
 refine Gf.list_ext_co (by rw [fnL_len,Gf.addP_len]) fun k hk=>?_
 rw [fnL_len] at hk
 rw [fnL_co _ hk,Gf.addP_co]
def InvRAdd (x y:D)(X Y:List W32)(m:Nat)(e:Env)(s:St):Prop:=∃ (i:Nat)(v:V),e=[(0,.d x),(1,.d y),(5,v),(6,I i)]∧m=max X.length Y.length-i∧i≤max X.length Y.length∧App s 1 v (pR (fnL i fun k=>X.getD k 0^^^Y.getD k 0))
theorem s_rAdd {x y:D}{X Y:List W32}(hx:PL x X)(hy:PL y Y)(lX:X.length≤10000)(lY:Y.length≤10000):Dn.Call Γ cx .val 88 [.d x,.d y] St.empty (isPL (trim (addP X Y))):=by
 refine Dn.Call.body (fc:=c88) rfl ?_
 have hlx : ∀ σ,lenT σ .slice (.d x)=some X.length:=fun σ=>by rw [hx.len,pR_len]
 have hly : ∀ σ,lenT σ .slice (.d y)=some Y.length:=fun σ=>by rw [hy.len,pR_len]
 simp -implicitDefEqProofs [c88,c88_k7,c88_k6,c88_k5]
 refine wloopI (InvRAdd x y X Y) (m:=max X.length Y.length) ⟨0,_,rfl,by omega,by omega,.nil⟩ ?_
 rintro m e s ⟨i,v,rfl,rfl,hi,hA⟩
 have body:i<max X.length Y.length→wcode (Dn.Call Γ cx) cx c88_k2 [(0,.d x),(1,.d y),(5,v),(6,I i),(16,B true)] s (loopQ (InvRAdd x y X Y) (max X.length Y.length-i) [0,1,5,6] (blkQ 0 (thenQ (Dn.Call Γ cx) cx c88_k0 (endQ .val St.empty c88.res (isPL (trim (addP X Y))))))):=by
  intro hlt
  have w9:IntKind.i64.wrap ((i:Int)+1)=((i+1:Nat):Int):=by rw [wrap_i64 (by omega) (by omega)]; omega
  obtain⟨v2,s2,hap,happ,ho,-,-⟩:=hA.push (bytes:=4) (by decide) (pR_fit _) (ys:=pR [X.getD i 0^^^Y.getD i 0]) (pR_fit _) (by simp [pR_len,fnL_len]; omega) (by simp [pR_len,fnL_len]; omega)
  rw [← pR_app,← addP_take_succ] at happ
  have c1:=s_coef hx (by omega) i (by omega)
  have c2:=s_coef hy (by omega) i (by omega)
  generalize hxa:X.getD i 0=a at *
  generalize hyb:Y.getD i 0=b at *
  simp -implicitDefEqProofs [c88_k2]
  refine use_fn (ds:=[.d x,I i]) rfl c1 rfl ?_
  simp -implicitDefEqProofs
  refine use_fn (ds:=[.d y,I i]) rfl c2 rfl ?_
  simp -implicitDefEqProofs [xor_u32,repl,rowsOf,frzV]
  refine i_app_f (v:=v2) (s:=s2) ?_ ?_
  ·have:=hap none
   simp only [pR,List.map_cons,List.map_nil] at this
   simp [evalE,Opd.ev,Env.get,V.rows]
   exact this
  simp -implicitDefEqProofs [c88_k1,w9]
  exact⟨max X.length Y.length-(i+1),by omega,i+1,v2,rfl,rfl,by omega,happ⟩
 by_cases g1:i<X.length
 ·have g1I:(i:Int)<X.length:=by omega
  simp -implicitDefEqProofs [c88_l4,hlx,g1I,g1,c88_k3]
  exact body (by omega)
 have g1I : ¬ (i:Int)<X.length:=by omega
 by_cases g2:i<Y.length
 ·have g2I:(i:Int)<Y.length:=by omega
  simp -implicitDefEqProofs [c88_l4,hlx,hly,g1I,g1,g2I,g2,c88_k3]
  exact body (by omega)
 have g2I : ¬ (i:Int)<Y.length:=by omega
 have hie:i=max X.length Y.length:=by omega
 rw [hie,addP_fn] at hA
 obtain⟨d,b1,l1⟩:=hA.lv.byVal s
 have hln:=Gf.addP_len X Y
 simp -implicitDefEqProofs [c88_l4,hlx,hly,g1I,g1,g2I,g2,c88_k3,c88_k0]
 have hnb:=hA.lv.borrows
 refine use_val (ds:=[.d d]) (by simp only [byVals,b1]) (s_rTrim l1 (by omega)) fun w s3 ⟨d2,hw,h2⟩=>?_
 subst hw
 refine⟨rfl,fun hb=>?_,?_⟩
 ·simp only [List.any_cons,hnb,List.any_nil] at hb
  cases hb
 simp -implicitDefEqProofs
 exact⟨d2,rfl,h2⟩

open Gf (dg trim addP)

def scl (X:List W32)(c:W32)(n:Nat):List W32:=List.replicate n 0++X.map fun a=>Gf.mul a c
theorem scl_len (X:List W32)(c:W32)(n:Nat):(scl X c n).length=n+X.length:=by simp [scl]
theorem scl_up (X:List W32)(c:W32)(n:Nat):scl X c n=Gf.up n (Gf.scl c X):=by
 unfold scl Gf.up Gf.scl
 congr 1
 exact List.map_congr_left fun a _=>Gf.mul_comm a c
def InvSc1 (x:D)(c:W32)(n:Nat)(m:Nat)(e:Env)(s:St):Prop:=∃ (i:Nat)(v:V),e=[(0,.d x),(1,Xw c),(2,I n),(7,v),(8,I i)]∧m=n-i∧i≤n∧App s 1 v (pR (List.replicate i 0))
def InvSc2 (x:D)(X:List W32)(c:W32)(n:Nat)(m:Nat)(e:Env)(s:St):Prop:=∃ (i:Nat)(v:V),e=[(0,.d x),(1,Xw c),(7,v),(9,I i)]∧m=X.length-i∧i≤X.length∧App s 1 v (pR (scl (X.take i) c n))
theorem s_rScale {x:D}{X:List W32}(hx:PL x X)(lX:X.length≤10000)(c:W32){n:Nat}(ln:n≤10000):Dn.Call Γ cx .val 110 [.d x,Xw c,I n] St.empty (isPL (trim (scl X c n))):=by
 refine Dn.Call.body (fc:=c110) rfl ?_
 have hlx : ∀ σ,lenT σ .slice (.d x)=some X.length:=fun σ=>by rw [hx.len,pR_len]
 simp -implicitDefEqProofs [c110,c110_k13,c110_k12,c110_k11]
 refine wloopI (InvSc1 x c n) (m:=n) ⟨0,_,rfl,by omega,by omega,.nil⟩ ?_
 rintro m e s ⟨i,v,rfl,rfl,hi,hA⟩
 by_cases hin:i<n
 ·have hlt:(i:Int)<n:=by omega
  have w9:IntKind.i64.wrap ((i:Int)+1)=((i+1:Nat):Int):=by rw [wrap_i64 (by omega) (by omega)]; omega
  obtain⟨v2,s2,hap,happ,ho,-,-⟩:=hA.push (bytes:=4) (by decide) (pR_fit _) (ys:=pR [0]) (pR_fit _) (by simp [pR_len]; omega) (by simp [pR_len]; omega)
  rw [← pR_app,show List.replicate i (0:W32)++[0]=List.replicate (i+1) 0 by rw [List.replicate_succ']] at happ
  simp -implicitDefEqProofs [c110_l10,hlt,hin,c110_k9,c110_k8,repl,rowsOf,frzV]
  refine i_app_f (v:=v2) (s:=s2) ?_ ?_
  ·have:=hap none
   simp [evalE,Opd.ev,Env.get,V.rows]
   exact this
  simp -implicitDefEqProofs [c110_k7,w9]
  exact⟨n-(i+1),by omega,i+1,v2,rfl,rfl,by omega,happ⟩
 obtain rfl:i=n:=by omega
 simp -implicitDefEqProofs [c110_l10,c110_k9,c110_k6,c110_k5]
 refine wloopI (InvSc2 x X c i) (m:=X.length) ⟨0,v,rfl,by omega,by omega,by simpa [scl] using hA⟩ ?_
 clear hA hin
 rintro m e s ⟨k,v,rfl,rfl,hk,hA⟩
 by_cases hkn:k<X.length
 ·have hlt:(k:Int)<X.length:=by omega
  have w9:IntKind.i64.wrap ((k:Int)+1)=((k+1:Nat):Int):=by rw [wrap_i64 (by omega) (by omega)]; omega
  obtain⟨a,ha⟩ : ∃ a,X[k]?=some a:=⟨_,List.getElem?_eq_getElem hkn⟩
  have hia:=fun σ=>hx.iaddr σ (k:=.i64) (sz:=1) (i:=k) (pR_at ha) rfl
  have hta:X.take (k+1)=X.take k++[a]:=by rw [List.take_add_one,ha]; rfl
  have hsc:scl (X.take (k+1)) c i=scl (X.take k) c i++[Gf.mul a c]:=by simp [scl,hta]
  obtain⟨v2,s2,hap,happ,ho,-,-⟩:=hA.push (bytes:=4) (by decide) (pR_fit _) (ys:=pR [Gf.mul a c]) (pR_fit _) (by simp [pR_len,scl_len]; omega) (by simp [pR_len,scl_len]; omega)
  rw [← pR_app,← hsc] at happ
  simp -implicitDefEqProofs [c110_l4,hlx,hlt,hkn,c110_k3,c110_k2,hia]
  refine use_fn (ds:=[Xw a,Xw c]) rfl (s_rMul a c) rfl ?_
  simp -implicitDefEqProofs [repl,rowsOf,frzV]
  refine i_app_f (v:=v2) (s:=s2) ?_ ?_
  ·have:=hap none
   simp only [pR,List.map_cons,List.map_nil] at this
   simp [evalE,Opd.ev,Env.get,V.rows]
   exact this
  simp -implicitDefEqProofs [c110_k1,w9]
  exact⟨X.length-(k+1),by omega,k+1,v2,rfl,rfl,by omega,happ⟩
 obtain rfl:k=X.length:=by omega
 rw [List.take_length] at hA
 obtain⟨d,b1,l1⟩:=hA.lv.byVal s
 have hnb:=hA.lv.borrows
 have hsl:=scl_len X c i
 simp -implicitDefEqProofs [c110_l4,hlx,c110_k3,c110_k0]
 refine use_val (ds:=[.d d]) (by simp only [byVals,b1]) (s_rTrim l1 (by omega)) fun w s3 ⟨d2,hw,h2⟩=>?_
 subst hw
 refine⟨rfl,fun hb=>?_,?_⟩
 ·simp only [List.any_cons,hnb,List.any_nil] at hb
  cases hb
 simp -implicitDefEqProofs
 exact⟨d2,rfl,h2⟩

open Gf (dg trim addP)

def mulTo (X Y:List W32):Nat→List W32
 | 0=>[]
 | i+1=>trim (addP (mulTo X Y i) (trim (scl Y (X.getD i 0) i)))
theorem mulTo_len (X Y:List W32) : ∀ i,(mulTo X Y i).length≤i+Y.length
 | 0=>by simp [mulTo]
 | i+1=>by
  have h1:=mulTo_len X Y i
  have h2:=Gf.dg_le (scl Y (X.getD i 0) i)
  rw [scl_len] at h2
  simp only [mulTo]
  have h3:=Gf.dg_le (addP (mulTo X Y i) (trim (scl Y (X.getD i 0) i)))
  rw [Gf.addP_len,Gf.trim_len] at h3
  rw [Gf.trim_len]
  omega
def InvRMul (x y:D)(X Y:List W32)(m:Nat)(e:Env)(s:St):Prop:=∃ (i:Nat)(d:D),e=[(0,.d x),(1,.d y),(5,.d d),(6,I i)]∧m=X.length-i∧i≤X.length∧PL d (mulTo X Y i)
theorem s_rMulP {x y:D}{X Y:List W32}(hx:PL x X)(hy:PL y Y)(lX:X.length≤1000)(lY:Y.length≤1000):Dn.Call Γ cx .val 90 [.d x,.d y] St.empty (isPL (trim (mulTo X Y X.length))):=by
 refine Dn.Call.body (fc:=c90) rfl ?_
 have hlx : ∀ σ,lenT σ .slice (.d x)=some X.length:=fun σ=>by rw [hx.len,pR_len]
 simp -implicitDefEqProofs [c90,c90_k7,c90_k6,c90_k5]
 refine wloopI (InvRMul x y X Y) (m:=X.length) ⟨0,.nils,rfl,by omega,by omega,.nil⟩ ?_
 rintro m e s ⟨i,d,rfl,rfl,hi,hd⟩
 have hml:=mulTo_len X Y i
 by_cases hin:i<X.length
 ·have hlt:(i:Int)<X.length:=by omega
  have w9:IntKind.i64.wrap ((i:Int)+1)=((i+1:Nat):Int):=by rw [wrap_i64 (by omega) (by omega)]; omega
  obtain⟨a,ha⟩ : ∃ a,X[i]?=some a:=⟨_,List.getElem?_eq_getElem hin⟩
  have hia:=fun σ=>hx.iaddr σ (k:=.i64) (sz:=1) (i:=i) (pR_at ha) rfl
  have hst:mulTo X Y (i+1)=trim (addP (mulTo X Y i) (trim (scl Y a i))):=by
   simp only [mulTo]
   rw [getD_at ha]
  have h2:=Gf.dg_le (scl Y a i)
  rw [scl_len,← Gf.trim_len] at h2
  simp -implicitDefEqProofs [c90_l4,hlx,hlt,hin,c90_k3,c90_k2,hia]
  refine use_val (ds:=[.d y,Xw a,I i]) rfl (s_rScale hy (by omega) a (by omega)) fun w s2 ⟨d2,hw,hd2⟩=>?_
  subst hw
  refine⟨rfl,fun h=>Bool.noConfusion (show false=true from h),?_⟩
  simp -implicitDefEqProofs
  refine use_val (ds:=[.d d,.d d2]) rfl (s_rAdd hd hd2 (by omega) (by omega)) fun w s3 ⟨d3,hw,hd3⟩=>?_
  subst hw
  refine⟨rfl,fun h=>Bool.noConfusion (show false=true from h),?_⟩
  rw [← hst] at hd3
  simp -implicitDefEqProofs [c90_k1,w9]
  exact⟨X.length-(i+1),by omega,i+1,d3,rfl,rfl,by omega,hd3⟩
 obtain rfl:i=X.length:=by omega
 simp -implicitDefEqProofs [c90_l4,hlx,c90_k3,c90_k0]
 refine use_val (ds:=[.d d]) rfl (s_rTrim hd (by omega)) fun w s3 ⟨d2,hw,h2⟩=>?_
 subst hw
 refine⟨rfl,fun h=>Bool.noConfusion (show false=true from h),?_⟩
 simp -implicitDefEqProofs
 exact⟨d2,rfl,h2⟩

def bitsN (a:Nat):Nat:=if h:a=0 then 0 else bitsN (a / 2)+1
theorem bitsN_zero:bitsN 0=0:=by
 unfold bitsN
 rfl
theorem bitsN_pos {a:Nat}(h:a≠0):bitsN a=bitsN (a / 2)+1:=by
 rw [bitsN,dif_neg h]
theorem bitsN_le : ∀ k a:Nat,a<2 ^ k→bitsN a≤k
 | 0,a,h=>by
  obtain rfl:a=0:=by omega
  rw [bitsN_zero]
  exact Nat.le_refl _
 | k+1,a,h=>by
  by_cases h0:a=0
  ·rw [h0,bitsN_zero]; omega
  ·rw [bitsN_pos h0]
   have:=bitsN_le k (a / 2) (by rw [Nat.pow_succ] at h; omega)
   omega
def InvDeg (a0:Nat)(m:Nat)(e:Env)(s:St):Prop:=∃ (a n:Nat),e=[(0,.d (.int .u64 (a:Int))),(3,I ((n:Int)-1))]∧m=a∧bitsN a0=n+bitsN a∧a<18446744073709551616∧n≤64∧s=St.empty
theorem s_rDegree (a0:Nat)(h0:a0<18446744073709551616):Dn.Call Γ cx .val 84 [.d (.int .u64 (a0:Int))] St.empty fun v _=>v=I ((bitsN a0:Int)-1):=by
 refine Dn.Call.body (fc:=c84) rfl ?_
 simp -implicitDefEqProofs [c84,c84_k6,c84_k5]
 refine wloopI (InvDeg a0) (m:=a0) ⟨a0,0,rfl,rfl,by omega,h0,by omega,rfl⟩ ?_
 rintro a e s ⟨a',n,rfl,rfl,hb,ha,hn,rfl⟩
 by_cases hz:a=0
 ·subst hz
  rw [bitsN_zero] at hb
  simp -implicitDefEqProofs [c84_l4,c84_k3,c84_k0,hb]
 ·have hp:(0:Int)<a:=by omega
  have hp':0<a:=by omega
  have hq:((a:Int)).tdiv 2=((a / 2:Nat):Int):=rfl
  have hw:IntKind.u64.wrap ((a / 2:Nat):Int)=((a / 2:Nat):Int):=wrap_u64 (by omega) (by omega)
  rw [bitsN_pos hz] at hb
  have hbl:=bitsN_le 64 a0 h0
  have w9:IntKind.i64.wrap ((n:Int)-1+1)=((n+1:Nat):Int)-1:=by rw [wrap_i64 (by omega) (by omega)]; omega
  obtain⟨b,hbd⟩ : ∃ b,a / 2=b:=⟨_,rfl⟩
  rw [hbd] at hq hw hb
  simp -implicitDefEqProofs [hp,hp',c84_l4,c84_k3,c84_k2,hq,hw,c84_k1,w9]
  exact⟨b,by omega,b,n+1,by simp [wrap_i64 (n:=(n:Int)) (by omega) (by omega)],rfl,by omega,by omega,by omega,rfl⟩
end Go.Proofs.Ytmlkdfjojoophaa.T

namespace Go.Proofs.Ytmlkdfjojoophaa.T
open Go.Dn
set_option linter.unusedSimpArgs false

open Gf (dg trim addP mulP up)

theorem trim_ext {a b:List W32}(h : ∀ i,a.getD i 0=b.getD i 0):trim a=trim b:=by
 have hd:dg a=dg b:=Gf.dg_unique (fun i hi=>by rw [h i]; exact Gf.co_dg hi) (by
  by_cases h0:dg b=0
  ·exact .inl h0
  ·exact .inr (by rw [h]; exact Gf.co_top (by omega)))
 refine Gf.list_ext_co (by rw [Gf.trim_len,Gf.trim_len,hd]) fun i _=>?_
 rw [Gf.trim_co,Gf.trim_co,h i]
theorem mulP_snoc (c:W32)(b:List W32) : ∀ (a:List W32)(j:Nat),(mulP (a++[c]) b).getD j 0=(mulP a b).getD j 0^^^(up a.length (Gf.scl c b)).getD j 0
 | [],j=>by
  show(addP (Gf.scl c b) [0]).getD j 0=([]:List W32).getD j 0^^^(Gf.scl c b).getD j 0
  rw [Gf.addP_co,List.getD_nil,Gf.zx]
  have:([0]:List W32).getD j 0=0:=by
   cases j with
   | zero=>rfl
   | succ j=>rfl
  rw [this,Gf.x0]
 | e::a,0=>by
  show(addP (Gf.scl e b) (0::mulP (a++[c]) b)).getD 0 0=(addP (Gf.scl e b) (0::mulP a b)).getD 0 0^^^0
  rw [Gf.addP_co,Gf.addP_co,Gf.x0]
  rfl
 | e::a,j+1=>by
  show(addP (Gf.scl e b) (0::mulP (a++[c]) b)).getD (j+1) 0=(addP (Gf.scl e b) (0::mulP a b)).getD (j+1) 0^^^(up a.length (Gf.scl c b)).getD j 0
  rw [Gf.addP_co,Gf.addP_co,List.getD_cons_succ,List.getD_cons_succ,mulP_snoc c b a j,BitVec.xor_assoc]
theorem mulTo_co (X Y:List W32) : ∀ i,i≤X.length→∀ j,(mulTo X Y i).getD j 0=(mulP (X.take i) Y).getD j 0
 | 0,_,j=>rfl
 | i+1,hi,j=>by
  obtain⟨a,ha⟩ : ∃ a,X[i]?=some a:=⟨_,List.getElem?_eq_getElem (by omega)⟩
  have hta:X.take (i+1)=X.take i++[a]:=by rw [List.take_add_one,ha]; rfl
  have hl:(X.take i).length=i:=by rw [List.length_take,Nat.min_eq_left (by omega)]
  simp only [mulTo]
  rw [Gf.trim_co,Gf.addP_co,Gf.trim_co,mulTo_co X Y i (by omega) j,hta,mulP_snoc,hl,getD_at ha,scl_up]
theorem mulTo_all (X Y:List W32):trim (mulTo X Y X.length)=trim (mulP X Y):=trim_ext fun j=>by
 rw [mulTo_co X Y _ (Nat.le_refl _),List.take_length]
theorem s_rMul2 {x y:D}{X Y:List W32}(hx:PL x X)(hy:PL y Y)(lX:X.length≤1000)(lY:Y.length≤1000):Dn.Call Γ cx .val 90 [.d x,.d y] St.empty (isPL (trim (mulP X Y))):=by
 rw [← mulTo_all]
 exact s_rMulP hx hy lX lY
end Go.Proofs.Ytmlkdfjojoophaa.T

namespace Go.Proofs.Ytmlkdfjojoophaa.T
open Go.Dn
attribute [local simp] body_eq globEnv GB List.map_nil List.map_cons List.append_nil w_rangeF i_next i_makeMap i_range i_update i_delete i_entry i_clone entryV cloneV q_rndA q_rndB_n q_rndB_e q_rndB_r setAll w_skip w_ops w_seq w_cond w_block w_exit w_ret q_then_n q_then_e q_then_r q_blk_n q_blk_e q_blk_r q_ops q_cont q_end_n q_end_r q_end_e q_loop_n q_loop_e q_loop_r i_nil i_p i_alloc i_box i_store i_copy i_clear i_call i_callv i_when t_nil t_p t_call t_alloc t_box t_store kept_nil t_copy t_clear q_tcont gsel List.cons_append List.nil_append evalP evalE evalF evalB isObj thaw Opd.ev Env.get Env.set Env.pick putE initEnv evalBin intBin evalUn evalConv goneAll goneOne retV resAll Res.ev tupOf byVals byValsN bv_d bv_da bv_fl bv_tl bn_d bn_da bn_fl bn_tl cx Dn.newObj St.place St.push St.spot St.empty cell_d cell_da cell_agg cell_ref cell_sl cell_fl cell_tl cell_map cell_fn cell_ifc loadAt faddrV partOf extractV mkAgg ofD splice St.setObj fillV
set_option linter.unusedSimpArgs false

theorem bitsN_hi : ∀ {a j:Nat},bitsN a≤j→a.testBit j=false:=by
 intro a
 induction a using Nat.strongRecOn with
 | ind a ih =>
  intro j h
  by_cases h0:a=0
  ·rw [h0]; exact Nat.zero_testBit j
  rw [bitsN_pos h0] at h
  obtain⟨i,rfl⟩ : ∃ i,j=i+1:=⟨j-1,by omega⟩
  rw [Nat.testBit_succ]
  exact ih (a / 2) (by omega) (by omega)
theorem bitsN_top : ∀ {a:Nat},a≠0→a.testBit (bitsN a-1)=true:=by
 intro a
 induction a using Nat.strongRecOn with
 | ind a ih =>
  intro h0
  rw [bitsN_pos h0,Nat.add_sub_cancel]
  by_cases h1:a / 2=0
  ·obtain rfl:a=1:=by omega
   rw [show(1:Nat) / 2=0 from rfl,bitsN_zero]
   rfl
  ·have:=ih (a / 2) (by omega) h1
   have hb:=bitsN_pos h1
   rw [← Nat.testBit_succ,Nat.succ_eq_add_one] at this
   rwa [show bitsN (a / 2)-1+1=bitsN (a / 2) by omega] at this
theorem bitsN_unique {a k:Nat}(h1 : ∀ j,k≤j→a.testBit j=false)(h2:k=0∨a.testBit (k-1)=true):bitsN a=k:=by
 have h0:a=0∨a≠0:=by omega
 rcases Nat.lt_trichotomy (bitsN a) k with h | h | h
 ·rcases h2 with h2 | h2
  ·omega
  ·rw [bitsN_hi (show bitsN a≤k-1 by omega)] at h2; cases h2
 ·exact h
 ·rcases h0 with h0 | h0
  ·rw [h0,bitsN_zero] at h; omega
  ·have:=bitsN_top h0
   rw [h1 _ (by omega)] at this
   cases this
theorem bitsN_ne {a:Nat}(h:0<bitsN a):a≠0:=fun e=>by rw [e,bitsN_zero] at h; omega
theorem bitsN_lt (a:Nat):a<2 ^ bitsN a:=by
 rcases Nat.lt_or_ge a (2 ^ bitsN a) with h | h
 ·exact h
 ·obtain⟨i,h1,h2⟩:=Nat.exists_ge_and_testBit_of_ge_two_pow h
  rw [bitsN_hi h1] at h2
  cases h2
theorem bitsN_xor_lt {a b:Nat}(h:bitsN a<bitsN b):bitsN (a^^^b)=bitsN b:=bitsN_unique (fun j hj=>by
 rw [Nat.testBit_xor,bitsN_hi hj,bitsN_hi (by omega:bitsN a≤j)]; rfl) (.inr (by
 rw [Nat.testBit_xor,bitsN_top (bitsN_ne (by omega)),bitsN_hi (by omega:bitsN a≤bitsN b-1)]; rfl))
theorem bitsN_xor_eq {a b:Nat}(h:bitsN a=bitsN b)(h0:0<bitsN b):bitsN (a^^^b)<bitsN b:=by
 rcases Nat.lt_or_ge (bitsN (a^^^b)) (bitsN b) with h1 | h1
 ·exact h1
 ·exfalso
  have ht:=bitsN_top (a:=a^^^b) (bitsN_ne (by omega))
  rw [Nat.testBit_xor] at ht
  by_cases h2:bitsN (a^^^b)=bitsN b
  ·have ha:=bitsN_top (a:=a) (bitsN_ne (by omega))
   have hb:=bitsN_top (a:=b) (bitsN_ne h0)
   rw [h] at ha
   rw [h2,ha,hb] at ht
   cases ht
  ·rw [bitsN_hi (by omega),bitsN_hi (by omega)] at ht
   cases ht
theorem bitsN_shl {a:Nat}(h:a≠0)(k:Nat):bitsN (a*2 ^ k)=bitsN a+k:=by
 have hb:=bitsN_pos h
 refine bitsN_unique (fun j hj=>?_) (.inr ?_)
 ·rw [Nat.testBit_mul_two_pow,bitsN_hi (by omega:bitsN a≤j-k)]
  simp
 ·rw [Nat.testBit_mul_two_pow,show bitsN a+k-1-k=bitsN a-1 by omega,bitsN_top h]
  simp
  omega
def bl (x:W64):Nat:=bitsN x.toNat
theorem bl_xor_lt {a b:W64}(h:bl a<bl b):bl (a^^^b)=bl b:=by
 unfold bl at *
 rw [BitVec.toNat_xor]
 exact bitsN_xor_lt h
theorem bl_xor_eq {a b:W64}(h:bl a=bl b)(h0:0<bl b):bl (a^^^b)<bl b:=by
 unfold bl at *
 rw [BitVec.toNat_xor]
 exact bitsN_xor_eq h h0
theorem bl_zero:bl 0=0:=bitsN_zero
theorem bl_ne {x:W64}(h:x≠0):x.toNat≠0:=fun e=>h (BitVec.eq_of_toNat_eq e)
theorem bl_pos {x:W64}(h:x≠0):1≤bl x:=by
 unfold bl
 rw [bitsN_pos (bl_ne h)]
 omega
theorem bl_shl {x:W64}(h:x≠0){k:Nat}(hk:bl x+k≤64):bl (x <<< k)=bl x+k:=by
 unfold bl at *
 have h1:=bitsN_shl (bl_ne h) k
 have h2:=bitsN_lt (x.toNat*2 ^ k)
 rw [h1] at h2
 have h3:=Nat.pow_le_pow_right (n:=2) (by decide) hk
 rw [BitVec.toNat_shiftLeft,Nat.shiftLeft_eq,Nat.mod_eq_of_lt (Nat.lt_of_lt_of_le h2 h3),h1]
theorem bl_bit {x:W64}{j:Nat}(h:bl x≤j):x.getLsbD j=false:=bitsN_hi h
theorem phi_sh : ∀ (k:Nat){y:W64},bl y+k≤64→Gf.phi (y <<< k)=Gf.pw k (Gf.phi y)
 | 0,y,_=>by rw [BitVec.shiftLeft_zero]; rfl
 | k+1,y,h=>by
  rw [BitVec.shiftLeft_add,Gf.phi_shl,phi_sh k (by omega)]
  ·rfl
  ·rw [BitVec.getLsbD_shiftLeft,bl_bit (by omega)]
   simp
theorem phi_small {x:W64}(h:bl x≤32):Gf.phi x=x.setWidth 32:=Gf.phi_low fun j hj=>bl_bit (by omega)
theorem phi_ne {x:W64}(h:bl x≤32)(h0:x≠0):Gf.phi x≠0:=by
 rw [phi_small h]
 intro e
 apply h0
 have h1:=congrArg BitVec.toNat e
 have h2:=bitsN_lt x.toNat
 have h3:=Nat.pow_le_pow_right (n:=2) (by decide) h
 unfold bl at h3
 apply BitVec.eq_of_toNat_eq
 rw [BitVec.toNat_setWidth,Nat.mod_eq_of_lt (by omega)] at h1
 exact h1
structure EInv (a:W32)(u v x y:W64):Prop where
 pu:Gf.phi u=Gf.mul a (Gf.phi x)
 pv:Gf.phi v=Gf.mul a (Gf.phi y)
 lx:bl x+bl v=34
 ly:bl y+bl u<34
 lv:2≤bl v
 x0:x≠0
 u0:u≠0
theorem ebig {a:W32}(ha:a≠0){u v x y:W64}(pu:Gf.phi u=Gf.mul a (Gf.phi x))(pv:Gf.phi v=Gf.mul a (Gf.phi y))(hk:bl v≤bl u)(lv:2≤bl v)(lu:bl u≤33)(hl:(bl x+bl v=34∧bl y+bl u<34∧x≠0)∨(bl y+bl u=34∧bl x+bl v<34∧y≠0)) :
  EInv a (u^^^v <<< (bl u-bl v)) v (x^^^y <<< (bl u-bl v)) y∧bl (u^^^v <<< (bl u-bl v))<bl u:=by
 have v0:v≠0:=fun e=>by rw [e,bl_zero] at lv; omega
 obtain⟨k,hkd⟩ : ∃ k,bl u-bl v=k:=⟨_,rfl⟩
 rw [hkd]
 have hv:=bl_shl v0 (k:=k) (by omega)
 have h1:bl (u^^^v <<< k)<bl u:=by
  have:=bl_xor_eq (a:=u) (b:=v <<< k) (by omega) (by omega)
  omega
 have hy0:bl y+k≤64:=by omega
 have h2:bl (x^^^y <<< k)=34-bl v∧x^^^y <<< k≠0:=by
  have h3:bl (x^^^y <<< k)=34-bl v:=by
   rcases hl with⟨l1,l2,l3⟩ | ⟨l1,l2,l3⟩
   ·by_cases hy:y=0
    ·have e0:x^^^y <<< k=x:=by rw [hy]; simp
     rw [e0]; omega
    ·have:=bl_shl hy hy0
     rw [BitVec.xor_comm,bl_xor_lt (by omega)]
     omega
   ·have:=bl_shl l3 hy0
    rw [bl_xor_lt (by omega)]
    omega
  refine⟨h3,fun e=>?_⟩
  rw [e,bl_zero] at h3
  omega
 have pu':Gf.phi (u^^^v <<< k)=Gf.mul a (Gf.phi (x^^^y <<< k)):=by
  rw [Gf.phi_xor,Gf.phi_xor,phi_sh k (by omega),phi_sh k hy0,Gf.mul_xor,pu,pv,Gf.mul_comm a (Gf.pw k (Gf.phi y)),Gf.mul_pw_left,Gf.mul_comm (Gf.phi y)]
 refine⟨⟨pu',pv,by omega,by omega,lv,h2.2,fun e=>?_⟩,h1⟩
 rw [e,Gf.phi_zero] at pu'
 exact(Gf.mul_ne ha (phi_ne (by omega) h2.2)) pu'.symm
theorem s_rDeg (x:W64):Dn.Call Γ cx .val 84 [Wd x] St.empty fun v _=>v=I ((bl x:Int)-1):=s_rDegree x.toNat x.isLt
theorem npow_zero {n:Nat}(h:n≠0):Gf.npow 0 n=0:=by
 obtain⟨k,rfl⟩ : ∃ k,n=k+1:=⟨n-1,by omega⟩
 exact Gf.mul_zero _
def InvEu (a:W32)(m:Nat)(e:Env)(s:St):Prop:=∃ u v x y:W64,e=[(3,Wd u),(4,Wd v),(5,Wd x),(6,Wd y)]∧m=bl u+bl v∧s=St.empty∧EInv a u v x y
theorem bl_one {x:W64}(h:bl x≤1)(h0:x≠0):x=1:=by
 have h2:=bitsN_lt x.toNat
 have h3:=Nat.pow_le_pow_right (n:=2) (by decide) h
 have h4:=bl_ne h0
 unfold bl at h3
 apply BitVec.eq_of_toNat_eq
 show x.toNat=1
 omega
theorem bl_mod:bl 0x10000008d#64=33:=bitsN_unique (fun j hj=>mod_hi j hj) (.inr (by decide))
theorem s_rInv (a:W32):Dn.Call Γ cx .val 66 [Xw a] St.empty fun v _=>v=Xw (Gf.inv a):=by
 refine Dn.Call.body (fc:=c66) rfl ?_
 by_cases ha:a=0
 ·subst ha
  have hi:Gf.inv 0#32=0#32:=npow_zero (by decide)
  have hu:un (0#32:W32)=0:=rfl
  simp -implicitDefEqProofs [c66,c66_k14,hu,c66_k13,hi]
 have hu : ¬ un a=0:=fun e=>ha ((un_zero_iff a).1 e)
 have wa:IntKind.u64.wrap (un a)=un (a.setWidth 64):=by
  have:=a.isLt
  have h1:un (a.setWidth 64)=un a:=by simp [un]; omega
  rw [h1]
  exact wrap_u64 (by simp only [un]; omega) (by simp only [un]; omega)
 have hA0:a.setWidth 64≠0:=fun e=>ha (by
  have:=congrArg BitVec.toNat e
  apply BitVec.eq_of_toNat_eq
  have h:=a.isLt
  rw [BitVec.toNat_setWidth,Nat.mod_eq_of_lt (by omega)] at this
  exact this)
 have hA:bl (a.setWidth 64)≤32:=bitsN_le 32 _ (by
  have h:=a.isLt
  rw [BitVec.toNat_setWidth,Nat.mod_eq_of_lt (by omega)]
  exact h)
 have hbl1:bl 1=1:=bitsN_unique (fun j hj=>Nat.testBit_lt_two_pow (Nat.one_lt_two_pow (by omega))) (.inr rfl)
 have h0:EInv a (a.setWidth 64) 0x10000008d#64 1 0:=by
  have p1:Gf.phi 1=1:=by rw [phi_small (by omega)]; rfl
  have p2:Gf.phi 0x10000008d#64=0:=Gf.phi_mod 0 (by decide)
  refine⟨?_,?_,by rw [hbl1,bl_mod],by rw [bl_zero]; omega,by rw [bl_mod]; omega,by decide,hA0⟩
  ·rw [phi_small hA,p1,Gf.mul_one]
   simp
  ·rw [p2,Gf.phi_zero,Gf.mul_zero]
 simp -implicitDefEqProofs [c66,c66_k14,hu,c66_k13,c66_k12,wa,c66_k11,c66_k10]
 refine wloopI (InvEu a) (m:=bl (a.setWidth 64)+33) ⟨_,0x10000008d#64,1,0,rfl,by rw [bl_mod],rfl,h0⟩ ?_
 rintro m e s ⟨u,v,x,y,rfl,rfl,rfl,hE⟩
 have hu1:=bl_pos hE.u0
 have hx1:=bl_pos hE.x0
 have hlx:=hE.lx
 have hly:=hE.ly
 have hlv:=hE.lv
 simp -implicitDefEqProofs [c66_l9]
 refine use_fn rfl (s_rDeg u) rfl ?_
 by_cases hb:1<bl u
 rotate_left
 ·have hb1 : ¬ (1:Int)<(bl u:Int):=by omega
  have hb2 : ¬ (0:Int)<(bl u:Int)-1:=by omega
  have hu1:=bl_one (x:=u) (by omega) hE.u0
  have hr:=s_rest x
  have hp:Gf.phi x=Gf.inv a:=by
   have h1:=hE.pu
   have p1:Gf.phi 1=1:=by rw [phi_small (by omega)]; rfl
   rw [hu1,p1,← Gf.mul_inv ha] at h1
   exact(Gf.mul_cancel ha h1).symm
  rw [hp] at hr
  generalize Gf.inv a=w at *
  simp -implicitDefEqProofs [hb,hb1,hb2,c66_k8,c66_k0]
  refine use_fn rfl hr rfl ?_
  simp -implicitDefEqProofs
 have hb1:(1:Int)<(bl u:Int):=by omega
 have hb2:(0:Int)<(bl u:Int)-1:=by omega
 simp -implicitDefEqProofs [hb,hb1,hb2,c66_k8,c66_k7,c66_k6]
 refine use_fn rfl (s_rDeg u) rfl ?_
 simp -implicitDefEqProofs
 refine use_fn rfl (s_rDeg v) rfl ?_
 have tail : ∀ (u' v' x' y':W64),EInv a (u'^^^v' <<< (bl u'-bl v')) v' (x'^^^y' <<< (bl u'-bl v')) y'∧bl (u'^^^v' <<< (bl u'-bl v'))<bl u'→bl v'≤bl u'→bl u'≤33→bl u'+bl v'=bl u+bl v →
   wcode (Dn.Call Γ cx) cx c66_k3 [(3,Wd u'),(4,Wd v'),(5,Wd x'),(6,Wd y')] St.empty (blkQ 1 (loopQ (InvEu a) (bl u+bl v) [3,4,5,6] (blkQ 0 (thenQ (Dn.Call Γ cx) cx c66_k0 (endQ .val St.empty c66.res fun v x=>v=Xw (Gf.inv a)))))):=by
  intro u' v' x' y' ⟨hE',hlt⟩ hle h33 hsum
  obtain⟨k,hk⟩ : ∃ k,bl u'-bl v'=k:=⟨_,rfl⟩
  rw [hk] at hE' hlt
  have w1:IntKind.i64.wrap ((bl u':Int)-1-((bl v':Int)-1))=(k:Int):=by rw [wrap_i64 (by omega) (by omega)]; omega
  have w2:IntKind.u64.wrap (k:Int)=(k:Int):=wrap_u64 (by omega) (by omega)
  have hs1:=shl_sh v' k (by omega)
  have hs2:=shl_sh y' k (by omega)
  simp -implicitDefEqProofs [c66_k3]
  refine use_fn rfl (s_rDeg u') rfl ?_
  simp -implicitDefEqProofs
  refine use_fn rfl (s_rDeg v') rfl ?_
  simp -implicitDefEqProofs [w1,w2,c66_k2,hs1,xor_u64,c66_k1,hs2]
  exact⟨bl (u'^^^v' <<< k)+bl v',by omega,_,_,_,_,rfl,rfl,rfl,hE'⟩
 by_cases hlt:bl u<bl v
 ·have hltI:(bl u:Int)-1<(bl v:Int)-1:=by omega
  have hltI2:(bl u:Int)<(bl v:Int):=by omega
  simp -implicitDefEqProofs [hltI,hlt,hltI2,c66_k5,c66_k4]
  exact tail v u y x (ebig ha hE.pv hE.pu (by omega) (by omega) (by omega) (.inr ⟨hE.lx,hE.ly,hE.x0⟩)) (by omega) (by omega) (by omega)
 ·have hltI : ¬ (bl u:Int)-1<(bl v:Int)-1:=by omega
  have hltI2 : ¬ (bl u:Int)<(bl v:Int):=by omega
  simp -implicitDefEqProofs [hltI,hlt,hltI2,c66_k5]
  exact tail u v x y (ebig ha hE.pu hE.pv (by omega) (by omega) (by omega) (.inl ⟨hE.lx,hE.ly,hE.x0⟩)) (by omega) (by omega) rfl

open Gf

theorem mulP_co_hi (b:Pl) : ∀ (a:Pl)(j:Nat),a.length+dg b≤j+1→(mulP a b).getD j 0=0
 | [],j,_=>rfl
 | c::a,j,h=>by
  rw [List.length_cons] at h
  show(addP (Gf.scl c b) (0::mulP a b)).getD j 0=0
  rw [addP_co,scl_co,co_dg (by omega),Gf.mul_zero]
  cases j with
  | zero=>exact zx _
  | succ j =>
   rw [List.getD_cons_succ,mulP_co_hi b a j (by omega)]
   rfl
theorem mulP_dg {a b:Pl}(ha:dg a=a.length)(h0:a.length≠0)(hb:dg b≠0):dg (mulP a b)+1=dg a+dg b:=by
 have hc:a≠[]:=fun e=>h0 (by rw [e]; rfl)
 have htop:=co_top (a:=a) (by omega)
 have hm : ∀ j,(mulP a b).getD j 0=(mulP a.dropLast b).getD j 0^^^(up a.dropLast.length (Gf.scl (a.getLast hc) b)).getD j 0:=fun j=>by
  have:=mulP_snoc (a.getLast hc) b a.dropLast j
  rwa [List.dropLast_concat_getLast hc] at this
 have hl:a.dropLast.length=a.length-1:=List.length_dropLast
 have hc2:a.getLast hc=a.getD (dg a-1) 0:=by
  rw [ha,List.getD_eq_getElem?_getD,List.getLast_eq_getElem,List.getElem?_eq_getElem (by omega)]
  rfl
 rw [← hc2] at htop
 have:=dg_unique (a:=mulP a b) (k:=dg a+dg b-1) (fun i hi=>mulP_co_hi b a i (by omega)) (.inr (by
  rw [hm,mulP_co_hi b _ _ (by omega),zx,hl,up_co,if_neg (by omega),scl_co]
  have e:dg a+dg b-1-1-(a.length-1)=dg b-1:=by omega
  rw [e]
  exact mul_ne htop (co_top (by omega))))
 omega
theorem poly_zero {a:Pl}(hl:a.length≤100000)(h : ∀ x,ev a x=0):dg a=0:=by
 obtain⟨M,hM,hMl⟩:=many (a.length+1) (by omega)
 rcases Nat.eq_zero_or_pos (dg a) with h0 | h0
 ·exact h0
 ·have:=roots_lt (a:=a) hM (fun r _=>h r) (by omega)
  have:=dg_le a
  omega
theorem poly_eq {a b:Pl}(la:a.length≤100000)(lb:b.length≤100000)(h : ∀ x,ev a x=ev b x)(i:Nat):a.getD i 0=b.getD i 0:=by
 have h0:=poly_zero (a:=addP a b) (by rw [addP_len]; omega) fun x=>by rw [ev_addP,h x,Gf.xs]
 have:=co_dg (a:=addP a b) (i:=i) (by omega)
 rw [addP_co] at this
 exact xor_zero_eq this
theorem rest_unique {A B q r:Pl}(hB:dg B≠0)(hr:dg r=r.length)(hl:r.length<dg B)(lA:A.length≤10000)(lB:B.length≤10000)(lq:q.length≤10000)(h : ∀ x,ev A x=mul (ev q x) (ev B x)^^^ev r x):r=(divide A B).2:=by
 have h2:=divide_ev A B
 have hr2:=(divide_trim A B).2
 have hl2:=divide_rest (A:=A) hB
 have hq2:=divide_quo (A:=A) hB
 have hA:=dg_le A
 have hBl:=dg_le B
 generalize (divide A B).1=q2 at *
 generalize (divide A B).2=r2 at *
 have hT : ∀ x,ev (mulP (trim (addP q q2)) B) x=ev (addP r r2) x:=fun x=>by
  have e:=(h x).symm.trans (h2 x)
  rw [ev_mulP,ev_trim,ev_addP,ev_addP,xor_mul]
  generalize mul (ev q x) (ev B x)=s at *
  generalize mul (ev q2 x) (ev B x)=t at *
  have e2:(s^^^ev r x)^^^(t^^^ev r2 x)=0:=by rw [e,Gf.xs]
  rw [x4] at e2
  exact xor_zero_eq e2
 have dT:=dg_trim (addP q q2)
 have lT:=trim_len (addP q q2)
 have lT2:=dg_le (addP q q2)
 rw [addP_len] at lT2
 have hR:dg (addP r r2)<dg B:=by
  have:=dg_le (addP r r2)
  rw [addP_len] at this
  omega
 have hRl:(addP r r2).length≤10000:=by rw [addP_len]; omega
 have hz:dg (addP r r2)=0:=by
  by_cases hD:dg (addP q q2)=0
  ·refine poly_zero (by omega) fun x=>?_
   rw [← hT x,ev_mulP,ev_trim,ev_zero (dg_zero hD),zero_mul]
  ·exfalso
   have hm:=mulP_dg (a:=trim (addP q q2)) (b:=B) (by omega) (by omega) hB
   have hml:=mulP_len (trim (addP q q2)) B (fun e=>hB (by rw [e]; rfl))
   have:=poly_eq (a:=mulP (trim (addP q q2)) B) (b:=addP r r2) (by omega) (by omega) hT (dg (mulP (trim (addP q q2)) B)-1)
   rw [co_dg (a:=addP r r2) (by omega)] at this
   exact co_top (by omega) this
 have hc : ∀ i,r.getD i 0=r2.getD i 0:=fun i=>by
  have:=co_dg (a:=addP r r2) (i:=i) (by omega)
  rw [addP_co] at this
  exact xor_zero_eq this
 have:=trim_ext hc
 rwa [trim_self hr,trim_self hr2] at this

theorem scl2_dg {b:Pl}(c:W32)(n:Nat)(i:Nat):(T.scl b c n).getD i 0=if i<n then 0 else mul c (b.getD (i-n) 0):=by
 rw [scl_up,up_co,scl_co]
theorem ev_scl2 (b:Pl)(c:W32)(n:Nat)(x:W32):ev (T.scl b c n) x=mul (npow x n) (mul c (ev b x)):=by rw [scl_up,ev_up,ev_scl]
structure RDivS (A b Q R:Pl):Prop where
 ev : ∀ x,ev A x=mul (ev Q x) (ev b x)^^^ev R x
 tr:dg R=R.length
 lr:R.length≤1000
 lq:Q.length≤1000
def InvRDiv (db:D)(A b:Pl)(m:Nat)(e:Env)(s:St):Prop:=∃ (dq dr:D)(Q R:Pl),e=[(1,.d db),(6,.d dr),(7,.d dq)]∧m=R.length∧s=St.empty∧PL dq Q∧PL dr R∧RDivS A b Q R
theorem s_rDivide {a b:D}{A B:List W32}(ha:PL a A)(hb:PL b B)(lA:A.length≤1000)(lB:B.length≤1000)(hB:dg B≠0):Dn.Call Γ cx .val 108 [.d a,.d b] St.empty fun v _=>∃ dq dr,v = .tup [.d dq,.d dr]∧PL dr (divide A B).2:=by
 refine Dn.Call.body (fc:=c108) rfl ?_
 simp -implicitDefEqProofs [c108,c108_k11]
 refine use_pl [b] (s_rTrim hb (by omega)) fun tb htb=>?_
 simp -implicitDefEqProofs [c108_k10]
 refine use_pl [a] (s_rTrim ha (by omega)) fun ta hta=>?_
 have tB:=trim_len B
 have tA:=trim_len A
 have dA:=dg_le A
 have dB:=dg_le B
 have hdB:=dg_trim B
 have hdA:=dg_trim A
 have hevB : ∀ x,ev (trim B) x=ev B x:=ev_trim B
 generalize hBB:trim B=BB at *
 have hlb : ∀ σ,lenT σ .slice (.d tb)=some BB.length:=fun σ=>by rw [htb.len,pR_len]
 simp -implicitDefEqProofs [c108_k9,c108_k8]
 refine wloopI (InvRDiv tb A BB) (m:=(trim A).length) ⟨.nils,ta,[],trim A,rfl,rfl,rfl,.nil,hta,⟨fun x=>by rw [ev_trim]; show _=mul 0 _^^^_; rw [zero_mul,zx],by omega,by omega,by simp⟩⟩ ?_
 rintro m e s ⟨dq,dr,Q,R,rfl,rfl,rfl,hq,hr,hS⟩
 have hlr : ∀ σ,lenT σ .slice (.d dr)=some R.length:=fun σ=>by rw [hr.len,pR_len]
 have hevS:=hS.ev
 have htr:=hS.tr
 have hlR:=hS.lr
 have hlQ:=hS.lq
 by_cases hlt:R.length<BB.length
 ·have g1 : ¬ BB.length≤R.length:=by omega
  have g1I : ¬ (BB.length:Int)≤R.length:=by omega
  have heq:R=(divide A B).2:=rest_unique hB htr (by omega) (by omega) (by omega) (q:=Q) (by omega) fun x=>by rw [hevS x,hevB x]
  simp -implicitDefEqProofs [c108_l7,hlr,hlb,g1,g1I,c108_k6,c108_k0]
  refine use_pl [dq] (s_rTrim hq (by omega)) fun tq htq=>?_
  simp -implicitDefEqProofs
  rw [← heq]
  exact⟨tq,dr,⟨rfl,rfl⟩,hr⟩
 have g1:BB.length≤R.length:=by omega
 have g1I:(BB.length:Int)≤R.length:=by omega
 have hR0:0<R.length:=by omega
 obtain⟨n,hn⟩ : ∃ n,R.length-BB.length=n:=⟨_,rfl⟩
 have w1:IntKind.i64.wrap ((R.length:Int)-1)=((R.length-1:Nat):Int):=by rw [wrap_i64 (by omega) (by omega)]; omega
 have w2:IntKind.i64.wrap ((BB.length:Int)-1)=((BB.length-1:Nat):Int):=by rw [wrap_i64 (by omega) (by omega)]; omega
 have w3:IntKind.i64.wrap ((R.length:Int)-BB.length)=(n:Int):=by rw [wrap_i64 (by omega) (by omega)]; omega
 obtain⟨x,hx⟩ : ∃ x,R[R.length-1]?=some x:=⟨_,List.getElem?_eq_getElem (by omega)⟩
 obtain⟨y,hy⟩ : ∃ y,BB[BB.length-1]?=some y:=⟨_,List.getElem?_eq_getElem (by omega)⟩
 have hia:=fun σ=>hr.iaddr σ (k:=.i64) (sz:=1) (i:=R.length-1) (pR_at hx) rfl
 have hib:=fun σ=>htb.iaddr σ (k:=.i64) (sz:=1) (i:=BB.length-1) (pR_at hy) rfl
 have hyn:y≠0:=by
  have:=co_top (a:=BB) (by omega)
  rw [show dg BB-1=BB.length-1 by omega,getD_at hy] at this
  exact this
 obtain⟨p,hp⟩ : ∃ p,R.length-1=p:=⟨_,rfl⟩
 obtain⟨t,ht⟩ : ∃ t,BB.length-1=t:=⟨_,rfl⟩
 have hgx:=getD_at hx
 have hgy:=getD_at hy
 rw [hp] at w1 hx hia hgx
 rw [ht] at w2 hy hib hgy
 simp -implicitDefEqProofs [c108_l7,hlr,hlb,g1,g1I,c108_k6,c108_k5,c108_k4]
 refine w_drwX (fun _=>.val) [] (by decide +kernel) ?_
 simp only [room_zero]
 simp -implicitDefEqProofs [hlr,hlb,w1,w2,hia,hib]
 refine use_fnN rfl rfl (s_rInv y) rfl ?_
 simp -implicitDefEqProofs
 refine use_fnN rfl rfl (s_rMul x (Gf.inv y)) rfl ?_
 obtain⟨c,hc⟩ : ∃ c,Gf.mul x (Gf.inv y)=c:=⟨_,rfl⟩
 have hcy:Gf.mul c y=x:=by rw [← hc,← Gf.mul_assoc,Gf.inv_mul hyn,Gf.mul_one]
 rw [hc]
 simp -implicitDefEqProofs [hlr,hlb,w3,c108_k3,c108_k2,isObj,repl,rowsOf,frzV]
 have h1:LV (.fl [[D.int .u32 1]]) (pR [1]):=.fl _
 refine use_val (ds:=[.d (.list [[D.int .u32 1]]),Xw c,I n]) rfl (s_rScale (X:=[1]) (.list _) (by simp) c (by omega)) fun w s2 ⟨d2,hw,hd2⟩=>?_
 subst hw
 refine⟨rfl,fun h=>Bool.noConfusion (show false=true from h),?_⟩
 have l2:=dg_le (T.scl [1] c n)
 rw [scl_len,← trim_len] at l2
 have l2':(trim (T.scl [1] c n)).length≤n+1:=l2
 simp -implicitDefEqProofs
 refine use_pl [dq,d2] (s_rAdd hq hd2 (by omega) (by omega)) fun d3 hd3=>?_
 have l3:=dg_le (addP Q (trim (T.scl [1] c n)))
 rw [addP_len,← trim_len] at l3
 simp -implicitDefEqProofs [c108_k1]
 refine use_val (ds:=[.d tb,Xw c,I n]) rfl (s_rScale htb (by omega) c (by omega)) fun w s2 ⟨d4,hw,hd4⟩=>?_
 subst hw
 refine⟨rfl,fun h=>Bool.noConfusion (show false=true from h),?_⟩
 have l4:=dg_le (T.scl BB c n)
 rw [scl_len,← trim_len] at l4
 simp -implicitDefEqProofs
 refine use_pl [dr,d4] (s_rAdd hr hd4 (by omega) (by omega)) fun d5 hd5=>?_
 have hlow:dg (addP R (trim (T.scl BB c n)))<R.length:=by
  rcases Nat.lt_or_ge (dg (addP R (trim (T.scl BB c n)))) R.length with h | h
  ·exact h
  ·exfalso
   have h5:=co_top (a:=addP R (trim (T.scl BB c n))) (by omega)
   rw [addP_co,trim_co,scl2_dg] at h5
   have h6:=dg_le (addP R (trim (T.scl BB c n)))
   rw [addP_len] at h6
   have h7:dg (addP R (trim (T.scl BB c n)))-1=p:=by omega
   rw [h7,if_neg (by omega),show p-n=t by omega,hgx,hgy,hcy,Gf.xs] at h5
   exact h5 rfl
 have l5:=trim_len (addP R (trim (T.scl BB c n)))
 simp -implicitDefEqProofs
 refine⟨_,?_,d3,d5,_,_,rfl,rfl,rfl,hd3,hd5,⟨fun x=>?_,by rw [dg_trim,trim_len],by omega,by omega⟩⟩
 ·omega
 ·rw [hevS x,ev_trim,ev_trim,ev_addP,ev_addP,ev_trim,ev_trim,ev_scl2,ev_scl2,xor_mul]
  have e1:ev [1] x=1:=by show 1^^^mul x 0=1; rw [Gf.mul_zero,x0]
  rw [e1,Gf.mul_one,← Gf.mul_assoc]
  generalize mul (npow x n) (mul c (ev BB x))=z
  generalize mul (ev Q x) (ev BB x)=u
  generalize ev R x=v
  rw [x4,Gf.xs,x0]

open Gf

theorem s_rMonic {a:D}{A:List W32}(ha:PL a A)(lA:A.length≤1000):Dn.Call Γ cx .val 107 [.d a] St.empty (isPL (monic A)):=by
 refine Dn.Call.body (fc:=c107) rfl ?_
 have tA:=trim_len A
 have dA:=dg_le A
 simp -implicitDefEqProofs [c107,c107_k3]
 refine use_pl [a] (s_rTrim ha (by omega)) fun t ht=>?_
 have hlt : ∀ σ,lenT σ .slice (.d t)=some (trim A).length:=fun σ=>by rw [ht.len,pR_len]
 by_cases h0:dg A=0
 ·have hm:monic A=[]:=by unfold monic; rw [if_pos h0]
  have h1:trim A=[]:=List.eq_nil_of_length_eq_zero (by omega)
  rw [h1] at ht hlt
  simp -implicitDefEqProofs [c107_k2,hlt,c107_k1]
  rw [hm]
  exact⟨t,rfl,ht⟩
 have w1:IntKind.i64.wrap ((dg A:Int)-1)=((dg A-1:Nat):Int):=by rw [wrap_i64 (by omega) (by omega)]; omega
 obtain⟨x,hx⟩ : ∃ x,(trim A)[dg A-1]?=some x:=⟨_,List.getElem?_eq_getElem (by omega)⟩
 have hia:=fun σ=>ht.iaddr σ (k:=.i64) (sz:=1) (i:=dg A-1) (pR_at hx) rfl
 have hgx:=getD_at hx
 have hm:monic A=trim (T.scl (trim A) (Gf.inv x) 0):=by
  unfold monic
  rw [if_neg h0,hgx,scl_up]
  rfl
 obtain⟨p,hp⟩ : ∃ p,dg A-1=p:=⟨_,rfl⟩
 rw [hp] at w1 hx hia
 simp -implicitDefEqProofs [c107_k2,hlt,tA,h0,c107_k1,c107_k0,w1,hia]
 refine use_fn rfl (s_rInv x) rfl ?_
 rw [hm]
 generalize Gf.inv x=iv at *
 simp -implicitDefEqProofs
 refine use_val (ds:=[.d t,Xw iv,I ((0:Nat):Int)]) rfl (s_rScale ht (by omega) iv (by omega)) fun w s2 ⟨d2,hw,hd2⟩=>?_
 subst hw
 refine⟨rfl,fun h=>Bool.noConfusion (show false=true from h),?_⟩
 simp -implicitDefEqProofs
 exact⟨d2,rfl,hd2⟩
theorem commonL_fuel : ∀ (k n:Nat)(a b:Pl),dg b=b.length→b.length≤k→b.length≤n→commonL k a b=commonL n a b
 | 0,n,a,b,hb,hk,hn=>by
  obtain rfl:b=[]:=List.eq_nil_of_length_eq_zero (by omega)
  cases n <;> simp [commonL]
 | k+1,n,a,b,hb,hk,hn=>by
  by_cases h0:b=[]
  ·subst h0
   cases n <;> simp [commonL]
  have hl:=len_ne h0
  obtain⟨n,rfl⟩ : ∃ m,n=m+1:=⟨n-1,by omega⟩
  have hr:=divide_rest (A:=a) (B:=b) (by omega)
  simp only [commonL,if_neg h0]
  exact commonL_fuel k n b _ (divide_trim a b).2 (by omega) (by omega)
theorem divide_trims (A B:Pl):divide (trim A) (trim B)=divide A B:=by simp only [divide,trim_trim]
theorem common_step {A B:Pl}(h:dg B≠0):common A B=common B (divide A B).2:=by
 unfold common
 congr 1
 have tB:=trim_len B
 have hr:=divide_rest (A:=A) h
 have ht:=(divide_trim A B).2
 rw [trim_self ht]
 obtain⟨k,hk⟩ : ∃ k,(trim B).length=k+1:=⟨dg B-1,by omega⟩
 rw [hk]
 have hne:trim B≠[]:=fun e=>by rw [e] at hk; simp at hk
 simp only [commonL,if_neg hne,divide_trims]
 exact commonL_fuel k _ _ _ ht (by omega) (Nat.le_refl _)
theorem common_end {A B:Pl}(h:dg B=0):common A B=monic A:=by
 have tB:=trim_len B
 have hB:trim B=[]:=List.eq_nil_of_length_eq_zero (by omega)
 have hd:=dg_trim A
 unfold common
 rw [hB]
 simp only [List.length_nil,commonL]
 unfold monic
 rw [hd,trim_trim]
theorem s_rCommon : ∀ (m:Nat){a b:D}{A B:List W32},PL a A→PL b B→A.length≤1000→B.length≤1000→dg B≤m→Dn.Call Γ cx .val 87 [.d a,.d b] St.empty (isPL (common A B)):=by
 intro m
 induction m with
 | zero =>
  intro a b A B ha hb lA lB hm
  refine Dn.Call.body (fc:=c87) rfl ?_
  have tB:=trim_len B
  simp -implicitDefEqProofs [c87,c87_k3]
  refine use_pl [b] (s_rTrim hb (by omega)) fun t ht=>?_
  have hlt : ∀ σ,lenT σ .slice (.d t)=some 0:=fun σ=>by rw [ht.len,pR_len,tB]; congr 1; omega
  simp -implicitDefEqProofs [hlt,c87_k2]
  refine use_pl [a] (s_rMonic ha lA) fun d hd=>?_
  simp -implicitDefEqProofs
  rw [common_end (by omega)]
  exact⟨d,rfl,hd⟩
 | succ m ih =>
  intro a b A B ha hb lA lB hm
  refine Dn.Call.body (fc:=c87) rfl ?_
  have tB:=trim_len B
  simp -implicitDefEqProofs [c87,c87_k3]
  refine use_pl [b] (s_rTrim hb (by omega)) fun t ht=>?_
  have hlt : ∀ σ,lenT σ .slice (.d t)=some (dg B):=fun σ=>by rw [ht.len,pR_len,tB]
  by_cases h0:dg B=0
  ·simp -implicitDefEqProofs [hlt,h0,c87_k2]
   refine use_pl [a] (s_rMonic ha lA) fun d hd=>?_
   simp -implicitDefEqProofs
   rw [common_end h0]
   exact⟨d,rfl,hd⟩
  have hr:=divide_rest (A:=A) h0
  have hrt:=(divide_trim A B).2
  have dB:=dg_le B
  simp -implicitDefEqProofs [hlt,h0,c87_k2,c87_k1]
  refine use_vd [a,b] (s_rDivide ha hb lA lB h0) fun v s ⟨dq,dr,hv,hdr⟩=>?_
  subst hv
  refine⟨rfl,?_⟩
  simp -implicitDefEqProofs [c87_k0]
  refine use_pl [b,dr] (ih hb hdr lB (by omega) (by omega)) fun d hd=>?_
  simp -implicitDefEqProofs
  rw [common_step h0]
  exact⟨d,rfl,hd⟩
theorem s_rRest {a b:D}{A B:List W32}(ha:PL a A)(hb:PL b B)(lA:A.length≤1000)(lB:B.length≤1000)(hB:dg B≠0):Dn.Call Γ cx .val 89 [.d a,.d b] St.empty (isPL (divide A B).2):=by
 refine Dn.Call.body (fc:=c89) rfl ?_
 simp -implicitDefEqProofs [c89,c89_k1]
 refine use_vd [a,b] (s_rDivide ha hb lA lB hB) fun v s ⟨dq,dr,hv,hdr⟩=>?_
 subst hv
 refine⟨rfl,?_⟩
 simp -implicitDefEqProofs [c89_k0]
 exact⟨dr,rfl,hdr⟩
def rA (p:Pl)(c:W32):Nat→Pl
 | 0=>(divide [0,c] p).2
 | n+1=>(divide (trim (mulP (rA p c n) (rA p c n))) p).2
def rS (p:Pl)(c:W32):Nat→Pl
 | 0=>[]
 | n+1=>trim (addP (rS p c n) (rA p c n))
theorem rA_len {p:Pl}(h:dg p≠0)(c:W32) : ∀ n,(rA p c n).length<dg p
 | 0=>divide_rest h
 | n+1=>divide_rest h
theorem rA_trim (p:Pl)(c:W32) : ∀ n,dg (rA p c n)=(rA p c n).length
 | 0=>(divide_trim _ _).2
 | n+1=>(divide_trim _ _).2
theorem rS_len {p:Pl}(h:dg p≠0)(c:W32) : ∀ n,(rS p c n).length<dg p
 | 0=>by simp only [rS,List.length_nil]; omega
 | n+1=>by
  have h1:=rS_len h c n
  have h2:=rA_len h c n
  have h3:=dg_le (addP (rS p c n) (rA p c n))
  rw [addP_len] at h3
  simp only [rS,trim_len]
  omega
theorem rest_ev {a p:Pl}{r:W32}(hr:ev p r=0):ev (divide a p).2 r=ev a r:=by
 rw [divide_ev a p r,hr,Gf.mul_zero,zx]
theorem rA_ev {p:Pl}{r:W32}(hr:ev p r=0)(c:W32) : ∀ n,ev (rA p c n) r=sqn n (mul c r)
 | 0=>by simp only [rA]; rw [rest_ev hr,ev_two]; rfl
 | n+1=>by
  simp only [rA]
  rw [rest_ev hr,ev_trim,ev_mulP,rA_ev hr c n]
  rfl
theorem rS_ev {p:Pl}{r:W32}(hr:ev p r=0)(c:W32) : ∀ n,ev (rS p c n) r=sum n fun i=>sqn i (mul c r)
 | 0=>rfl
 | n+1=>by
  simp only [rS]
  rw [ev_trim,ev_addP,rS_ev hr c n,rA_ev hr c n]
  rfl
theorem sq_len {p:Pl}(c:W32)(n:Nat){k:Nat}(h:(rA p c n).length≤k):(trim (mulP (rA p c n) (rA p c n))).length≤2*k:=by
 have h1:=dg_le (mulP (rA p c n) (rA p c n))
 rw [trim_len]
 by_cases h0:rA p c n=[]
 ·rw [h0] at h1 ⊢
  exact Nat.zero_le _
 ·have:=mulP_len (rA p c n) (rA p c n) h0
  omega
def InvRTr (dp:D)(p:Pl)(c:W32)(m:Nat)(e:Env)(s:St):Prop:=∃ (i:Nat)(ds da:D),e=[(0,.d dp),(5,.d ds),(6,.d da),(7,I i)]∧i+m=32∧PL ds (rS p c i)∧PL da (rA p c i)
theorem s_rTraces {dp:D}{p:Pl}(hp:PL dp p)(lp:p.length≤400)(h0:dg p≠0)(c:W32):Dn.Call Γ cx .val 86 [.d dp,Xw c] St.empty (isPL (rS p c 32)):=by
 refine Dn.Call.body (fc:=c86) rfl ?_
 have dp1:=dg_le p
 simp -implicitDefEqProofs [c86,c86_k9,c86_k8,isObj,repl,rowsOf,frzV,evalB]
 have hb:Dn.Call Γ cx .val 89 [.d (.list (pR [0,c])),.d dp] St.empty (isPL (divide [0,c] p).2):=s_rRest (.list _) hp (by simp) (by omega) h0
 refine use_thaw (ds:=[.d (.list (pR [0,c])),.d dp]) (σ':=⟨[.dead],[]⟩) ?_ rfl rfl hb fun w s ⟨da,hw,hda⟩=>?_
 ·simp [thawV,pR,V.rows,ofD,rowsOf,un,Dn.newObj,St.place,St.push,St.spot,St.setObj]
 subst hw
 refine⟨rfl,?_⟩
 simp -implicitDefEqProofs [c86_k7,c86_k6]
 refine wloopI (InvRTr dp p c) (m:=32) ⟨0,_,da,rfl,rfl,.nil,hda⟩ ?_
 rintro m e s ⟨i,ds,da,rfl,hi,hs,ha⟩
 have ls:=rS_len h0 c i
 have la:=rA_len h0 c i
 have lt:=rA_trim p c i
 by_cases hlt:i<32
 ·have hltI:(i:Int)<32:=by omega
  have w9:IntKind.i64.wrap ((i:Int)+1)=((i+1:Nat):Int):=by rw [wrap_i64 (by omega) (by omega)]; omega
  have lq:=sq_len (p:=p) c i (Nat.le_refl _)
  simp -implicitDefEqProofs [hltI,hlt,c86_l5,c86_k4,c86_k3]
  refine use_pl [ds,da] (s_rAdd hs ha (by omega) (by omega)) fun d1 hd1=>?_
  simp -implicitDefEqProofs [c86_k2]
  refine use_pl [da,da] (s_rMul2 ha ha (by omega) (by omega)) fun d2 hd2=>?_
  simp -implicitDefEqProofs
  refine use_pl [d2,dp] (s_rRest hd2 hp (by omega) (by omega) h0) fun d3 hd3=>?_
  simp -implicitDefEqProofs [c86_k1,w9]
  exact⟨m-1,by omega,i+1,d1,d3,rfl,by omega,hd1,hd3⟩
 ·have hltI : ¬ (i:Int)<32:=by omega
  obtain rfl:i=32:=by omega
  simp -implicitDefEqProofs [c86_l5,c86_k4,c86_k0]
  exact⟨ds,rfl,hs⟩
def InvRLn (dp:D)(p:Pl)(m:Nat)(e:Env)(s:St):Prop:=∃ (i:Nat)(da:D),e=[(0,.d dp),(3,.d da),(4,I i)]∧i+m=32∧PL da (rA p 1 i)∧s=St.empty
theorem s_rLinear {dp:D}{p:Pl}(hp:PL dp p)(lp:p.length≤400)(h0:dg p≠0):Dn.Call Γ cx .val 68 [.d dp] St.empty (isPL (common p (trim (addP (rA p 1 32) [0,1])))):=by
 refine Dn.Call.body (fc:=c68) rfl ?_
 have dp1:=dg_le p
 have hb:Dn.Call Γ cx .val 89 [.d (.list (pR [0,1])),.d dp] St.empty (isPL (divide [0,1] p).2):=s_rRest (.list _) hp (by simp) (by omega) h0
 simp -implicitDefEqProofs [c68,c68_k7,isObj,repl,rowsOf,frzV]
 refine use_val (ds:=[.d (.list (pR [0,1])),.d dp]) rfl hb fun w s ⟨da,hw,hda⟩=>?_
 subst hw
 refine⟨rfl,fun h=>Bool.noConfusion (show false=true from h),?_⟩
 simp -implicitDefEqProofs [c68_k6,c68_k5]
 refine wloopI (InvRLn dp p) (m:=32) ⟨0,da,rfl,rfl,hda,rfl⟩ ?_
 rintro m e s ⟨i,da,rfl,hi,ha,rfl⟩
 have la:=rA_len h0 1 i
 by_cases hlt:i<32
 ·have hltI:(i:Int)<32:=by omega
  have w9:IntKind.i64.wrap ((i:Int)+1)=((i+1:Nat):Int):=by rw [wrap_i64 (by omega) (by omega)]; omega
  have lq:=sq_len (p:=p) 1 i (Nat.le_refl _)
  simp -implicitDefEqProofs [hltI,hlt,c68_l4,c68_k3,c68_k2]
  refine use_pl [da,da] (s_rMul2 ha ha (by omega) (by omega)) fun d2 hd2=>?_
  simp -implicitDefEqProofs
  refine use_pl [d2,dp] (s_rRest hd2 hp (by omega) (by omega) h0) fun d3 hd3=>?_
  simp -implicitDefEqProofs [c68_k1,w9]
  exact⟨m-1,by omega,i+1,d3,rfl,by omega,hd3,rfl⟩
 ·have hltI : ¬ (i:Int)<32:=by omega
  obtain rfl:i=32:=by omega
  have h2:Dn.Call Γ cx .val 88 [.d da,.d (.list (pR [0,1]))] St.empty (isPL (trim (addP (rA p 1 32) [0,1]))):=s_rAdd ha (.list _) (by omega) (by simp)
  have l2:=dg_le (addP (rA p 1 32) [0,1])
  rw [addP_len,← trim_len] at l2
  have l2':([0,1]:Pl).length=2:=rfl
  simp -implicitDefEqProofs [c68_l4,c68_k3,c68_k0,isObj,repl,rowsOf,frzV]
  refine use_val (ds:=[.d da,.d (.list (pR [0,1]))]) rfl h2 fun w s ⟨d1,hw,hd1⟩=>?_
  subst hw
  refine⟨rfl,fun h=>Bool.noConfusion (show false=true from h),?_⟩
  simp -implicitDefEqProofs
  refine use_pl [dp,d1] (s_rCommon _ hp hd1 (by omega) (by omega) (Nat.le_refl _)) fun d2 hd2=>?_
  simp -implicitDefEqProofs
  exact⟨d2,rfl,hd2⟩
end Go.Proofs.Ytmlkdfjojoophaa.T

namespace Go.Proofs.Ytmlkdfjojoophaa.T
open Go.Dn
set_option linter.unusedSimpArgs false

open Gf

theorem addP_dg_lt {a b:Pl}(h:dg b<dg a):dg (addP a b)=dg a:=dg_unique (fun i hi=>by rw [addP_co,co_dg hi,co_dg (by omega:dg b≤i),Gf.xs]) (.inr (by
 rw [addP_co,co_dg (by omega:dg b≤dg a-1),x0]
 exact co_top (by omega)))
theorem rA_quo {p:Pl}(h:dg p≠0)(hp:dg p=p.length) : ∀ n,∃ u:Pl,(∀ x,sqn n x=mul (ev p x) (ev u x)^^^ev (rA p 1 n) x)∧dg u=u.length∧((u.length=0∧(rA p 1 n).length=2 ^ n+1)∨(u.length≠0∧u.length+dg p=2 ^ n+2))
 | 0=>by
  have hq:=divide_quo (A:=[0,1]) h
  have h2:dg ([0,1]:Pl)=2:=by decide
  refine⟨(divide [0,1] p).1,fun x=>?_,(divide_trim _ _).1,?_⟩
  ·have:=divide_ev [0,1] p x
   rw [ev_two,one_mul,mul_comm] at this
   exact this
  ·by_cases h3:dg p≤2
   ·right; omega
   ·left
    refine⟨by omega,?_⟩
    show(divide [0,1] p).2.length=_
    rw [divide_small (by omega),trim_len,h2]
 | n+1=>by
  obtain⟨u,hu,hut,hc⟩:=rA_quo h hp n
  have hat:=rA_trim p 1 n
  have hal:=rA_len h 1 n
  have hsq : ∀ x,sq (ev (rA p 1 n) x)=mul (ev (divide (trim (mulP (rA p 1 n) (rA p 1 n))) p).1 x) (ev p x)^^^ev (rA p 1 (n+1)) x:=fun x=>by
   have:=divide_ev (trim (mulP (rA p 1 n) (rA p 1 n))) p x
   rw [ev_trim,ev_mulP] at this
   exact this
  have hq:=divide_quo (A:=trim (mulP (rA p 1 n) (rA p 1 n))) h
  have hqt:=(divide_trim (trim (mulP (rA p 1 n) (rA p 1 n))) p).1
  have hsm:dg (trim (mulP (rA p 1 n) (rA p 1 n)))<dg p→(rA p 1 (n+1)).length=dg (mulP (rA p 1 n) (rA p 1 n)):=fun h=>by
   show(divide _ p).2.length=_
   rw [divide_small h,trim_len,dg_trim]
  rw [dg_trim] at hq hsm
  have hd:(rA p 1 n).length≠0→dg (mulP (rA p 1 n) (rA p 1 n))+1=2*(rA p 1 n).length:=fun h0=>by
   have:=mulP_dg hat h0 (b:=rA p 1 n) (by omega)
   omega
  have hd0:(rA p 1 n).length=0→dg (mulP (rA p 1 n) (rA p 1 n))=0:=fun h0=>by
   rw [List.eq_nil_of_length_eq_zero h0]
   rfl
  generalize (divide (trim (mulP (rA p 1 n) (rA p 1 n))) p).1=w at *
  generalize rA p 1 (n+1)=a' at *
  generalize dg (mulP (rA p 1 n) (rA p 1 n))=k at *
  have e2:(2:Nat) ^ (n+1)=2*2 ^ n:=by rw [Nat.pow_succ,Nat.mul_comm]
  have hpos:1≤(2:Nat) ^ n:=Nat.one_le_two_pow
  generalize (2:Nat) ^ n=N at *
  rcases hc with⟨c1,c2⟩ | ⟨c1,c2⟩
  ·have hk:=hd (by omega)
   refine⟨w,fun x=>?_,hqt,?_⟩
   ·show sq (sqn n x)=_
    rw [hu x,List.eq_nil_of_length_eq_zero c1]
    show sq (mul (ev p x) 0^^^_)=_
    rw [Gf.mul_zero,zx,hsq x,mul_comm]
   ·by_cases h3:dg p≤2*N+1
    ·right; omega
    ·left
     exact⟨by omega,by rw [hsm (by omega)]; omega⟩
  ·have m1:=mulP_dg hut c1 (b:=u) (by omega)
   have m2:=mulP_dg hp (by omega) (b:=mulP u u) (by omega)
   have hw:w.length+2≤dg p∨w.length=0:=by
    by_cases h0:(rA p 1 n).length=0
    ·have:=hd0 h0; omega
    ·have:=hd h0; omega
   have m3:=addP_dg_lt (a:=mulP p (mulP u u)) (b:=w) (by omega)
   refine⟨trim (addP (mulP p (mulP u u)) w),fun x=>?_,by rw [dg_trim,trim_len],.inr ?_⟩
   ·show sq (sqn n x)=_
    rw [hu x,sq_xor,hsq x,ev_trim,ev_addP,ev_mulP,ev_mulP,mul_xor,← BitVec.xor_assoc,sq_mul]
    congr 1
    rw [mul_comm (ev w x)]
    congr 1
    unfold sq
    exact(mul_assoc _ _ _).symm
   ·rw [trim_len]
    omega
theorem all_words : ∃ S:List W32,S.Nodup∧S.length=4294967296∧∀ x,x∈S:=by
 refine⟨(List.range 4294967296).map (BitVec.ofNat 32),?_,by simp,fun x=>?_⟩
 ·rw [List.Nodup,List.pairwise_map]
  refine List.Pairwise.imp_of_mem ?_ List.nodup_range
  intro i j hi hj hij he
  rw [List.mem_range] at hi hj
  have:=congrArg BitVec.toNat he
  simp only [BitVec.toNat_ofNat] at this
  omega
 ·have:=x.isLt
  exact List.mem_map.2 ⟨x.toNat,List.mem_range.2 (by omega),by simp⟩
theorem filter_two {α:Type}(f g:α→Bool) : ∀ l:List α,(∀ x∈l,f x=true∨g x=true)→l.length≤(l.filter f).length+(l.filter g).length
 | [],_=>Nat.zero_le _
 | a::l,h=>by
  have ih:=filter_two f g l fun x hx=>h x (List.mem_cons_of_mem _ hx)
  have ha:=h a (by simp)
  rw [List.filter_cons,List.filter_cons,List.length_cons]
  cases hf:f a <;> cases hg:g a
  ·rw [hf,hg] at ha; simp at ha
  all_goals simp; omega
theorem common_db {A B:Pl}(h:dg A≠0) : ∃ k,(∀ x,ev B x=mul (ev (common A B) x) (ev k x))∧(dg B=0→k.length=0)∧(dg B≠0→k.length+(common A B).length≤dg B+1):=by
 have lA:=trim_len A
 have lB:=trim_len B
 have hg:=commonL_spec (trim B).length (trim A) (trim B) (by rw [dg_trim,lA]) (by omega) (by rw [dg_trim,lB]) (Nat.le_refl _)
 unfold common
 generalize commonL (trim B).length (trim A) (trim B)=g at *
 have hne:dg g≠0:=by rw [hg.tr]; exact hg.ne
 obtain⟨m1,m2,m3,c,m4,m5⟩:=monic_spec hne
 obtain⟨q,q1,q2,q3⟩:=hg.db
 have htr:=hg.tr
 refine⟨Gf.scl (inv c) q,fun x=>?_,fun h=>?_,fun h=>?_⟩
 ·have:=q1 x
  rw [ev_trim] at this
  rw [this,m5 x,ev_scl,← mul_assoc,mul_left (ev g x),mul_assoc c,mul_inv m4,one_mul]
 ·rw [Gf.scl_len,q2 (List.eq_nil_of_length_eq_zero (by omega))]
  rfl
 ·have:=q3 (fun e=>h (by rw [← lB,e]; rfl))
  rw [Gf.scl_len,m1]
  omega
theorem linear_all {p:Pl}(h:dg p≠0)(hp:dg p=p.length)(hl:p.length≤400) : ∃ S:List W32,S.Nodup∧S.length<dg p∧(∀ r,r∈S↔ev p r=0)∧common p (trim (addP (rA p 1 32) [0,1]))=prodL S:=by
 have hB : ∀ x,ev (trim (addP (rA p 1 32) [0,1])) x=ev (rA p 1 32) x^^^x:=fun x=>by
  rw [ev_trim,ev_addP,ev_two,one_mul]
 have hBd:dg (trim (addP (rA p 1 32) [0,1]))≤500:=by
  have h1:=rA_len h 1 32
  have h2:=dg_le (addP (rA p 1 32) [0,1])
  rw [addP_len] at h2
  rw [dg_trim]
  simp only [List.length_cons,List.length_nil] at h2
  omega
 obtain⟨u,hu,hut,hc⟩:=rA_quo h hp 32
 have hal:=rA_len h 1 32
 have hcom:=common_spec (B:=trim (addP (rA p 1 32) [0,1])) h
 obtain⟨k,k1,k2,k3⟩:=common_db (B:=trim (addP (rA p 1 32) [0,1])) h
 have hN:(2:Nat) ^ 32=4294967296:=by decide
 rw [hN] at hc
 have hul:u.length+dg p=4294967298:=by omega
 generalize hA:rA p 1 32=a at *
 generalize hBB:trim (addP a [0,1])=B at *
 generalize common p B=g at *
 obtain⟨q0,q1,q2⟩:=hcom.da
 have htr:=hcom.tr
 have hne:=hcom.ne
 have hla:=hcom.la
 have hq0:dg q0≠0:=fun e=>by
  have:=poly_zero (a:=p) (by omega) fun x=>by rw [q1 x,ev_zero (dg_zero e),Gf.mul_zero]
  omega
 have lq0:=trim_len q0
 have dq0:=dg_trim q0
 have dq1:=dg_le q0
 have hgq:=mulP_dg htr hne (b:=trim q0) (by omega)
 have hdp:dg p=dg (mulP g (trim q0)):=by
  have hml:=mulP_len g (trim q0) (fun e=>hq0 (by rw [← lq0,e]; rfl))
  have:=poly_eq (a:=p) (b:=mulP g (trim q0)) (by omega) (by omega) fun x=>by rw [ev_mulP,ev_trim,q1 x]
  have:=congrArg List.length (trim_ext this)
  rwa [trim_len,trim_len] at this
 have hpu:=mulP_dg (a:=trim q0) (b:=u) (by omega) (by omega) (by omega)
 have hkd:=dg_le k
 have hkl:k.length≤501:=by
  by_cases h0:dg B=0
  ·have:=k2 h0; omega
  ·have:=k3 h0; omega
 have hq:=addP_dg_lt (a:=mulP (trim q0) u) (b:=k) (by omega)
 have hz : ∀ x,mul (ev g x) (ev (addP (mulP (trim q0) u) k) x)=0:=fun x=>by
  rw [ev_addP,ev_mulP,ev_trim,mul_xor,mul_assoc,← q1 x,← k1 x,hB x,← BitVec.xor_assoc,← hu x,sqn32,Gf.xs]
 obtain⟨S,s1,s2,s3⟩:=all_words
 have r1:(S.filter fun x=>decide (ev g x=0)).Nodup:=s1.sublist List.filter_sublist
 have r2:(S.filter fun x=>decide (ev (addP (mulP (trim q0) u) k) x=0)).Nodup:=s1.sublist List.filter_sublist
 have r3:=roots_lt (a:=g) r1 (fun r hr=>of_decide_eq_true (List.mem_filter.1 hr).2) (by omega)
 have r4:=roots_lt (a:=addP (mulP (trim q0) u) k) r2 (fun r hr=>of_decide_eq_true (List.mem_filter.1 hr).2) (by omega)
 have r5:=filter_two (fun x=>decide (ev g x=0)) (fun x=>decide (ev (addP (mulP (trim q0) u) k) x=0)) S fun x _=>by
  rcases mul_eq_zero (hz x) with h | h
  ·exact .inl (decide_eq_true h)
  ·exact .inr (decide_eq_true h)
 have hmem : ∀ r,r∈(S.filter fun x=>decide (ev g x=0))↔ev g r=0:=fun r=>by
  rw [List.mem_filter]
  exact⟨fun h=>of_decide_eq_true h.2,fun h=>⟨s3 r,decide_eq_true h⟩⟩
 generalize (S.filter fun x=>decide (ev g x=0))=R at *
 have hRl:g.length=R.length+1:=by omega
 have htop:=hcom.top
 rw [hRl,Nat.add_sub_cancel] at htop
 refine⟨R,r1,by omega,fun r=>?_,mon_unique r1 hRl htop fun r hr=>(hmem r).1 hr⟩
 rw [hmem r,hcom.z r]
 refine⟨fun h=>h.1,fun h1=>⟨h1,?_⟩⟩
 have e:=hu r
 rw [h1,zero_mul,zx,sqn32] at e
 rw [hB r,← e,Gf.xs]
end Go.Proofs.Ytmlkdfjojoophaa.T

namespace Go.Proofs.Ytmlkdfjojoophaa.T
open Go.Dn
attribute [local simp] body_eq globEnv GB List.map_nil List.map_cons List.append_nil w_rangeF i_next i_makeMap i_range i_update i_delete i_entry i_clone entryV cloneV q_rndA q_rndB_n q_rndB_e q_rndB_r setAll w_skip w_ops w_seq w_cond w_block w_exit w_ret q_then_n q_then_e q_then_r q_blk_n q_blk_e q_blk_r q_ops q_cont q_end_n q_end_r q_end_e q_loop_n q_loop_e q_loop_r i_nil i_p i_alloc i_box i_store i_copy i_clear i_call i_callv i_when t_nil t_p t_call t_alloc t_box t_store kept_nil t_copy t_clear q_tcont gsel List.cons_append List.nil_append evalP evalE evalF evalB isObj thaw Opd.ev Env.get Env.set Env.pick putE initEnv evalBin intBin evalUn evalConv goneAll goneOne retV resAll Res.ev tupOf byVals byValsN bv_d bv_da bv_fl bv_tl bn_d bn_da bn_fl bn_tl cx Dn.newObj St.place St.push St.spot St.empty cell_d cell_da cell_agg cell_ref cell_sl cell_fl cell_tl cell_map cell_fn cell_ifc loadAt faddrV partOf extractV mkAgg ofD splice St.setObj fillV
set_option linter.unusedSimpArgs false

open Gf

def rowT (i:Nat):W64:=((sq (1#32 <<< i)^^^(1#32 <<< i)).setWidth 64)|||(1#64 <<< (32+i))
def pk (L:List W64)(b u:Nat):Nat→Option Nat
 | 0=>none
 | j+1=>if (L.getD (u+j) 0).getLsbD b=true then some (u+j) else pk L b u j
def swL (L:List W64)(i j:Nat):List W64:=(L.set i (L.getD j 0)).set j (L.getD i 0)
def elL (L:List W64)(u b:Nat):Nat→List W64
 | 0=>L
 | i+1=>if i≠u∧((elL L u b i).getD i 0).getLsbD b=true then(elL L u b i).set i ((elL L u b i).getD i 0^^^(elL L u b i).getD u 0) else elL L u b i
def stR:Nat→List W64×Nat
 | 0=>((List.range 32).map rowT,0)
 | n+1=>match pk (stR n).1 n (stR n).2 (32-(stR n).2) with
  | none=>stR n
  | some k=>(elL (swL (stR n).1 (stR n).2 k) (stR n).2 n 32,(stR n).2+1)
def rAt (n:Nat):Option W64:=match pk (stR n).1 n (stR n).2 (32-(stR n).2) with
 | none=>none
 | some k=>some ((stR n).1.getD k 0)
def gotN (c:W64):Nat→W64
 | 0=>c
 | n+1=>match rAt n with
  | none=>gotN c n
  | some r=>if (gotN c n).getLsbD n=true then gotN c n^^^r else gotN c n
def gL (y:W32):W64:=gotN ((sq y^^^y).setWidth 64) 32
set_option maxRecDepth 100000 in
theorem gL_basis : ∀ j,j<32→(gL (pw j 1)).setWidth 32=0∧((gL (pw j 1)) >>> 32).setWidth 32&&&0xfffffffe#32=pw j 1&&&0xfffffffe#32:=by decide +kernel
theorem pk_lt (L:List W64)(b u:Nat) : ∀ (j k:Nat),pk L b u j=some k→u≤k∧k<u+j
 | 0,k,h=>by cases h
 | j+1,k,h=>by
  simp only [pk] at h
  split at h
  ·cases h; omega
  ·have:=pk_lt L b u j k h; omega
theorem swL_len (L:List W64)(i j:Nat):(swL L i j).length=L.length:=by simp [swL]
theorem elL_len (L:List W64)(u b:Nat) : ∀ i,(elL L u b i).length=L.length
 | 0=>rfl
 | i+1=>by
  simp only [elL]
  split
  ·rw [List.length_set,elL_len L u b i]
  ·exact elL_len L u b i
theorem elL_u (L:List W64)(u b:Nat) : ∀ i,(elL L u b i).getD u 0=L.getD u 0
 | 0=>rfl
 | i+1=>by
  simp only [elL]
  split
  ·rename_i h
   rw [List.getD_eq_getElem?_getD,List.getElem?_set_ne h.1,← List.getD_eq_getElem?_getD,elL_u L u b i]
  ·exact elL_u L u b i
theorem swL_u (L:List W64){u:Nat}(k:Nat)(hu:u<L.length):(swL L u k).getD u 0=L.getD k 0:=by
 unfold swL
 by_cases h:k=u
 ·subst h
  rw [List.getD_eq_getElem?_getD,List.getElem?_set_self (by simpa using hu)]
  rfl
 ·rw [List.getD_eq_getElem?_getD,List.getElem?_set_ne h,List.getElem?_set_self hu]
  rfl
theorem stR_len : ∀ n,(stR n).1.length=32
 | 0=>by simp [stR]
 | n+1=>by
  have ih:=stR_len n
  simp only [stR]
  split
  ·exact ih
  ·simp only [elL_len,swL_len,ih]
theorem gotN_xor (a b:W64) : ∀ n,gotN (a^^^b) n=gotN a n^^^gotN b n
 | 0=>rfl
 | n+1=>by
  have ih:=gotN_xor a b n
  simp only [gotN]
  cases rAt n with
  | none=>exact ih
  | some r =>
   simp only [ih,BitVec.getLsbD_xor]
   generalize gotN a n=x
   generalize gotN b n=y
   cases x.getLsbD n <;> cases y.getLsbD n
   ·rfl
   ·show(x^^^y)^^^r=x^^^(y^^^r)
    exact BitVec.xor_assoc _ _ _
   ·show(x^^^y)^^^r=(x^^^r)^^^y
    rw [BitVec.xor_assoc,BitVec.xor_comm y,BitVec.xor_assoc]
   ·show x^^^y=(x^^^r)^^^(y^^^r)
    rw [BitVec.xor_comm y r,BitVec.xor_assoc x r,← BitVec.xor_assoc r r,BitVec.xor_self,BitVec.zero_xor]
theorem gotN_zero : ∀ n,gotN 0 n=0
 | 0=>rfl
 | n+1=>by
  have ih:=gotN_zero n
  simp only [gotN,ih]
  cases rAt n with
  | none=>rfl
  | some r=>simp
theorem gL_xor (a b:W32):gL (a^^^b)=gL a^^^gL b:=by
 unfold gL
 rw [← gotN_xor,← BitVec.setWidth_xor,sq_xor,x4]
theorem gL_zero:gL 0=0:=by
 unfold gL
 rw [sq_zero,Gf.xs]
 exact gotN_zero 32
theorem and_xor (a b m:W32):(a^^^b)&&&m=(a&&&m)^^^(b&&&m):=by
 apply BitVec.eq_of_getLsbD_eq
 intro i hi
 simp only [BitVec.getLsbD_xor,BitVec.getLsbD_and]
 cases a.getLsbD i <;> cases b.getLsbD i <;> cases m.getLsbD i <;> rfl
theorem gL_low (y:W32):(gL y).setWidth 32=0 :=
 lin_ext (f:=fun y=>(gL y).setWidth 32) (g:=fun _=>0) (by show(gL 0).setWidth 32=0; rw [gL_zero]; rfl) (fun a b=>by show(gL (a^^^b)).setWidth 32=_; rw [gL_xor,BitVec.setWidth_xor]) rfl (fun a b=>(Gf.xs 0).symm) (fun j hj=>(gL_basis j hj).1) y
theorem gL_high (y:W32):((gL y) >>> 32).setWidth 32&&&0xfffffffe#32=y&&&0xfffffffe#32 :=
 lin_ext (f:=fun y=>((gL y) >>> 32).setWidth 32&&&0xfffffffe#32) (g:=fun y=>y&&&0xfffffffe#32) (by show((gL 0) >>> 32).setWidth 32&&&0xfffffffe#32=0; rw [gL_zero]; decide)
  (fun a b=>by show((gL (a^^^b)) >>> 32).setWidth 32&&&0xfffffffe#32=_; rw [gL_xor,BitVec.ushiftRight_xor_distrib,BitVec.setWidth_xor,and_xor]) (by decide) (fun a b=>and_xor a b _) (fun j hj=>(gL_basis j hj).2) y

def w64V (L:List W64):List V:=L.map Wd
theorem w64V_len (L:List W64):(w64V L).length=L.length:=by simp [w64V]
theorem w64V_at {L:List W64}{i:Nat}(h:i<L.length):(w64V L)[i]?=some (Wd (L.getD i 0)):=by
 simp [w64V,List.getElem?_eq_getElem h]
theorem w64V_set {L:List W64}{i:Nat}(h:i<L.length)(v:W64):splice (w64V L) i [Wd v]=w64V (L.set i v):=by
 unfold splice w64V
 rw [List.map_set,List.set_eq_take_append_cons_drop]
 simp [h]
def so (L:List W64):St:=⟨[.cells (w64V L)],[]⟩
theorem ia_arr {n i:Nat}(h:i<n):iaddrArrV n 1 (.ref 0 0) (I i)=some (.ref 0 i):=by
 have:(i:Int)<n:=by omega
 simp [iaddrArrV,asIdx,this]
theorem so_load {L:List W64}{i:Nat}(h:i<L.length):loadAt (so L) false 1 (.ref 0 i)=some (Wd (L.getD i 0)):=by
 have:=w64V_at h
 simp only [loadAt,so]
 exact this
def tabR (i:Nat):List W64:=(List.range 32).map fun k=>if k<i then rowT k else 0
theorem tabR_set {i:Nat}(h:i<32):(tabR i).set i (rowT i)=tabR (i+1):=by
 refine List.ext_getElem (by simp [tabR]) fun k h1 h2=>?_
 simp only [tabR,List.length_set,List.length_map,List.length_range] at h1
 rw [List.getElem_set]
 simp only [tabR,List.getElem_map,List.getElem_range]
 by_cases hk:i=k
 ·subst hk
  simp
 ·rw [if_neg hk]
  by_cases h3:k<i
  ·rw [if_pos h3,if_pos (by omega)]
  ·rw [if_neg h3,if_neg (by omega)]
theorem pow_sh (i:Nat)(h:i<32):IntKind.u64.wrap (4294967296*un (1#64 <<< i))=un (1#64 <<< (32+i)):=by
 have:(4294967296:Int)*un (1#64 <<< i)=un (1#64 <<< i)*2 ^ 32:=by
  rw [Int.mul_comm]
  rfl
 rw [this,shl_u64,← BitVec.shiftLeft_add,Nat.add_comm]
def InvSi (m:Nat)(e:Env)(s:St)(c:W32):Prop:=∃ i:Nat,e=[(0,Xw c),(4,.ref 0 0),(5,I i)]∧i+m=32∧s=so (tabR i)
theorem sol_init {c:W32}{Q:PostC}(hQ:Q .normal [(0,Xw c),(4,.ref 0 0),(5,I 32),(15,B false)] (so (stR 0).1)) :
  wcode (Dn.Call Γ cx) cx c106_k41 [(0,Xw c),(4,.ref 0 0),(5,I 0)] (so (tabR 0)) Q:=by
 simp -implicitDefEqProofs [c106_k41]
 refine wloopI (fun m e s=>InvSi m e s c) (m:=32) ⟨0,rfl,rfl,rfl⟩ ?_
 rintro m e s ⟨i,rfl,hi,rfl⟩
 by_cases hlt:i<32
 ·have hltI:(i:Int)<32:=by omega
  have w9:IntKind.i64.wrap ((i:Int)+1)=((i+1:Nat):Int):=by rw [wrap_i64 (by omega) (by omega)]; omega
  have wu:IntKind.u64.wrap (i:Int)=(i:Int):=wrap_u64 (by omega) (by omega)
  have h1:shiftBin .shl .u32 1 (i:Int)=some (Xw (1#32 <<< i)):=shl_32 1#32 i hlt
  have h2:shiftBin .shl .u64 1 (i:Int)=some (Wd (1#64 <<< i)):=shl_sh 1#64 i (by omega)
  obtain⟨y,hy⟩ : ∃ y,1#32 <<< i=y:=⟨_,rfl⟩
  rw [hy] at h1
  have wz : ∀ z:W32,IntKind.u64.wrap (un z)=un (z.setWidth 64):=fun z=>by
   have:=z.isLt
   have h1:un (z.setWidth 64)=un z:=by simp [un]; omega
   rw [h1]
   exact wrap_u64 (by simp only [un]; omega) (by simp only [un]; omega)
  have hrow:(sq y^^^y).setWidth 64|||(1#64 <<< (32+i))=rowT i:=by rw [← hy]; rfl
  have hl:(tabR i).length=32:=by simp [tabR]
  have hset:=w64V_set (L:=tabR i) (i:=i) (by omega) (rowT i)
  rw [tabR_set hlt] at hset
  have hps:=pow_sh i hlt
  have hia:=ia_arr hlt
  have hwl:=w64V_len (tabR i)
  have ho:(so (tabR i)).objs[0]?=some (.cells (w64V (tabR i))):=rfl
  have hso:(⟨[.cells (w64V (tabR (i+1)))],[]⟩:St)=so (tabR (i+1)):=rfl
  have hoo:(so (tabR i)).objs=[.cells (w64V (tabR i))]:=rfl
  have hot:(so (tabR i)).toks=[]:=rfl
  simp -implicitDefEqProofs [hltI,hlt,c106_l40,c106_k39,c106_k38,c106_k37,wu,h1,c106_k36]
  refine use_fn rfl (s_rMul y y) rfl ?_
  have hm:Gf.mul y y=sq y:=rfl
  rw [hm]
  generalize sq y=q at *
  have hor:=or_u64 ((q^^^y).setWidth 64) (1#64 <<< (32+i))
  rw [hrow] at hor
  have hwz:=wz (q^^^y)
  generalize (q^^^y).setWidth 64=z at *
  generalize rowT i=ri at *
  clear wz hrow
  simp -implicitDefEqProofs [-splice,xor_u32,hwz,wu,h2,hps,hor,hia,ho,hwl,hl,show i+1≤32 by omega,hset,c106_k35,w9]
  exact⟨m-1,by omega,i+1,rfl,by omega,by simp [hoo,hot,hso]⟩
 ·have hltI : ¬ (i:Int)<32:=by omega
  obtain rfl:i=32:=by omega
  have:tabR 32=(stR 0).1:=by
   show _=(List.range 32).map rowT
   exact List.map_congr_left fun k hk=>if_pos (List.mem_range.1 hk)
  rw [← this] at hQ
  simp -implicitDefEqProofs [c106_l40,c106_k39]
  exact hQ

open Gf

def kI:Option Nat→Int
 | none => -1
 | some k=>k
def InvSp (L:List W64)(got:W64)(u b:Nat)(m:Nat)(e:Env)(s:St):Prop:=∃ j:Nat,e=[(4,.ref 0 0),(7,Wd got),(8,I u),(9,I b),(10,I (kI (pk L b u j))),(11,I (u+j:Nat))]∧u+j+m=32∧s=so L
theorem sol_piv {L:List W64}{got:W64}{u b:Nat}(hL:L.length=32)(hu:u≤32)(hb:b<32){Q:PostC}(hQ:Q .normal [(4,.ref 0 0),(7,Wd got),(8,I u),(9,I b),(10,I (kI (pk L b u (32-u)))),(11,I 32),(42,B false)] (so L)) :
  wcode (Dn.Call Γ cx) cx c106_k25 [(4,.ref 0 0),(7,Wd got),(8,I u),(9,I b),(10,I (-1)),(11,I u)] (so L) Q:=by
 simp -implicitDefEqProofs [c106_k25]
 refine wloopI (InvSp L got u b) (m:=32-u) ⟨0,rfl,by omega,rfl⟩ ?_
 rintro m e s ⟨j,rfl,hm,rfl⟩
 obtain⟨i,hi⟩ : ∃ i,u+j=i:=⟨_,rfl⟩
 have hpk:pk L b u (j+1)=if (L.getD i 0).getLsbD b=true then some i else pk L b u j:=by rw [← hi]; rfl
 rw [hi] at hm ⊢
 by_cases hlt:i<32
 ·have hltI:(i:Int)<32:=by omega
  have w9:IntKind.i64.wrap ((i:Int)+1)=((i+1:Nat):Int):=by rw [wrap_i64 (by omega) (by omega)]; omega
  have wb:IntKind.u64.wrap (b:Int)=(b:Int):=wrap_u64 (by omega) (by omega)
  have hia:=ia_arr hlt
  have hld:=so_load (L:=L) (i:=i) (by omega)
  have hsr:=shr_sh (L.getD i 0) b (by omega)
  have hr:=rem2 (L.getD i 0) b
  generalize L.getD i 0=x at *
  cases hx:x.getLsbD b with
  | true =>
   rw [hx] at hpk hr
   simp only [if_true] at hpk
   simp -implicitDefEqProofs [-loadAt,hltI,hlt,c106_l24,c106_k23,c106_k22,c106_k21,hia,hld,wb,hsr,hr,c106_k20,c106_k19,w9]
   exact⟨m-1,by omega,j+1,by rw [hpk,show u+(j+1)=i+1 by omega]; rfl,by omega,rfl⟩
  | false =>
   rw [hx] at hpk hr
   simp only [Bool.false_eq_true,if_false] at hpk
   simp -implicitDefEqProofs [-loadAt,hltI,hlt,c106_l24,c106_k23,c106_k22,c106_k21,hia,hld,wb,hsr,hr,c106_k20,c106_k19,w9]
   exact⟨m-1,by omega,j+1,by rw [hpk,show u+(j+1)=i+1 by omega]; rfl,by omega,rfl⟩
 ·have hltI : ¬ (i:Int)<32:=by omega
  obtain rfl:i=32:=by omega
  obtain rfl:j=32-u:=by omega
  simp -implicitDefEqProofs [c106_l24,c106_k23]
  exact hQ
def InvSe (L:List W64)(got:W64)(u b:Nat)(m:Nat)(e:Env)(s:St):Prop:=∃ i:Nat,e=[(4,.ref 0 0),(7,Wd got),(8,I u),(9,I b),(12,I i)]∧i+m=32∧s=so (elL L u b i)
theorem sol_el {L:List W64}{got:W64}{u b:Nat}(hL:L.length=32)(hu:u<32)(hb:b<32){Q:PostC}(hQ:Q .normal [(4,.ref 0 0),(7,Wd got),(8,I u),(9,I b),(12,I 32),(67,B false)] (so (elL L u b 32))) :
  wcode (Dn.Call Γ cx) cx c106_k14 [(4,.ref 0 0),(7,Wd got),(8,I u),(9,I b),(12,I 0)] (so L) Q:=by
 simp -implicitDefEqProofs [c106_k14]
 refine wloopI (InvSe L got u b) (m:=32) ⟨0,rfl,rfl,rfl⟩ ?_
 rintro m e s ⟨i,rfl,hm,rfl⟩
 have hl:=elL_len L u b i
 have hst:elL L u b (i+1)=if i≠u∧((elL L u b i).getD i 0).getLsbD b=true then(elL L u b i).set i ((elL L u b i).getD i 0^^^(elL L u b i).getD u 0) else elL L u b i:=rfl
 rw [hL] at hl
 by_cases hlt:i<32
 ·have hltI:(i:Int)<32:=by omega
  have w9:IntKind.i64.wrap ((i:Int)+1)=((i+1:Nat):Int):=by rw [wrap_i64 (by omega) (by omega)]; omega
  have wb:IntKind.u64.wrap (b:Int)=(b:Int):=wrap_u64 (by omega) (by omega)
  have hia:=ia_arr hlt
  have hiu:=ia_arr hu
  generalize elL L u b i=M at *
  have hld:=so_load (L:=M) (i:=i) (by omega)
  have hlu:=so_load (L:=M) (i:=u) (by omega)
  have hsr:=shr_sh (M.getD i 0) b (by omega)
  have hr:=rem2 (M.getD i 0) b
  have hset:=w64V_set (L:=M) (i:=i) (by omega) (M.getD i 0^^^M.getD u 0)
  have hwl:=w64V_len M
  have ho:(so M).objs[0]?=some (.cells (w64V M)):=rfl
  have hoo:(so M).objs=[.cells (w64V M)]:=rfl
  have hot:(so M).toks=[]:=rfl
  have hso : ∀ N:List W64,(⟨[.cells (w64V N)],[]⟩:St)=so N:=fun N=>rfl
  generalize M.getD i 0=x at *
  generalize M.getD u 0=y at *
  by_cases hiu2:i=u
  ·subst hiu2
   rw [if_neg (fun h=>h.1 rfl)] at hst
   simp -implicitDefEqProofs [-loadAt,hltI,hlt,c106_l13,c106_k12,c106_k11,c106_k10,c106_k9,c106_k8,w9]
   exact⟨m-1,by omega,i+1,rfl,by omega,by rw [hst]⟩
  have hiuI : ¬ (i:Int)=(u:Int):=by omega
  cases hx:x.getLsbD b with
  | false =>
   rw [hx] at hst hr
   rw [if_neg (fun h=>by cases h.2)] at hst
   simp -implicitDefEqProofs [-loadAt,hltI,hlt,c106_l13,c106_k12,c106_k11,c106_k10,hiu2,hiuI,hia,hld,wb,hsr,hr,c106_k9,c106_k8,w9]
   exact⟨m-1,by omega,i+1,rfl,by omega,by rw [hst]⟩
  | true =>
   rw [hx] at hst hr
   rw [if_pos ⟨hiu2,rfl⟩] at hst
   rw [← hst] at hset
   simp -implicitDefEqProofs [-loadAt,hltI,hlt,c106_l13,c106_k12,c106_k11,c106_k10,hiu2,hiuI,hia,hld,wb,hsr,hr,c106_k9]
   refine w_drwX (fun _=>.val) [] (by decide +kernel) ?_
   simp only [room_zero]
   simp -implicitDefEqProofs [-loadAt,-splice,hia,hld,hiu,hlu,xor_u64,ho,hwl,hl,show i+1≤32 by omega,hset]
   simp -implicitDefEqProofs [-splice,hoo,hot,hso,c106_k8,w9]
   exact⟨m-1,by omega,i+1,rfl,by omega,rfl⟩
 ·have hltI : ¬ (i:Int)<32:=by omega
  obtain rfl:i=32:=by omega
  simp -implicitDefEqProofs [c106_l13,c106_k12]
  exact hQ
theorem sol_swap {L:List W64}{got:W64}{u b k:Nat}(hL:L.length=32)(hu:u<32)(hk:k<32)(hb:b<32){Q:PostC}
  (hQ:Q .normal ([(4,.ref 0 0),(7,Wd (if got.getLsbD b=true then got^^^L.getD k 0 else got)),(8,I (u+1:Nat)),(9,I b)]) (so (elL (swL L u k) u b 32))) :
  wcode (Dn.Call Γ cx) cx c106_k16 [(4,.ref 0 0),(7,Wd got),(8,I u),(9,I b),(10,I k),(55,B false)] (so L) Q:=by
 have hia:=ia_arr hk
 have hiu:=ia_arr hu
 have hld:=so_load (L:=L) (i:=k) (by omega)
 have hlu:=so_load (L:=L) (i:=u) (by omega)
 have hset:=w64V_set (L:=L) (i:=u) (by omega) (L.getD k 0)
 have hset2:=w64V_set (L:=L.set u (L.getD k 0)) (i:=k) (by simp; omega) (L.getD u 0)
 have hsw:(L.set u (L.getD k 0)).set k (L.getD u 0)=swL L u k:=rfl
 rw [hsw] at hset2
 have hwl:=w64V_len L
 have hwl2:=w64V_len (L.set u (L.getD k 0))
 rw [List.length_set] at hwl2
 have ho:(so L).objs[0]?=some (.cells (w64V L)):=rfl
 have hoo:(so L).objs=[.cells (w64V L)]:=rfl
 have hot:(so L).toks=[]:=rfl
 have hso : ∀ N:List W64,(⟨[.cells (w64V N)],[]⟩:St)=so N:=fun N=>rfl
 have hsu:=swL_u L k (u:=u) (by omega)
 have hsl:=swL_len L u k
 generalize L.set u (L.getD k 0)=L1 at *
 generalize L.getD k 0=x at *
 generalize L.getD u 0=y at *
 generalize swL L u k=M at *
 simp only [c106_k16,w_seq]
 refine w_drwX (fun _=>.val) [] (by decide +kernel) ?_
 simp only [room_zero]
 simp -implicitDefEqProofs [-loadAt,-splice,hia,hld,hiu,hlu,ho,hwl,hL,show u+1≤32 by omega,hset]
 simp -implicitDefEqProofs [-splice,hoo,hot,hwl2,hL,show k+1≤32 by omega,hset2,hso,c106_k15]
 refine sol_el (by omega) hu hb ?_
 have heu:=elL_u M u b 32
 have hel:=elL_len M u b 32
 rw [hsu] at heu
 generalize elL M u b 32=N at *
 have hlN:=so_load (L:=N) (i:=u) (by omega)
 rw [heu] at hlN
 have w9:IntKind.i64.wrap ((u:Int)+1)=((u+1:Nat):Int):=by rw [wrap_i64 (by omega) (by omega)]; omega
 have wb:IntKind.u64.wrap (b:Int)=(b:Int):=wrap_u64 (by omega) (by omega)
 have hsr:=shr_sh got b (by omega)
 have hr:=rem2 got b
 cases hx:got.getLsbD b with
 | true =>
  rw [hx] at hr hQ
  simp only [if_true] at hQ
  simp -implicitDefEqProofs [-loadAt,c106_k7,wb,hsr,hr,c106_k6,hiu,hlN,xor_u64,c106_k5,w9]
  exact hQ
 | false =>
  rw [hx] at hr hQ
  simp only [Bool.false_eq_true,if_false] at hQ
  simp -implicitDefEqProofs [-loadAt,c106_k7,wb,hsr,hr,c106_k6,c106_k5,w9]
  exact hQ

open Gf

theorem stR_le : ∀ n,(stR n).2≤n
 | 0=>Nat.le_refl _
 | n+1=>by
  have ih:=stR_le n
  simp only [stR]
  split
  ·omega
  ·show(stR n).2+1≤n+1
   omega
theorem even_nat (z:Nat)(h:z<4294967296):z&&&4294967294=z-z % 2:=by
 refine Nat.eq_of_testBit_eq fun i=>?_
 rw [Nat.testBit_and]
 have e:z-z % 2=2*(z / 2):=by omega
 rw [e]
 cases i with
 | zero =>
  rw [show Nat.testBit 4294967294 0=false from rfl,Bool.and_false]
  simp
 | succ i =>
  rw [Nat.testBit_succ,Nat.testBit_succ,Nat.testBit_succ,Nat.mul_div_cancel_left _ (by decide:0<2)]
  by_cases hi:i<31
  ·have : ∀ i,i<31→Nat.testBit (4294967294 / 2) i=true:=by decide
   rw [this i hi,Bool.and_true]
  ·have:(z / 2).testBit i=false:=Nat.testBit_lt_two_pow (by
    have:=Nat.pow_le_pow_right (n:=2) (by decide) (show 31≤i by omega)
    have e:(2:Nat) ^ 31=2147483648:=by decide
    omega)
   rw [this,Bool.false_and]
theorem even_un (z:W32):un (z&&&0xfffffffe#32)=un z-(un z).tmod 2:=by
 have h:=even_nat z.toNat z.isLt
 have h0:0≤un z:=Int.natCast_nonneg _
 rw [Int.tmod_eq_emod_of_nonneg h0]
 simp only [un,BitVec.toNat_and]
 have:(0xfffffffe#32:W32).toNat=4294967294:=rfl
 rw [this,h]
 omega
def InvSo (c:W64)(m:Nat)(e:Env)(s:St):Prop:=∃ b:Nat,e=[(4,.ref 0 0),(7,Wd (gotN c b)),(8,I ((stR b).2:Nat)),(9,I b)]∧b+m=32∧s=so (stR b).1
theorem sol_loop {c:W64}{Q:PostC}(hQ:Q .normal [(4,.ref 0 0),(7,Wd (gotN c 32)),(8,I ((stR 32).2:Nat)),(9,I 32),(37,B false)] (so (stR 32).1)) :
  wcode (Dn.Call Γ cx) cx c106_k31 [(4,.ref 0 0),(7,Wd c),(8,I 0),(9,I 0)] (so (stR 0).1) Q:=by
 simp -implicitDefEqProofs [c106_k31]
 refine wloopI (InvSo c) (m:=32) ⟨0,rfl,rfl,rfl⟩ ?_
 rintro m e s ⟨b,rfl,hm,rfl⟩
 have hle:=stR_le b
 have hlen:=stR_len b
 have hr1:rAt b=match pk (stR b).1 b (stR b).2 (32-(stR b).2) with | none=>none | some k=>some ((stR b).1.getD k 0):=rfl
 have hs1:stR (b+1)=match pk (stR b).1 b (stR b).2 (32-(stR b).2) with | none=>stR b | some k=>(elL (swL (stR b).1 (stR b).2 k) (stR b).2 b 32,(stR b).2+1):=rfl
 have hg1:gotN c (b+1)=match rAt b with | none=>gotN c b | some r=>if (gotN c b).getLsbD b=true then gotN c b^^^r else gotN c b:=rfl
 have hpl:=pk_lt (stR b).1 b (stR b).2 (32-(stR b).2)
 by_cases hlt:b<32
 ·have hltI:(b:Int)<32:=by omega
  have w9:IntKind.i64.wrap ((b:Int)+1)=((b+1:Nat):Int):=by rw [wrap_i64 (by omega) (by omega)]; omega
  generalize hL:(stR b).1=L at *
  generalize hu:(stR b).2=u at *
  generalize hg:gotN c b=got at *
  simp -implicitDefEqProofs [hltI,hlt,c106_l30,c106_k29,c106_k28,c106_k27,c106_k26]
  refine sol_piv hlen (by omega) hlt ?_
  cases hp:pk L b u (32-u) with
  | none =>
   rw [hp] at hr1 hs1
   simp only at hr1 hs1
   rw [hr1] at hg1
   simp only at hg1
   simp -implicitDefEqProofs [kI,c106_k18,c106_k17,c106_k4,w9]
   exact⟨m-1,by omega,b+1,by rw [hg1,hs1,hu]; rfl,by omega,by rw [hs1,hL]⟩
  | some k =>
   rw [hp] at hr1 hs1
   simp only at hr1 hs1
   rw [hr1] at hg1
   simp only at hg1
   obtain⟨k1,k2⟩:=hpl k hp
   have hk0 : ¬ (k:Int)<0:=by omega
   simp -implicitDefEqProofs [kI,hk0,c106_k18,c106_k17]
   refine sol_swap hlen (by omega) (by omega) hlt ?_
   simp -implicitDefEqProofs [c106_k4,w9]
   exact⟨m-1,by omega,b+1,by rw [hg1,hs1]; rfl,by omega,by rw [hs1]⟩
 ·have hltI : ¬ (b:Int)<32:=by omega
  obtain rfl:b=32:=by omega
  simp -implicitDefEqProofs [c106_l30,c106_k29]
  exact hQ
theorem s_rSolve (y:W32):Dn.Call Γ cx .val 106 [Xw (sq y^^^y)] St.empty fun v _=>v = .tup [Xw (y&&&0xfffffffe#32),B true]:=by
 refine Dn.Call.body (fc:=c106) rfl ?_
 obtain⟨c,hc⟩ : ∃ c,sq y^^^y=c:=⟨_,rfl⟩
 have hg:gL y=gotN (c.setWidth 64) 32:=by rw [← hc]; rfl
 have h1:=gL_low y
 have h2:=gL_high y
 have hwc:IntKind.u64.wrap (un c)=un (c.setWidth 64):=by
  have:=c.isLt
  have h1:un (c.setWidth 64)=un c:=by simp [un]; omega
  rw [h1]
  exact wrap_u64 (by simp only [un]; omega) (by simp only [un]; omega)
 have hal:(⟨[.cells (List.replicate 32 (V.d (.int .u64 0)))],[]⟩:St)=so (tabR 0):=by
  simp only [so,w64V,tabR]
  congr 2
 rw [hc]
 simp -implicitDefEqProofs [-List.reduceReplicate,c106,c106_k43,hal,c106_k42]
 refine sol_init ?_
 simp -implicitDefEqProofs [c106_k34,hwc,c106_k33,c106_k32]
 refine sol_loop ?_
 rw [← hg]
 generalize gL y=g at *
 have m1:(un g).tmod 4294967296=0:=by
  have h0:0≤un g:=Int.natCast_nonneg _
  have:=congrArg BitVec.toNat h1
  rw [BitVec.toNat_setWidth] at this
  have h5:(0:W32).toNat=0:=rfl
  rw [h5] at this
  rw [Int.tmod_eq_emod_of_nonneg h0]
  simp only [un]
  omega
 have m2:IntKind.u32.wrap (IntKind.u64.wrap ((un g).tdiv 4294967296))=un ((g >>> 32).setWidth 32):=by
  have hg:=g.isLt
  have e1:(un g).tdiv 4294967296=((g.toNat / 4294967296:Nat):Int):=rfl
  rw [e1,wrap_u64 (by omega) (by omega),wrap_u32]
  congr 1
  apply BitVec.eq_of_toNat_eq
  simp [Nat.shiftRight_eq_div_pow]
 generalize (g >>> 32).setWidth 32=z at *
 have m3:IntKind.u32.wrap (un z-(un z).tmod 2)=un (y&&&0xfffffffe#32):=by
  rw [← even_un,h2]
  have:=(y&&&0xfffffffe#32).isLt
  have:=wrap_u32 (y&&&0xfffffffe#32).toNat
  rw [BitVec.ofNat_toNat,BitVec.setWidth_eq] at this
  exact this
 simp -implicitDefEqProofs [c106_k3,m1,c106_k2,c106_k1,m2,c106_k0,m3]
end Go.Proofs.Ytmlkdfjojoophaa.T
