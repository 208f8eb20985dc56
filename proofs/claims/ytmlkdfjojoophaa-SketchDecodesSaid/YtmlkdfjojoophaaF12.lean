import Derived.Test.YtmlkdfjojoophaaF1
namespace Go.Proofs.Ytmlkdfjojoophaa.T
open Go.Dn
set_option linter.unusedSimpArgs false

namespace Gf
abbrev Pl:=List W
def ev:Pl→W→W
 | [],_=>0
 | c::a,x=>c^^^mul x (ev a x)
def dg:Pl→Nat
 | []=>0
 | c::a=>if dg a=0 then(if c=0 then 0 else 1) else dg a+1
def trim (a:Pl):Pl:=a.take (dg a)
theorem dg_le : ∀ a:Pl,dg a≤a.length
 | []=>Nat.le_refl _
 | c::a=>by
  have:=dg_le a
  simp only [dg,List.length_cons]
  split
  ·split <;> omega
  ·omega
theorem co_dg : ∀ {a:Pl}{i:Nat},dg a≤i→a.getD i 0=0
 | [],i,_=>by simp
 | c::a,i,h=>by
  simp only [dg] at h
  split at h
  ·rename_i h0
   split at h
   ·rename_i hc
    cases i with
    | zero=>simpa using hc
    | succ i=>simp only [List.getD_cons_succ]; exact co_dg (by omega)
   ·cases i with
    | zero=>omega
    | succ i=>simp only [List.getD_cons_succ]; exact co_dg (by omega)
  ·cases i with
   | zero=>omega
   | succ i=>simp only [List.getD_cons_succ]; exact co_dg (by omega)
theorem co_top : ∀ {a:Pl},0<dg a→a.getD (dg a-1) 0≠0
 | [],h=>by simp [dg] at h
 | c::a,h=>by
  simp only [dg] at h ⊢
  split
  ·rename_i h0
   rw [if_pos h0] at h
   split
   ·rename_i hc; rw [if_pos hc] at h; omega
   ·rename_i hc; simpa using hc
  ·rename_i h0
   obtain⟨k,hk⟩ : ∃ k,dg a=k+1:=⟨dg a-1,by omega⟩
   have:=co_top (a:=a) (by omega)
   rw [hk] at this ⊢
   simpa using this
theorem dg_unique {a:Pl}{k:Nat}(h1 : ∀ i,k≤i→a.getD i 0=0)(h2:k=0∨a.getD (k-1) 0≠0):dg a=k:=by
 rcases Nat.lt_trichotomy (dg a) k with h | h | h
 ·rcases h2 with h2 | h2
  ·omega
  ·exact absurd (co_dg (a:=a) (by omega)) h2
 ·exact h
 ·exact absurd (h1 _ (by omega)) (co_top (a:=a) (by omega))
theorem trim_len (a:Pl):(trim a).length=dg a:=by
 unfold trim
 rw [List.length_take,Nat.min_eq_left (dg_le a)]
theorem trim_co (a:Pl)(i:Nat):(trim a).getD i 0=a.getD i 0:=by
 by_cases h:i<dg a
 ·simp only [trim,List.getD_eq_getElem?_getD,List.getElem?_take_of_lt h]
 ·rw [co_dg (by omega:dg a≤i),List.getD_eq_getElem?_getD,List.getElem?_eq_none (by rw [trim_len]; omega)]
  rfl
theorem dg_trim (a:Pl):dg (trim a)=dg a:=dg_unique (fun i hi=>by rw [trim_co]; exact co_dg hi) (by
 by_cases h:dg a=0
 ·exact .inl h
 ·right; rw [trim_co]; exact co_top (by omega))
theorem trim_self {a:Pl}(h:dg a=a.length):trim a=a:=by unfold trim; rw [h,List.take_length]
theorem trim_trim (a:Pl):trim (trim a)=trim a:=trim_self (by rw [dg_trim,trim_len])
theorem ev_zero : ∀ {a:Pl}{x:W},(∀ e∈a,e=0)→ev a x=0
 | [],x,_=>rfl
 | c::a,x,h=>by
  simp only [ev]
  rw [h c (by simp),ev_zero fun e he=>h e (by simp [he]),mul_zero,zx]
theorem dg_zero : ∀ {a:Pl},dg a=0→∀ e∈a,e=0:=fun {a} h e he=>by
 obtain⟨i,hi⟩:=List.getElem?_of_mem he
 have:=co_dg (a:=a) (i:=i) (by omega)
 rw [List.getD_eq_getElem?_getD,hi] at this
 exact this
theorem zero_dg {a:Pl}(h : ∀ e∈a,e=0):dg a=0:=dg_unique (fun i _=>by
 rw [List.getD_eq_getElem?_getD]
 cases hi:a[i]? with
 | none=>rfl
 | some e=>exact h e (List.mem_of_getElem? hi)) (.inl rfl)
theorem ev_trim : ∀ (a:Pl)(x:W),ev (trim a) x=ev a x
 | [],x=>rfl
 | c::a,x=>by
  have ih:=ev_trim a x
  unfold trim at ih ⊢
  by_cases h0:dg a=0
  ·have hz:ev a x=0:=ev_zero (dg_zero h0)
   by_cases hc:c=0
   ·simp only [dg,h0,if_true,hc,List.take_zero,ev,hz,mul_zero]
    exact(zx 0).symm
   ·simp only [dg,h0,if_true,if_neg hc,List.take_succ_cons,List.take_zero,ev,hz]
  ·simp only [dg,if_neg h0,List.take_succ_cons,ev,ih]

def addP:Pl→Pl→Pl
 | [],b=>b
 | a,[]=>a
 | x::a,y::b=>(x^^^y)::addP a b
theorem addP_nil (a:Pl):addP a []=a:=by cases a <;> rfl
theorem addP_len : ∀ a b:Pl,(addP a b).length=max a.length b.length
 | [],b=>by simp [addP]
 | u::us,[]=>by simp [addP]
 | u::us,w::ws=>by simp [addP,addP_len us ws,Nat.succ_max_succ]
theorem addP_co : ∀ (a b:Pl)(i:Nat),(addP a b).getD i 0=a.getD i 0^^^b.getD i 0
 | [],b,i=>by simp only [addP,List.getD_nil]; exact(zx _).symm
 | u::us,[],i=>by simp only [addP,List.getD_nil]; exact(x0 _).symm
 | u::us,w::ws,i=>by
  cases i with
  | zero=>rfl
  | succ i=>simp only [addP,List.getD_cons_succ]; exact addP_co us ws i
theorem x4 (a b c d:W):(a^^^b)^^^(c^^^d)=(a^^^c)^^^(b^^^d):=by
 rw [BitVec.xor_assoc,← BitVec.xor_assoc b,BitVec.xor_comm b,BitVec.xor_assoc c,← BitVec.xor_assoc]
theorem ev_addP : ∀ (a b:Pl)(x:W),ev (addP a b) x=ev a x^^^ev b x
 | [],b,x=>by simp only [addP,ev]; exact(zx _).symm
 | u::us,[],x=>by simp only [addP,ev]; exact(x0 _).symm
 | u::us,w::ws,x=>by
  simp only [addP,ev]
  rw [ev_addP us ws x,mul_xor,x4]
def scl (c:W)(a:Pl):Pl:=a.map (mul c)
theorem scl_len (c:W)(a:Pl):(scl c a).length=a.length:=by simp [scl]
theorem scl_co (c:W)(a:Pl)(i:Nat):(scl c a).getD i 0=mul c (a.getD i 0):=by
 simp only [scl,List.getD_eq_getElem?_getD,List.getElem?_map]
 cases a[i]? with
 | none=>exact(mul_zero c).symm
 | some e=>rfl
theorem ev_scl (c:W) : ∀ (a:Pl)(x:W),ev (scl c a) x=mul c (ev a x)
 | [],x=>(mul_zero c).symm
 | e::a,x=>by
  show mul c e^^^mul x (ev (scl c a) x)=mul c (e^^^mul x (ev a x))
  rw [ev_scl c a x,mul_xor,mul_left x]
def up (k:Nat)(a:Pl):Pl:=List.replicate k 0++a
theorem up_len (k:Nat)(a:Pl):(up k a).length=k+a.length:=by simp [up]
theorem up_co (k:Nat)(a:Pl)(i:Nat):(up k a).getD i 0=if i<k then 0 else a.getD (i-k) 0:=by
 simp only [up,List.getD_eq_getElem?_getD]
 split
 ·rename_i h
  rw [List.getElem?_append_left (by simpa using h),List.getElem?_replicate,if_pos h]
  rfl
 ·rename_i h
  rw [List.getElem?_append_right (by simp; omega),List.length_replicate]
theorem npow_succ' (x:W)(k:Nat):npow x (k+1)=mul x (npow x k):=mul_comm _ _
theorem ev_up : ∀ (k:Nat)(a:Pl)(x:W),ev (up k a) x=mul (npow x k) (ev a x)
 | 0,a,x=>(one_mul _).symm
 | k+1,a,x=>by
  show 0^^^mul x (ev (up k a) x)=_
  rw [zx,ev_up k a x,npow_succ',mul_assoc]
def mulP:Pl→Pl→Pl
 | [],_=>[]
 | c::a,b=>addP (scl c b) (0::mulP a b)
theorem ev_mulP : ∀ (a b:Pl)(x:W),ev (mulP a b) x=mul (ev a x) (ev b x)
 | [],b,x=>(zero_mul _).symm
 | c::a,b,x=>by
  show ev (addP (scl c b) (0::mulP a b)) x=mul (c^^^mul x (ev a x)) (ev b x)
  rw [ev_addP,ev_scl,xor_mul]
  show _^^^(0^^^mul x (ev (mulP a b) x))=_
  rw [ev_mulP a b x,zx,mul_assoc]
theorem mulP_len : ∀ (a b:Pl),b≠[]→(mulP a b).length≤a.length+b.length-1
 | [],b,hb=>by simp [mulP]
 | c::a,b,hb=>by
  have ih:=mulP_len a b hb
  have:0<b.length:=List.length_pos_iff.2 hb
  simp only [mulP,addP_len,scl_len,List.length_cons]
  omega

def syn:Pl→W→Pl
 | [],_=>[]
 | _::[],_=>[]
 | _::d::a,r=>ev (d::a) r::syn (d::a) r
theorem syn_len : ∀ (a:Pl)(r:W),(syn a r).length=a.length-1
 | [],_=>rfl
 | _::[],_=>rfl
 | _::d::a,r=>by
  have:=syn_len (d::a) r
  simp only [syn,List.length_cons] at this ⊢
  omega
theorem ev_syn : ∀ (a:Pl)(r x:W),ev a x=ev a r^^^mul (x^^^r) (ev (syn a r) x)
 | [],r,x=>by simp only [ev,syn,mul_zero]; exact(x0 _).symm
 | [c],r,x=>by
  simp only [ev,syn,mul_zero]
  rw [x0,x0]
 | c::d::a,r,x=>by
  have ih:=ev_syn (d::a) r x
  show c^^^mul x (ev (d::a) x)=(c^^^mul r (ev (d::a) r))^^^mul (x^^^r) (ev (d::a) r^^^mul x (ev (syn (d::a) r) x))
  rw [ih]
  generalize ev (d::a) r=e
  generalize ev (syn (d::a) r) x=q
  rw [mul_xor,mul_xor,xor_mul x r e,mul_left x]
  generalize mul (x^^^r) (mul x q)=z
  generalize mul x e=s
  generalize mul r e=t
  rw [BitVec.xor_assoc c t,← BitVec.xor_assoc t,BitVec.xor_comm s t,← BitVec.xor_assoc t t,xs,zx]
theorem syn_zero : ∀ {a:Pl}{r:W},(∀ e∈syn a r,e=0)→ev a r=0→∀ e∈a,e=0
 | [],r,_,_=>by simp
 | [c],r,_,h=>by
  simp only [ev,mul_zero,x0] at h
  simpa using h
 | c::d::a,r,h,h0=>by
  simp only [syn,List.mem_cons,forall_eq_or_imp] at h
  have ih:=syn_zero (a:=d::a) (r:=r) h.2 h.1
  intro e he
  rcases List.mem_cons.1 he with rfl | he
  ·have h1:e^^^mul r (ev (d::a) r)=0:=h0
   rwa [h.1,mul_zero,x0] at h1
  ·exact ih e he
theorem all_zero : ∀ {S:List W}{a:Pl},S.Nodup→(∀ r∈S,ev a r=0)→a.length≤S.length→∀ e∈a,e=0
 | [],a,_,_,hl=>by
  have:a=[]:=List.eq_nil_of_length_eq_zero (by simpa using hl)
  subst this
  simp
 | r::S,a,hn,h,hl=>by
  have hr:=h r (by simp)
  have hn2:=List.nodup_cons.1 hn
  refine syn_zero (r:=r) (all_zero hn2.2 (fun s hs=>?_) (by rw [syn_len]; simp at hl; omega)) hr
  have h1:=ev_syn a r s
  rw [h s (by simp [hs]),hr,zx] at h1
  refine(mul_eq_zero h1.symm).resolve_left fun h2=>?_
  have:=xor_zero_eq h2
  subst this
  exact hn2.1 hs
theorem roots_lt {S:List W}{a:Pl}(hn:S.Nodup)(h : ∀ r∈S,ev a r=0)(hd:dg a≠0):S.length<dg a:=by
 rcases Nat.lt_or_ge S.length (dg a) with h1 | h1
 ·exact h1
 ·exfalso
  have:=all_zero (a:=trim a) hn (fun r hr=>by rw [ev_trim]; exact h r hr) (by rw [trim_len]; exact h1)
  have h2:=zero_dg this
  rw [dg_trim] at h2
  exact hd h2
theorem many (n:Nat)(h:n≤4294967296) : ∃ S:List W,S.Nodup∧S.length=n:=by
 refine⟨(List.range n).map (BitVec.ofNat 32),?_,by simp⟩
 unfold List.Nodup
 rw [List.pairwise_map]
 refine List.Pairwise.imp_of_mem ?_ List.nodup_range
 intro i j hi hj hij he
 rw [List.mem_range] at hi hj
 have:=congrArg BitVec.toNat he
 simp only [BitVec.toNat_ofNat] at this
 omega

def prodL:List W→Pl
 | []=>[1]
 | r::S=>addP (0::prodL S) (scl r (prodL S))
theorem prodL_len : ∀ S,(prodL S).length=S.length+1
 | []=>rfl
 | r::S=>by simp [prodL,addP_len,scl_len,prodL_len S]
theorem ev_prodL : ∀ {S:List W}{x:W},ev (prodL S) x=0↔x∈S
 | [],x=>by
  show(1^^^mul x 0)=(0:W)↔_
  rw [mul_zero,x0]
  simp
 | r::S,x=>by
  simp only [prodL]
  rw [ev_addP,ev_scl]
  show(0^^^mul x (ev (prodL S) x))^^^_=0↔_
  rw [zx,← xor_mul,List.mem_cons,← ev_prodL (S:=S)]
  constructor
  ·intro h
   rcases mul_eq_zero h with h | h
   ·exact .inl (xor_zero_eq h)
   ·exact .inr h
  ·rintro (rfl | h)
   ·rw [xs,zero_mul]
   ·rw [h,mul_zero]
theorem prodL_top : ∀ S,(prodL S).getD S.length 0=1
 | []=>rfl
 | r::S=>by
  simp only [prodL]
  rw [addP_co,scl_co,List.length_cons,List.getD_cons_succ,prodL_top S]
  have:(prodL S).getD (S.length+1) 0=0:=by
   rw [List.getD_eq_getElem?_getD,List.getElem?_eq_none (by rw [prodL_len]; omega)]
   rfl
  rw [this,mul_zero,x0]
theorem prodL_dg (S:List W):dg (prodL S)=S.length+1:=dg_unique (fun i hi=>by
  rw [List.getD_eq_getElem?_getD,List.getElem?_eq_none (by rw [prodL_len]; omega)]
  rfl) (.inr (by
  rw [Nat.add_sub_cancel,prodL_top]
  decide))
theorem list_ext_co {a b:Pl}(hl:a.length=b.length)(h : ∀ i,i<a.length→a.getD i 0=b.getD i 0):a=b:=by
 refine List.ext_getElem hl fun i h1 h2=>?_
 have:=h i h1
 rw [List.getD_eq_getElem?_getD,List.getD_eq_getElem?_getD,List.getElem?_eq_getElem h1,List.getElem?_eq_getElem h2] at this
 exact this
theorem mon_unique {S:List W}(hn:S.Nodup){a:Pl}(hl:a.length=S.length+1)(ht:a.getD S.length 0=1)(h : ∀ r∈S,ev a r=0):a=prodL S:=by
 have hz:=all_zero (S:=S) (a:=(addP a (prodL S)).take S.length) hn (fun r hr=>?_) (by simp; omega)
 ·refine list_ext_co (by rw [hl,prodL_len]) fun i hi=>?_
  by_cases h1:i<S.length
  ·have h2:((addP a (prodL S)).take S.length).getD i 0=0:=by
    rw [List.getD_eq_getElem?_getD]
    cases hc:((addP a (prodL S)).take S.length)[i]? with
    | none=>rfl
    | some e=>exact hz e (List.mem_of_getElem? hc)
   rw [List.getD_eq_getElem?_getD,List.getElem?_take_of_lt h1,← List.getD_eq_getElem?_getD,addP_co] at h2
   exact xor_zero_eq h2
  ·have:i=S.length:=by omega
   subst this
   rw [ht,prodL_top]
 ·have hd:dg (addP a (prodL S))≤S.length:=by
   rcases Nat.lt_or_ge S.length (dg (addP a (prodL S))) with h1 | h1
   ·exfalso
    have h2:=co_top (a:=addP a (prodL S)) (by omega)
    have h3:=dg_le (addP a (prodL S))
    rw [addP_len,hl,prodL_len,Nat.max_self] at h3
    have h4:dg (addP a (prodL S))-1=S.length:=by omega
    rw [h4,addP_co,ht,prodL_top,xs] at h2
    exact h2 rfl
   ·exact h1
  have e1:trim ((addP a (prodL S)).take S.length)=trim (addP a (prodL S)):=by
   have h5:dg ((addP a (prodL S)).take S.length)=dg (addP a (prodL S)):=dg_unique (fun i hi=>by
    by_cases h6:i<S.length
    ·rw [List.getD_eq_getElem?_getD,List.getElem?_take_of_lt h6,← List.getD_eq_getElem?_getD]
     exact co_dg hi
    ·rw [List.getD_eq_getElem?_getD,List.getElem?_eq_none (by simp; omega)]
     rfl) (by
    by_cases h7:dg (addP a (prodL S))=0
    ·exact .inl h7
    ·right
     rw [List.getD_eq_getElem?_getD,List.getElem?_take_of_lt (by omega),← List.getD_eq_getElem?_getD]
     exact co_top (by omega))
   unfold trim
   rw [h5,List.take_take,Nat.min_eq_left hd]
  rw [← ev_trim,e1,ev_trim,ev_addP,h r hr,ev_prodL.2 hr,xs]
end Gf
end Go.Proofs.Ytmlkdfjojoophaa.T

namespace Go.Proofs.Ytmlkdfjojoophaa.T
open Go.Dn
attribute [local simp] body_eq globEnv GB List.map_nil List.map_cons List.append_nil w_rangeF i_next i_makeMap i_range i_update i_delete i_entry i_clone entryV cloneV q_rndA q_rndB_n q_rndB_e q_rndB_r setAll w_skip w_ops w_seq w_cond w_block w_exit w_ret q_then_n q_then_e q_then_r q_blk_n q_blk_e q_blk_r q_ops q_cont q_end_n q_end_r q_end_e q_loop_n q_loop_e q_loop_r i_nil i_p i_alloc i_box i_store i_copy i_clear i_call i_callv i_when t_nil t_p t_call t_alloc t_box t_store kept_nil t_copy t_clear q_tcont gsel List.cons_append List.nil_append evalP evalE evalF evalB isObj thaw Opd.ev Env.get Env.set Env.pick putE initEnv evalBin intBin evalUn evalConv goneAll goneOne retV resAll Res.ev tupOf byVals byValsN bv_d bv_da bv_fl bv_tl bn_d bn_da bn_fl bn_tl cx Dn.newObj St.place St.push St.spot St.empty cell_d cell_da cell_agg cell_ref cell_sl cell_fl cell_tl cell_map cell_fn cell_ifc loadAt faddrV partOf extractV mkAgg ofD splice St.setObj fillV
set_option linter.unusedSimpArgs false

open Gf (dg trim)

def pR (L:List W32):List (List D):=L.map fun w=>[.int .u32 (un w)]
theorem pR_len (L:List W32):(pR L).length=L.length:=by simp [pR]
theorem pR_fit (L:List W32) : ∀ r∈pR L,r.length=1:=by
 intro r hr
 simp only [pR,List.mem_map] at hr
 obtain⟨b,_,rfl⟩:=hr
 rfl
theorem pR_at {L:List W32}{i:Nat}{w:W32}(h:L[i]?=some w):(pR L)[i]?=some [.int .u32 (un w)]:=by simp [pR,h]
theorem pR_take (L:List W32)(n:Nat):(pR L).take n=pR (L.take n):=by simp [pR]
theorem pR_drop (L:List W32)(n:Nat):(pR L).drop n=pR (L.drop n):=by simp [pR]
theorem pR_app (a b:List W32):pR (a++b)=pR a++pR b:=by simp [pR]
def wV (L:List W32):List V:=L.map Xw
theorem wV_len (L:List W32):(wV L).length=L.length:=by simp [wV]
theorem wV_at {L:List W32}{i:Nat}{w:W32}(h:L[i]?=some w):(wV L)[i]?=some (Xw w):=by simp [wV,h]
theorem wV_set {L:List W32}{i:Nat}(h:i<L.length)(v:W32):splice (wV L) i [Xw v]=wV (L.set i v):=by
 unfold splice wV
 rw [List.map_set,List.set_eq_take_append_cons_drop]
 simp [h]
theorem wV_ofD : ∀ L:List W32,ofD (wV L)=some (L.map fun w=>D.int .u32 (un w))
 | []=>rfl
 | w::L=>by
  have:=wV_ofD L
  simp only [wV,List.map_cons] at this ⊢
  simp only [ofD,this]
theorem rowsOf_pR : ∀ L:List W32,rowsOf 1 L.length (L.map fun w=>D.int .u32 (un w))=pR L
 | []=>rfl
 | w::L=>by
  have:=rowsOf_pR L
  simp only [List.length_cons,List.map_cons,rowsOf,pR] at this ⊢
  simp [this]
theorem pR_flat : ∀ L:List W32,(pR L).flatten.map V.d=wV L
 | []=>rfl
 | w::L=>by
  have:=pR_flat L
  simp only [pR,wV,List.map_cons,List.flatten_cons] at this ⊢
  simp [this]

inductive Rd (σ:St):V→List W32→Prop
 | lv {v:V} {L:List W32} (h:LV v (pR L)) (ht : ∀ r t st s,v = .tl r t st s→s=1:=by intro r t st s h; cases h):Rd σ v L
 | sl {r off n:Nat} {cs:List V} {L:List W32} (h:σ.objs[r]?=some (.cells cs)) (hb:off+n≤cs.length) (he:(cs.drop off).take n=wV L) (hn:L.length=n):Rd σ (.sl r off n 1) L
theorem Rd.len {σ:St}{v:V}{L:List W32}(h:Rd σ v L) (σ':St):lenT σ' .slice v=some L.length:=by
 cases h with
 | lv h=>rw [h.len,pR_len]
 | sl h hb he hn=>simp [lenT,lenV,hn]
theorem Rd.lenV {σ:St}{v:V}{L:List W32}(h:Rd σ v L) (σ':St):Dn.lenV σ' v=some L.length:=h.len σ'
theorem Rd.rows {σ:St}{v:V}{L:List W32}(h:Rd σ v L):V.rows σ v=some (pR L):=by
 cases h with
 | lv h=>exact h.rows σ
 | sl h hb he hn =>
  subst hn
  simp [V.rows,h,he,wV_ofD,rowsOf_pR]
theorem Rd.byVal {σ:St}{v:V}{L:List W32}(h:Rd σ v L) : ∃ d,V.byVal σ v=some (.d d)∧LV (.d d) (pR L):=by
 cases h with
 | lv h=>exact h.byVal σ
 | sl h1 hb he hn =>
  have:=(Rd.sl h1 hb he hn:Rd σ _ _).rows
  exact⟨_,by simp only [V.byVal,this],.list _⟩
theorem Rd.at {σ:St}{v:V}{L:List W32}(h:Rd σ v L){i:Nat}{w:W32}(hw:L[i]?=some w) : ∃ a,iaddrV σ 1 v (I i)=some a∧loadAt σ false 1 a=some (Xw w):=by
 have hi:=(List.getElem?_eq_some_iff.1 hw).1
 cases h with
 | lv h=>exact⟨_,h.iaddr σ (pR_at hw) rfl,rfl⟩
 | sl h hb he hn =>
  rename_i r off n cs
  refine⟨.ref r (off+i*1),by simp [iaddrV,asIdx]; omega,?_⟩
  have h2:cs[off+i]?=some (Xw w):=by
   have h3:=wV_at hw
   rw [← he,List.getElem?_take_of_lt (by omega),List.getElem?_drop] at h3
   exact h3
  simp [loadAt,h,h2]
theorem Rd.mono {σ s:St}{v:V}{L:List W32}(h:Rd σ v L)(hf : ∀ r off n sz,v = .sl r off n sz→s.objs[r]?=σ.objs[r]?):Rd s v L:=by
 cases h with
 | lv h ht=>exact .lv h ht
 | sl h hb he hn=>exact .sl ((hf _ _ _ _ rfl).trans h) hb he hn
theorem Rd.fr {σ s:St}{v:V}{L:List W32}(h:Rd σ v L)(hf:Fr [] σ s):Rd s v L:=by
 cases h with
 | lv h ht=>exact .lv h ht
 | sl h hb he hn=>exact .sl (hf.get h (by simp)) hb he hn
theorem Rd.cells {σ:St}{v:V}{L:List W32}(h:Rd σ v L):v.cells=some [v]:=by
 cases h with
 | lv h=>exact h.cells
 | sl h=>rfl
theorem Rd.whole {σ:St}{r:Nat}{L:List W32}(h:σ.objs[r]?=some (.cells (wV L))):Rd σ (.sl r 0 L.length 1) L :=
 .sl h (by rw [wV_len]; omega) (by rw [List.drop_zero,List.take_of_length_le (by rw [wV_len]; exact Nat.le_refl _)]) rfl
inductive Ob (σ:St):V→List W32→Prop
 | sl {r:Nat} {L:List W32} (h:σ.objs[r]?=some (.cells (wV L))):Ob σ (.sl r 0 L.length 1) L
 | nils:Ob σ (.d .nils) []
 | fl:Ob σ (.fl []) []
theorem Ob.rd {σ:St}{v:V}{L:List W32}(h:Ob σ v L):Rd σ v L:=by
 cases h with
 | sl h=>exact .whole h
 | nils=>exact .lv .nil
 | fl=>exact .lv (.fl [])
def fresh (σ:St)(v:V):Prop:=∀ r off n sz,v = .sl r off n sz→σ.objs.length≤r

theorem npow_sq (x:W32)(k:Nat):Gf.npow (Gf.mul x x) k=Gf.npow x (2*k):=by
 induction k with
 | zero=>rfl
 | succ k ih =>
  show Gf.mul (Gf.npow (Gf.mul x x) k) (Gf.mul x x)=_
  rw [ih,show 2*(k+1)=2*k+2 by omega,Gf.npow_add]
  congr 1
  show _=Gf.mul (Gf.mul 1 x) x
  rw [Gf.one_mul]
theorem and_one (k:W64):bits .and .u64 (un k) 1=if k.toNat % 2=1 then 1 else 0:=by
 have h1:bits .and .u64 (un k) 1=un (k&&&1#64):=and_u64 k 1#64
 rw [h1]
 simp only [un,BitVec.toNat_and]
 have:(1#64:W64).toNat=1:=rfl
 rw [this,Nat.and_one_is_mod]
 split <;> omega
def InvPow (a:W32)(n:W64)(m:Nat)(e:Env)(s:St):Prop:=∃ (x o:W32)(k:W64),e=[(0,Xw x),(1,Wd k),(5,Xw o)]∧m=k.toNat∧s=St.empty∧Gf.mul o (Gf.npow x k.toNat)=Gf.npow a n.toNat
theorem s_Pow (a:W32)(n:W64):Dn.Call Γ cx .val 133 [Xw a,Wd n] St.empty fun v _=>v=Xw (Gf.npow a n.toNat):=by
 refine Dn.Call.body (fc:=c133) rfl ?_
 simp -implicitDefEqProofs [c133,c133_k9,c133_k8]
 refine wloopI (InvPow a n) (m:=n.toNat) ⟨a,1,n,rfl,rfl,rfl,Gf.one_mul _⟩ ?_
 rintro m e s ⟨x,o,k,rfl,rfl,rfl,hk⟩
 rcases hd:decide ((0:Int)<un k) with _ | _
 ·have h0 : ¬ (0:Int)<un k:=of_decide_eq_false hd
  have hk0:k.toNat=0:=by simp only [un] at h0; omega
  rw [hk0] at hk
  have ho:o=Gf.npow a n.toNat:=by rw [← hk]; exact(Gf.mul_one o).symm
  simp -implicitDefEqProofs [h0,c133_l7,c133_k6,c133_k0,ho]
 have h0:(0:Int)<un k:=of_decide_eq_true hd
 have hsr:=shr_sh k 1 (by omega)
 have hkt:(k >>> 1).toNat=k.toNat / 2:=by simp [Nat.shiftRight_eq_div_pow]
 have hpos:0<k.toNat:=by simp only [un] at h0; omega
 have hba:=and_one k
 simp -implicitDefEqProofs [h0,c133_l7,c133_k6,c133_k5,c133_k4,hba]
 by_cases hb:k.toNat % 2=1
 ·simp -implicitDefEqProofs [hb,c133_k3]
  refine use_fn rfl (s_Mul o x) rfl ?_
  simp -implicitDefEqProofs [c133_k2]
  refine use_fn rfl (s_Square x) rfl ?_
  simp -implicitDefEqProofs [c133_k1,hsr]
  refine⟨(k >>> 1).toNat,by omega,Gf.mul x x,Gf.mul o x,k >>> 1,rfl,rfl,rfl,?_⟩
  rw [hkt,npow_sq,← hk,← Gf.mul_assoc]
  congr 1
  rw [← Gf.npow_succ']
  congr 1
  omega
 ·simp -implicitDefEqProofs [hb,c133_k3,c133_k2]
  refine use_fn rfl (s_Square x) rfl ?_
  simp -implicitDefEqProofs [c133_k1,hsr]
  refine⟨(k >>> 1).toNat,by omega,Gf.mul x x,o,k >>> 1,rfl,rfl,rfl,?_⟩
  rw [hkt,npow_sq,← hk]
  congr 2
  omega
theorem s_Inv (a:W32):Dn.Call Γ cx .val 116 [Xw a] St.empty fun v _=>v=Xw (Gf.inv a):=by
 refine Dn.Call.body (fc:=c116) rfl ?_
 have h:=s_Pow a 4294967294#64
 have hw:Wd 4294967294#64 = .d (.int .u64 4294967294):=rfl
 have hn:(4294967294#64:W64).toNat=2 ^ 32-2:=rfl
 rw [hw,hn] at h
 simp -implicitDefEqProofs [c116,c116_k0]
 refine use_fn rfl h rfl ?_
 simp -implicitDefEqProofs
 rfl

def InvDg (d:D)(L:List W32)(m:Nat)(e:Env)(s:St):Prop:=e=[(0,.d d),(3,I ((m:Int)-1))]∧m≤L.length∧(∀ i,m≤i→L.getD i 0=0)∧s=St.empty
theorem s_Degree {d:D}{L:List W32}(hd:LV (.d d) (pR L))(hl:L.length≤100000):Dn.Call Γ cx .val 63 [.d d] St.empty fun v _=>v=I ((dg L:Int)-1):=by
 refine Dn.Call.body (fc:=c63) rfl ?_
 have hld : ∀ σ,lenT σ .slice (.d d)=some L.length:=fun σ=>by rw [hd.len,pR_len]
 have w1:IntKind.i64.wrap ((L.length:Int)-1)=(L.length:Int)-1:=wrap_i64 (by omega) (by omega)
 simp -implicitDefEqProofs [c63,c63_k5,hld,w1,c63_k4]
 refine wloopI (InvDg d L) (m:=L.length) ⟨rfl,Nat.le_refl _,fun i hi=>by rw [List.getD_eq_getElem?_getD,List.getElem?_eq_none hi]; rfl,rfl⟩ ?_
 rintro m e s ⟨rfl,hm,hz,rfl⟩
 cases m with
 | zero =>
  have h0:dg L=0:=Gf.dg_unique hz (.inl rfl)
  simp -implicitDefEqProofs [c63_l3,c63_k2,c63_k0,h0]
 | succ k =>
  have e1:((k+1:Nat):Int)-1=(k:Int):=by omega
  have e2:(0:Int)≤k:=by omega
  obtain⟨w,hw⟩ : ∃ w,L[k]?=some w:=⟨_,List.getElem?_eq_getElem (by omega)⟩
  have hia:=fun σ=>hd.iaddr σ (k:=.i64) (sz:=1) (i:=k) (pR_at hw) rfl
  have hgd:L.getD k 0=w:=by rw [List.getD_eq_getElem?_getD,hw]; rfl
  have w2:IntKind.i64.wrap ((k:Int)-1)=(k:Int)-1:=wrap_i64 (by omega) (by omega)
  rw [e1]
  by_cases hw0:w=0
  ·subst hw0
   have hu:un (0:W32)=0:=rfl
   simp -implicitDefEqProofs [e2,hia,hu,c63_l3,c63_k2,c63_k1,w2]
   refine⟨k,by omega,rfl,by omega,fun i hi=>?_,rfl⟩
   rcases Nat.lt_or_ge k i with h | h
   ·exact hz i (by omega)
   ·obtain rfl:i=k:=by omega
    exact hgd
  ·have hu : ¬ un w=0:=fun h=>hw0 (by
    apply BitVec.eq_of_toNat_eq
    simp only [un] at h
    show w.toNat=0
    omega)
   have h0:dg L=k+1:=Gf.dg_unique hz (.inr (by rw [Nat.add_sub_cancel,hgd]; exact hw0))
   simp -implicitDefEqProofs [e2,hia,hu,c63_l3,c63_k2,c63_k0,h0]

open Gf (dg trim)

def slOf (v w:V):Prop:=∀ r off n sz,w = .sl r off n sz→∃ off' n' sz',v = .sl r off' n' sz'
theorem rd_slice {σ:St}{v:V}{L:List W32}(h:Rd σ v L){lo hi:Nat}(h1:lo≤hi)(h2:hi≤L.length) : ∃ w,sliceV 1 v lo hi none=some w∧Rd σ w ((L.drop lo).take (hi-lo))∧slOf v w:=by
 cases h with
 | lv h ht =>
  obtain⟨w,e1,e2,e3⟩:=h.slice σ (sz:=1) (pR_fit L) ht h1 (by rw [pR_len]; exact h2)
  rw [pR_drop,pR_take] at e2
  refine⟨w,e1,.lv e2 e3,fun r off n sz hw=>?_⟩
  subst hw
  cases e2
 | sl h hb he hn =>
  rename_i r off n cs
  refine⟨.sl r (off+lo*1) (hi-lo) 1,by simp [sliceV]; omega,?_,fun r' off' n' sz' e=>by cases e; exact⟨_,_,_,rfl⟩⟩
  refine .sl h (by omega) ?_ (by simp; omega)
  rw [Nat.mul_one]
  have e1:wV ((L.drop lo).take (hi-lo))=((wV L).drop lo).take (hi-lo):=by simp [wV]
  rw [e1,← he,List.drop_take,List.drop_drop,List.take_take]
  congr 1
  omega
theorem rd_cutX {σ:St}{v:V}{L:List W32}(h:Rd σ v L){k:Nat}(h2:k≤L.length) : ∃ w,sliceX σ 1 v none (some (I k)) none=some w∧Rd σ w (L.take k)∧slOf v w:=by
 obtain⟨w,e1,e2,e3⟩:=rd_slice h (Nat.zero_le k) h2
 refine⟨w,?_,by simpa using e2,e3⟩
 simp [sliceX,h.lenV,boundV,asIdx,e1]

theorem s_cut {σ:St}{v:V}{L:List W32}(h:Rd σ v L)(hl:L.length≤100000):Dn.Call Γ cx .raw 121 [v] σ fun w s=>s=σ∧Rd σ w (trim L)∧slOf v w:=by
 refine Dn.Call.body (fc:=c121) rfl ?_
 obtain⟨d,hbv,hd⟩:=h.byVal
 obtain⟨w,hw,hr,hs⟩:=rd_cutX h (Gf.dg_le L)
 have hdl:=Gf.dg_le L
 have w1:IntKind.i64.wrap (dg L:Int)=(dg L:Int):=wrap_i64 (by omega) (by omega)
 simp -implicitDefEqProofs [c121,c121_k0]
 refine use_fn (ds:=[.d d]) (by simp only [byVals,hbv]) (s_Degree hd hl) (Bool.or_true _) ?_
 simp -implicitDefEqProofs [w1,hw]
 exact⟨hr,hs⟩

structure New (σ s:St)(w:V)(L:List W32):Prop where
 ob:Ob s w L
 fr:Fr [] σ s
 nw:fresh σ w
 tk:s.toks=σ.toks
theorem fresh_d (σ:St)(d:D):fresh σ (.d d):=fun r off n sz e=>by cases e
theorem fresh_fl (σ:St)(r:List (List D)):fresh σ (.fl r):=fun r off n sz e=>by cases e
theorem Fr.push1 (σ:St)(o:Dn.Obj):Fr [] σ ⟨σ.objs++[o],σ.toks⟩:=⟨by simp,fun q _ hq=>by simp only; rw [List.getElem?_append_left hq]⟩
theorem rd_nil {σ:St}{v:V}{L:List W32}(h:Rd σ v L) : ∃ b,V.isNil .slice v=some b∧(b=true→L=[]):=by
 cases h with
 | lv h =>
  obtain⟨b,h1,h2⟩:=h.isNil
  refine⟨b,h1,fun hb=>?_⟩
  have:=(h2 hb).2
  cases L with
  | nil=>rfl
  | cons a l=>cases this
 | sl h=>exact⟨false,rfl,fun h=>by cases h⟩
theorem s_Clone {σ:St}{v:V}{L:List W32}(h:Rd σ v L)(hl:L.length≤100000):Dn.Call Γ cx .raw 53 [v] σ fun w s=>New σ s w L:=by
 refine Dn.Call.body (fc:=c53) rfl ?_
 obtain⟨b,hb,hbn⟩:=rd_nil h
 have he:evalBin .eql .slice [] v (.d .nils) (Opd.isC (.t 3)) (Opd.isC (.c .nils))=some (B b):=by
  have e1:eqV .slice [] v (.d .nils) (Opd.isC (.t 3)) (Opd.isC (.c .nils))=some b:=by
   unfold eqV
   simp only [hb]
   cases b <;> rfl
  cases h with
  | lv h=>generalize pR L=rows at h; cases h <;> simp [evalBin,e1]
  | sl h=>simp [evalBin,e1]
 simp only [c53]
 simp -implicitDefEqProofs [-evalBin,c53_k2]
 have he2:evalBin .eql .slice [] v (.d .nils) (Opd.isC (.t 3)) true=some (B b):=he
 simp -implicitDefEqProofs [-evalBin,he,he2]
 cases b with
 | true =>
  have:=hbn rfl
  subst this
  simp -implicitDefEqProofs [c53_k1]
  exact⟨.nils,Fr.refl _ _,fresh_d _ _,rfl⟩
 | false =>
  simp -implicitDefEqProofs [c53_k1,c53_k0,isObj,repl,rowsOf]
  by_cases hne:L=[]
  ·subst hne
   refine i_app_f (v:=.fl []) (s:=σ) ?_ ?_
   ·have hr:=h.rows
    have hr2:V.rows σ (.fl [])=some []:=rfl
    simp [evalE,Opd.ev,Env.get,hr,pR,appendV,fitR,hr2]
   simp -implicitDefEqProofs
   exact⟨.fl,Fr.refl _ _,fresh_fl _ _,rfl⟩
  ·refine i_app_m (v:=.sl σ.objs.length 0 L.length 1) (s:=⟨σ.objs++[.cells (wV L)],σ.toks⟩) ?_ ?_
   ·have hp:pR L≠[]:=by simpa [pR] using hne
    have:=appendM_fl (σ:=σ) (sz:=1) (bytes:=4) (rows:=[]) (ys:=pR L) (by omega) (by simp) (pR_fit L) hp (by simp [pR_len]; omega) (by simp [pR_len]; omega)
    simp [evalM,Opd.ev,Env.get,h.rows,this,St.push,pR_len]
    rw [← List.map_flatten]
    exact pR_flat L
   simp -implicitDefEqProofs
   exact⟨.sl (by simp),Fr.push1 _ _,fun r off n sz e=>by cases e; exact Nat.le_refl _,rfl⟩
theorem s_Trim {σ:St}{v:V}{L:List W32}(h:Rd σ v L)(hl:L.length≤100000):Dn.Call Γ cx .raw 134 [v] σ fun w s=>New σ s w (trim L):=by
 refine Dn.Call.body (fc:=c134) rfl ?_
 simp -implicitDefEqProofs [c134,c134_k0]
 refine use_raw (s_cut h hl) fun w s ⟨hs,hr,_⟩=>?_
 subst hs
 have hl2:=Gf.trim_len L
 have hl3:=Gf.dg_le L
 simp -implicitDefEqProofs
 refine use_raw (s_Clone hr (by omega)) fun w s hn=>?_
 simp -implicitDefEqProofs
 exact hn

open Gf (dg trim)

def putL (T a:List W32)(c:W32)(k:Nat):List W32:=Gf.addP T (Gf.up k (Gf.scl c a))
theorem putL_len {T a:List W32}{c:W32}{k:Nat}(h:k+a.length≤T.length):(putL T a c k).length=T.length:=by
 unfold putL
 rw [Gf.addP_len,Gf.up_len,Gf.scl_len,Nat.max_eq_left h]
theorem putL_co (T a:List W32)(c:W32)(k i:Nat):(putL T a c k).getD i 0=T.getD i 0^^^(if i<k then 0 else Gf.mul c (a.getD (i-k) 0)):=by
 unfold putL
 rw [Gf.addP_co,Gf.up_co,Gf.scl_co]
theorem getD_at {L:List W32}{i:Nat}{w:W32}(h:L[i]?=some w):L.getD i 0=w:=by rw [List.getD_eq_getElem?_getD,h]; rfl
theorem getD_set {L:List W32}{i:Nat}(h:i<L.length)(v:W32)(j:Nat):(L.set i v).getD j 0=if j=i then v else L.getD j 0:=by
 simp only [List.getD_eq_getElem?_getD,List.getElem?_set]
 by_cases hj:j=i
 ·subst hj; simp [h]
 ·rw [if_neg (fun e=>hj e.symm),if_neg hj]
theorem getD_take (L:List W32)(n i:Nat):(L.take n).getD i 0=if i<n then L.getD i 0 else 0:=by
 by_cases h:i<n
 ·rw [if_pos h,List.getD_eq_getElem?_getD,List.getElem?_take_of_lt h,← List.getD_eq_getElem?_getD]
 ·rw [if_neg h,List.getD_eq_getElem?_getD,List.getElem?_eq_none (by simp; omega)]
  rfl
theorem putL_step {T a:List W32}{c:W32}{k i:Nat}(h:k+a.length≤T.length){w:W32}(hw:a[i]?=some w){x:W32}(hx:(putL T (a.take i) c k)[k+i]?=some x) :
  (putL T (a.take i) c k).set (k+i) (x^^^Gf.mul w c)=putL T (a.take (i+1)) c k:=by
 have hi:=(List.getElem?_eq_some_iff.1 hw).1
 have l1:(putL T (a.take i) c k).length=T.length:=putL_len (by simp; omega)
 have l2:(putL T (a.take (i+1)) c k).length=T.length:=putL_len (by simp; omega)
 refine Gf.list_ext_co (by simp [l1,l2]) fun j hj=>?_
 have hx2:=getD_at hx
 rw [putL_co] at hx2
 rw [getD_set (by omega),putL_co,putL_co,getD_take,getD_take]
 by_cases hj2:j=k+i
 ·subst hj2
  have hn : ¬ k+i<k:=by omega
  have hn2:k+i-k=i:=by omega
  rw [if_neg hn,hn2,getD_take,if_neg (by omega),Gf.mul_zero,Gf.x0] at hx2
  rw [if_pos rfl,if_neg hn,hn2,if_pos (by omega),getD_at hw,hx2,Gf.mul_comm]
 ·rw [if_neg hj2]
  by_cases h1:j<k
  ·rw [if_pos h1,if_pos h1]
  ·rw [if_neg h1,if_neg h1]
   by_cases h2:j-k<i
   ·rw [if_pos h2,if_pos (by omega)]
   ·rw [if_neg h2,if_neg (by omega)]
def InvPut (σ:St)(r n:Nat)(T a:List W32)(v:V)(c:W32)(k:Nat)(m:Nat)(e:Env)(s:St):Prop:=∃ i:Nat,e=[(0,.sl r 0 n 1),(2,Xw c),(3,I k),(10,v),(11,I a.length),(12,I i)]∧m=a.length-i∧i≤a.length∧s.objs[r]?=some (.cells (wV (putL T (a.take i) c k)))∧Fr [r] σ s∧s.toks=σ.toks
theorem s_pput {σ:St}{r n:Nat}{T a:List W32}(h:σ.objs[r]?=some (.cells (wV T)))(hn:T.length=n){v:V}(ha:Rd σ v a)(hne : ∀ r' off n sz,v = .sl r' off n sz→r'≠r){c:W32}{k:Nat}(hk:k+a.length≤n)(hN:n≤100000) :
  Dn.Call Γ cx .raw 135 [.sl r 0 n 1,v,Xw c,I k] σ fun _ s=>s.objs[r]?=some (.cells (wV (putL T a c k)))∧Fr [r] σ s∧s.toks=σ.toks:=by
 refine Dn.Call.body (fc:=c135) rfl ?_
 have hla:=fun σ'=>ha.len σ'
 simp -implicitDefEqProofs [c135,hla,c135_k5]
 have h00:putL T (a.take 0) c k=T:=by
  refine Gf.list_ext_co (putL_len (by simp; omega)) fun i hi=>?_
  rw [putL_co,List.take_zero,List.getD_nil]
  split
  ·exact Gf.x0 _
  ·rw [Gf.mul_zero]; exact Gf.x0 _
 refine wloopI (InvPut σ r n T a v c k) (m:=a.length) ⟨0,rfl,rfl,by omega,by rw [h00]; exact h,Fr.refl _ _,rfl⟩ ?_
 rintro m e s ⟨i,rfl,rfl,hi,ho,hfr,htk⟩
 rcases hin:decide ((i:Int)<a.length) with _ | _
 ·have hlt : ¬ (i:Int)<a.length:=of_decide_eq_false hin
  obtain rfl:i=a.length:=by omega
  rw [List.take_length] at ho
  simp -implicitDefEqProofs [c135_l4,c135_k3]
  exact⟨ho,hfr,htk⟩
 have hlt:(i:Int)<a.length:=of_decide_eq_true hin
 have hi2:i<a.length:=by omega
 obtain⟨w,hw⟩ : ∃ w,a[i]?=some w:=⟨_,List.getElem?_eq_getElem hi2⟩
 have hra:Rd s v a:=ha.mono fun r' off n sz e=>hfr.at_ r' (by simpa using hne _ _ _ _ e) (by
  cases ha with
  | lv h=>subst e; cases h
  | sl h=>cases e; exact(List.getElem?_eq_some_iff.1 h).1)
 obtain⟨ad,ha1,ha2⟩:=hra.at hw
 have l1:(putL T (a.take i) c k).length=n:=by rw [putL_len (by simp; omega)]; exact hn
 obtain⟨x,hx⟩ : ∃ x,(putL T (a.take i) c k)[k+i]?=some x:=⟨_,List.getElem?_eq_getElem (by omega)⟩
 have hstep:=putL_step (by omega) hw hx
 have ia:=fun σ=>iaddr_sl σ (q:=r) (n:=n) (i:=k+i) (by omega)
 have hset:=wV_set (L:=putL T (a.take i) c k) (i:=k+i) (by omega) (x^^^Gf.mul w c)
 rw [hstep] at hset
 have hat:=wV_at hx
 have hlen:=wV_len (putL T (a.take i) c k)
 rw [l1] at hlen
 have wk:IntKind.i64.wrap ((k:Int)+i)=((k+i:Nat):Int):=by rw [wrap_i64 (by omega) (by omega)]; omega
 have w9:IntKind.i64.wrap ((i:Int)+1)=((i+1:Nat):Int):=by rw [wrap_i64 (by omega) (by omega)]; omega
 have hrs:r<s.objs.length:=(List.getElem?_eq_some_iff.1 ho).1
 generalize hcs:wV (putL T (a.take i) c k)=cs at *
 generalize hcs2:wV (putL T (a.take (i+1)) c k)=cs2 at *
 have hki:k+i+1≤n:=by omega
 obtain⟨j,hj⟩ : ∃ j,k+i=j:=⟨_,rfl⟩
 rw [hj] at ia hset hat wk hki
 clear hj hstep hx
 simp -implicitDefEqProofs [-loadAt,hlt,c135_l4,c135_k3,c135_k2,ha1,ha2,c135_k1,c135_k0]
 refine w_drw (fun _=>.val) [] (by decide +kernel) ?_
 simp only [room_zero]
 simp -implicitDefEqProofs [wk,ia,ho,hat]
 refine use_fnN rfl rfl (s_Mul w c) rfl ?_
 simp only [q_tcont,putE,Env.set]
 simp -implicitDefEqProofs [-splice,xor_u32,ia,ho,hlen,hki,hset,w9]
 exact⟨a.length-(i+1),by omega,i+1,rfl,rfl,by omega,by rw [hcs2]; simp [hrs],hfr.trans ⟨by simp,fun q hq _=>by simp only; rw [List.getElem?_set_ne (fun e=>hq (by simp [e]))]⟩,htk⟩

def divL (b:List W32)(iv:W32):Nat→List W32→List W32×List W32
 | 0,r=>([],r)
 | i+1,r=>((divL b iv i (putL r b (Gf.mul (r.getD (i+b.length-1) 0) iv) i)).1++[Gf.mul (r.getD (i+b.length-1) 0) iv],(divL b iv i (putL r b (Gf.mul (r.getD (i+b.length-1) 0) iv) i)).2)
def divide (a b:List W32):List W32×List W32 :=
 (trim (divL (trim b) (Gf.inv ((trim b).getD ((trim b).length-1) 0)) ((trim a).length+1-(trim b).length) (trim a)).1,trim (divL (trim b) (Gf.inv ((trim b).getD ((trim b).length-1) 0)) ((trim a).length+1-(trim b).length) (trim a)).2)
theorem divL_len (b:List W32)(iv:W32) : ∀ (n:Nat)(r:List W32),n+b.length≤r.length+1→(divL b iv n r).1.length=n∧(divL b iv n r).2.length=r.length
 | 0,r,_=>⟨rfl,rfl⟩
 | n+1,r,h=>by
  have hl:(putL r b (Gf.mul (r.getD (n+b.length-1) 0) iv) n).length=r.length:=putL_len (by omega)
  have:=divL_len b iv n (putL r b (Gf.mul (r.getD (n+b.length-1) 0) iv) n) (by rw [hl]; omega)
  simp only [divL,List.length_append,List.length_singleton]
  rw [this.1,this.2,hl]
  exact⟨rfl,rfl⟩

open Gf (dg trim)

theorem repl_wV (n:Nat):repl n [.int .u32 0]=wV (List.replicate n 0):=by
 rw [repl_one,wV,List.map_replicate]
 rfl
theorem max0 (n:Int):maxAll [I 0,I n]=some (I (n.toNat:Int)):=by
 simp only [maxAll,maxInts]
 by_cases h:(0:Int)<n
 ·have:((n.toNat:Nat):Int)=n:=by omega
  simp [h,this]
 ·have:((n.toNat:Nat):Int)=0:=by omega
  simp [h,this]
theorem Ob.lt {σ:St}{v:V}{L:List W32}(h:Ob σ v L){r off n sz:Nat}(e:v = .sl r off n sz):r<σ.objs.length:=by
 cases h with
 | sl h=>cases e; exact(List.getElem?_eq_some_iff.1 h).1
 | nils=>cases e
 | fl=>cases e
theorem Ob.fr {σ s:St}{v:V}{L:List W32}(h:Ob σ v L)(hf:Fr [] σ s):Ob s v L:=by
 cases h with
 | sl h=>exact .sl (hf.get h (by simp))
 | nils=>exact .nils
 | fl=>exact .fl
structure DivS (σ:St)(b:List W32)(iv:W32)(N:Nat)(A:List W32)(w2:V)(q:Nat)(m:Nat)(Q R:List W32)(s:St):Prop where
 le:m≤N
 eq:divL b iv N A=((divL b iv m R).1++Q,(divL b iv m R).2)
 qo:s.objs[q]?=some (.cells (wV (List.replicate m 0++Q)))
 ql:m+Q.length=N
 ro:Ob s w2 R
 rl:R.length=A.length
 fr:Fr [] σ s
 tk:s.toks=σ.toks
def InvDiv (σ:St)(w w2:V)(b:List W32)(iv:W32)(N:Nat)(A:List W32)(q:Nat)(m:Nat)(e:Env)(s:St):Prop:=∃ (j:Int)(Q R:List W32),e=[(1,w),(7,w2),(9,.sl q 0 N 1),(10,Xw iv),(11,I j)]∧(j+1=m∨(m=0∧j<0))∧DivS σ b iv N A w2 q m Q R s

def divR (σ:St)(A B:List W32):Post:=fun v s=>(dg B=0∧v = .tup [.d .nils,.d .nils,errV 1]∧s=σ)∨(dg B≠0∧∃ q r,v = .tup [q,r,.d .nili]∧Rd s q (divide A B).1∧Rd s r (divide A B).2∧Fr [] σ s∧s.toks=σ.toks)
theorem s_DivideR {σ:St}{a b:V}{A B:List W32}(ha:Rd σ a A)(hb:Rd σ b B)(lA:A.length≤1000)(lB:B.length≤1000):Dn.Call Γ cx .raw 118 [a,b] σ (divR σ A B):=by
 refine Dn.Call.body (fc:=c118) rfl ?_
 simp -implicitDefEqProofs [c118,c118_k15]
 refine use_raw (s_cut hb (by omega)) fun w s ⟨hs,hr,hso⟩=>?_
 replace hs:=hs.symm
 subst hs
 have hrw : ∀ {s},Fr [] σ s→Rd s w (trim B):=fun hf=>hr.fr hf
 have hlw:=fun σ=>hr.len σ
 have tB:=Gf.trim_len B
 have tA:=Gf.trim_len A
 have dA:=Gf.dg_le A
 have dB:=Gf.dg_le B
 by_cases h0:dg B=0
 ·simp -implicitDefEqProofs [c118_k14,hlw,tB,h0,c118_k13,mkifV]
  exact .inl ⟨h0,rfl,rfl⟩
 simp -implicitDefEqProofs [c118_k14,hlw,tB,h0,c118_k13,c118_k12]
 refine use_raw (s_Trim ha (by omega)) fun w2 s2 hN=>?_
 have hl2:=fun σ=>hN.ob.rd.len σ
 obtain⟨N,hNd⟩ : ∃ N,(trim A).length+1-(trim B).length=N:=⟨_,rfl⟩
 have w1:IntKind.i64.wrap ((dg A:Int)-dg B)=(dg A:Int)-dg B:=wrap_i64 (by omega) (by omega)
 have w3:IntKind.i64.wrap ((dg A:Int)-dg B+1)=(dg A:Int)-dg B+1:=wrap_i64 (by omega) (by omega)
 have hNn:((((dg A:Int)-dg B+1).toNat:Nat):Int)=(N:Int):=by omega
 have hmx:=max0 ((dg A:Int)-dg B+1)
 rw [hNn] at hmx
 obtain⟨n1,hn1⟩ : ∃ n1:Int,(dg A:Int)-dg B+1=n1:=⟨_,rfl⟩
 rw [hn1] at w3 hmx
 have wB:IntKind.i64.wrap ((dg B:Int)-1)=((dg B-1:Nat):Int):=by rw [wrap_i64 (by omega) (by omega)]; omega
 have wn:IntKind.i64.wrap (n1-1)=n1-1:=wrap_i64 (by omega) (by omega)
 obtain⟨top,htop⟩ : ∃ t,(trim B)[dg B-1]?=some t:=⟨_,List.getElem?_eq_getElem (by omega)⟩
 have hgt:=getD_at htop
 simp -implicitDefEqProofs [c118_k11,hlw,hl2,tB,tA,w1,w3,hn1,c118_k10,hmx]
 refine i_app_f (v:=.sl s2.objs.length 0 N 1) (s:=⟨s2.objs++[.cells (wV (List.replicate N 0))],s2.toks⟩) ?_ ?_
 ·have b1:(N:Int)*4≤140737488355328:=by omega
  have b2:(N:Int)≤9223372036854775807:=by omega
  simp [evalE,Opd.ev,Env.get,b1,b2,repl_wV,Dn.newObj,St.place,St.push,St.spot]
 obtain⟨s3,hs3⟩ : ∃ s3:St,(⟨s2.objs++[.cells (wV (List.replicate N 0))],s2.toks⟩:St)=s3:=⟨_,rfl⟩
 have hf3:Fr [] s2 s3:=by rw [← hs3]; exact Fr.push1 _ _
 have hfa:Fr [] σ s3:=hN.fr.trans hf3
 have htk3:s3.toks=σ.toks:=by rw [← hs3]; exact hN.tk
 obtain⟨ad,had1,had2⟩:=(hrw hfa).at htop
 have hq3:s3.objs[s2.objs.length]?=some (.cells (wV (List.replicate N 0))):=by rw [← hs3]; simp
 rw [hs3]
 simp -implicitDefEqProofs [-loadAt,c118_k9,hlw,tB,wB,had1,had2]
 refine use_fn rfl (s_Inv top) rfl ?_
 simp -implicitDefEqProofs [c118_k8,wn,c118_k7]
 have hqne : ∀ r off n sz,w2 = .sl r off n sz→r≠s2.objs.length∧σ.objs.length≤r:=fun r off n sz e=>by
  have:=hN.ob.lt e
  exact⟨by omega,hN.nw _ _ _ _ e⟩
 have hwl : ∀ r off n sz,w = .sl r off n sz→r<σ.objs.length:=fun r off n sz e=>by
  cases hr with
  | lv h=>subst e; cases h
  | sl h=>cases e; exact(List.getElem?_eq_some_iff.1 h).1
 have hqs2:σ.objs.length≤s2.objs.length:=hN.fr.len
 have hob3:Ob s3 w2 (trim A):=hN.ob.fr hf3
 have hiv:Gf.inv ((trim B).getD ((trim B).length-1) 0)=Gf.inv top:=by rw [tB,hgt]
 refine wloopI (InvDiv σ w w2 (trim B) (Gf.inv top) N (trim A) s2.objs.length) (m:=N) ⟨n1-1,[],trim A,rfl,by omega,⟨Nat.le_refl _,by rw [List.append_nil],by rw [List.append_nil]; exact hq3,by simp,hob3,rfl,hfa,htk3⟩⟩ ?_
 generalize s2.objs.length=q at *
 rintro m e s ⟨j,Q,R,rfl,hj,hS⟩
 rcases hj0:decide ((0:Int)≤j) with _ | _
 ·have hlt : ¬ (0:Int)≤j:=of_decide_eq_false hj0
  obtain rfl:m=0:=by omega
  have heq:=hS.eq
  simp only [divL,List.nil_append] at heq
  have hqo:=hS.qo
  rw [List.replicate_zero,List.nil_append] at hqo
  have hQ:Q.length=N:=by have:=hS.ql; omega
  have hRq:Rd s (.sl q 0 N 1) Q:=by rw [← hQ]; exact .whole hqo
  simp -implicitDefEqProofs [hlt,c118_l6,c118_k5,c118_k0]
  refine use_raw (s_cut hRq (by omega)) fun v1 s1 ⟨hs1,hr1,_⟩=>?_
  subst hs1
  simp -implicitDefEqProofs
  refine use_raw (s_cut hS.ro.rd (by have:=hS.rl; omega)) fun v2 s4 ⟨hs4,hr2,_⟩=>?_
  subst hs4
  have hdq:(divide A B).1=trim Q:=by
   unfold divide
   rw [hiv,hNd,heq]
  have hdr:(divide A B).2=trim R:=by
   unfold divide
   rw [hiv,hNd,heq]
  simp -implicitDefEqProofs
  exact .inr ⟨h0,_,_,rfl,by rw [hdq]; exact hr1,by rw [hdr]; exact hr2,hS.fr,hS.tk⟩
 have hle:(0:Int)≤j:=of_decide_eq_true hj0
 obtain⟨i,hi⟩ : ∃ i:Nat,j=(i:Int):=⟨j.toNat,by omega⟩
 subst hi
 obtain rfl:m=i+1:=by omega
 have hR0:0<R.length:=by have:=hS.rl; have:=hS.le; omega
 have hNR:i+(trim B).length≤R.length:=by have:=hS.rl; have:=hS.le; omega
 have hNA:N+dg B=dg A+1:=by have:=hS.le; omega
 have hro:=hS.ro
 have hQl:=hS.ql
 have hRl:=hS.rl
 have heq:=hS.eq
 have hqo:=hS.qo
 have hfrS:=hS.fr
 have htkS:=hS.tk
 have hqne':=hqne
 clear hS hqne
 cases hro with
 | nils=>simp at hR0
 | fl=>simp at hR0
 | sl hrr =>
 rename_i r
 obtain⟨hrq,hrf⟩:=hqne' _ _ _ _ rfl
 clear hqne'
 obtain⟨x,hx⟩ : ∃ x,R[i+dg B-1]?=some x:=⟨_,List.getElem?_eq_getElem (by omega)⟩
 have hxg:=getD_at hx
 have wj:IntKind.i64.wrap ((i:Int)+dg B)=(i:Int)+dg B:=wrap_i64 (by omega) (by omega)
 obtain⟨p,hp⟩ : ∃ p,i+dg B-1=p:=⟨_,rfl⟩
 have wj1:IntKind.i64.wrap ((i:Int)+dg B-1)=(p:Int):=by rw [wrap_i64 (by omega) (by omega)]; omega
 have wi:IntKind.i64.wrap ((i:Int)-1)=(i:Int)-1:=wrap_i64 (by omega) (by omega)
 have iaR:=fun σ=>iaddr_sl σ (q:=r) (n:=R.length) (i:=p) (by omega)
 have iaQ:=fun σ=>iaddr_sl σ (q:=q) (n:=N) (i:=i) (by omega)
 rw [hp] at hx hxg
 have hatR:=wV_at hx
 obtain⟨c,hc⟩ : ∃ c,Gf.mul x (Gf.inv top)=c:=⟨_,rfl⟩
 have hsetQ:=wV_set (L:=List.replicate (i+1) 0++Q) (i:=i) (by simp; omega) c
 have hQ2:(List.replicate (i+1) (0:W32)++Q).set i c=List.replicate i 0++(c::Q):=by
  rw [List.replicate_succ',List.append_assoc,List.set_append_right _ _ (by simp)]
  simp
 rw [hQ2] at hsetQ
 have hlenQ:(wV (List.replicate (i+1) (0:W32)++Q)).length=N:=by simp [wV_len]; omega
 have hatQ:(wV (List.replicate i (0:W32)++(c::Q)))[i]?=some (Xw c):=wV_at (by rw [List.getElem?_append_right (by simp)]; simp)
 have hqs:q<s.objs.length:=(List.getElem?_eq_some_iff.1 hqo).1
 have hstep:divL (trim B) (Gf.inv top) (i+1) R=((divL (trim B) (Gf.inv top) i (putL R (trim B) c i)).1++[c],(divL (trim B) (Gf.inv top) i (putL R (trim B) c i)).2):=by
  simp only [divL,tB]
  rw [hp,hxg,hc]
 rw [hstep,List.append_assoc,List.singleton_append] at heq
 have hi1:i+1≤N:=by omega
 obtain⟨s5,hs5⟩ : ∃ s5:St,(⟨s.objs.set q (.cells (wV (List.replicate i 0++(c::Q)))),s.toks⟩:St)=s5:=⟨_,rfl⟩
 have hr5:s5.objs[r]?=some (.cells (wV R)):=by rw [← hs5]; simp only; rw [List.getElem?_set_ne (fun e=>hrq e.symm)]; exact hrr
 have hq5:s5.objs[q]?=some (.cells (wV (List.replicate i 0++(c::Q)))):=by rw [← hs5]; simp [hqs]
 have hf5:Fr [] σ s5:=by
  rw [← hs5]
  exact⟨by simpa using hfrS.len,fun z _ hz=>by simp only; rw [List.getElem?_set_ne (by omega)]; exact hfrS.at_ z (by simp) hz⟩
 have htk5:s5.toks=σ.toks:=by rw [← hs5]; exact htkS
 have hput:=s_pput (k:=i) (c:=c) hr5 rfl (hrw hf5) (fun r' off n sz e=>by have:=hwl _ _ _ _ e; omega) (by omega) (by omega)
 generalize hcq:wV (List.replicate (i+1) (0:W32)++Q)=cq at *
 generalize hcq2:wV (List.replicate i (0:W32)++(c::Q))=cq2 at *
 simp -implicitDefEqProofs [hle,c118_l6,c118_k5,c118_k4,c118_k3,hlw,tB,wj,wj1,iaR,hrr,hatR]
 refine use_fn rfl (s_Mul x (Gf.inv top)) rfl ?_
 rw [hc]
 simp -implicitDefEqProofs [-splice,iaQ,hqo,hlenQ,hi1,hsetQ]
 rw [hs5]
 simp -implicitDefEqProofs [c118_k2,iaQ,hq5,hatQ]
 refine use_raw hput fun v s6 ⟨h1,h2,h3⟩=>?_
 simp -implicitDefEqProofs [c118_k1,wi]
 have hpl:(putL R (trim B) c i).length=R.length:=putL_len hNR
 have hf6:Fr [] σ s6:=⟨Nat.le_trans hf5.len h2.len,fun z _ hz=>by
  rw [h2.at_ z (by simp; omega) (Nat.lt_of_lt_of_le hz hf5.len)]
  exact hf5.at_ z (by simp) hz⟩
 refine⟨i,by omega,(i:Int)-1,c::Q,putL R (trim B) c i,rfl,by omega,⟨by omega,heq,by rw [hcq2]; exact h2.get hq5 (by simpa using fun e=>hrq e.symm),by simp; omega,by rw [← hpl]; exact .sl h1,by rw [hpl]; exact hRl,hf6,by rw [h3]; exact htk5⟩⟩

theorem as_val3 {f:Nat}{fc:FnC}(hf:Γ f=some fc)(h1:fc.res.length=3){vs:List V}{Q Q':Post}(h:Dn.Call Γ cx .raw f vs St.empty Q)(hq : ∀ v s,Q v s→∃ a b c da db dc,v = .tup [a,b,c]∧V.byVal s a=some da∧V.byVal s b=some db∧V.byVal s c=some dc∧Q' (.tup [da,db,dc]) s):Dn.Call Γ cx .val f vs St.empty Q':=by
 obtain⟨fc',hf',hl,hb⟩:=h.inv
 rw [hf] at hf'
 cases hf'
 refine Dn.Call.body hf ⟨hl,wcode_le (fun m f vs σ Q h=>h) _ (fun ex e s hx=>?_) hb⟩
 have key:(∃ v,retV .raw St.empty.objs.length e s fc.res=some v∧(Mode.raw = .rd→Keeps St.empty s)∧Q v s)→∃ v,retV .val St.empty.objs.length e s fc.res=some v∧(Mode.val = .rd→Keeps St.empty s)∧Q' v s:=by
  rintro ⟨v,hr,_,hv⟩
  obtain⟨a,b,c,da,db,dc,rfl,ha,hb,hc,hd⟩:=hq v s hv
  unfold retV at hr ⊢
  match hv2:fc.res,h1 with
  | [x,y,z],_ =>
   rw [hv2] at hr
   cases hx:Res.ev e s x with
   | none=>simp only [resAll,hx] at hr; cases hr
   | some x' =>
   cases hy:Res.ev e s y with
   | none=>simp only [resAll,hx,hy] at hr; cases hr
   | some y' =>
   cases hz:Res.ev e s z with
   | none=>simp only [resAll,hx,hy,hz] at hr; cases hr
   | some z' =>
   simp only [resAll,hx,hy,hz,tupOf,Option.some.injEq,V.tup.injEq,List.cons.injEq,and_true] at hr
   obtain⟨rfl,rfl,rfl⟩:=hr
   simp only [resAll,hx,hy,hz,byVals,ha,hb,hc,tupOf]
   exact⟨_,rfl,(fun h=>by cases h),hd⟩
 cases ex with
 | exit id=>exact hx
 | normal=>exact key hx
 | ret=>exact key hx
def divP (A B:List W32)(v:V):Prop:=(dg B=0∧v = .tup [.d .nils,.d .nils,errV 1])∨(dg B≠0∧∃ q r,v = .tup [.d q,.d r,.d .nili]∧LV (.d q) (pR (divide A B).1)∧LV (.d r) (pR (divide A B).2))
theorem s_Divide {a b:D}{A B:List W32}(ha:LV (.d a) (pR A))(hb:LV (.d b) (pR B))(lA:A.length≤1000)(lB:B.length≤1000):Dn.Call Γ cx .val 118 [.d a,.d b] St.empty fun v _=>divP A B v :=
 as_val3 (fc:=c118) rfl rfl (s_DivideR (.lv ha) (.lv hb) lA lB) fun v s hv=>by
  rcases hv with⟨h1,rfl,rfl⟩ | ⟨h1,q,r,rfl,hq,hr,-,-⟩
  ·exact⟨_,_,_,_,_,_,rfl,rfl,rfl,rfl,.inl ⟨h1,rfl⟩⟩
  ·obtain⟨d1,b1,l1⟩:=hq.byVal
   obtain⟨d2,b2,l2⟩:=hr.byVal
   exact⟨_,_,_,_,_,_,rfl,b1,b2,rfl,.inr ⟨h1,d1,d2,rfl,l1,l2⟩⟩
end Go.Proofs.Ytmlkdfjojoophaa.T

namespace Go.Proofs.Ytmlkdfjojoophaa.T
open Go.Dn
set_option linter.unusedSimpArgs false

open Gf

theorem getD_ge {L:List W32}{i:Nat}(h:L.length≤i):L.getD i 0=0:=by
 rw [List.getD_eq_getElem?_getD,List.getElem?_eq_none h]
 rfl
theorem ev_snoc (c x:W32) : ∀ a:Pl,ev (a++[c]) x=ev a x^^^mul (npow x a.length) c
 | []=>by
  show c^^^mul x 0=0^^^mul 1 c
  rw [Gf.mul_zero,x0,zx,one_mul]
 | e::a=>by
  show e^^^mul x (ev (a++[c]) x)=(e^^^mul x (ev a x))^^^mul (npow x (a.length+1)) c
  rw [ev_snoc c x a,mul_xor,npow_succ',mul_assoc,BitVec.xor_assoc]
theorem divL_low {b:Pl}{t:W32}(hb:0<b.length)(ht:b.getD (b.length-1) 0=t)(h0:t≠0) : ∀ (n:Nat)(r:Pl),(∀ i,n+b.length-1≤i→r.getD i 0=0)→∀ i,b.length-1≤i→(divL b (inv t) n r).2.getD i 0=0
 | 0,r,h,i,hi=>h i (by omega)
 | n+1,r,h,i,hi=>by
  simp only [divL]
  refine divL_low hb ht h0 n _ (fun j hj=>?_) i hi
  rw [putL_co,if_neg (by omega)]
  by_cases h1:j=n+b.length-1
  ·rw [show j-n=b.length-1 by omega,ht,h1,← mul_assoc,inv_mul h0,mul_one,Gf.xs]
  ·rw [h j (by omega),getD_ge (by omega:b.length≤j-n),Gf.mul_zero,Gf.xs]
theorem divL_ev (b:Pl)(iv x:W32) : ∀ (n:Nat)(r:Pl),n+b.length≤r.length+1→ev r x=mul (ev (divL b iv n r).1 x) (ev b x)^^^ev (divL b iv n r).2 x
 | 0,r,_=>by
  show ev r x=mul 0 (ev b x)^^^ev r x
  rw [zero_mul,zx]
 | n+1,r,h=>by
  simp only [divL]
  generalize mul (r.getD (n+b.length-1) 0) iv=c
  have hl:(putL r b c n).length=r.length:=putL_len (by omega)
  have ih:=divL_ev b iv x n (putL r b c n) (by rw [hl]; omega)
  have hq:=(divL_len b iv n (putL r b c n) (by rw [hl]; omega)).1
  rw [ev_snoc,hq,xor_mul]
  have e1:ev (putL r b c n) x=ev r x^^^mul (npow x n) (mul c (ev b x)):=by
   unfold putL
   rw [ev_addP,ev_up,ev_scl]
  rw [e1] at ih
  have e2:mul (mul (npow x n) c) (ev b x)=mul (npow x n) (mul c (ev b x)):=(mul_assoc _ _ _).symm
  rw [e2]
  generalize mul (npow x n) (mul c (ev b x))=z at *
  generalize mul (ev (divL b iv n (putL r b c n)).1 x) (ev b x)=y at *
  generalize ev (divL b iv n (putL r b c n)).2 x=u at *
  rw [BitVec.xor_assoc,BitVec.xor_comm z u,← BitVec.xor_assoc,← ih,BitVec.xor_assoc,Gf.xs,x0]
theorem divL_top (b:Pl)(iv:W32)(n:Nat)(r:Pl)(h:n+1+b.length≤r.length+1):(divL b iv (n+1) r).1.getD n 0=mul (r.getD (n+b.length-1) 0) iv:=by
 simp only [divL]
 generalize mul (r.getD (n+b.length-1) 0) iv=c
 have hl:(putL r b c n).length=r.length:=putL_len (by omega)
 have hq:=(divL_len b iv n (putL r b c n) (by rw [hl]; omega)).1
 rw [List.getD_eq_getElem?_getD,List.getElem?_append_right (by omega),hq]
 simp

theorem trim_top {B:Pl}(h:dg B≠0):(trim B).getD ((trim B).length-1) 0≠0:=by
 rw [trim_len,trim_co]
 exact co_top (by omega)
theorem divide_ev (A B:Pl)(x:W32):ev A x=mul (ev (divide A B).1 x) (ev B x)^^^ev (divide A B).2 x:=by
 unfold divide
 simp only [ev_trim]
 rw [← ev_trim A,← ev_trim B]
 rcases Nat.lt_or_ge (trim A).length (trim B).length with h | h
 ·have h0:(trim A).length+1-(trim B).length=0:=by omega
  rw [h0]
  show ev (trim A) x=mul 0 _^^^ev (trim A) x
  rw [zero_mul,zx]
 ·exact divL_ev _ _ _ _ _ (by omega)
theorem divide_trim (A B:Pl):dg (divide A B).1=(divide A B).1.length∧dg (divide A B).2=(divide A B).2.length:=by
 unfold divide
 simp only [dg_trim,trim_len,and_self]
theorem divide_rest {A B:Pl}(h:dg B≠0):(divide A B).2.length<dg B:=by
 have hl:=trim_len B
 have:=divL_low (b:=trim B) (by omega) rfl (trim_top h) ((trim A).length+1-(trim B).length) (trim A) (fun i hi=>getD_ge (by omega))
 unfold divide
 simp only [trim_len] at this ⊢
 generalize (divL (trim B) (inv ((trim B).getD (dg B-1) 0)) (dg A+1-dg B) (trim A)).2=R at *
 rcases Nat.lt_or_ge (dg R) (dg B) with h1 | h1
 ·exact h1
 ·exact absurd (this (dg R-1) (by omega)) (co_top (by omega))
theorem divide_quo {A B:Pl}(h:dg B≠0):(divide A B).1.length=dg A+1-dg B:=by
 have hlA:=trim_len A
 have hlB:=trim_len B
 have ht:=trim_top h
 unfold divide
 simp only [trim_len A,trim_len B]
 rw [trim_len]
 cases hn:dg A+1-dg B with
 | zero=>rfl
 | succ n =>
  have hb:n+1+(trim B).length≤(trim A).length+1:=by omega
  have hq:=(divL_len (trim B) (inv ((trim B).getD (dg B-1) 0)) (n+1) (trim A) hb).1
  refine dg_unique (fun i hi=>getD_ge (by omega)) (.inr ?_)
  rw [Nat.add_sub_cancel,divL_top _ _ _ _ hb,show n+(trim B).length-1=dg A-1 by omega,trim_co]
  refine mul_ne (co_top (by omega)) (inv_ne ?_)
  rw [← hlB]
  exact ht
theorem divide_small {A B:Pl}(h:dg A<dg B):(divide A B).2=trim A:=by
 unfold divide
 simp only [trim_len A,trim_len B]
 rw [show dg A+1-dg B=0 by omega]
 exact trim_trim A
theorem divide_rest_le {A B:Pl}(h:dg B≠0):(divide A B).2.length≤dg A:=by
 rcases Nat.lt_or_ge (dg A) (dg B) with h1 | h1
 ·rw [divide_small h1,trim_len]
  exact Nat.le_refl _
 ·have:=divide_rest (A:=A) h
  omega

def monic (A:Pl):Pl:=if dg A=0 then [] else trim (scl (inv ((trim A).getD (dg A-1) 0)) (trim A))
def commonL:Nat→Pl→Pl→Pl
 | 0,a,_=>a
 | k+1,a,b=>if b=[] then a else commonL k b (divide a b).2
def common (A B:Pl):Pl:=monic (commonL (trim B).length (trim A) (trim B))
theorem scl_dg {c:W32}(hc:c≠0)(A:Pl):dg (scl c A)=dg A:=dg_unique (fun i hi=>by rw [scl_co,co_dg hi,Gf.mul_zero]) (by
 by_cases h:dg A=0
 ·exact .inl h
 ·right
  rw [scl_co]
  exact mul_ne hc (co_top (by omega)))
theorem monic_spec {A:Pl}(h:dg A≠0):(monic A).length=dg A∧dg (monic A)=dg A∧(monic A).getD (dg A-1) 0=1∧∃ c,c≠0∧∀ x,ev (monic A) x=mul c (ev A x):=by
 have ht:(trim A).getD (dg A-1) 0≠0:=by rw [trim_co]; exact co_top (by omega)
 have hc:=inv_ne ht
 unfold monic
 rw [if_neg h]
 have hd:dg (scl (inv ((trim A).getD (dg A-1) 0)) (trim A))=dg A:=by rw [scl_dg hc,dg_trim]
 refine⟨by rw [trim_len,hd],by rw [dg_trim,hd],?_,_,hc,fun x=>by rw [ev_trim,ev_scl,ev_trim]⟩
 rw [trim_co,scl_co,inv_mul ht]

structure Gcd (a b g:Pl):Prop where
 tr:dg g=g.length
 ne:g.length≠0
 la:g.length≤a.length
 lb:b≠[]→g.length≤b.length
 z : ∀ x,ev g x=0↔ev a x=0∧ev b x=0
 da : ∃ q,(∀ x,ev a x=mul (ev g x) (ev q x))∧q.length+g.length≤a.length+1
 db : ∃ q,(∀ x,ev b x=mul (ev g x) (ev q x))∧(b=[]→q=[])∧(b≠[]→q.length+g.length≤b.length+1)
theorem gcd_nil {a:Pl}(ha:dg a=a.length)(hn:a.length≠0):Gcd a [] a :=
 ⟨ha,hn,Nat.le_refl _,fun h=>absurd rfl h,fun x=>⟨fun h=>⟨h,rfl⟩,fun h=>h.1⟩,⟨[1],fun x=>by
  show _=mul _ (1^^^mul x 0)
  rw [Gf.mul_zero,x0,mul_one],by simp; omega⟩,[],fun x=>(Gf.mul_zero _).symm,fun _=>rfl,fun h=>absurd rfl h⟩
theorem mulP_nil_len : ∀ Q:Pl,(mulP Q []).length≤Q.length
 | []=>Nat.le_refl _
 | c::Q=>by
  have:=mulP_nil_len Q
  simp only [mulP,addP_len,scl_len,List.length_cons,List.length_nil]
  omega
theorem len_ne {b:Pl}(h:b≠[]):b.length≠0:=fun e=>h (List.eq_nil_of_length_eq_zero e)
theorem commonL_spec : ∀ (k:Nat)(a b:Pl),dg a=a.length→a.length≠0→dg b=b.length→b.length≤k→Gcd a b (commonL k a b)
 | 0,a,b,ha,hn,hb,hk=>by
  have:b=[]:=List.eq_nil_of_length_eq_zero (by omega)
  subst this
  exact gcd_nil ha hn
 | k+1,a,b,ha,hn,hb,hk=>by
  simp only [commonL]
  split
  ·rename_i h; subst h; exact gcd_nil ha hn
  rename_i hbn
  have hbl:=len_ne hbn
  have hb0:dg b≠0:=by omega
  have hr:=divide_rest (A:=a) hb0
  have hrl:=divide_rest_le (A:=a) hb0
  have hq:=divide_quo (A:=a) hb0
  have hev:=divide_ev a b
  have ih:=commonL_spec k b (divide a b).2 hb hbl (divide_trim a b).2 (by omega)
  have hsm:dg a<dg b→(divide a b).2=a:=fun h=>by rw [divide_small h,trim_self ha]
  generalize (divide a b).1=Q at *
  generalize (divide a b).2=R at *
  obtain⟨g1,g2,g3,g4,g5,⟨qa,g6,g7⟩,qr,g8,g9,g10⟩:=ih
  have hla:(commonL k b R).length≤a.length:=by
   rcases Nat.lt_or_ge (dg a) (dg b) with h | h
   ·have hRa:=hsm h
    rw [← hRa]
    exact g4 (fun e=>hn (by rw [← hRa,e]; rfl))
   ·omega
  refine⟨g1,g2,hla,fun _=>g3,fun x=>?_,⟨addP (mulP Q qa) qr,fun x=>?_,?_⟩,qa,g6,fun h=>absurd h hbn,fun _=>g7⟩
  ·rw [g5 x,hev x]
   constructor
   ·rintro ⟨h1,h2⟩; rw [h1,h2,Gf.mul_zero,Gf.xs]; exact⟨rfl,rfl⟩
   ·rintro ⟨h1,h2⟩; rw [h2,Gf.mul_zero,zx] at h1; exact⟨h2,h1⟩
  ·rw [hev x,g6 x,g8 x,ev_addP,ev_mulP,mul_xor,mul_left]
  ·rw [addP_len]
   have hRb:qr.length+(commonL k b R).length≤a.length+1:=by
    by_cases hR:R=[]
    ·rw [g9 hR]; simp; omega
    ·have:=g10 hR; omega
   by_cases hqa:qa=[]
   ·have:(mulP Q qa).length≤Q.length:=by
     rw [hqa]
     exact mulP_nil_len Q
    omega
   ·have:=mulP_len Q qa hqa
    have:=len_ne hqa
    cases Q with
    | nil=>simp only [mulP,List.length_nil]; omega
    | cons c Q=>simp only [List.length_cons] at *; omega
structure Com (A B g:Pl):Prop where
 tr:dg g=g.length
 ne:g.length≠0
 la:g.length≤dg A
 lb:dg B≠0→g.length≤dg B
 top:g.getD (g.length-1) 0=1
 z : ∀ x,ev g x=0↔ev A x=0∧ev B x=0
 da : ∃ q,(∀ x,ev A x=mul (ev g x) (ev q x))∧q.length+g.length≤dg A+1
theorem common_spec {A B:Pl}(h:dg A≠0):Com A B (common A B):=by
 have lA:=trim_len A
 have lB:=trim_len B
 have hg:=commonL_spec (trim B).length (trim A) (trim B) (by rw [dg_trim,lA]) (by omega) (by rw [dg_trim,lB]) (Nat.le_refl _)
 unfold common
 generalize commonL (trim B).length (trim A) (trim B)=g at *
 have hne:dg g≠0:=by rw [hg.tr]; exact hg.ne
 obtain⟨m1,m2,m3,c,m4,m5⟩:=monic_spec hne
 obtain⟨q,q1,q2⟩:=hg.da
 have hla:=hg.la
 have hlb:=hg.lb
 have htr:=hg.tr
 refine⟨by rw [m1,m2],by rw [m1]; exact hne,by omega,fun h=>?_,by rw [m1]; exact m3,fun x=>?_,scl (inv c) q,fun x=>?_,?_⟩
 ·have:=hlb (fun e=>h (by rw [← lB,e]; rfl))
  omega
 ·have hz:=hg.z x
  rw [ev_trim,ev_trim] at hz
  rw [m5 x,← hz]
  exact⟨fun e=>(mul_eq_zero e).resolve_left m4,fun e=>by rw [e,Gf.mul_zero]⟩
 ·have:=q1 x
  rw [ev_trim] at this
  rw [this,m5 x,ev_scl,← mul_assoc,mul_left (ev g x),mul_assoc c,mul_inv m4,one_mul]
 ·rw [scl_len,m1]
  omega

theorem common_prod {S:List W32}(hn:S.Nodup)(hS:S.length≤1000)(B:Pl):common (prodL S) B=prodL (S.filter fun r=>decide (ev B r=0)):=by
 have hc:=common_spec (A:=prodL S) (B:=B) (by rw [prodL_dg]; omega)
 generalize common (prodL S) B=g at *
 obtain⟨q,q1,q2⟩:=hc.da
 rw [prodL_dg] at q2
 have hp:=List.filter_append_perm (fun r=>decide (ev B r=0)) S
 have hlen:=hp.length_eq
 rw [List.length_append] at hlen
 have nZ:(S.filter fun r=>decide (ev B r=0)).Nodup:=hn.sublist List.filter_sublist
 have nY:(S.filter fun r=>!decide (ev B r=0)).Nodup:=hn.sublist List.filter_sublist
 have hz : ∀ r∈S.filter (fun r=>decide (ev B r=0)),ev g r=0:=fun r hr=>by
  rw [List.mem_filter] at hr
  exact(hc.z r).2 ⟨ev_prodL.2 hr.1,of_decide_eq_true hr.2⟩
 have hy : ∀ r∈S.filter (fun r=>!decide (ev B r=0)),ev q r=0:=fun r hr=>by
  rw [List.mem_filter] at hr
  have h1:=q1 r
  rw [ev_prodL.2 hr.1] at h1
  refine(mul_eq_zero h1.symm).resolve_left fun h2=>?_
  have:=((hc.z r).1 h2).2
  simp [this] at hr
 have l1:(S.filter fun r=>decide (ev B r=0)).length<dg g:=roots_lt nZ hz (by rw [hc.tr]; exact hc.ne)
 have l2:(S.filter fun r=>!decide (ev B r=0)).length<q.length:=by
  rcases Nat.lt_or_ge (S.filter fun r=>!decide (ev B r=0)).length q.length with h | h
  ·exact h
  ·exfalso
   have hq0:=all_zero nY hy h
   obtain⟨M,hM,hMl⟩:=many (S.length+1) (by omega)
   have:=roots_lt (a:=prodL S) hM (fun r _=>by rw [q1 r,ev_zero hq0,Gf.mul_zero]) (by rw [prodL_dg]; omega)
   rw [prodL_dg] at this
   omega
 have htr:=hc.tr
 have hgl:g.length=(S.filter fun r=>decide (ev B r=0)).length+1:=by omega
 refine mon_unique nZ hgl ?_ hz
 have:=hc.top
 rw [hgl,Nat.add_sub_cancel] at this
 exact this
theorem common_nil {S:List W32}(hn:S.Nodup)(hS:S.length≤1000){B:Pl}(hB:dg B=0):common (prodL S) B=prodL S:=by
 rw [common_prod hn hS]
 congr 1
 rw [List.filter_eq_self]
 intro r _
 exact decide_eq_true (ev_zero (dg_zero hB))
theorem divide_prod {S:List W32}(hn:S.Nodup)(f:W32→Bool):(divide (prodL S) (prodL (S.filter f))).1=prodL (S.filter fun r=>!f r):=by
 have hp:=List.filter_append_perm f S
 have hlen:=hp.length_eq
 rw [List.length_append] at hlen
 have nZ:(S.filter f).Nodup:=hn.sublist List.filter_sublist
 have nY:(S.filter fun r=>!f r).Nodup:=hn.sublist List.filter_sublist
 have h0:dg (prodL (S.filter f))≠0:=by rw [prodL_dg]; omega
 have hr:=divide_rest (A:=prodL S) h0
 have hq:=divide_quo (A:=prodL S) h0
 have hev:=divide_ev (prodL S) (prodL (S.filter f))
 rw [prodL_dg] at hr hq
 rw [prodL_dg] at hq
 have htq:=(divide_trim (prodL S) (prodL (S.filter f))).1
 generalize hQ:(divide (prodL S) (prodL (S.filter f))).1=Q at *
 generalize (divide (prodL S) (prodL (S.filter f))).2=R at *
 have hR : ∀ x,ev R x=0:=fun x=>ev_zero (all_zero (S:=S.filter f) nZ (fun r hr=>by
  have:=hev r
  rw [ev_prodL.2 (List.mem_filter.1 hr).1,ev_prodL.2 hr,Gf.mul_zero,zx] at this
  exact this.symm) (by omega))
 refine mon_unique nY (by omega) ?_ fun r hr=>?_
 ·have hl1:=trim_len (prodL S)
  have hl2:=trim_len (prodL (S.filter f))
  rw [prodL_dg] at hl1 hl2
  rw [← hQ]
  unfold divide
  simp only [hl1,hl2,trim_co]
  obtain⟨n,hn1⟩ : ∃ n,S.length+1+1-((S.filter f).length+1)=n+1:=⟨S.length-(S.filter f).length,by omega⟩
  have hn2:(S.filter fun r=>!f r).length=n:=by omega
  rw [hn1,hn2,divL_top _ _ _ _ (by omega),hl2,trim_co,show n+((S.filter f).length+1)-1=S.length by omega,Nat.add_sub_cancel,prodL_top,prodL_top]
  rw [one_mul]
  have:=mul_inv (a:=(1:W32)) (by decide)
  rwa [one_mul] at this
 ·have:=hev r
  rw [List.mem_filter] at hr
  rw [ev_prodL.2 hr.1,hR,x0] at this
  refine(mul_eq_zero this.symm).resolve_right fun h=>?_
  rw [ev_prodL,List.mem_filter] at h
  simp [h.2] at hr
theorem monic_prod (S:List W32):monic (prodL S)=prodL S:=by
 unfold monic
 have h:dg (prodL S)=S.length+1:=prodL_dg S
 have ht:trim (prodL S)=prodL S:=trim_self (by rw [h,prodL_len])
 have h1:=mul_inv (a:=(1:W32)) (by decide)
 rw [one_mul] at h1
 rw [if_neg (by omega),ht,h,Nat.add_sub_cancel,prodL_top,h1]
 have:scl 1 (prodL S)=prodL S:=by
  unfold scl
  rw [List.map_congr_left (g:=id) (fun a _=>one_mul a),List.map_id]
 rw [this,ht]

open Gf

def sqs:Pl→Pl
 | []=>[]
 | [c]=>[sq c]
 | c::d::a=>sq c::0::sqs (d::a)
theorem ev_sqs : ∀ (a:Pl)(x:W32),ev (sqs a) x=sq (ev a x)
 | [],x=>sq_zero.symm
 | [c],x=>by
  show sq c^^^mul x 0=sq (c^^^mul x 0)
  rw [Gf.mul_zero,x0,x0]
 | c::d::a,x=>by
  have ih:=ev_sqs (d::a) x
  show sq c^^^mul x (0^^^mul x (ev (sqs (d::a)) x))=sq (c^^^mul x (ev (d::a) x))
  rw [ih,zx,sq_xor,sq_mul,mul_assoc]
  rfl
theorem sqs_len : ∀ a:Pl,(sqs a).length=2*a.length-1
 | []=>rfl
 | [c]=>rfl
 | c::d::a=>by
  have:=sqs_len (d::a)
  simp only [sqs,List.length_cons] at this ⊢
  omega
def restP (a p:Pl):Pl:=if dg p=0 then [] else(divide a p).2
def sqrP (a p:Pl):Pl:=restP (sqs a) p
def trIt (p:Pl)(by_:W32):Nat→Pl×Pl
 | 0=>([],restP [0,by_] p)
 | n+1=>(trim (addP (trIt p by_ n).1 (trIt p by_ n).2),sqrP (trIt p by_ n).2 p)
def tracesP (p:Pl)(by_:W32):Pl:=(trIt p by_ 32).1
def linIt (p:Pl):Nat→Pl
 | 0=>restP [0,1] p
 | n+1=>sqrP (linIt p n) p
def linearP (p:Pl):Pl:=common p (trim (addP (linIt p 32) (linIt p 0)))
theorem restP_len {a p:Pl}:(restP a p).length≤dg p-1:=by
 unfold restP
 split
 ·simp
 ·rename_i h
  have:=divide_rest (A:=a) h
  omega
theorem restP_ev {a p:Pl}(h:dg p≠0){r:W32}(hr:ev p r=0):ev (restP a p) r=ev a r:=by
 unfold restP
 rw [if_neg h,divide_ev a p r,hr,Gf.mul_zero,zx]
theorem sqrP_ev {a p:Pl}(h:dg p≠0){r:W32}(hr:ev p r=0):ev (sqrP a p) r=sq (ev a r):=by
 unfold sqrP
 rw [restP_ev h hr,ev_sqs]
theorem ev_two (c x:W32):ev [0,c] x=mul c x:=by
 show 0^^^mul x (c^^^mul x 0)=_
 rw [Gf.mul_zero,x0,zx,mul_comm]
theorem trIt_ev {p:Pl}(h:dg p≠0){r:W32}(hr:ev p r=0)(c:W32) : ∀ n,ev (trIt p c n).2 r=sqn n (mul c r)∧ev (trIt p c n).1 r=sum n fun i=>sqn i (mul c r)
 | 0=>⟨by simp only [trIt]; rw [restP_ev h hr,ev_two]; rfl,rfl⟩
 | n+1=>by
  obtain⟨h1,h2⟩:=trIt_ev h hr c n
  simp only [trIt]
  rw [sqrP_ev h hr,h1,ev_trim,ev_addP,h1,h2]
  exact⟨rfl,rfl⟩
theorem tracesP_ev {p:Pl}(h:dg p≠0){r:W32}(hr:ev p r=0)(c:W32):ev (tracesP p c) r=tr (mul c r):=(trIt_ev h hr c 32).2
theorem trIt_len (p:Pl)(c:W32) : ∀ n,(trIt p c n).2.length≤dg p-1∧(trIt p c n).1.length≤dg p-1
 | 0=>⟨restP_len,by simp [trIt]⟩
 | n+1=>by
  obtain⟨h1,h2⟩:=trIt_len p c n
  refine⟨restP_len,?_⟩
  simp only [trIt,trim_len]
  have:=dg_le (addP (trIt p c n).1 (trIt p c n).2)
  rw [addP_len] at this
  omega
theorem linIt_ev {p:Pl}(h:dg p≠0){r:W32}(hr:ev p r=0) : ∀ n,ev (linIt p n) r=sqn n r
 | 0=>by simp only [linIt]; rw [restP_ev h hr,ev_two,one_mul]; rfl
 | n+1=>by simp only [linIt]; rw [sqrP_ev h hr,linIt_ev h hr n]; rfl
theorem linIt_len (p:Pl) : ∀ n,(linIt p n).length≤dg p-1
 | 0=>restP_len
 | n+1=>restP_len
theorem linear_prod {S:List W32}(hn:S.Nodup)(hS:S.length≤1000):linearP (prodL S)=prodL S:=by
 unfold linearP
 refine common_nil hn hS ?_
 rw [dg_trim]
 have hd:=prodL_dg S
 refine zero_dg (all_zero hn (fun r hr=>?_) ?_)
 ·have h1:dg (prodL S)≠0:=by omega
  have h2:=ev_prodL.2 hr
  rw [ev_addP,linIt_ev h1 h2,linIt_ev h1 h2,sqn32]
  exact Gf.xs r
 ·have h1:=linIt_len (prodL S) 32
  have h2:=linIt_len (prodL S) 0
  rw [addP_len]
  omega
def oneP (p:Pl)(b:Nat):Pl:=common p (tracesP p (pw b 1))
def otherP (p:Pl)(b:Nat):Pl:=monic (divide p (oneP p b)).1
theorem parts_len {p:Pl}(h:dg p≠0)(b:Nat):dg (oneP p b)=(oneP p b).length∧dg (otherP p b)=(otherP p b).length∧(oneP p b).length≠0∧(otherP p b).length≠0∧(oneP p b).length+(otherP p b).length=dg p+1:=by
 have hc:=common_spec (B:=tracesP p (pw b 1)) h
 have htr:=hc.tr
 have hne:=hc.ne
 have hla:=hc.la
 have h1:dg (oneP p b)≠0:=by unfold oneP; omega
 have hq:=divide_quo (A:=p) h1
 have htq:=(divide_trim p (oneP p b)).1
 have hm:=monic_spec (A:=(divide p (oneP p b)).1) (by unfold oneP at *; omega)
 unfold otherP
 refine⟨htr,by rw [hm.1,hm.2.1],hne,?_,?_⟩
 ·rw [hm.1]
  unfold oneP at *
  omega
 ·rw [hm.1]
  unfold oneP at *
  omega
theorem parts_prod {S:List W32}(hn:S.Nodup)(hS:S.length≤1000)(b:Nat) :
  oneP (prodL S) b=prodL (S.filter fun r=>decide (tr (mul (pw b 1) r)=0))∧otherP (prodL S) b=prodL (S.filter fun r=>!decide (tr (mul (pw b 1) r)=0)):=by
 have h1:oneP (prodL S) b=prodL (S.filter fun r=>decide (tr (mul (pw b 1) r)=0)):=by
  unfold oneP
  rw [common_prod hn hS]
  have hd:dg (prodL S)≠0:=by rw [prodL_dg]; omega
  have hh : ∀ r∈S,decide (ev (tracesP (prodL S) (pw b 1)) r=0)=decide (tr (mul (pw b 1) r)=0):=fun r hr=>by rw [tracesP_ev hd (ev_prodL.2 hr)]
  exact congrArg prodL (List.filter_congr hh)
 refine⟨h1,?_⟩
 unfold otherP
 rw [h1,divide_prod hn (fun r=>decide (tr (mul (pw b 1) r)=0)),monic_prod]

def foundL:Nat→List (Pl×Nat)→Pl→Pl
 | 0,_,out=>out
 | _+1,[],out=>out
 | k+1,x::st,out=>if dg x.1=2 then foundL k st (out++[x.1.getD 0 0]) else if 2<dg x.1∧x.2<32 then foundL k ((otherP x.1 x.2,x.2+1)::(oneP x.1 x.2,x.2+1)::st) out else foundL k st out
def wt (b:Nat):Nat:=2 ^ (33-b)-1
def wts:List (Pl×Nat)→Nat
 | []=>0
 | x::st=>wt x.2+wts st
theorem wt_step : ∀ {b:Nat},b<32→wt (b+1)+wt (b+1)+1=wt b:=by decide +kernel
theorem wt_pos : ∀ {b:Nat},b≤32→1≤wt b:=by
 have : ∀ b,b<33→1≤wt b:=by decide +kernel
 exact fun {b} h=>this b (by omega)
def foundP (p:Pl):Pl:=foundL (wt 0) [(p,0)] []
structure GoodS (x:List W32×Nat):Prop where
 nd:x.1.Nodup
 ln:x.1.length≤1000
 bt:x.2≤32
 ag : ∀ r∈x.1,∀ s∈x.1,∀ j,j<x.2→tr (mul (pw j 1) r)=tr (mul (pw j 1) s)
def stOf (l:List (List W32×Nat)):List (Pl×Nat):=l.map fun x=>(prodL x.1,x.2)
theorem found_perm : ∀ (k:Nat)(l:List (List W32×Nat))(out:Pl),(∀ x∈l,GoodS x)→wts (stOf l)≤k→(foundL k (stOf l) out).Perm (out++(l.map (·.1)).flatten)
 | 0,[],out,_,_=>by simp [foundL]
 | 0,x::l,out,h,hk=>by
  have:=wt_pos (h x (by simp)).bt
  simp only [stOf,List.map_cons,wts] at hk
  omega
 | k+1,[],out,_,_=>by simp [foundL,stOf]
 | k+1,x::l,out,h,hk=>by
  obtain⟨S,b⟩:=x
  have hx:=h (S,b) (by simp)
  have hl:=fun y hy=>h y (List.mem_cons_of_mem _ hy)
  have hp:1≤wt b:=wt_pos hx.bt
  have hd:=prodL_dg S
  have hk2:wt b+wts (stOf l)≤k+1:=hk
  show(foundL (k+1) ((prodL S,b)::stOf l) out).Perm (out++(S++(l.map (·.1)).flatten))
  simp only [foundL,hd]
  by_cases h1:S.length=1
  ·obtain⟨r,rfl⟩:=List.length_eq_one_iff.1 h1
   rw [if_pos (show [r].length+1=2 from rfl)]
   have hr:(prodL [r]).getD 0 0=r:=by
    show 0^^^mul r 1=r
    rw [zx,mul_one]
   rw [hr]
   have:=found_perm k l (out++[r]) hl (by omega)
   rwa [List.append_assoc] at this
  ·rw [if_neg (by omega)]
   by_cases h2:2<S.length+1∧b<32
   ·rw [if_pos h2,(parts_prod hx.nd hx.ln b).1,(parts_prod hx.nd hx.ln b).2]
    have hw:=wt_step h2.2
    have hpm:=List.filter_append_perm (fun r=>decide (tr (mul (pw b 1) r)=0)) S
    have hlen:=hpm.length_eq
    have hln:=hx.ln
    rw [List.length_append] at hlen
    simp only at hln
    have g1:GoodS (S.filter (fun r=>decide (tr (mul (pw b 1) r)=0)),b+1):=by
     refine⟨hx.nd.sublist List.filter_sublist,Nat.le_trans (List.length_filter_le _ _) hx.ln,by simp only; omega,fun r hr s hs j hj=>?_⟩
     simp only [List.mem_filter,decide_eq_true_eq] at hr hs
     by_cases hjb:j=b
     ·subst hjb; rw [hr.2,hs.2]
     ·exact hx.ag r hr.1 s hs.1 j (by simp only at hj ⊢; omega)
    have g2:GoodS (S.filter (fun r=>!decide (tr (mul (pw b 1) r)=0)),b+1):=by
     refine⟨hx.nd.sublist List.filter_sublist,Nat.le_trans (List.length_filter_le _ _) hx.ln,by simp only; omega,fun r hr s hs j hj=>?_⟩
     simp only [List.mem_filter,Bool.not_eq_true',decide_eq_false_iff_not] at hr hs
     by_cases hjb:j=b
     ·subst hjb
      rw [(tr_bit _).resolve_left hr.2,(tr_bit _).resolve_left hs.2]
     ·exact hx.ag r hr.1 s hs.1 j (by simp only at hj ⊢; omega)
    have ih:=found_perm k ((S.filter (fun r=>!decide (tr (mul (pw b 1) r)=0)),b+1)::(S.filter (fun r=>decide (tr (mul (pw b 1) r)=0)),b+1)::l) out (fun y hy=>by
     rcases List.mem_cons.1 hy with rfl | hy
     ·exact g2
     ·rcases List.mem_cons.1 hy with rfl | hy
      ·exact g1
      ·exact hl y hy) (by
     show wt (b+1)+(wt (b+1)+wts (stOf l))≤k
     omega)
    refine List.Perm.trans ih ?_
    refine List.Perm.append_left out ?_
    simp only [List.map_cons,List.flatten_cons]
    rw [← List.append_assoc]
    exact List.Perm.append_right _ (List.perm_append_comm.trans hpm)
   ·rw [if_neg h2]
    have hS:S=[]:=by
     by_cases h3:S.length=0
     ·exact List.eq_nil_of_length_eq_zero h3
     ·exfalso
      have hb:b=32:=by
       have:=hx.bt
       simp only at this
       omega
      match S,h1,h3,hx with
      | r::s::S,_,_,hx =>
       have:=tr_inj (x:=r) (y:=s) fun j hj=>hx.ag r (by simp) s (by simp) j (by simp only; omega)
       have hnd:=hx.nd
       simp only [List.nodup_cons] at hnd
       exact hnd.1 (by rw [this]; simp)
      | [r],h1,_,_=>simp at h1
      | [],_,h3,_=>simp at h3
    subst hS
    exact found_perm k l out hl (by omega)
theorem found_prod {S:List W32}(hn:S.Nodup)(hS:S.length≤1000):(foundP (linearP (prodL S))).Perm S:=by
 rw [linear_prod hn hS]
 have:=found_perm (wt 0) [(S,0)] [] (fun x hx=>by
  simp only [List.mem_singleton] at hx
  subst hx
  exact⟨hn,hS,by simp,fun r _ s _ j hj=>by simp at hj⟩) (by
  show wt 0+0≤wt 0
  omega)
 simp only [stOf,List.map_cons,List.map_nil,List.flatten_cons,List.flatten_nil,List.append_nil,List.nil_append] at this
 exact this
end Go.Proofs.Ytmlkdfjojoophaa.T

namespace Go.Proofs.Ytmlkdfjojoophaa.T
open Go.Dn
attribute [local simp] body_eq globEnv GB List.map_nil List.map_cons List.append_nil w_rangeF i_next i_makeMap i_range i_update i_delete i_entry i_clone entryV cloneV q_rndA q_rndB_n q_rndB_e q_rndB_r setAll w_skip w_ops w_seq w_cond w_block w_exit w_ret q_then_n q_then_e q_then_r q_blk_n q_blk_e q_blk_r q_ops q_cont q_end_n q_end_r q_end_e q_loop_n q_loop_e q_loop_r i_nil i_p i_alloc i_box i_store i_copy i_clear i_call i_callv i_when t_nil t_p t_call t_alloc t_box t_store kept_nil t_copy t_clear q_tcont gsel List.cons_append List.nil_append evalP evalE evalF evalB isObj thaw Opd.ev Env.get Env.set Env.pick putE initEnv evalBin intBin evalUn evalConv goneAll goneOne retV resAll Res.ev tupOf byVals byValsN bv_d bv_da bv_fl bv_tl bn_d bn_da bn_fl bn_tl cx Dn.newObj St.place St.push St.spot St.empty cell_d cell_da cell_agg cell_ref cell_sl cell_fl cell_tl cell_map cell_fn cell_ifc loadAt faddrV partOf extractV mkAgg ofD splice St.setObj fillV
set_option linter.unusedSimpArgs false

open Gf (dg trim)

def half (c:W32)(A:List W32)(i:Nat):List W32:=Gf.scl c (A.take i)++A.drop i
theorem half_len (c:W32)(A:List W32){i:Nat}(h:i≤A.length):(half c A i).length=A.length:=by simp [half,Gf.scl_len]; omega
theorem half_at {c:W32}{A:List W32}{i:Nat}{w:W32}(h:A[i]?=some w):(half c A i)[i]?=some w:=by
 have hi:=(List.getElem?_eq_some_iff.1 h).1
 unfold half
 rw [List.getElem?_append_right (by simp [Gf.scl_len]; omega),Gf.scl_len,List.length_take,Nat.min_eq_left (by omega),Nat.sub_self,List.getElem?_drop,Nat.add_zero,h]
theorem half_set {c:W32}{A:List W32}{i:Nat}{w:W32}(h:A[i]?=some w):(half c A i).set i (Gf.mul c w)=half c A (i+1):=by
 have hi:=(List.getElem?_eq_some_iff.1 h).1
 have hg:A[i]=w:=(List.getElem?_eq_some_iff.1 h).2
 unfold half
 have l1:(Gf.scl c (A.take i)).length=i:=by simp [Gf.scl_len]; omega
 rw [List.set_append_right _ _ (by omega),l1,Nat.sub_self,List.drop_eq_getElem_cons hi,List.set_cons_zero,List.take_add_one,h]
 simp [Gf.scl]
def InvScale (v:V)(p:Nat)(c:W32)(A:List W32)(m:Nat)(e:Env)(s:St):Prop:=∃ i:Nat,e=[(5,v),(6,.ref p 0),(13,I A.length),(14,I i)]∧m=A.length-i∧i≤A.length∧Ob s v (half c A i)∧s.objs[p]?=some (.cells (tpart c 1024))
theorem s_Scale {a:D}{A:List W32}(ha:LV (.d a) (pR A))(lA:A.length≤1000)(c:W32):Dn.Call Γ cx .val 136 [.d a,Xw c] St.empty fun v _=>∃ d,v = .d d∧LV (.d d) (pR (trim (Gf.scl c A))):=by
 refine Dn.Call.body (fc:=c136) rfl ?_
 simp -implicitDefEqProofs [c136,c136_k9]
 refine use_raw (s_Clone (.lv ha) (by omega)) fun v s hN=>?_
 simp -implicitDefEqProofs [c136_k8]
 refine use_raw (s_By c) fun w s2 ⟨hw,hs2⟩=>?_
 subst hw
 have hf2:Fr [] s s2:=by rw [hs2]; exact Fr.push1 _ _
 have hp2:s2.objs[s.objs.length]?=some (.cells (tpart c 1024)):=by rw [hs2]; simp
 have hlen:=fun σ=>hN.ob.rd.len σ
 have h00:half c A 0=A:=by simp [half,Gf.scl]
 have hne : ∀ r off n sz,v = .sl r off n sz→r≠s.objs.length:=fun r off n sz e=>by
  have:=hN.ob.lt e
  omega
 simp -implicitDefEqProofs [c136_k7,hlen,c136_k6]
 refine wloopI (InvScale v s.objs.length c A) (m:=A.length) ⟨0,rfl,rfl,by omega,by rw [h00]; exact hN.ob.fr hf2,hp2⟩ ?_
 generalize s.objs.length=p at *
 clear hs2 hp2 hf2 hN
 rintro m e s3 ⟨i,rfl,rfl,hi,hob,hp⟩
 rcases hin:decide ((i:Int)<A.length) with _ | _
 ·have hlt : ¬ (i:Int)<A.length:=of_decide_eq_false hin
  obtain rfl:i=A.length:=by omega
  have hall:half c A A.length=Gf.scl c A:=by simp [half]
  rw [hall] at hob
  simp -implicitDefEqProofs [hlt,c136_l5,c136_k4,c136_k0]
  refine use_raw (s_cut hob.rd (by rw [Gf.scl_len]; omega)) fun w s4 ⟨hs4,hr,_⟩=>?_
  subst hs4
  obtain⟨d,h1,h2⟩:=hr.byVal
  simp -implicitDefEqProofs [h1]
  exact h2
 have hlt:(i:Int)<A.length:=of_decide_eq_true hin
 have hi2:i<A.length:=by omega
 obtain⟨w,hw⟩ : ∃ w,A[i]?=some w:=⟨_,List.getElem?_eq_getElem hi2⟩
 have hl:=half_len c A hi
 have hl1:=half_len c A (i:=i+1) (by omega)
 have hat:=half_at (c:=c) hw
 have hst:=half_set (c:=c) hw
 generalize hH:half c A i=H at *
 cases hob with
 | nils=>simp at hl; omega
 | fl=>simp at hl; omega
 | sl ho =>
 rename_i r
 have hrp:r≠p:=hne _ _ _ _ rfl
 have ia:=fun σ=>iaddr_sl σ (q:=r) (n:=H.length) (i:=i) (by omega)
 have hset:=wV_set (L:=H) (i:=i) (by omega) (Gf.mul c w)
 rw [hst] at hset
 have hatV:=wV_at hat
 have hlV:=wV_len H
 have w9:IntKind.i64.wrap ((i:Int)+1)=((i+1:Nat):Int):=by rw [wrap_i64 (by omega) (by omega)]; omega
 have hrs:r<s3.objs.length:=(List.getElem?_eq_some_iff.1 ho).1
 have hi3:i+1≤H.length:=by omega
 generalize hcs:wV H=cs at *
 simp -implicitDefEqProofs [hlt,c136_l5,c136_k4,c136_k3,c136_k2,c136_k1,ia,ho,hatV]
 refine use_rd (s_Tmul hp w) ?_
 simp -implicitDefEqProofs [-splice,ia,ho,hlV,hi3,hset,w9]
 refine⟨A.length-(i+1),by omega,i+1,rfl,rfl,by omega,?_,by simp only; rw [List.getElem?_set_ne hrp]; exact hp⟩
 have:H.length=(half c A (i+1)).length:=by rw [hl,hl1]
 rw [this]
 exact .sl (by simp [hrs])

theorem s_Monic {a:D}{A:List W32}(ha:LV (.d a) (pR A))(lA:A.length≤1000):Dn.Call Γ cx .val 119 [.d a] St.empty fun v _=>∃ d,v = .d d∧LV (.d d) (pR (monic A)):=by
 refine Dn.Call.body (fc:=c119) rfl ?_
 have tA:=Gf.trim_len A
 have dA:=Gf.dg_le A
 simp -implicitDefEqProofs [c119,c119_k3]
 refine use_raw (s_cut (.lv ha) (by omega)) fun w s ⟨hs,hr,hso⟩=>?_
 subst hs
 have hlw:=fun σ=>hr.len σ
 by_cases h0:dg A=0
 ·have hm:monic A=[]:=by unfold monic; rw [if_pos h0]
  simp -implicitDefEqProofs [c119_k2,hlw,tA,h0,c119_k1,hm]
  exact .nil
 obtain⟨top,htop⟩ : ∃ t,(trim A)[dg A-1]?=some t:=⟨_,List.getElem?_eq_getElem (by omega)⟩
 have hgt:=getD_at htop
 obtain⟨ad,h1,h2⟩:=hr.at htop
 obtain⟨d,b1,b2⟩:=hr.byVal
 have hm:monic A=trim (Gf.scl (Gf.inv top) (trim A)):=by unfold monic; rw [if_neg h0,hgt]
 have wB:IntKind.i64.wrap ((dg A:Int)-1)=((dg A-1:Nat):Int):=by rw [wrap_i64 (by omega) (by omega)]; omega
 have hns:w.borrows=false:=by
  cases hr with
  | lv h=>exact h.borrows
  | sl h=>obtain⟨_,_,_,h⟩:=hso _ _ _ _ rfl; cases h
 simp -implicitDefEqProofs [-loadAt,c119_k2,hlw,tA,h0,c119_k1,c119_k0,wB,h1]
 have h3:loadAt { objs:=[],toks:=[] } false 1 ad=some (Xw top):=h2
 simp only [h3]
 refine use_fn rfl (s_Inv top) rfl ?_
 simp -implicitDefEqProofs
 refine use_val (ds:=[.d d,Xw (Gf.inv top)]) (by have b3:V.byVal { objs:=[],toks:=[] } w=some (.d d):=b1; simp only [byVals,b3,bv_d]) (s_Scale b2 (by omega) (Gf.inv top)) fun v s ⟨x,hv,hx⟩=>?_
 subst hv
 rw [hm]
 refine⟨rfl,fun h=>?_,?_⟩
 ·have hb:[w,Xw (Gf.inv top)].any V.borrows=false:=by simp only [List.any_cons,hns]; rfl
  rw [hb] at h
  cases h
 simp -implicitDefEqProofs
 exact hx

open Gf (dg trim addP)

abbrev PL (d:D)(L:List W32):Prop:=LV (.d d) (pR L)
abbrev isPL (L:List W32):Post:=fun v _=>∃ d,v = .d d∧PL d L
theorem byVals_d (σ:St) : ∀ ds:List D,byVals σ (ds.map V.d)=some (ds.map V.d)
 | []=>rfl
 | d::ds=>by simp only [List.map_cons,byVals,byVals_d σ ds,bv_d]
theorem borrows_d : ∀ ds:List D,(ds.map V.d).any V.borrows=false
 | []=>rfl
 | d::ds=>by simp only [List.map_cons,List.any_cons,borrows_d ds]; rfl
theorem use_pl {f:Nat}(ds:List D) {σ:St}{L:List W32}(h:Dn.Call Γ cx .val f (ds.map V.d) St.empty (isPL L)){Q:Post}(hq : ∀ d,PL d L→Q (.d d) σ):callK (Dn.Call Γ cx) cx f (ds.map V.d) σ Q :=
 use_val (byVals_d σ ds) h fun v s ⟨d,hv,hd⟩=>by
  subst hv
  exact⟨rfl,fun hb=>(by rw [borrows_d] at hb; cases hb),hq d hd⟩
theorem use_vd {f:Nat}(ds:List D) {σ:St}{Q':Post}(h:Dn.Call Γ cx .val f (ds.map V.d) St.empty Q'){Q:Post}(hq : ∀ v s,Q' v s→v.pure=true∧Q v σ):callK (Dn.Call Γ cx) cx f (ds.map V.d) σ Q :=
 use_val (byVals_d σ ds) h fun v s hv=>⟨(hq v s hv).1,fun hb=>(by rw [borrows_d] at hb; cases hb),(hq v s hv).2⟩
theorem s_cutD {d:D}{L:List W32}(hd:PL d L)(hl:L.length≤100000):Dn.Call Γ cx .val 121 [.d d] St.empty (isPL (trim L)) :=
 (s_cut (.lv hd) hl).as_val (fc:=c121) rfl rfl fun v s ⟨hs,hr,_⟩=>by
  obtain⟨x,h1,h2⟩:=hr.byVal
  exact⟨.d x,by rw [hs]; exact h1,x,rfl,h2⟩

def InvCom (A B:List W32)(m:Nat)(e:Env)(s:St):Prop:=∃ (x y:D)(X Y:List W32),e=[(0,.d x),(1,.d y)]∧PL x X∧PL y Y∧commonL m X Y=commonL (trim B).length (trim A) (trim B)∧Y.length≤m∧dg Y=Y.length∧X.length≤1000∧Y.length≤1000∧s=St.empty
theorem s_Common {a b:D}{A B:List W32}(ha:PL a A)(hb:PL b B)(lA:A.length≤1000)(lB:B.length≤1000):Dn.Call Γ cx .val 104 [.d a,.d b] St.empty (isPL (common A B)):=by
 refine Dn.Call.body (fc:=c104) rfl ?_
 have tA:=Gf.trim_len A
 have tB:=Gf.trim_len B
 have dA:=Gf.dg_le A
 have dB:=Gf.dg_le B
 simp -implicitDefEqProofs [c104,c104_k9]
 refine use_pl [a] (s_cutD ha (by omega)) fun x hx=>?_
 simp -implicitDefEqProofs
 refine use_pl [b] (s_cutD hb (by omega)) fun y hy=>?_
 simp -implicitDefEqProofs [c104_k8]
 refine wloopI (InvCom A B) (m:=(trim B).length) ⟨x,y,_,_,rfl,hx,hy,rfl,Nat.le_refl _,by rw [Gf.dg_trim,tB],by omega,by omega,rfl⟩ ?_
 clear hx hy x y
 rintro m e s ⟨x,y,X,Y,rfl,hx,hy,heq,hm,hdY,lX,lY,rfl⟩
 have hly : ∀ σ,lenT σ .slice (.d y)=some Y.length:=fun σ=>by rw [hy.len,pR_len]
 by_cases h0:Y.length=0
 ·have hY:Y=[]:=List.eq_nil_of_length_eq_zero h0
  subst hY
  have hX:commonL m X []=X:=by cases m <;> simp [commonL]
  rw [hX] at heq
  have hc:common A B=monic X:=by unfold common; rw [heq]
  simp -implicitDefEqProofs [c104_l7,hly,c104_k6,c104_k0]
  refine use_pl [x] (s_Monic hx lX) fun z hz=>?_
  simp -implicitDefEqProofs
  rw [hc]
  exact⟨z,rfl,hz⟩
 ·have hp:0<Y.length:=by omega
  have hdn:dg Y≠0:=by omega
  simp -implicitDefEqProofs [c104_l7,hly,hp,c104_k6,c104_k5,c104_k4]
  refine use_vd [x,y] (s_Divide hx hy lX lY) fun v s hv=>?_
  rcases hv with⟨h1,-⟩ | ⟨-,q,r,hv,hq,hr⟩
  ·exact absurd h1 hdn
  subst hv
  refine⟨rfl,?_⟩
  have hrl:=divide_rest (A:=X) hdn
  obtain⟨k,rfl⟩ : ∃ k,m=k+1:=⟨m-1,by omega⟩
  have hst:commonL (k+1) X Y=commonL k Y (divide X Y).2:=by
   simp only [commonL]
   rw [if_neg (fun e=>h0 (by rw [e]; rfl))]
  simp -implicitDefEqProofs [c104_k3,eqV,V.isNil,Opd.isC,c104_k2,c104_k1]
  exact⟨k,by omega,y,r,Y,(divide X Y).2,rfl,hy,hr,by rw [← hst]; exact heq,by omega,(divide_trim X Y).2,lY,by omega,rfl⟩

theorem newObjN (σ:St)(o:Dn.Obj)(f:Nat→V):Dn.newObj σ none o f=some (f σ.objs.length,⟨σ.objs++[o],σ.toks⟩):=rfl
theorem repl_flat (k:Nat):((List.replicate k [D.int .u32 0]).flatten).map V.d=wV (List.replicate k 0):=by
 induction k with
 | zero=>rfl
 | succ k ih =>
  simp only [List.replicate_succ,List.flatten_cons,List.map_append,ih]
  rfl
theorem fit_rep (k:Nat):fitR 1 (List.replicate k [D.int .u32 0])=true:=by
 rw [fitR_iff]
 intro r hr
 rw [List.eq_of_mem_replicate hr]
 rfl
theorem New.grow {σ s:St}{v:V}{T:List W32}(h:New σ s v T)(hne:T=[]→∀ r off n sz,v ≠ .sl r off n sz)(k:Nat)(hb:T.length+k≤100000){e:Env}{a b:Nat}(ea:e.get a=v)(eb:e.get b=I k) :
  ∃ v' s',evalM (.appendZero 55 1 4 [.int .u32 0] (.t a) (.t b)) e s none=some (v',s')∧New σ s' v' (T++List.replicate k 0)∧(T++List.replicate k 0=[]→∀ r off n sz,v' ≠ .sl r off n sz):=by
 have hlen:=h.ob.rd.lenV s
 by_cases hk:k=0
 ·subst hk
  refine⟨v,s,?_,by simpa using h,by simpa using hne⟩
  simp [evalM,Opd.ev,ea,eb,hlen]
 have hkI : ¬ ((k:Int)=0):=by omega
 have hrep:List.replicate k [D.int .u32 0]≠[]:=by simpa using hk
 have b1:(T.length+k)*4≤140737488355328:=by omega
 have b2:T.length+k≤9223372036854775807:=by omega
 have hgo : ∀ (o:List V),o=wV (T++List.replicate k 0)→∀ objs':List Dn.Obj,objs'.length=s.objs.length→(∀ q,q<σ.objs.length→objs'[q]?=s.objs[q]?)→New σ ⟨objs'++[.cells o],s.toks⟩ (.sl s.objs.length 0 (T.length+k) 1) (T++List.replicate k 0):=by
  intro o ho objs' hl hq
  have hsl:=h.fr.len
  refine⟨?_,⟨by simp; omega,fun q _ hq2=>?_⟩,fun r off n sz e=>by cases e; exact hsl,h.tk⟩
  ·have:T.length+k=(T++List.replicate k (0:W32)).length:=by simp
   rw [this]
   refine .sl ?_
   simp only
   rw [List.getElem?_append_right (by omega),hl,Nat.sub_self,ho]
   rfl
  ·simp only
   rw [List.getElem?_append_left (by omega),hq q hq2]
   exact h.fr.at_ q (by simp) hq2
 have hn2:T++List.replicate k (0:W32)=[]→∀ r off n sz,V.sl s.objs.length 0 (T.length+k) 1 ≠ .sl r off n sz:=fun e=>by simp [hk] at e
 have happ:evalM (.appendZero 55 1 4 [.int .u32 0] (.t a) (.t b)) e s none=appendM s none 1 4 v (List.replicate k [D.int .u32 0]):=by
  simp [evalM,Opd.ev,ea,eb,hlen,hkI,hk]
 have hob:=h.ob
 cases hob with
 | nils =>
  refine⟨_,_,?_,hgo _ rfl s.objs rfl (fun _ _=>rfl),hn2⟩
  rw [happ]
  simp only [List.length_nil,Nat.zero_add] at b1 b2 ⊢
  have:appendM s none 1 4 (.d .nils) (List.replicate k [D.int .u32 0])=Dn.newObj s none (.cells (((List.replicate k [D.int .u32 0]).flatten).map V.d)) (fun r=>.sl r 0 k 1):=by
   unfold appendM
   rw [fit_rep]
   simp only [Bool.true_eq_false,false_or,hrep,if_false,List.length_replicate]
   rw [if_pos ⟨by omega,b1,b2⟩]
  rw [this,newObjN,repl_flat,List.nil_append]
 | fl =>
  refine⟨_,_,?_,hgo _ rfl s.objs rfl (fun _ _=>rfl),hn2⟩
  rw [happ]
  simp only [List.length_nil,Nat.zero_add] at b1 b2 ⊢
  have:appendM s none 1 4 (.fl []) (List.replicate k [D.int .u32 0])=Dn.newObj s none (.cells ((([]++List.replicate k [D.int .u32 0]).flatten).map V.d)) (fun r=>.sl r 0 (0+k) 1):=by
   unfold appendM
   rw [fit_rep]
   simp only [Bool.true_eq_false,false_or,hrep,if_false,List.length_replicate,List.length_nil,Nat.zero_add]
   rw [if_pos ⟨by omega,rfl,b1,b2⟩]
  rw [this,newObjN,List.nil_append,repl_flat,List.nil_append,Nat.zero_add]
 | sl ho =>
  rename_i r
  have hT:T≠[]:=fun e=>hne e _ _ _ _ rfl
  have hTl:0<T.length:=List.length_pos_iff.2 hT
  have hrs:=(List.getElem?_eq_some_iff.1 ho).1
  have hrf:σ.objs.length≤r:=h.nw _ _ _ _ rfl
  refine⟨_,_,?_,hgo (wV T++wV (List.replicate k 0)) (by simp [wV]) (s.objs.set r .dead) (by simp) (fun q hq=>by rw [List.getElem?_set_ne (by omega)]),hn2⟩
  rw [happ]
  have:appendM s none 1 4 (.sl r 0 T.length 1) (List.replicate k [D.int .u32 0])=Dn.newObj (s.setObj r .dead) none (.cells (((wV T).drop 0).take (T.length*1)++((List.replicate k [D.int .u32 0]).flatten).map V.d)) (fun r=>.sl r 0 (T.length+k) 1):=by
   unfold appendM
   rw [fit_rep]
   simp only [Bool.true_eq_false,false_or,hrep,if_false,List.length_replicate,ho]
   rw [if_pos ⟨trivial,by omega,b1,b2⟩,if_pos ⟨by rw [wV_len]; omega,by rw [wV_len]; omega⟩]
  rw [this,newObjN,repl_flat,List.drop_zero,Nat.mul_one,List.take_of_length_le (by rw [wV_len]; exact Nat.le_refl _)]
  simp [St.setObj]

open Gf (dg trim addP)

theorem New.set {σ s:St}{r n:Nat}{T:List W32}(h:New σ s (.sl r 0 n 1) T){i:Nat}(hi:i<n)(hn:T.length=n)(w:W32):New σ ⟨s.objs.set r (.cells (wV (T.set i w))),s.toks⟩ (.sl r 0 n 1) (T.set i w):=by
 have hob:=h.ob
 have hlt:=hob.lt rfl
 have hfr:σ.objs.length≤r:=h.nw _ _ _ _ rfl
 refine⟨?_,⟨by simpa using h.fr.len,fun q _ hq=>?_⟩,h.nw,h.tk⟩
 ·have:n=(T.set i w).length:=by simp [hn]
  rw [this]
  exact .sl (by simp [hlt])
 ·simp only
  rw [List.getElem?_set_ne (by omega)]
  exact h.fr.at_ q (by simp) hq
theorem New.obj {σ s:St}{r n:Nat}{T:List W32}(h:New σ s (.sl r 0 n 1) T):s.objs[r]?=some (.cells (wV T))∧T.length=n:=by
 have hob:=h.ob
 generalize hv:V.sl r 0 n 1=v at hob
 cases hob with
 | sl h2=>cases hv; exact⟨h2,rfl⟩
 | nils=>cases hv
 | fl=>cases hv
theorem New.is_sl {σ s:St}{v:V}{T:List W32}(h:New σ s v T)(hne:T≠[]) : ∃ r,v = .sl r 0 T.length 1:=by
 have hob:=h.ob
 cases hob with
 | sl h=>exact⟨_,rfl⟩
 | nils=>exact absurd rfl hne
 | fl=>exact absurd rfl hne
theorem pad_add (T Z:List W32):addP (T++List.replicate (Z.length-T.length) 0) Z=addP T Z:=by
 refine Gf.list_ext_co ?_ fun i _=>?_
 ·rw [Gf.addP_len,Gf.addP_len,List.length_append,List.length_replicate]
  omega
 ·rw [Gf.addP_co,Gf.addP_co]
  congr 1
  simp only [List.getD_eq_getElem?_getD]
  by_cases h:i<T.length
  ·rw [List.getElem?_append_left h]
  ·rw [List.getElem?_append_right (by omega),List.getElem?_replicate,List.getElem?_eq_none (l:=T) (by omega)]
   split <;> rfl
theorem add_step {P Z:List W32}{j:Nat}{z x:W32}(hl:Z.length≤P.length)(hz:Z[j]?=some z)(hx:(addP P (Z.take j))[j]?=some x):(addP P (Z.take j)).set j (x^^^z)=addP P (Z.take (j+1)):=by
 have hj:=(List.getElem?_eq_some_iff.1 hz).1
 have l1:(addP P (Z.take j)).length=P.length:=by rw [Gf.addP_len]; simp; omega
 have hx2:=getD_at hx
 rw [Gf.addP_co,getD_take,if_neg (by omega),Gf.x0] at hx2
 refine Gf.list_ext_co (by rw [List.length_set,l1,Gf.addP_len]; simp; omega) fun i _=>?_
 rw [getD_set (by omega),Gf.addP_co,Gf.addP_co,getD_take,getD_take]
 by_cases h:i=j
 ·subst h
  rw [if_pos rfl,if_pos (by omega),getD_at hz,hx2]
 ·rw [if_neg h]
  by_cases h1:i<j
  ·rw [if_pos h1,if_pos (by omega)]
  ·rw [if_neg h1,if_neg (by omega)]

def acc2 (X Y:List W32):Nat→List W32
 | 0=>[]
 | 1=>X
 | _=>addP X Y
def noSl (v:V)(T:List W32):Prop:=T=[]→∀ r off n sz,v ≠ .sl r off n sz
def InvAdd (ls:D)(X Y:List W32)(m:Nat)(e:Env)(s:St):Prop:=∃ (i:Nat)(v:V),e=[(3,v),(8,.d ls),(9,I 2),(10,I i)]∧m=2-i∧i≤2∧New St.empty s v (acc2 X Y i)∧noSl v (acc2 X Y i)
def InvAdd2 (ls z:D)(P Z:List W32)(i:Nat)(m:Nat)(e:Env)(s:St):Prop:=∃ (j:Nat)(v:V),e=[(3,v),(8,.d ls),(9,I 2),(10,I i),(22,.d z),(23,I Z.length),(24,I j)]∧m=Z.length-j∧j≤Z.length∧New St.empty s v (addP P (Z.take j))∧noSl v (addP P (Z.take j))
theorem s_Add {x y:D}{X Y:List W32}(hx:PL x X)(hy:PL y Y)(lX:X.length≤1000)(lY:Y.length≤1000):Dn.Call Γ cx .val 105 [.d (.list [[x],[y]])] St.empty (isPL (trim (addP X Y))):=by
 refine Dn.Call.body (fc:=c105) rfl ?_
 simp -implicitDefEqProofs [c105,c105_k15,c105_k14,lenT,Dn.lenV,c105_k13]
 refine wloopI (InvAdd (.list [[x],[y]]) X Y) (m:=2) ⟨0,_,rfl,rfl,by omega,⟨.nils,Fr.refl _ _,fresh_d _ _,rfl⟩,fun _ r off n sz e=>by cases e⟩ ?_
 rintro m e s ⟨i,v,rfl,rfl,hi,hN,hns⟩
 by_cases hi2:i<2
 rotate_left
 ·obtain rfl:i=2:=by omega
  simp -implicitDefEqProofs [c105_l12,c105_k11,c105_k0]
  refine use_raw (s_cut hN.ob.rd (by simp only [acc2,Gf.addP_len]; omega)) fun w s4 ⟨hs4,hr,_⟩=>?_
  subst hs4
  obtain⟨d,h1,h2⟩:=hr.byVal
  simp -implicitDefEqProofs [h1]
  exact⟨d,rfl,h2⟩
 obtain⟨z,Z,hz,hZ,hpl,lZ⟩ : ∃ (z:D) (Z:List W32),(([[x],[y]]:List (List D))[i]?=some [z])∧addP (acc2 X Y i) Z=acc2 X Y (i+1)∧PL z Z∧Z.length≤1000:=by
  match i,hi2 with
  | 0,_=>exact⟨x,X,rfl,rfl,hx,lX⟩
  | 1,_=>exact⟨y,Y,rfl,rfl,hy,lY⟩
 have hlt:(i:Int)<2:=by omega
 have hia:=fun σ=>(LV.list [[x],[y]]).iaddr σ (k:=.i64) (sz:=1) (i:=i) hz rfl
 have hlz : ∀ σ,lenT σ .slice (.d z)=some Z.length:=fun σ=>by rw [hpl.len,pR_len]
 have hlv:=fun σ=>hN.ob.rd.len σ
 have lT:(acc2 X Y i).length≤1000:=by
  match i,hi2 with
  | 0,_=>simp [acc2]
  | 1,_=>exact lX
 generalize acc2 X Y i=T at *
 have w1:IntKind.i64.wrap ((Z.length:Int)-T.length)=(Z.length:Int)-T.length:=wrap_i64 (by omega) (by omega)
 have w9:IntKind.i64.wrap ((i:Int)+1)=((i+1:Nat):Int):=by rw [wrap_i64 (by omega) (by omega)]; omega
 have hmx:=max0 ((Z.length:Int)-T.length)
 have hk:(((Z.length:Int)-T.length).toNat:Int)=((Z.length-T.length:Nat):Int):=by omega
 rw [hk] at hmx
 obtain⟨k,hkd⟩ : ∃ k,Z.length-T.length=k:=⟨_,rfl⟩
 have hpad:=pad_add T Z
 rw [hkd] at hmx hpad
 clear hi2
 simp -implicitDefEqProofs [hlt,c105_l12,c105_k11,c105_k10,c105_k9,hia,c105_k8,hlz,hlv,w1,hmx]
 obtain⟨v2,s2,he,hN2,hns2⟩:=hN.grow hns k (by omega) (e:=[(3,v),(5,.d z),(8,.d (.list [[x],[y]])),(9,I 2),(10,I i),(14,v),(15,.d z),(16,I Z.length),(17,v),(18,I T.length),(19,I ((Z.length:Int)-T.length)),(20,I k)]) (a:=14) (b:=20) rfl rfl
 refine i_app_m he ?_
 simp -implicitDefEqProofs [c105_k7,hlz,c105_k6]
 have hP:(T++List.replicate k 0).length=T.length+k:=by simp
 have h0:addP (T++List.replicate k (0:W32)) (Z.take 0)=T++List.replicate k 0:=by rw [List.take_zero,Gf.addP_nil]
 refine wloopI (InvAdd2 (.list [[x],[y]]) z (T++List.replicate k 0) Z i) (m:=Z.length) ⟨0,v2,rfl,rfl,by omega,by rw [h0]; exact hN2,by rw [h0]; exact hns2⟩ ?_
 clear he hN2 hns2
 generalize hPd:T++List.replicate k (0:W32)=P at *
 rintro m e s3 ⟨j,v3,rfl,rfl,hj,hN3,hns3⟩
 rcases hjn:decide ((j:Int)<Z.length) with _ | _
 ·have hlt2 : ¬ (j:Int)<Z.length:=of_decide_eq_false hjn
  obtain rfl:j=Z.length:=by omega
  rw [List.take_length,hpad,hZ] at hN3 hns3
  simp -implicitDefEqProofs [hlt2,c105_l5,c105_k4,w9]
  exact⟨2-(i+1),by omega,i+1,v3,rfl,rfl,by omega,hN3,hns3⟩
 have hlt2:(j:Int)<Z.length:=of_decide_eq_true hjn
 have hjZ:j<Z.length:=by omega
 obtain⟨c,hc⟩ : ∃ c,Z[j]?=some c:=⟨_,List.getElem?_eq_getElem hjZ⟩
 have l1:(addP P (Z.take j)).length=P.length:=by rw [Gf.addP_len]; simp; omega
 obtain⟨o,ho⟩ : ∃ o,(addP P (Z.take j))[j]?=some o:=⟨_,List.getElem?_eq_getElem (by omega)⟩
 have hst:=add_step (by omega) hc ho
 have hiz:=fun σ=>hpl.iaddr σ (k:=.i64) (sz:=1) (i:=j) (pR_at hc) rfl
 obtain⟨r,hr⟩:=hN3.is_sl (fun e=>by rw [e] at ho; cases ho)
 subst hr
 rw [l1] at hN3 hns3 ⊢
 have hset:=hN3.set (i:=j) (by omega) l1 (o^^^c)
 have hsv:=wV_set (L:=addP P (Z.take j)) (i:=j) (by omega) (o^^^c)
 rw [hst] at hset hsv
 have ia:=fun σ=>iaddr_sl σ (q:=r) (n:=P.length) (i:=j) (by omega)
 have hob:=hN3.obj.1
 have hat:=wV_at ho
 have hlV:=wV_len (addP P (Z.take j))
 rw [l1] at hlV
 have w8:IntKind.i64.wrap ((j:Int)+1)=((j+1:Nat):Int):=by rw [wrap_i64 (by omega) (by omega)]; omega
 have hj1:j+1≤P.length:=by omega
 have hns4:noSl (.sl r 0 P.length 1) (addP P (Z.take (j+1))):=fun e=>by
  have h5:=congrArg List.length e
  rw [Gf.addP_len,List.length_nil] at h5
  omega
 generalize wV (addP P (Z.take j))=cs at *
 simp -implicitDefEqProofs [-splice,hlt2,c105_l5,c105_k4,c105_k3,c105_k2,hiz,c105_k1,ia,hob,hat,xor_u32,hlV,hj1,hsv,w8]
 exact⟨Z.length-(j+1),by omega,j+1,_,rfl,rfl,by omega,hset,hns4⟩

open Gf (dg trim addP sq)

theorem sqs_co : ∀ (A:List W32)(j:Nat),(sqs A).getD j 0=if j % 2=0 then sq (A.getD (j / 2) 0) else 0
 | [],j=>by
  simp only [sqs,List.getD_nil]
  split
  ·exact Gf.sq_zero.symm
  ·rfl
 | [c],j=>by
  match j with
  | 0=>rfl
  | 1=>rfl
  | j+2 =>
   have h1:(sqs [c]).getD (j+2) 0=0:=by simp [sqs]
   have h2:[c].getD ((j+2) / 2) 0=0:=getD_ge (by simp)
   rw [h1,h2]
   split
   ·exact Gf.sq_zero.symm
   ·rfl
 | c::d::A,j=>by
  match j with
  | 0=>rfl
  | 1=>rfl
  | j+2 =>
   have ih:=sqs_co (d::A) j
   have e1:(j+2) / 2=j / 2+1:=by omega
   have e2:(j+2) % 2=j % 2:=by omega
   rw [e1,e2]
   exact ih
def sqTo (A:List W32)(i:Nat):List W32:=(List.range (2*A.length-1)).map fun j=>if j % 2=0∧j / 2<i then sq (A.getD (j / 2) 0) else 0
theorem sqTo_len (A:List W32)(i:Nat):(sqTo A i).length=2*A.length-1:=by simp [sqTo]
theorem sqTo_co (A:List W32)(i:Nat){j:Nat}(h:j<2*A.length-1):(sqTo A i).getD j 0=if j % 2=0∧j / 2<i then sq (A.getD (j / 2) 0) else 0:=by
 rw [List.getD_eq_getElem?_getD]
 simp [sqTo,h]
theorem sqTo_zero (A:List W32):sqTo A 0=List.replicate (2*A.length-1) 0:=by
 refine Gf.list_ext_co (by simp [sqTo_len]) fun j hj=>?_
 rw [sqTo_len] at hj
 rw [sqTo_co A 0 hj,if_neg (by omega),List.getD_eq_getElem?_getD,List.getElem?_replicate,if_pos hj]
 rfl
theorem sqTo_all (A:List W32):sqTo A A.length=sqs A:=by
 refine Gf.list_ext_co (by rw [sqTo_len,sqs_len]) fun j hj=>?_
 rw [sqTo_len] at hj
 rw [sqTo_co A _ hj,sqs_co]
 by_cases h:j % 2=0
 ·rw [if_pos h,if_pos ⟨h,by omega⟩]
 ·rw [if_neg h,if_neg (fun e=>h e.1)]
theorem sqTo_step {A:List W32}{i:Nat}{c:W32}(hc:A[i]?=some c):(sqTo A i).set (2*i) (sq c)=sqTo A (i+1):=by
 have hi:=(List.getElem?_eq_some_iff.1 hc).1
 refine Gf.list_ext_co (by simp [sqTo_len]) fun j hj=>?_
 rw [List.length_set,sqTo_len] at hj
 rw [getD_set (by rw [sqTo_len]; omega),sqTo_co A i hj,sqTo_co A (i+1) hj]
 by_cases h:j=2*i
 ·subst h
  rw [if_pos rfl,if_pos ⟨by omega,by omega⟩,show 2*i / 2=i by omega,getD_at hc]
 ·rw [if_neg h]
  by_cases h2:j % 2=0∧j / 2<i
  ·rw [if_pos h2,if_pos ⟨h2.1,by omega⟩]
  ·rw [if_neg h2,if_neg (fun e=>h2 ⟨e.1,by omega⟩)]

def sqP (A B:List W32)(v:V):Prop:=(dg B=0∧v = .tup [.d .nils,errV 1])∨(dg B≠0∧∃ r,v = .tup [.d r,.d .nili]∧PL r (sqrP A B))
def InvSq (b:D)(A:List W32)(a:D)(m:Nat)(e:Env)(s:St):Prop:=∃ i:Nat,e=[(1,.d b),(6,.sl 0 0 (2*A.length-1) 1),(18,.d a),(19,I A.length),(20,I i)]∧m=A.length-i∧i≤A.length∧s.objs[0]?=some (.cells (wV (sqTo A i)))
theorem s_Squared {a b:D}{A B:List W32}(ha:PL a A)(hb:PL b B)(lA:A.length≤400)(lB:B.length≤1000):Dn.Call Γ cx .val 120 [.d a,.d b] St.empty fun v _=>sqP A B v:=by
 refine Dn.Call.body (fc:=c120) rfl ?_
 have hla : ∀ σ,lenT σ .slice (.d a)=some A.length:=fun σ=>by rw [ha.len,pR_len]
 have w1:IntKind.i64.wrap (2*(A.length:Int))=2*(A.length:Int):=wrap_i64 (by omega) (by omega)
 have w2:IntKind.i64.wrap (2*(A.length:Int)-1)=2*(A.length:Int)-1:=wrap_i64 (by omega) (by omega)
 have hmx:=max0 (2*(A.length:Int)-1)
 have hk:((2*(A.length:Int)-1).toNat:Int)=((2*A.length-1:Nat):Int):=by omega
 rw [hk] at hmx
 have hz:=sqTo_zero A
 obtain⟨N,hN⟩ : ∃ N,2*A.length-1=N:=⟨_,rfl⟩
 rw [hN] at hmx hz
 simp -implicitDefEqProofs [c120,c120_k9,hla,w1,w2,hmx]
 refine i_app_f (v:=.sl 0 0 N 1) (s:=⟨[.cells (wV (List.replicate N 0))],[]⟩) ?_ ?_
 ·have b1:(N:Int)*4≤140737488355328:=by omega
  have b2:(N:Int)≤9223372036854775807:=by omega
  simp [evalE,Opd.ev,Env.get,b1,b2,repl_wV,Dn.newObj,St.place,St.push,St.spot]
 simp -implicitDefEqProofs [c120_k8,hla,c120_k7]
 refine wloopI (InvSq b A a) (m:=A.length) ⟨0,by rw [hN]; rfl,rfl,by omega,by rw [hz]; rfl⟩ ?_
 rintro m e s ⟨i,rfl,rfl,hi,ho⟩
 rw [hN]
 have hl1:=sqTo_len A i
 rw [hN] at hl1
 rcases hin:decide ((i:Int)<A.length) with _ | _
 ·have hlt : ¬ (i:Int)<A.length:=of_decide_eq_false hin
  obtain rfl:i=A.length:=by omega
  rw [sqTo_all] at ho hl1
  have hrd:Rd s (.sl 0 0 N 1) (sqs A):=by rw [← hl1]; exact .whole ho
  simp -implicitDefEqProofs [hlt,c120_l6,c120_k5,c120_k1]
  refine use_raw (s_DivideR hrd (.lv hb) (by omega) lB) fun v s2 hv=>?_
  rcases hv with⟨h1,rfl,rfl⟩ | ⟨h1,q,r,rfl,hq,hr,-,-⟩
  ·simp -implicitDefEqProofs [c120_k0,errV]
   exact .inl ⟨h1,rfl⟩
  ·obtain⟨d,b1,l1⟩:=hr.byVal
   simp -implicitDefEqProofs [c120_k0,b1]
   exact .inr ⟨h1,d,rfl,by unfold sqrP restP; rw [if_neg h1]; exact l1⟩
 have hlt:(i:Int)<A.length:=of_decide_eq_true hin
 have hi2:i<A.length:=by omega
 obtain⟨c,hc⟩ : ∃ c,A[i]?=some c:=⟨_,List.getElem?_eq_getElem hi2⟩
 have hia:=fun σ=>ha.iaddr σ (k:=.i64) (sz:=1) (i:=i) (pR_at hc) rfl
 have hst:=sqTo_step hc
 have hsv:=wV_set (L:=sqTo A i) (i:=2*i) (by omega) (sq c)
 rw [hst] at hsv
 have hlV:=wV_len (sqTo A i)
 rw [hl1] at hlV
 obtain⟨j,hj⟩ : ∃ j,2*i=j:=⟨_,rfl⟩
 rw [hj] at hsv
 have ia:=fun σ=>iaddr_sl σ (q:=0) (n:=N) (i:=j) (by omega)
 have w3:IntKind.i64.wrap (2*(i:Int))=(j:Int):=by rw [wrap_i64 (by omega) (by omega)]; omega
 have w9:IntKind.i64.wrap ((i:Int)+1)=((i+1:Nat):Int):=by rw [wrap_i64 (by omega) (by omega)]; omega
 have hs0:0<s.objs.length:=(List.getElem?_eq_some_iff.1 ho).1
 have hj1:j+1≤N:=by omega
 generalize wV (sqTo A i)=cs at *
 simp -implicitDefEqProofs [hlt,c120_l6,c120_k5,c120_k4,c120_k3,hia,c120_k2,w3]
 refine use_fn rfl (s_Square c) rfl ?_
 have hsv':splice cs j [Xw (Gf.mul c c)]=wV (sqTo A (i+1)):=hsv
 simp -implicitDefEqProofs [-splice,ia,ho,hlV,hj1,hsv',w9]
 exact⟨A.length-(i+1),by omega,i+1,by rw [hN]; rfl,rfl,by omega,by simp [hs0]⟩

theorem s_prest {a b:D}{A B:List W32}(ha:PL a A)(hb:PL b B)(lA:A.length≤1000)(lB:B.length≤1000):Dn.Call Γ cx .val 102 [.d a,.d b] St.empty (isPL (restP A B)):=by
 refine Dn.Call.body (fc:=c102) rfl ?_
 simp -implicitDefEqProofs [c102,c102_k3]
 refine use_vd [a,b] (s_Divide ha hb lA lB) fun v s hv=>?_
 rcases hv with⟨h1,rfl⟩ | ⟨h1,q,r,rfl,hq,hr⟩
 ·refine⟨rfl,?_⟩
  simp -implicitDefEqProofs [c102_k2,errV,eqV,V.isNil,Opd.isC,c102_k1]
  exact⟨_,rfl,by unfold restP; rw [if_pos h1]; exact .nil⟩
 ·refine⟨rfl,?_⟩
  simp -implicitDefEqProofs [c102_k2,eqV,V.isNil,Opd.isC,c102_k1,c102_k0]
  exact⟨_,rfl,by unfold restP; rw [if_neg h1]; exact hr⟩
theorem s_psq {a b:D}{A B:List W32}(ha:PL a A)(hb:PL b B)(lA:A.length≤400)(lB:B.length≤1000):Dn.Call Γ cx .val 103 [.d a,.d b] St.empty (isPL (sqrP A B)):=by
 refine Dn.Call.body (fc:=c103) rfl ?_
 simp -implicitDefEqProofs [c103,c103_k3]
 refine use_vd [a,b] (s_Squared ha hb lA lB) fun v s hv=>?_
 rcases hv with⟨h1,rfl⟩ | ⟨h1,r,rfl,hr⟩
 ·refine⟨rfl,?_⟩
  simp -implicitDefEqProofs [c103_k2,errV,eqV,V.isNil,Opd.isC,c103_k1]
  exact⟨_,rfl,by unfold sqrP restP; rw [if_pos h1]; exact .nil⟩
 ·refine⟨rfl,?_⟩
  simp -implicitDefEqProofs [c103_k2,eqV,V.isNil,Opd.isC,c103_k1,c103_k0]
  exact⟨_,rfl,hr⟩
def InvTr (p:D)(P:List W32)(c:W32)(m:Nat)(e:Env)(s:St):Prop:=∃ (i:Nat)(o a:D),e=[(0,.d p),(5,.d o),(6,.d a),(11,I i)]∧m=32-i∧i≤32∧PL o (trIt P c i).1∧PL a (trIt P c i).2∧s=St.empty
theorem s_traces {p:D}{P:List W32}(hp:PL p P)(lP:P.length≤100)(c:W32):Dn.Call Γ cx .val 117 [.d p,Xw c] St.empty (isPL (tracesP P c)):=by
 refine Dn.Call.body (fc:=c117) rfl ?_
 have dP:=Gf.dg_le P
 simp -implicitDefEqProofs [c117,c117_k8,c117_k7,isObj,repl,rowsOf,frzV]
 refine use_val (ds:=[.d (.list [[.int .u32 0],[.int .u32 (un c)]]),.d p]) rfl (s_prest (A:=[0,c]) (.list _) hp (by simp) (by omega)) fun v s ⟨x,hv,hx⟩=>?_
 subst hv
 refine⟨rfl,(fun h=>by cases h),?_⟩
 simp -implicitDefEqProofs [c117_k6,c117_k5]
 refine wloopI (InvTr p P c) (m:=32) ⟨0,.nils,x,rfl,rfl,by omega,.nil,hx,rfl⟩ ?_
 rintro m e s ⟨i,o,a,rfl,rfl,hi,ho,ha,rfl⟩
 by_cases hi2:i<32
 rotate_left
 ·obtain rfl:i=32:=by omega
  simp -implicitDefEqProofs [c117_l4,c117_k3,c117_k0]
  exact⟨_,rfl,ho⟩
 have hlt:(i:Int)<32:=by omega
 have w9:IntKind.i64.wrap ((i:Int)+1)=((i+1:Nat):Int):=by rw [wrap_i64 (by omega) (by omega)]; omega
 obtain⟨l1,l2⟩:=trIt_len P c i
 have hs1:(trIt P c (i+1)).1=trim (addP (trIt P c i).1 (trIt P c i).2):=rfl
 have hs2:(trIt P c (i+1)).2=sqrP (trIt P c i).2 P:=rfl
 clear hi2
 simp -implicitDefEqProofs [hlt,c117_l4,c117_k3,c117_k2,isObj,repl,rowsOf,frzV]
 refine use_val (ds:=[.d (.list [[o],[a]])]) rfl (s_Add ho ha (by omega) (by omega)) fun v s ⟨y,hv,hy⟩=>?_
 subst hv
 refine⟨rfl,(fun h=>by cases h),?_⟩
 simp -implicitDefEqProofs [c117_k1]
 refine use_pl [a,p] (s_psq ha hp (by omega) (by omega)) fun z hz=>?_
 simp -implicitDefEqProofs [w9]
 exact⟨32-(i+1),by omega,i+1,y,z,rfl,rfl,by omega,hy,hz,rfl⟩
def InvLin (p x:D)(P:List W32)(m:Nat)(e:Env)(s:St):Prop:=∃ (i:Nat)(a:D),e=[(0,.d p),(3,.d x),(4,.d a),(9,I i)]∧m=32-i∧i≤32∧PL a (linIt P i)∧s=St.empty
theorem s_linear {p:D}{P:List W32}(hp:PL p P)(lP:P.length≤100):Dn.Call Γ cx .val 82 [.d p] St.empty (isPL (linearP P)):=by
 refine Dn.Call.body (fc:=c82) rfl ?_
 have dP:=Gf.dg_le P
 simp -implicitDefEqProofs [c82,c82_k7,isObj,repl,rowsOf,frzV]
 refine use_val (ds:=[.d (.list [[.int .u32 0],[.int .u32 1]]),.d p]) rfl (s_prest (A:=[0,1]) (.list _) hp (by simp) (by omega)) fun v s ⟨x,hv,hx⟩=>?_
 subst hv
 replace hx:PL x (linIt P 0):=hx
 refine⟨rfl,(fun h=>by cases h),?_⟩
 simp -implicitDefEqProofs [c82_k6,c82_k5,c82_k4]
 refine wloopI (InvLin p x P) (m:=32) ⟨0,x,rfl,rfl,by omega,hx,rfl⟩ ?_
 rintro m e s ⟨i,a,rfl,rfl,hi,ha,rfl⟩
 have l1:=linIt_len P i
 have l0:=linIt_len P 0
 by_cases hi2:i<32
 rotate_left
 ·obtain rfl:i=32:=by omega
  simp -implicitDefEqProofs [c82_l3,c82_k2,c82_k0,isObj,repl,rowsOf,frzV]
  refine use_val (ds:=[.d (.list [[a],[x]])]) rfl (s_Add ha hx (by omega) (by omega)) fun v s ⟨y,hv,hy⟩=>?_
  subst hv
  refine⟨rfl,(fun h=>by cases h),?_⟩
  have ly:=Gf.trim_len (addP (linIt P 32) (linIt P 0))
  have ly2:=Gf.dg_le (addP (linIt P 32) (linIt P 0))
  rw [Gf.addP_len] at ly2
  simp -implicitDefEqProofs
  refine use_pl [p,y] (s_Common hp hy (by omega) (by omega)) fun z hz=>?_
  simp -implicitDefEqProofs
  exact⟨_,rfl,hz⟩
 have hlt:(i:Int)<32:=by omega
 have w9:IntKind.i64.wrap ((i:Int)+1)=((i+1:Nat):Int):=by rw [wrap_i64 (by omega) (by omega)]; omega
 clear hi2
 simp -implicitDefEqProofs [hlt,c82_l3,c82_k2,c82_k1]
 refine use_pl [a,p] (s_psq ha hp (by omega) (by omega)) fun z hz=>?_
 simp -implicitDefEqProofs [w9]
 exact⟨32-(i+1),by omega,i+1,z,rfl,rfl,by omega,hz,rfl⟩
theorem s_check {p:D}{P:List W32}(hp:PL p P)(lP:P.length≤1000):Dn.Call Γ cx .val 80 [.d p] St.empty fun v _=>v=errV (if dg P=0∨61<dg P then 1 else 0):=by
 refine Dn.Call.body (fc:=c80) rfl ?_
 have dP:=Gf.dg_le P
 simp -implicitDefEqProofs [c80,c80_k2]
 refine use_fn (ds:=[.d p]) rfl (s_Degree hp (by omega)) rfl ?_
 by_cases h0:dg P=0
 ·have h1:((dg P:Nat):Int)-1<0:=by omega
  rw [if_pos (.inl h0)]
  simp -implicitDefEqProofs [h1,c80_k1,c80_k0,mkifV,errV]
 ·have h1 : ¬ ((dg P:Nat):Int)-1<0:=by omega
  by_cases h2:61<dg P
  ·have h3:(60:Int)<(dg P:Int)-1:=by omega
   rw [if_pos (.inr h2)]
   simp -implicitDefEqProofs [h1,h3,c80_k1,c80_k0,mkifV,errV]
  ·have h3 : ¬ (60:Int)<(dg P:Int)-1:=by omega
   rw [if_neg (by omega)]
   simp -implicitDefEqProofs [h1,h3,c80_k1,c80_k0,mkifV,errV]
end Go.Proofs.Ytmlkdfjojoophaa.T
