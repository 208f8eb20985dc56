import Derived.Test.YtmlkdfjojoophaaF60
namespace Go.Proofs.Ytmlkdfjojoophaa.T
open Go.Dn
attribute [local simp] body_eq globEnv GB List.map_nil List.map_cons List.append_nil w_rangeF i_next i_makeMap i_range i_update i_delete i_entry i_clone entryV cloneV q_rndA q_rndB_n q_rndB_e q_rndB_r setAll w_skip w_ops w_seq w_cond w_block w_exit w_ret q_then_n q_then_e q_then_r q_blk_n q_blk_e q_blk_r q_ops q_cont q_end_n q_end_r q_end_e q_loop_n q_loop_e q_loop_r i_nil i_p i_alloc i_box i_store i_copy i_clear i_call i_callv i_when t_nil t_p t_call t_alloc t_box t_store kept_nil t_copy t_clear q_tcont gsel List.cons_append List.nil_append evalP evalE evalF evalB isObj thaw Opd.ev Env.get Env.set Env.pick putE initEnv evalBin intBin evalUn evalConv goneAll goneOne retV resAll Res.ev tupOf byVals byValsN bv_d bv_da bv_fl bv_tl bn_d bn_da bn_fl bn_tl cx Dn.newObj St.place St.push St.spot St.empty cell_d cell_da cell_agg cell_ref cell_sl cell_fl cell_tl cell_map cell_fn cell_ifc loadAt faddrV partOf extractV mkAgg ofD splice St.setObj fillV
set_option linter.unusedSimpArgs false

open Gf

theorem even_or (y:W32):y&&&0xfffffffe#32=y∨y&&&0xfffffffe#32=y^^^1#32:=by
 have h1 : ∀ i,i<32→BitVec.getLsbD 0xfffffffe#32 i=decide (i≠0):=by decide
 have h2 : ∀ i,i<32→BitVec.getLsbD 1#32 i=decide (i=0):=by decide
 cases hb:y.getLsbD 0 with
 | false =>
  left
  apply BitVec.eq_of_getLsbD_eq
  intro i hi
  rw [BitVec.getLsbD_and,h1 i hi]
  by_cases h0:i=0
  ·rw [h0,hb]; rfl
  ·simp [h0]
 | true =>
  right
  apply BitVec.eq_of_getLsbD_eq
  intro i hi
  rw [BitVec.getLsbD_and,BitVec.getLsbD_xor,h1 i hi,h2 i hi]
  by_cases h0:i=0
  ·rw [h0,hb]; rfl
  ·simp [h0]
theorem pair_law {r1 r2:W32}(h:r1≠r2):mul (mul r1 r2) (mul (inv (r1^^^r2)) (inv (r1^^^r2)))=sq (mul r1 (inv (r1^^^r2)))^^^mul r1 (inv (r1^^^r2))∧mul (r1^^^r2) (mul r1 (inv (r1^^^r2)))=r1∧mul (r1^^^r2) (mul r1 (inv (r1^^^r2))^^^1#32)=r2:=by
 have hb:r1^^^r2≠0:=fun e=>h (xor_zero_eq e)
 have hi:=mul_inv hb
 have h2:r1^^^(r1^^^r2)=r2:=by rw [← BitVec.xor_assoc,Gf.xs,zx]
 generalize r1^^^r2=b at *
 generalize inv b=i at *
 have e1:mul b (mul r1 i)=r1:=by rw [mul_left,hi,mul_one]
 refine⟨?_,e1,?_⟩
 ·rw [← h2,mul_xor,xor_mul,sq_mul]
  congr 1
  rw [← mul_assoc,mul_assoc b i i,hi,one_mul]
 ·have:mul b (1#32)=b:=mul_one b
  rw [mul_xor,e1,this,h2]
theorem s_rPair {r1 r2:W32}(h:r1≠r2) (σ:St):Dn.Call Γ cx .raw 85 [Xw (r1^^^r2),Xw (mul r1 r2)] σ fun v s=>s=σ∧∃ S':List W32,v = .fl (pR S')∧S'.Perm [r1,r2]:=by
 refine Dn.Call.body (fc:=c85) rfl ?_
 obtain⟨p1,p2,p3⟩:=pair_law h
 have hiv:=s_rInv (r1^^^r2)
 generalize r1^^^r2=b at *
 generalize inv b=i at *
 generalize mul r1 r2=c at *
 generalize mul r1 i=y at *
 simp -implicitDefEqProofs [c85,c85_k4]
 refine use_fn rfl hiv rfl ?_
 simp -implicitDefEqProofs [c85_k3]
 refine use_fn rfl (s_rMul i i) rfl ?_
 simp -implicitDefEqProofs
 refine use_fn rfl (s_rMul c (mul i i)) rfl ?_
 rw [p1]
 simp -implicitDefEqProofs
 refine use_fn rfl (s_rSolve y) rfl ?_
 have he:=even_or y
 generalize y&&&0xfffffffe#32=z at *
 simp -implicitDefEqProofs [c85_k2,c85_k1,c85_k0]
 refine use_fn rfl (s_rMul b z) rfl ?_
 have hx1:bits .xor .u32 (un z) 1=un (z^^^1#32):=xor_u32 z 1#32
 simp -implicitDefEqProofs [hx1]
 refine use_fn rfl (s_rMul b (z^^^1#32)) rfl ?_
 have hfin:(∃ S':List W32,(V.fl [[D.int .u32 (un (mul b z))],[D.int .u32 (un (mul b (z^^^1#32)))]]) = .fl (pR S')∧S'.Perm [r1,r2]):=by
  rcases he with rfl | rfl
  ·exact⟨[r1,r2],by rw [p2,p3]; rfl,List.Perm.refl _⟩
  ·rw [BitVec.xor_assoc,BitVec.xor_self,BitVec.xor_zero,p2,p3]
   exact⟨[r2,r1],rfl,List.Perm.swap _ _ _⟩
 generalize mul b z=x1 at *
 generalize mul b (z^^^1#32)=x2 at *
 simp -implicitDefEqProofs [isObj,repl,rowsOf,frzV]
 simpa using hfin

def partsQ (σ:St)(S:List W32):Post:=fun v s=>∃ S':List W32,App s 1 v (pR S')∧S'.Perm S∧s.objs=σ.objs∧Toks σ.toks s.toks none (Dn.own v)
theorem prodL_two (r1 r2:W32):prodL [r1,r2]=[mul r1 r2,r1^^^r2,1]:=by
 show [0^^^mul r1 (0^^^mul r2 1),(0^^^mul r2 1)^^^mul r1 1,1]=_
 rw [zx,zx,mul_one,mul_one,BitVec.xor_comm]
theorem prodL_one (r:W32):prodL [r]=[r,1]:=by
 show [0^^^mul r 1,1]=_
 rw [zx,mul_one]
theorem GoodS.small {S:List W32}{b:Nat}(h:GoodS (S,b))(hl:2≤S.length):b<32:=by
 rcases Nat.lt_or_ge b 32 with h1 | h1
 ·exact h1
 ·exfalso
  have hb:=h.bt
  match S,hl,h with
  | r::s::S,_,h =>
   have:=tr_inj (x:=r) (y:=s) fun j hj=>h.ag r (by simp) s (by simp) j (by simp only; omega)
   have hnd:=h.nd
   simp only [List.nodup_cons] at hnd
   exact hnd.1 (by rw [this]; simp)
theorem GoodS.two {S:List W32}{b:Nat}(hx:GoodS (S,b))(hb:b<32):GoodS (S.filter (fun r=>decide (tr (mul (pw b 1) r)=0)),b+1)∧GoodS (S.filter (fun r=>!decide (tr (mul (pw b 1) r)=0)),b+1):=by
 refine⟨⟨hx.nd.sublist List.filter_sublist,Nat.le_trans (List.length_filter_le _ _) hx.ln,by simp only; omega,fun r hr s hs j hj=>?_⟩,⟨hx.nd.sublist List.filter_sublist,Nat.le_trans (List.length_filter_le _ _) hx.ln,by simp only; omega,fun r hr s hs j hj=>?_⟩⟩
 ·simp only [List.mem_filter,decide_eq_true_eq] at hr hs
  by_cases hjb:j=b
  ·subst hjb; rw [hr.2,hs.2]
  ·exact hx.ag r hr.1 s hs.1 j (by simp only at hj ⊢; omega)
 ·simp only [List.mem_filter,Bool.not_eq_true',decide_eq_false_iff_not] at hr hs
  by_cases hjb:j=b
  ·subst hjb
   rw [(tr_bit _).resolve_left hr.2,(tr_bit _).resolve_left hs.2]
  ·exact hx.ag r hr.1 s hs.1 j (by simp only at hj ⊢; omega)
theorem common_tr {S:List W32}{b:Nat}(hx:GoodS (S,b)):common (prodL S) (rS (prodL S) (pw b 1) 32)=prodL (S.filter fun r=>decide (tr (mul (pw b 1) r)=0))∧common (prodL S) (trim (addP (rS (prodL S) (pw b 1) 32) [1]))=prodL (S.filter fun r=>!decide (tr (mul (pw b 1) r)=0)):=by
 have hev : ∀ r∈S,ev (rS (prodL S) (pw b 1) 32) r=tr (mul (pw b 1) r):=fun r hr=>rS_ev (ev_prodL.2 hr) _ 32
 have h1 : ∀ r∈S,decide (ev (rS (prodL S) (pw b 1) 32) r=0)=decide (tr (mul (pw b 1) r)=0):=fun r hr=>by rw [hev r hr]
 have h2 : ∀ r∈S,decide (ev (trim (addP (rS (prodL S) (pw b 1) 32) [1])) r=0) = !decide (tr (mul (pw b 1) r)=0):=fun r hr=>by
  have e1:ev ([1]:Pl) r=1:=by show 1^^^mul r 0=1; rw [Gf.mul_zero,x0]
  rw [ev_trim,ev_addP,hev r hr,e1]
  rcases tr_bit (mul (pw b 1) r) with h | h
  ·rw [h]; decide
  ·rw [h]; decide
 exact⟨(common_prod hx.nd hx.ln _).trans (congrArg prodL (List.filter_congr h1)),(common_prod hx.nd hx.ln _).trans (congrArg prodL (List.filter_congr h2))⟩
theorem s_rParts : ∀ (k:Nat){S:List W32}{b:Nat}{dp:D} {σ:St},32-b≤k→GoodS (S,b)→S.length≤390→PL dp (prodL S)→Dn.Call Γ cx .raw 67 [.d dp,I b] σ (partsQ σ S):=by
 intro k
 induction k with
 | zero =>
  intro S b dp σ hk hg hl hp
  have hlp : ∀ σ,lenT σ .slice (.d dp)=some (S.length+1):=fun σ=>by rw [hp.len,pR_len,prodL_len]
  refine Dn.Call.body (fc:=c67) rfl ?_
  match S,hg,hl,hp,hlp with
  | [],_,_,hp,hlp =>
   simp -implicitDefEqProofs [c67,c67_k10,c67_k9,hlp,c67_k8]
   exact⟨[],.nil,List.Perm.refl _,rfl,Toks.refl _ _⟩
  | [r],_,_,hp,hlp =>
   rw [prodL_one] at hp
   have hia:=fun σ=>hp.iaddr σ (k:=.i64) (sz:=1) (i:=0) (pR_at (w:=r) rfl) rfl
   have hia2 : ∀ σ,iaddrV σ 1 (.d dp) (I 0)=some (.ro [D.int .u32 (un r)]):=hia
   simp -implicitDefEqProofs [c67,c67_k10,c67_k9,hlp,c67_k8,c67_k7,c67_k6,hia2,isObj,repl,rowsOf,frzV]
   exact⟨[r],.fl _,List.Perm.refl _,rfl,Toks.refl _ _⟩
  | r1::r2::S,hg,_,_,_ =>
   have:=hg.small (by simp)
   omega
 | succ k ih =>
  intro S b dp σ hk hg hl hp
  have hlp : ∀ σ,lenT σ .slice (.d dp)=some (S.length+1):=fun σ=>by rw [hp.len,pR_len,prodL_len]
  refine Dn.Call.body (fc:=c67) rfl ?_
  match S,hg,hl,hp,hlp with
  | [],_,_,hp,hlp =>
   simp -implicitDefEqProofs [c67,c67_k10,c67_k9,hlp,c67_k8]
   exact⟨[],.nil,List.Perm.refl _,rfl,Toks.refl _ _⟩
  | [r],_,_,hp,hlp =>
   rw [prodL_one] at hp
   have hia:=fun σ=>hp.iaddr σ (k:=.i64) (sz:=1) (i:=0) (pR_at (w:=r) rfl) rfl
   have hia2 : ∀ σ,iaddrV σ 1 (.d dp) (I 0)=some (.ro [D.int .u32 (un r)]):=hia
   simp -implicitDefEqProofs [c67,c67_k10,c67_k9,hlp,c67_k8,c67_k7,c67_k6,hia2,isObj,repl,rowsOf,frzV]
   exact⟨[r],.fl _,List.Perm.refl _,rfl,Toks.refl _ _⟩
  | [r1,r2],hg,_,hp,hlp =>
   rw [prodL_two] at hp
   have hne:r1≠r2:=fun e=>by
    have:=hg.nd
    simp [e] at this
   have hia0 : ∀ σ,iaddrV σ 1 (.d dp) (I 0)=some (.ro [D.int .u32 (un (mul r1 r2))]):=fun σ=>hp.iaddr σ (k:=.i64) (sz:=1) (i:=0) (pR_at (w:=mul r1 r2) rfl) rfl
   have hia1 : ∀ σ,iaddrV σ 1 (.d dp) (I 1)=some (.ro [D.int .u32 (un (r1^^^r2))]):=fun σ=>hp.iaddr σ (k:=.i64) (sz:=1) (i:=1) (pR_at (w:=r1^^^r2) rfl) rfl
   have hpair:=fun σ=>s_rPair hne σ
   generalize mul r1 r2=c at *
   generalize r1^^^r2=b1 at *
   simp -implicitDefEqProofs [c67,c67_k10,c67_k9,hlp,c67_k8,c67_k7,c67_k6,c67_k5,c67_k4]
   refine w_drwX (fun _=>.raw) [] (by decide +kernel) ?_
   simp only [room_zero]
   simp -implicitDefEqProofs [hia0,hia1]
   refine use_rawN rfl (hpair σ) ⟨_,σ,rfl,[r1,r2],rfl,List.Perm.refl _⟩ fun v s ⟨hs,S',hv,hS⟩=>?_
   subst hs
   subst hv
   simp -implicitDefEqProofs
   exact⟨S',.fl _,hS,rfl,Toks.refl _ _⟩
  | r1::r2::r3::S,hg,hl,hp,hlp =>
   have hb:=hg.small (by simp)
   have hpl:=prodL_len (r1::r2::r3::S)
   have hpd:=prodL_dg (r1::r2::r3::S)
   obtain⟨g1,g2⟩:=hg.two hb
   obtain⟨c1,c2⟩:=common_tr hg
   have hperm:=List.filter_append_perm (fun r=>decide (tr (mul (pw b 1) r)=0)) (r1::r2::r3::S)
   have hlen:(r1::r2::r3::S).length=S.length+3:=rfl
   have hl1:=List.length_filter_le (fun r=>decide (tr (mul (pw b 1) r)=0)) (r1::r2::r3::S)
   have hl2:=List.length_filter_le (fun r=>!decide (tr (mul (pw b 1) r)=0)) (r1::r2::r3::S)
   rw [hlen] at hlp hl hpl hpd hl1 hl2
   generalize r1::r2::r3::S=SS at *
   have hrl:=rS_len (p:=prodL SS) (by omega) (pw b 1) 32
   have wb:IntKind.u64.wrap (b:Int)=(b:Int):=wrap_u64 (by omega) (by omega)
   have wb1:IntKind.i64.wrap ((b:Int)+1)=((b+1:Nat):Int):=by rw [wrap_i64 (by omega) (by omega)]; omega
   have h1:shiftBin .shl .u32 1 (b:Int)=some (Xw (pw b 1)):=by
    rw [pw_one b hb]
    exact shl_32 1#32 b hb
   have hla:(addP (rS (prodL SS) (pw b 1) 32) [1]).length≤500:=by
    rw [addP_len]
    simp only [List.length_cons,List.length_nil]
    omega
   have hlt:=dg_le (addP (rS (prodL SS) (pw b 1) 32) [1])
   rw [← trim_len] at hlt
   have hT:=s_rTraces hp (by omega) (by omega) (pw b 1)
   generalize hA:SS.filter (fun r=>decide (tr (mul (pw b 1) r)=0))=A at *
   generalize hB:SS.filter (fun r=>!decide (tr (mul (pw b 1) r)=0))=B at *
   generalize pw b 1=cb at *
   have n1 : ¬ S.length+3+1<2:=by omega
   have n1I : ¬ ((S.length:Int)+3+1)<2:=by omega
   have n2I : ¬ ((S.length:Int)+3+1)=2:=by omega
   have n3I : ¬ ((S.length:Int)+3+1)=3:=by omega
   simp -implicitDefEqProofs [c67,c67_k10,c67_k9,hlp,n1I,n2I,n3I,c67_k8,c67_k7,c67_k6,c67_k5,c67_k4,c67_k3,wb,h1]
   refine use_val (ds:=[.d dp,Xw cb]) rfl hT fun w s ⟨dt,hw,hdt⟩=>?_
   subst hw
   refine⟨rfl,fun h=>Bool.noConfusion (show false=true from h),?_⟩
   simp -implicitDefEqProofs [c67_k2]
   refine use_pl [dp,dt] (s_rCommon _ hp hdt (by omega) (by omega) (Nat.le_refl _)) fun da hda=>?_
   rw [c1] at hda
   have h2:Dn.Call Γ cx .val 88 [.d dt,.d (.list (pR [1]))] St.empty (isPL (trim (addP (rS (prodL SS) cb 32) [1]))):=s_rAdd hdt (.list _) (by omega) (by simp)
   simp -implicitDefEqProofs [c67_k1,isObj,repl,rowsOf,frzV]
   refine use_val (ds:=[.d dt,.d (.list (pR [1]))]) rfl h2 fun w s ⟨d1,hw,hd1⟩=>?_
   subst hw
   refine⟨rfl,fun h=>Bool.noConfusion (show false=true from h),?_⟩
   simp -implicitDefEqProofs
   refine use_pl [dp,d1] (s_rCommon _ hp hd1 (by omega) (by omega) (Nat.le_refl _)) fun db hdb=>?_
   rw [c2] at hdb
   simp -implicitDefEqProofs [c67_k0,wb1]
   refine use_raw (ih (by omega) g1 (by omega) hda) fun v1 s1 ⟨S1,a1,q1,o1,t1⟩=>?_
   simp -implicitDefEqProofs [wb1]
   refine use_raw (ih (by omega) g2 (by omega) hdb) fun v2 s2 ⟨S2,a2,q2,o2,t2⟩=>?_
   have a1':App s2 1 v1 (pR S1):=a1.other t2 (fun t _ h=>by cases h)
   have e1:=q1.length_eq
   have e2:=q2.length_eq
   obtain⟨v3,s3,hap,a3,o3,t3,-⟩:=a1'.push (bytes:=4) (by decide) (pR_fit _) (ys:=pR S2) (pR_fit _) (by simp [pR_len]; omega) (by simp [pR_len]; omega)
   simp -implicitDefEqProofs
   refine i_app_f (v:=v3) (s:=s3) ?_ ?_
   ·simp [evalE,Opd.ev,Env.get,a2.lv.rows]
    exact hap _
   simp -implicitDefEqProofs
   rw [← pR_app] at a3
   refine⟨S1++S2,a3,(q1.append q2).trans hperm,by rw [o3,o2,o1],?_⟩
   refine⟨Nat.le_trans t1.len (Nat.le_trans t2.len t3.len),fun t k ht hne=>?_,?_⟩
   ·have hlt:=(List.getElem?_eq_some_iff.1 ht).1
    refine t3.other t k (t2.other t k (t1.other t k ht hne) (fun e=>by cases e)) fun e=>?_
    rcases t1.own with h | ⟨t',h,hle⟩
    ·rw [h] at e; cases e
    ·rw [h] at e; cases e; omega
   ·rcases t3.own with h | ⟨t',h,hle⟩
    ·rcases t1.own with h' | ⟨t',h',hle⟩
     ·rw [h,h']; exact .inl rfl
     ·rw [h,h']; exact .inr ⟨t',rfl,hle⟩
    ·exact .inr ⟨t',h,Nat.le_trans t1.len (Nat.le_trans t2.len hle)⟩

open Gf

abbrev leW (a b:W32):Prop:=un a≤un b
def Own (s:St)(v:V)(L:List W32):Prop:=(L=[]∧v = .d .nils)∨∃ r,v = .sl r 0 L.length 1∧s.objs[r]?=some (.cells (wV L))∧L≠[]
theorem Own.rd {s:St}{v:V}{L:List W32}(h:Own s v L):Rd s v L:=by
 rcases h with⟨rfl,rfl⟩ | ⟨r,rfl,ho,-⟩
 ·exact .lv .nil
 ·exact .whole ho
theorem Own.push {s:St}{v:V}{L:List W32}(h:Own s v L)(hl:L.length≤100000)(x:W32) : ∃ r s',appendM s none 1 4 v [[.int .u32 (un x)]]=some (.sl r 0 (L.length+1) 1,s')∧s'.objs[r]?=some (.cells (wV (L++[x]))):=by
 rcases h with⟨rfl,rfl⟩ | ⟨r,rfl,ho,hne⟩
 ·exact⟨s.objs.length,⟨s.objs++[.cells [Xw x]],s.toks⟩,by simp [appendM,fitR,newObj,St.place,St.push,St.spot],by simp [wV]⟩
 ·have hpos:0<L.length:=List.length_pos_iff.2 hne
  have etk:(wV L).take L.length=wV L:=List.take_of_length_le (by simp [wV])
  refine⟨s.objs.length,⟨(s.objs.set r .dead)++[.cells (wV L++[Xw x])],s.toks⟩,?_,by simp [List.getElem?_append,wV]⟩
  simp only [appendM,ho,fitR,wV_len,List.drop_zero,Nat.mul_one,etk]
  simp [newObj,St.place,St.push,St.spot,St.setObj,hpos,show(L.length+1)*4≤140737488355328 by omega,show L.length+1≤9223372036854775807 by omega]
theorem set_two (A:List W32)(a x:W32)(B:List W32):((A++a::x::B).set A.length x).set (A.length+1) a=A++x::a::B:=by
 rw [List.set_append_right _ _ (Nat.le_refl _),Nat.sub_self,List.set_cons_zero,List.set_append_right _ _ (by omega),show A.length+1-A.length=1 by omega,List.set_cons_succ,List.set_cons_zero]
theorem pw_ins {A B:List W32}{x:W32}(h:(A++B).Pairwise leW)(h1 : ∀ a∈A,leW a x)(h2 : ∀ b∈B,leW x b):(A++x::B).Pairwise leW:=by
 rw [List.pairwise_append] at h ⊢
 refine⟨h.1,List.pairwise_cons.2 ⟨h2,h.2.1⟩,fun a ha b hb=>?_⟩
 rcases List.mem_cons.1 hb with rfl | hb
 ·exact h1 a ha
 ·exact h.2.2 a ha b hb
structure Ins1 (S:List W32)(i k r:Nat)(s:St):Prop where
 ex : ∃ (A:List W32) (x:W32) (B:List W32),A.length=k∧s.objs[r]?=some (.cells (wV (A++x::B)))∧(A++B).Pairwise leW∧(∀ b∈B,leW x b)∧(A++x::B).Perm (S.take (i+1))
def InvIns (v:V)(S:List W32)(i r:Nat)(m:Nat)(e:Env)(s:St):Prop:=∃ k:Nat,e=[(3,v),(4,.sl r 0 (i+1) 1),(5,I i),(6,I k)]∧k=m∧Ins1 S i k r s
theorem all_in {v:V}{S:List W32}{i r:Nat}{s:St}{Q:PostC}(hi:i<S.length)(hS:S.length≤10000){L:List W32}(hL:L.length=i)(hp:L.Pairwise leW)(hpm:L.Perm (S.take i)){x:W32}(hx:S[i]?=some x)(ho:s.objs[r]?=some (.cells (wV (L++[x]))))
  (hQ : ∀ (s':St) (k:Nat) (L':List W32) (tl:Env),L'.length=i+1→s'.objs[r]?=some (.cells (wV L'))→L'.Pairwise leW→L'.Perm (S.take (i+1))→Q .normal ((3,v)::(4,.sl r 0 (i+1) 1)::(5,I i)::(6,I k)::[(37,B false)]) s') :
  wcode (Dn.Call Γ cx) cx c47_k7 [(3,v),(4,.sl r 0 (i+1) 1),(5,I i),(6,I i)] s Q:=by
 have htk:S.take (i+1)=S.take i++[x]:=by rw [List.take_add_one,hx]; rfl
 simp -implicitDefEqProofs [c47_k7]
 refine wloopI (InvIns v S i r) (m:=i) ⟨i,rfl,rfl,⟨L,x,[],hL,ho,by rw [List.append_nil]; exact hp,by simp,by rw [htk]; exact hpm.append_right _⟩⟩ ?_
 clear hp hpm ho hL L hx htk x
 rintro m e s ⟨k,rfl,rfl,⟨A,x,Bs,hA,ho,hp,hB,hpm⟩⟩
 have hlen:=hpm.length_eq
 rw [List.length_append,List.length_cons,List.length_take,Nat.min_eq_left (by omega),hA] at hlen
 have hk:k≤i:=by omega
 have w1:IntKind.i64.wrap ((k:Int)-1)=(k:Int)-1:=wrap_i64 (by omega) (by omega)
 have fin:(∀ a∈A,leW a x)→Q .normal [(3,v),(4,.sl r 0 (i+1) 1),(5,I i),(6,I k),(37,B false)] s:=fun h =>
  hQ s k _ [] (by simp [hA]; omega) ho (pw_ins hp h hB) hpm
 simp only [body_eq,globEnv,GB,List.map_nil,List.map_cons,List.append_nil,w_rangeF,i_next,i_makeMap,i_range,i_update,i_delete,i_entry,i_clone,entryV,cloneV,q_rndA,q_rndB_n,q_rndB_e,q_rndB_r,setAll,w_skip,w_ops,w_seq,w_cond,w_block,w_exit,w_ret,q_then_n,q_then_e,q_then_r,q_blk_n,q_blk_e,q_blk_r,q_ops,q_cont,q_end_n,q_end_r,q_end_e,q_loop_n,q_loop_e,q_loop_r,i_nil,i_p,i_alloc,i_box,i_store,i_copy,i_clear,i_call,i_callv,i_when,t_nil,t_p,t_call,t_alloc,t_box,t_store,kept_nil,t_copy,t_clear,q_tcont,gsel,List.cons_append,List.nil_append,evalP,evalE,evalF,evalB,isObj,thaw,Opd.ev,Env.get,Env.set,Env.pick,putE,initEnv,evalBin,intBin,evalUn,evalConv,goneAll,goneOne,retV,resAll,Res.ev,tupOf,byVals,byValsN,bv_d,bv_da,bv_fl,bv_tl,bn_d,bn_da,bn_fl,bn_tl,cx,Dn.newObj,St.place,St.push,St.spot,St.empty,cell_d,cell_da,cell_agg,cell_ref,cell_sl,cell_fl,cell_tl,cell_map,cell_fn,cell_ifc,loadAt,faddrV,partOf,extractV,mkAgg,ofD,splice,St.setObj,fillV,c47_l6]
 refine w_drwX (fun _=>.val) [] (by decide +kernel) ?_
 simp only [room_zero]
 cases k with
 | zero =>
  have hA0:A=[]:=List.eq_nil_of_length_eq_zero hA
  have:=fin (by simp [hA0])
  simp -implicitDefEqProofs [c47_k5]
  exact this
 | succ j =>
  obtain⟨A',a,rfl⟩ : ∃ A' a,A=A'++[a]:=by
   have hne:A≠[]:=fun e=>by rw [e] at hA; simp at hA
   exact⟨A.dropLast,A.getLast hne,(List.dropLast_concat_getLast hne).symm⟩
  have hA':A'.length=j:=by simpa using hA
  have eL:A'++[a]++x::Bs=A'++a::x::Bs:=by simp
  rw [eL] at ho hpm
  have ha1:(A'++a::x::Bs)[j]?=some a:=by rw [← hA',List.getElem?_append_right (Nat.le_refl _)]; simp
  have hx1:(A'++a::x::Bs)[j+1]?=some x:=by rw [← hA',List.getElem?_append_right (by omega)]; simp
  have hwa:=wV_at ha1
  have hwx:=wV_at hx1
  have hset:=wV_set (L:=A'++a::x::Bs) (i:=j) (by simp; omega) x
  have hset2:=wV_set (L:=(A'++a::x::Bs).set j x) (i:=j+1) (by simp; omega) a
  have hst:=set_two A' a x Bs
  rw [hA'] at hst
  rw [hst] at hset2
  have hwl:=wV_len (A'++a::x::Bs)
  have hwl2:=wV_len ((A'++a::x::Bs).set j x)
  have hl0:(A'++a::x::Bs).length=i+1:=by simp [hA']; omega
  rw [List.length_set,hl0] at hwl2
  rw [hl0] at hwl
  have hrl:r<s.objs.length:=(List.getElem?_eq_some_iff.1 ho).1
  have ia1:=fun σ=>iaddr_sl σ (q:=r) (n:=i+1) (i:=j) (by omega)
  have ia2:=fun σ=>iaddr_sl σ (q:=r) (n:=i+1) (i:=j+1) (by omega)
  have wj:IntKind.i64.wrap (j:Int)=(j:Int):=wrap_i64 (by omega) (by omega)
  generalize hM:(A'++a::x::Bs).set j x=M at *
  have hAx:A'++x::a::Bs=A'++x::(a::Bs):=rfl
  generalize hL:A'++a::x::Bs=L at *
  clear w1 hA hst
  obtain⟨k,hkd⟩ : ∃ k,j+1=k:=⟨_,rfl⟩
  have wk:IntKind.i64.wrap ((k:Int)-1)=(j:Int):=by rw [← hkd,show((j+1:Nat):Int)-1=(j:Int) by omega]; exact wj
  have ek:0<k:=by omega
  have ekI:(0:Int)<k:=by omega
  have ia3 : ∀ σ,iaddrV σ 1 (.sl r 0 (i+1) 1) (I k)=some (.ref r k):=by rw [← hkd]; exact ia2
  have hwx':(wV L)[k]?=some (Xw x):=by rw [← hkd]; exact hwx
  have hset2':splice (wV M) k [Xw a]=wV (A'++x::a::Bs):=by rw [← hkd]; exact hset2
  have hki:k≤i:=by omega
  clear ia2 hwx hset2 hx1
  rw [hkd] at fin
  have hexit : ¬ (un x<un a)→_:=fun h=>(by
   have:=fin (fun c hc=>by
    rcases List.mem_append.1 hc with hc | hc
    ·have h1:=(List.pairwise_append.1 (List.pairwise_append.1 hp).1).2.2 c hc a (by simp)
     have:un a≤un x:=by omega
     exact Int.le_trans h1 this
    ·simp only [List.mem_singleton] at hc
     subst hc
     show un c≤un x
     omega)
   exact this)
  have hst2 : ∀ o:Dn.Obj,(s.objs.set r o)[r]?=some o:=fun o=>by simp [hrl]
  rw [hkd]
  simp -implicitDefEqProofs [ek,ekI,wk,ia1,ia3,ho,hwa,hwx']
  by_cases hgt:un x<un a
  ·simp -implicitDefEqProofs [hgt,c47_k5,c47_k4,c47_k3]
   refine w_drwX (fun _=>.val) [] (by decide +kernel) ?_
   simp only [room_zero]
   simp -implicitDefEqProofs [-splice,wk,ia1,ia3,ho,hwa,hwx',hwl,show j+1≤i+1 by omega,hset,hst2,hwl2,show k+1≤i+1 by omega,hset2',c47_k2]
   refine⟨j,by omega,j,rfl,rfl,⟨A',x,a::Bs,hA',by simp [hrl],by simpa using hp,fun b hb=>?_,?_⟩⟩
   ·rcases List.mem_cons.1 hb with rfl | hb
    ·exact Int.le_of_lt hgt
    ·exact hB b hb
   ·refine List.Perm.trans ?_ hpm
    rw [← hL]
    exact List.Perm.append_left _ (List.Perm.swap _ _ _)
  ·simp -implicitDefEqProofs [hgt,c47_k5]
   exact hexit hgt
structure AllQ (p:Pl)(L:List W32):Prop where
 up:L.Pairwise leW
 nd:L.Nodup
 mem : ∀ r,r∈L↔ev p r=0
 ln:L.length<dg p
def InvAll (v:V)(S:List W32)(m:Nat)(e:Env)(s:St):Prop:=∃ (i:Nat)(w:V)(L:List W32),e=[(3,v),(4,w),(5,I i)]∧i+m=S.length∧Own s w L∧L.Pairwise leW∧L.Perm (S.take i)
theorem s_rAll {dp:D}{p:Pl}(hp:PL dp p)(h0:dg p≠0)(ht:dg p=p.length)(lp:p.length≤390):Dn.Call Γ cx .val 47 [.d dp] St.empty fun v _=>∃ d L,v = .d d∧PL d L∧AllQ p L:=by
 refine Dn.Call.body (fc:=c47) rfl ?_
 obtain⟨S,s1,s2,s3,s4⟩:=linear_all h0 ht (by omega)
 have hlin:=s_rLinear hp (by omega) h0
 rw [s4] at hlin
 simp -implicitDefEqProofs [c47,c47_k16]
 refine use_pl [dp] hlin fun dl hdl=>?_
 have hg:GoodS (S,0):=⟨s1,by simp only; omega,by simp,fun r _ s _ j hj=>by simp at hj⟩
 have hparts : ∀ σ,Dn.Call Γ cx .raw 67 [.d dl,I ((0:Nat):Int)] σ (partsQ σ S):=fun σ=>s_rParts 32 (by omega) hg (by omega) hdl
 simp -implicitDefEqProofs
 refine use_raw (hparts _) fun v s ⟨S',a1,q1,o1,t1⟩=>?_
 have hS':=q1.length_eq
 have hlv:=a1.lv
 have hld:=fun σ=>hlv.len σ
 rw [pR_len] at hld
 have hmem : ∀ r,r∈S'↔ev p r=0:=fun r=>by rw [q1.mem_iff,s3]
 have hnd:=q1.nodup_iff.2 s1
 clear hparts hlin a1 t1 o1 q1 hg hdl
 simp -implicitDefEqProofs [c47_k15,c47_k14,c47_k13]
 refine wloopI (InvAll v S') (m:=S'.length) ⟨0,_,[],rfl,by omega,.inl ⟨rfl,rfl⟩,List.Pairwise.nil,by simp⟩ ?_
 rintro m e s ⟨i,w,L,rfl,hm,hO,hL,hpm⟩
 have hLl:=hpm.length_eq
 rw [List.length_take,Nat.min_eq_left (by omega)] at hLl
 by_cases hlt:i<S'.length
 ·have hltI:(i:Int)<S'.length:=by omega
  obtain⟨x,hx⟩ : ∃ x,S'[i]?=some x:=⟨_,List.getElem?_eq_getElem hlt⟩
  have hia:=fun σ=>hlv.iaddr σ (k:=.i64) (sz:=1) (i:=i) (pR_at hx) rfl
  obtain⟨r,s',ap,ho⟩:=hO.push (by omega) x
  rw [hLl] at ap
  simp -implicitDefEqProofs [hld,hltI,hlt,c47_l12,c47_k11,c47_k10,c47_k9,hia,isObj,repl,rowsOf,frzV]
  refine i_app_m (v:=.sl r 0 (i+1) 1) (s:=s') ?_ ?_
  ·simp [evalM,Opd.ev,Env.get,V.rows]
   exact ap
  simp -implicitDefEqProofs [c47_k8]
  refine all_in hlt (by omega) hLl hL hpm hx ho fun s2 k L' tl hl2 ho2 hp2 hpm2=>?_
  have w9:IntKind.i64.wrap ((i:Int)+1)=((i+1:Nat):Int):=by rw [wrap_i64 (by omega) (by omega)]; omega
  simp -implicitDefEqProofs [c47_k1,w9]
  refine⟨m-1,by omega,i+1,_,L',rfl,by omega,.inr ⟨r,by rw [hl2],ho2,fun e=>by rw [e] at hl2; simp at hl2⟩,hp2,hpm2⟩
 ·have hltI : ¬ (i:Int)<S'.length:=by omega
  obtain rfl:i=S'.length:=by omega
  rw [List.take_length] at hpm
  obtain⟨d,b1,l1⟩:=hO.rd.byVal
  simp -implicitDefEqProofs [hld,c47_l12,c47_k11,c47_k0,b1]
  exact⟨L,l1,hL,hpm.nodup_iff.2 hnd,fun r=>by rw [hpm.mem_iff,hmem],by omega⟩
end Go.Proofs.Ytmlkdfjojoophaa.T

namespace Go.Proofs.Ytmlkdfjojoophaa.T
open Go.Dn
set_option linter.unusedSimpArgs false

open Gf

abbrev Mt:=Nat→Nat→W32
def Sol (A:Mt)(v:Nat)(c:Nat→W32):Prop:=∀ i,i<v→(sum v fun j=>mul (A i j) (c j))=A i v
def Ker (A:Mt)(v:Nat)(z:Nat→W32):Prop:=∀ i,i<v→(sum v fun j=>mul (A i j) (z j))=0
structure Elim (A0 A:Mt)(v col:Nat):Prop where
 sol : ∀ c,Sol A0 v c→Sol A v c
 ker : ∀ z,Ker A v z→Ker A0 v z
 uni : ∀ i j,i<v→j<col→A i j=if i=j then 1 else 0
theorem sum_one {v:Nat}{f:Nat→W32}{k:Nat}(hk:k<v)(h : ∀ j,j<v→j≠k→f j=0):sum v f=f k:=by
 induction v with
 | zero=>omega
 | succ v ih =>
  show sum v f^^^f v=f k
  by_cases hv:k=v
  ·subst hv
   rw [sum_congr (g:=fun _=>0) fun j hj=>h j (by omega) (by omega),sum_zero,zx]
  ·rw [ih (by omega) fun j hj=>h j (by omega),h v (by omega) (fun e=>hv e.symm),x0]
theorem sum_two {v:Nat}{f:Nat→W32}{k l:Nat}(hk:k<v)(hl:l<v)(hkl:k≠l)(h : ∀ j,j<v→j≠k→j≠l→f j=0):sum v f=f k^^^f l:=by
 have h1:sum v f=sum v (fun j=>if j=k then f k else 0)^^^sum v (fun j=>if j=k then 0 else f j):=by
  rw [← sum_xor]
  refine sum_congr fun j hj=>?_
  by_cases hjk:j=k
  ·subst hjk; simp
  ·simp [hjk]
 rw [h1,sum_one hk (fun j _ hjk=>if_neg hjk),if_pos rfl,sum_one hl (fun j hj hjl=>by
  by_cases hjk:j=k
  ·rw [if_pos hjk]
  ·rw [if_neg hjk,h j hj hjk hjl]),if_neg (fun e=>hkl e.symm)]
theorem Elim.none {A0 A:Mt}{v col:Nat}(h:Elim A0 A v col)(hc:col<v)(h0 : ∀ i,col≤i→i<v→A i col=0) : ∃ z,(∃ j,j<v∧z j≠0)∧Ker A0 v z:=by
 refine⟨fun j=>if j<col then A j col else if j=col then 1 else 0,⟨col,hc,?_⟩,h.ker _ fun i hi=>?_⟩
 ·simp only [Nat.lt_irrefl,if_false,if_true]
  decide
 ·by_cases hic:i<col
  ·rw [sum_two (k:=i) (l:=col) hi hc (by omega) fun j hj h1 h2=>?_]
   ·simp only [hic,Nat.lt_irrefl,if_true,if_false]
    rw [h.uni i i hi hic,if_pos rfl,one_mul,mul_one,Gf.xs]
   ·by_cases hjc:j<col
    ·simp only [hjc,if_true]
     rw [h.uni i j hi hjc,if_neg (fun e=>h1 e.symm),zero_mul]
    ·simp only [hjc,if_false,h2,Gf.mul_zero]
  ·rw [sum_congr (g:=fun _=>0) fun j hj=>?_,sum_zero]
   by_cases hjc:j<col
   ·rw [h.uni i j hi hjc,if_neg (by omega),zero_mul]
   ·by_cases hj2:j=col
    ·rw [hj2,h0 i (by omega) hi,zero_mul]
    ·simp only [hjc,if_false,hj2,Gf.mul_zero]
def swpI (i j k:Nat):Nat:=if k=i then j else if k=j then i else k
theorem swpI_lt {i j k v:Nat}(hi:i<v)(hj:j<v)(hk:k<v):swpI i j k<v:=by
 unfold swpI
 split
 ·exact hj
 ·split <;> omega
theorem swpI_two (i j k:Nat):swpI i j (swpI i j k)=k:=by
 unfold swpI
 by_cases h1:k=i
 ·subst h1
  by_cases h2:j=k <;> simp [h2]
 ·by_cases h2:k=j
  ·subst h2; simp [h1]
  ·simp [h1,h2]
theorem Elim.swap {A0 A A':Mt}{v col k:Nat}(h:Elim A0 A v col)(hc:col<v)(hk:k<v)(hck:col≤k)(hA : ∀ i j,i<v→j≤v→A' i j=A (swpI col k i) j):Elim A0 A' v col:=by
 refine⟨fun c hs i hi=>?_,fun z hz=>h.ker z fun i hi=>?_,fun i j hi hj=>?_⟩
 ·rw [sum_congr fun j hj=>by rw [hA i j hi (by omega)],hA i v hi (Nat.le_refl _)]
  exact h.sol c hs _ (swpI_lt hc hk hi)
 ·have:=hz (swpI col k i) (swpI_lt hc hk hi)
  rw [sum_congr fun j hj=>by rw [hA _ j (swpI_lt hc hk hi) (by omega),swpI_two]] at this
  exact this
 ·rw [hA i j hi (by omega),h.uni _ j (swpI_lt hc hk hi) hj]
  congr 1
  unfold swpI
  apply propext
  split
  ·constructor <;> intro h <;> omega
  ·split
   ·constructor <;> intro h <;> omega
   ·exact Iff.rfl
theorem Elim.scale {A0 A A':Mt}{v col:Nat}(h:Elim A0 A v col)(hc:col<v){t:W32}(ht:t≠0)(h1 : ∀ j,j≤v→A' col j=mul (A col j) t)(h2 : ∀ i j,i<v→i≠col→j≤v→A' i j=A i j):Elim A0 A' v col:=by
 have key : ∀ c:Nat→W32,(sum v fun j=>mul (A' col j) (c j))=mul t (sum v fun j=>mul (A col j) (c j)):=fun c=>by
  rw [sum_lin (φ:=mul t) (Gf.mul_zero t) (fun a b=>mul_xor t a b)]
  exact sum_congr fun j hj=>by rw [h1 j (by omega),mul_comm (A col j) t,mul_assoc]
 refine⟨fun c hs i hi=>?_,fun z hz=>h.ker z fun i hi=>?_,fun i j hi hj=>?_⟩
 ·by_cases hic:i=col
  ·subst hic
   rw [key,h.sol c hs i hi,h1 v (Nat.le_refl _),mul_comm]
  ·rw [sum_congr fun j hj=>by rw [h2 i j hi hic (by omega)],h2 i v hi hic (Nat.le_refl _)]
   exact h.sol c hs i hi
 ·by_cases hic:i=col
  ·subst hic
   have:=hz i hi
   rw [key] at this
   exact(mul_eq_zero this).resolve_left ht
  ·have:=hz i hi
   rwa [sum_congr fun j hj=>by rw [h2 i j hi hic (by omega)]] at this
 ·by_cases hic:i=col
  ·subst hic
   rw [h1 j (by omega),h.uni i j hi hj,if_neg (by omega),zero_mul]
  ·rw [h2 i j hi hic (by omega),h.uni i j hi hj]
theorem Elim.add {A0 A A':Mt}{v col r:Nat}(h:Elim A0 A v col)(hc:col<v)(hr:r<v)(hrc:r≠col){b:W32}(h1 : ∀ j,j≤v→A' r j=A r j^^^mul b (A col j))(h2 : ∀ i j,i<v→i≠r→j≤v→A' i j=A i j):Elim A0 A' v col:=by
 have key : ∀ c:Nat→W32,(sum v fun j=>mul (A' r j) (c j))=(sum v fun j=>mul (A r j) (c j))^^^mul b (sum v fun j=>mul (A col j) (c j)):=fun c=>by
  rw [sum_lin (φ:=mul b) (Gf.mul_zero b) (fun a c=>mul_xor b a c),← sum_xor]
  exact sum_congr fun j hj=>by rw [h1 j (by omega),xor_mul,mul_assoc]
 have kc : ∀ c:Nat→W32,(sum v fun j=>mul (A' col j) (c j))=sum v fun j=>mul (A col j) (c j):=fun c=>sum_congr fun j hj=>by rw [h2 col j hc (fun e=>hrc e.symm) (by omega)]
 refine⟨fun c hs i hi=>?_,fun z hz=>h.ker z fun i hi=>?_,fun i j hi hj=>?_⟩
 ·by_cases hir:i=r
  ·subst hir
   rw [key,h.sol c hs i hi,h.sol c hs col hc,h1 v (Nat.le_refl _)]
  ·rw [sum_congr fun j hj=>by rw [h2 i j hi hir (by omega)],h2 i v hi hir (Nat.le_refl _)]
   exact h.sol c hs i hi
 ·by_cases hir:i=r
  ·subst hir
   have h3:=hz i hi
   have h4:=hz col hc
   rw [kc] at h4
   rw [key,h4,Gf.mul_zero,x0] at h3
   exact h3
  ·have:=hz i hi
   rwa [sum_congr fun j hj=>by rw [h2 i j hi hir (by omega)]] at this
 ·by_cases hir:i=r
  ·subst hir
   rw [h1 j (by omega),h.uni i j hi hj,h.uni col j hc hj,if_neg (show ¬ col=j by omega),Gf.mul_zero,x0]
  ·rw [h2 i j hi hir (by omega),h.uni i j hi hj]
theorem Elim.next {A0 A:Mt}{v col:Nat}(h:Elim A0 A v col)(hu : ∀ i,i<v→A i col=if i=col then 1 else 0):Elim A0 A v (col+1) :=
 ⟨h.sol,h.ker,fun i j hi hj=>by
  by_cases hjc:j=col
  ·subst hjc; exact hu i hi
  ·exact h.uni i j hi (by omega)⟩
theorem Elim.done {A0 A:Mt}{v:Nat}(h:Elim A0 A v v){c:Nat→W32}(hs:Sol A0 v c){i:Nat}(hi:i<v):A i v=c i:=by
 have:=h.sol c hs i hi
 rw [sum_one hi fun j hj hji=>by rw [h.uni i j hi hj,if_neg (fun e=>hji e.symm),zero_mul],h.uni i i hi hi,if_pos rfl,one_mul] at this
 exact this.symm
end Go.Proofs.Ytmlkdfjojoophaa.T

namespace Go.Proofs.Ytmlkdfjojoophaa.T
open Go.Dn
attribute [local simp] body_eq globEnv GB List.map_nil List.map_cons List.append_nil w_rangeF i_next i_makeMap i_range i_update i_delete i_entry i_clone entryV cloneV q_rndA q_rndB_n q_rndB_e q_rndB_r setAll w_skip w_ops w_seq w_cond w_block w_exit w_ret q_then_n q_then_e q_then_r q_blk_n q_blk_e q_blk_r q_ops q_cont q_end_n q_end_r q_end_e q_loop_n q_loop_e q_loop_r i_nil i_p i_alloc i_box i_store i_copy i_clear i_call i_callv i_when t_nil t_p t_call t_alloc t_box t_store kept_nil t_copy t_clear q_tcont gsel List.cons_append List.nil_append evalP evalE evalF evalB isObj thaw Opd.ev Env.get Env.set Env.pick putE initEnv evalBin intBin evalUn evalConv goneAll goneOne retV resAll Res.ev tupOf byVals byValsN bv_d bv_da bv_fl bv_tl bn_d bn_da bn_fl bn_tl cx Dn.newObj St.place St.push St.spot St.empty cell_d cell_da cell_agg cell_ref cell_sl cell_fl cell_tl cell_map cell_fn cell_ifc loadAt faddrV partOf extractV mkAgg ofD splice St.setObj fillV
set_option linter.unusedSimpArgs false

open Gf

def rowV (v r:Nat):V:=.sl r 0 (v+1) 1
structure Mx (s:St)(R:Nat)(rs:List Nat)(ct:Nat→List W32)(n v:Nat):Prop where
 o:s.objs[R]?=some (.cells (rs.map (rowV v)))
 nd:rs.Nodup
 nR:R∉rs
 ln:rs.length=n
 ct : ∀ r∈rs,s.objs[r]?=some (.cells (wV (ct r)))∧(ct r).length=v+1
def rowS (S:List W32)(v k:Nat):List W32:=(fnL v fun j=>S.getD (v+k-(j+1)) 0)++[S.getD (v+k) 0]
theorem rowS_len (S:List W32)(v k:Nat):(rowS S v k).length=v+1:=by simp [rowS,fnL_len]
theorem wV_X (L:List W32):wV L=(L.map un).map X:=by simp only [wV,List.map_map]; rfl
def Rows (S:List W32)(v n:Nat)(w:V)(s:St):Prop:=(n=0∧w = .d .nils)∨∃ R rs ct,n≠0∧w = .sl R 0 n 1∧Mx s R rs ct n v∧∀ k,k<n→ct (rs.getD k 0)=rowS S v k
theorem Rows.mono {S:List W32}{v n:Nat}{w:V}{s s':St}(h:Rows S v n w s)(hf : ∀ r,r<s.objs.length→s'.objs[r]?=s.objs[r]?):Rows S v n w s':=by
 rcases h with h | ⟨R,rs,ct,h0,h1,h2,h3⟩
 ·exact .inl h
 ·refine .inr ⟨R,rs,ct,h0,h1,⟨?_,h2.nd,h2.nR,h2.ln,fun r hr=>?_⟩,h3⟩
  ·rw [hf R (List.getElem?_eq_some_iff.1 h2.o).1]; exact h2.o
  ·obtain⟨a,b⟩:=h2.ct r hr
   rw [hf r (List.getElem?_eq_some_iff.1 a).1]
   exact⟨a,b⟩
theorem Rows.push {S:List W32}{v n:Nat}{w:V}{s:St}(h:Rows S v n w s)(hn:n≤1000){r:Nat}(hr:s.objs[r]?=some (.cells (wV (rowS S v n))))(hnew : ∀ R rs ct,Mx s R rs ct n v→n≠0→w = .sl R 0 n 1→r≠R∧r∉rs){tm:Nat}(ht:s.objs[tm]?=some (.cells [rowV v r])) :
  ∃ w' s',appendX s none 1 24 w (.sl tm 0 1 1)=some (w',s')∧Rows S v (n+1) w' s':=by
 have hrl:r<s.objs.length:=(List.getElem?_eq_some_iff.1 hr).1
 rcases h with⟨rfl,rfl⟩ | ⟨R,rs,ct,h0,rfl,h2,h3⟩
 ·refine⟨.sl s.objs.length 0 1 1,⟨s.objs++[.cells [rowV v r]],s.toks⟩,by simp [appendX,ht,newObj,St.place,St.push,St.spot],.inr ⟨s.objs.length,[r],fun _=>rowS S v 0,by omega,rfl,⟨by simp,by simp,by simp; omega,rfl,fun q hq=>?_⟩,fun k hk=>?_⟩⟩
  ·simp only [List.mem_singleton] at hq
   subst hq
   exact⟨by simp only; rw [List.getElem?_append_left hrl]; exact hr,rowS_len _ _ _⟩
  ·obtain rfl:k=0:=by omega
   rfl
 ·obtain⟨n1,n2⟩:=hnew R rs ct h2 h0 rfl
  have hRl:R<s.objs.length:=(List.getElem?_eq_some_iff.1 h2.o).1
  have hln:=h2.ln
  have etk:(rs.map (rowV v)).take n=rs.map (rowV v):=List.take_of_length_le (by simp [hln])
  refine⟨.sl s.objs.length 0 (n+1) 1,⟨(s.objs.set R .dead)++[.cells (rs.map (rowV v)++[rowV v r])],s.toks⟩,?_,.inr ⟨s.objs.length,rs++[r],fun q=>if q=r then rowS S v n else ct q,by omega,rfl,⟨by simp [List.getElem?_append],?_,?_,by simp [hln],fun q hq=>?_⟩,fun k hk=>?_⟩⟩
  ·simp only [appendX,ht,h2.o]
   simp [newObj,St.place,St.push,St.spot,St.setObj,hln,etk,show(n+1)*24≤140737488355328 by omega,show n+1≤9223372036854775807 by omega,show 0<n by omega]
  ·rw [List.nodup_append]
   refine⟨h2.nd,by simp,fun a ha b hb=>?_⟩
   simp only [List.mem_singleton] at hb
   subst hb
   exact fun e=>n2 (e▸ha)
  ·intro hm
   rcases List.mem_append.1 hm with hm | hm
   ·have:=(List.getElem?_eq_some_iff.1 (h2.ct _ hm).1).1
    omega
   ·simp only [List.mem_singleton] at hm
    omega
  ·rcases List.mem_append.1 hq with hq | hq
   ·obtain⟨a,b⟩:=h2.ct q hq
    have hql:=(List.getElem?_eq_some_iff.1 a).1
    have hqr:q≠r:=fun e=>n2 (e▸hq)
    have hqR:q≠R:=fun e=>h2.nR (e▸hq)
    simp only [if_neg hqr]
    refine⟨?_,b⟩
    rw [List.getElem?_append_left (by simpa using hql),List.getElem?_set_ne (fun e=>hqR e.symm)]
    exact a
   ·simp only [List.mem_singleton] at hq
    subst hq
    simp only [if_true]
    refine⟨?_,rowS_len _ _ _⟩
    rw [List.getElem?_append_left (by simpa using hrl),List.getElem?_set_ne (fun e=>n1 e.symm)]
    exact hr
  ·by_cases hkn:k<n
   ·have e1:(rs++[r]).getD k 0=rs.getD k 0:=by
     rw [List.getD_eq_getElem?_getD,List.getD_eq_getElem?_getD,List.getElem?_append_left (by omega)]
    have hm:rs.getD k 0∈rs:=by
     rw [List.getD_eq_getElem?_getD,List.getElem?_eq_getElem (by omega)]
     exact List.getElem_mem _
    have hqr:rs.getD k 0≠r:=fun e=>n2 (e▸hm)
    simp only [e1,if_neg hqr]
    exact h3 k hkn
   ·obtain rfl:k=n:=by omega
    have e1:(rs++[r]).getD k 0=r:=by
     rw [List.getD_eq_getElem?_getD,List.getElem?_append_right (by omega),hln]
     simp
    simp only [e1,if_true]
def InvRwB (ds:D)(S:List W32)(v n:Nat)(w:V)(s0:St)(m:Nat)(e:Env)(s:St):Prop:=∃ (j:Nat)(x:V),e=[(0,.d ds),(1,I v),(6,w),(7,I (v+n:Nat)),(8,x),(9,I (j+1:Nat))]∧j+m=v∧Col s0.objs.length s x ((fnL j fun j=>S.getD (v+n-(j+1)) 0).map un)∧(∀ r,r<s0.objs.length→s.objs[r]?=s0.objs[r]?)∧s0.objs.length≤s.objs.length
def InvRwA (ds:D)(S:List W32)(v:Nat)(m:Nat)(e:Env)(s:St):Prop:=∃ (n:Nat)(w:V),e=[(0,.d ds),(1,I v),(6,w),(7,I (v+n:Nat))]∧n+m=v∧Rows S v n w s
theorem sol_rows {ds:D}{S:List W32}{v:Nat}(hd:PL ds S)(h1:1≤v)(hv:2*v≤S.length)(hS:S.length≤1000){Q:PostC}(hQ : ∀ w s,Rows S v v w s→Q .normal [(0,.d ds),(1,I v),(6,w),(7,I (v+v:Nat)),(24,B false)] s) :
  wcode (Dn.Call Γ cx) cx c45_k60 [(0,.d ds),(1,I v),(6,.d .nils),(7,I v)] St.empty Q:=by
 simp -implicitDefEqProofs [c45_k60]
 refine wloopI (InvRwA ds S v) (m:=v) ⟨0,_,rfl,by omega,.inl ⟨rfl,rfl⟩⟩ ?_
 rintro m e s ⟨n,w,rfl,hm,hR⟩
 have w2:IntKind.i64.wrap (2*(v:Int))=((2*v:Nat):Int):=by rw [wrap_i64 (by omega) (by omega)]; omega
 obtain⟨i,hi⟩ : ∃ i,v+n=i:=⟨_,rfl⟩
 obtain⟨v2,hv2⟩ : ∃ v2,2*v=v2:=⟨_,rfl⟩
 rw [hv2] at w2
 by_cases hlt:i<v2
 rotate_left
 ·have hltI : ¬ (i:Int)<v2:=by omega
  obtain rfl:n=v:=by omega
  have:=hQ w s hR
  rw [hi] at this ⊢
  simp -implicitDefEqProofs [w2,hltI,hlt,c45_l59,c45_k58]
  exact this
 have hltI:(i:Int)<v2:=by omega
 rw [hi]
 simp -implicitDefEqProofs [w2,hltI,hlt,c45_l59,c45_k58,c45_k57,c45_k56,c45_k55,c45_k54]
 refine wloopI (InvRwB ds S v n w s) (m:=v) ⟨0,_,by rw [hi]; rfl,by omega,.inl ⟨rfl,rfl⟩,fun r _=>rfl,Nat.le_refl _⟩ ?_
 rintro m2 e s1 ⟨j,x,rfl,hm2,hC,hfr,hle⟩
 rw [hi] at hC
 by_cases hj:j<v
 ·have hjI:((j:Int)+1)≤v:=by omega
  obtain⟨y,hy⟩ : ∃ y,S[i-(j+1)]?=some y:=⟨_,List.getElem?_eq_getElem (by omega)⟩
  have hgy:=getD_at hy
  have hia:=fun σ=>hd.iaddr σ (k:=.i64) (sz:=1) (i:=i-(j+1)) (pR_at hy) rfl
  obtain⟨x',s2,ap,hC2,hf2,hl2,-⟩:=hC.push (by rw [List.length_map,fnL_len]; omega) hle (un y)
  have hfn:((fnL j fun j=>S.getD (i-(j+1)) 0).map un)++[un y]=(fnL (j+1) fun j=>S.getD (i-(j+1)) 0).map un:=by
   simp only [fnL,List.range_succ,List.map_append,List.map_cons,List.map_nil,hgy]
  rw [hfn] at hC2
  obtain⟨q,hq⟩ : ∃ q,i-(j+1)=q:=⟨_,rfl⟩
  have ws:IntKind.i64.wrap ((i:Int)-((j:Int)+1))=(q:Int):=by rw [wrap_i64 (by omega) (by omega)]; omega
  have w9:IntKind.i64.wrap ((j:Int)+1+1)=((j+1+1:Nat):Int):=by rw [wrap_i64 (by omega) (by omega)]; omega
  rw [hq] at hia
  rw [hi]
  simp -implicitDefEqProofs [hjI,c45_l53,c45_k52,c45_k51,ws,hia,isObj,repl,rowsOf,frzV]
  refine i_app_m (v:=x') (s:=s2) ?_ ?_
  ·simp [evalM,Opd.ev,Env.get,V.rows]
   exact ap
  simp -implicitDefEqProofs [c45_k50,w9]
  exact⟨m2-1,by omega,j+1,x',by rw [hi]; rfl,by omega,by rw [hi]; exact hC2,fun r hr=>by rw [hf2 r hr,hfr r hr],by omega⟩
 ·have hjI : ¬ ((j:Int)+1)≤v:=by omega
  obtain rfl:j=v:=by omega
  obtain⟨y,hy⟩ : ∃ y,S[i]?=some y:=⟨_,List.getElem?_eq_getElem (by omega)⟩
  have hgy:=getD_at hy
  have hia:=fun σ=>hd.iaddr σ (k:=.i64) (sz:=1) (i:=i) (pR_at hy) rfl
  obtain⟨x',s2,ap,hC2,hf2,hl2,-⟩:=hC.push (by rw [List.length_map,fnL_len]; omega) hle (un y)
  have hfn:((fnL j fun k=>S.getD (i-(k+1)) 0).map un)++[un y]=(rowS S j n).map un:=by
   rw [rowS,hi,List.map_append,hgy]
   rfl
  rw [hfn] at hC2
  rcases hC2 with⟨h,-⟩ | ⟨r,rfl,hrlo,hro,-⟩
  ·have:=congrArg List.length h
   rw [List.length_map,rowS_len] at this
   simp at this
  rw [← wV_X] at hro
  have hlr:((rowS S j n).map un).length=j+1:=by rw [List.length_map,rowS_len]
  rw [hlr] at ap
  have hrl:r<s2.objs.length:=(List.getElem?_eq_some_iff.1 hro).1
  obtain⟨s3,hs3⟩ : ∃ s3:St,(⟨s2.objs++[.cells [rowV j r]],s2.toks⟩:St)=s3:=⟨_,rfl⟩
  have hR3:Rows S j n w s3:=hR.mono fun q hq=>by
   rw [← hs3]
   simp only
   rw [List.getElem?_append_left (by omega),hf2 q (by omega),hfr q hq]
  have hr3:s3.objs[r]?=some (.cells (wV (rowS S j n))):=by rw [← hs3]; simp only; rw [List.getElem?_append_left hrl]; exact hro
  have ht3:s3.objs[s2.objs.length]?=some (.cells [rowV j r]):=by rw [← hs3]; simp
  obtain⟨w',s4,ap2,hR4⟩:=hR3.push (by omega) hr3 (fun R rs ct hM h0 hw=>by
   rcases hR with⟨h,-⟩ | ⟨R0,rs0,ct0,-,hw0,hM0,-⟩
   ·exact absurd h h0
   ·rw [hw0] at hw
    cases hw
    have hRl:=(List.getElem?_eq_some_iff.1 hM0.o).1
    have e1:rs=rs0:=by
     have h1:=hM.o
     have h2:=hM0.o
     rw [← hs3] at h1
     simp only at h1
     rw [List.getElem?_append_left (by omega),hf2 _ (by omega),hfr _ hRl,h2] at h1
     simp only [Option.some.injEq,Dn.Obj.cells.injEq] at h1
     have : ∀ a b:List Nat,a.map (rowV j)=b.map (rowV j)→a=b:=by
      intro a
      induction a with
      | nil=>intro b h; cases b with | nil=>rfl | cons _ _=>simp at h
      | cons x a ih =>
       intro b h
       cases b with
       | nil=>simp at h
       | cons y b =>
        simp only [List.map_cons,List.cons.injEq,rowV,V.sl.injEq] at h
        rw [h.1.1,ih b h.2]
     exact(this _ _ h1).symm
    refine⟨by omega,fun hm=>?_⟩
    rw [e1] at hm
    have:=(List.getElem?_eq_some_iff.1 (hM0.ct r hm).1).1
    omega) ht3
  have w9:IntKind.i64.wrap ((i:Int)+1)=((i+1:Nat):Int):=by rw [wrap_i64 (by omega) (by omega)]; omega
  have hrowV:rowV j r = .sl r 0 (j+1) 1:=rfl
  rw [hrowV] at hs3
  rw [hi]
  simp -implicitDefEqProofs [hjI,c45_l53,c45_k52,c45_k49,hia,isObj,repl,rowsOf,frzV]
  refine i_app_m (v:=.sl r 0 (j+1) 1) (s:=s2) ?_ ?_
  ·simp [evalM,Opd.ev,Env.get,V.rows]
   exact ap
  simp -implicitDefEqProofs [isObj,evalB,repl,V.cells,newObjN,hs3]
  refine i_app_m (v:=w') (s:=s4) ?_ ?_
  ·simp [evalM,Opd.ev,Env.get,V.rows,ht3,rowV,ofD]
   exact ap2
  simp -implicitDefEqProofs [c45_k48,w9]
  exact⟨m-1,by omega,n+1,w',by rw [← hi]; rfl,by omega,hR4⟩

open Gf

def ent (rs:List Nat)(ct:Nat→List W32):Mt:=fun i j=>(ct (rs.getD i 0)).getD j 0
def upd (ct:Nat→List W32)(r:Nat)(L:List W32):Nat→List W32:=fun q=>if q=r then L else ct q
theorem upd_self (ct:Nat→List W32)(r:Nat)(L:List W32):upd ct r L r=L:=if_pos rfl
theorem upd_ne (ct:Nat→List W32){r q:Nat}(L:List W32)(h:q≠r):upd ct r L q=ct q:=if_neg h
theorem upd_upd (ct:Nat→List W32)(r:Nat)(L L':List W32):upd (upd ct r L) r L'=upd ct r L':=by
 funext q
 unfold upd
 split <;> rfl
theorem upd_id (ct:Nat→List W32)(r:Nat):upd ct r (ct r)=ct:=by
 funext q
 unfold upd
 split
 ·rename_i h; rw [h]
 ·rfl
theorem Mx.put {s:St}{R:Nat}{rs:List Nat}{ct:Nat→List W32}{n v r:Nat}{L:List W32}(h:Mx s R rs ct n v)(hr:r∈rs)(hL:L.length=v+1):Mx ⟨s.objs.set r (.cells (wV L)),s.toks⟩ R rs (upd ct r L) n v:=by
 have hrR:r≠R:=fun e=>h.nR (e▸hr)
 refine⟨?_,h.nd,h.nR,h.ln,fun q hq=>?_⟩
 ·simp only
  rw [List.getElem?_set_ne hrR]
  exact h.o
 ·obtain⟨a,b⟩:=h.ct q hq
  have hql:=(List.getElem?_eq_some_iff.1 a).1
  by_cases hqr:q=r
  ·subst hqr
   rw [upd_self]
   exact⟨by simp [hql],hL⟩
  ·rw [upd_ne _ _ hqr]
   refine⟨?_,b⟩
   simp only
   rw [List.getElem?_set_ne (fun e=>hqr e.symm)]
   exact a
structure MxAt (s:St)(rs:List Nat)(ct:Nat→List W32)(v i r:Nat):Prop where
 g:rs.getD i 0=r
 m:r∈rs
 c:(rs.map (rowV v))[i]?=some (.sl r 0 (v+1) 1)
 o:s.objs[r]?=some (.cells (wV (ct r)))
 l:(ct r).length=v+1
theorem Mx.at {s:St}{R:Nat}{rs:List Nat}{ct:Nat→List W32}{n v:Nat}(h:Mx s R rs ct n v){i:Nat}(hi:i<n) : ∃ r,MxAt s rs ct v i r:=by
 have hl:=h.ln
 have he:rs[i]?=some rs[i]:=List.getElem?_eq_getElem (by omega)
 have hm:rs[i]∈rs:=List.getElem_mem _
 obtain⟨a,b⟩:=h.ct _ hm
 exact⟨rs[i],by rw [List.getD_eq_getElem?_getD,he]; rfl,hm,by rw [List.getElem?_map,he]; rfl,a,b⟩
theorem Mx.inj {s:St}{R:Nat}{rs:List Nat}{ct:Nat→List W32}{n v:Nat}(h:Mx s R rs ct n v){i j:Nat}(hi:i<n)(hj:j<n)(hij:i≠j):rs.getD i 0≠rs.getD j 0:=by
 have hl:=h.ln
 rw [List.getD_eq_getElem?_getD,List.getD_eq_getElem?_getD,List.getElem?_eq_getElem (by omega),List.getElem?_eq_getElem (by omega)]
 intro e
 exact hij ((List.getElem_inj h.nd).1 e)
def part (L:List W32)(f:Nat→W32)(j:Nat):List W32:=fnL L.length fun k=>if k<j then f k else L.getD k 0
theorem part_len (L:List W32)(f:Nat→W32)(j:Nat):(part L f j).length=L.length:=fnL_len _ _
theorem part_co {L:List W32}(f:Nat→W32)(j:Nat){k:Nat}(h:k<L.length):(part L f j).getD k 0=if k<j then f k else L.getD k 0:=fnL_co _ h
theorem part_zero (L:List W32)(f:Nat→W32):part L f 0=L:=list_ext_co (part_len _ _ _) fun k hk=>by
 rw [part_len] at hk
 rw [part_co f 0 hk,if_neg (by omega)]
theorem part_set {L:List W32}{f:Nat→W32}{j:Nat}(h:j<L.length):(part L f j).set j (f j)=part L f (j+1):=by
 refine list_ext_co (by rw [List.length_set,part_len,part_len]) fun k hk=>?_
 rw [List.length_set,part_len] at hk
 rw [part_co f (j+1) hk,List.getD_eq_getElem?_getD,List.getElem?_set]
 by_cases hjk:j=k
 ·subst hjk
  rw [if_pos rfl,if_pos (by rw [part_len]; exact h),if_pos (by omega)]
  rfl
 ·rw [if_neg hjk,← List.getD_eq_getElem?_getD,part_co f j hk]
  by_cases h2:k<j
  ·rw [if_pos h2,if_pos (by omega)]
  ·rw [if_neg h2,if_neg (by omega)]

def InvPv (w:V)(s0:St)(A:Mt)(v col:Nat)(m:Nat)(e:Env)(s:St):Prop:=∃ (i:Nat)(k:Int),e=[(1,I v),(6,w),(10,I col),(11,I k),(12,I i)]∧i+m=v∧col≤i∧s=s0∧((k = -1∧∀ t,col≤t→t<i→A t col=0)∨∃ t:Nat,k=t∧col≤t∧t<i∧A t col≠0)
theorem sol_pv {s:St}{R:Nat}{rs:List Nat}{ct:Nat→List W32}{v col:Nat}(hM:Mx s R rs ct v v)(hc:col<v)(hv:v≤1000){Q:PostC}
  (h1:(∀ t,col≤t→t<v→ent rs ct t col=0)→Q .normal [(1,I v),(6,.sl R 0 v 1),(10,I col),(11,I (-1)),(12,I v),(59,B false)] s)
  (h2 : ∀ t,col≤t→t<v→ent rs ct t col≠0→Q .normal [(1,I v),(6,.sl R 0 v 1),(10,I col),(11,I (t:Nat)),(12,I v),(59,B false)] s) :
  wcode (Dn.Call Γ cx) cx c45_k40 [(1,I v),(6,.sl R 0 v 1),(10,I col),(11,I (-1)),(12,I col)] s Q:=by
 simp -implicitDefEqProofs [c45_k40]
 refine wloopI (InvPv (.sl R 0 v 1) s (ent rs ct) v col) (m:=v-col) ⟨col,-1,rfl,by omega,Nat.le_refl _,rfl,.inl ⟨rfl,fun t h1 h2=>by omega⟩⟩ ?_
 rintro m e s' ⟨i,k,rfl,hm,hci,rfl,hk⟩
 by_cases hlt:i<v
 rotate_left
 ·have hltI : ¬ (i:Int)<v:=by omega
  obtain rfl:i=v:=by omega
  simp -implicitDefEqProofs [c45_l39,c45_k38]
  rcases hk with⟨rfl,h⟩ | ⟨t,rfl,a,b,c⟩
  ·exact h1 h
  ·exact h2 t a b c
 have hltI:(i:Int)<v:=by omega
 have w9:IntKind.i64.wrap ((i:Int)+1)=((i+1:Nat):Int):=by rw [wrap_i64 (by omega) (by omega)]; omega
 obtain⟨r,hA⟩:=hM.at hlt
 obtain⟨x,hx⟩ : ∃ x,(ct r)[col]?=some x:=⟨_,List.getElem?_eq_getElem (by have:=hA.l; omega)⟩
 have hwx:=wV_at hx
 have hex:ent rs ct i col=x:=by unfold ent; rw [hA.g]; exact getD_at hx
 have ho:=hM.o
 have hc1:=hA.c
 have hr:=hA.o
 have ia1:=fun σ=>iaddr_sl σ (q:=R) (n:=v) (i:=i) hlt
 have ia2:=fun σ=>iaddr_sl σ (q:=r) (n:=v+1) (i:=col) (by omega)
 generalize rs.map (rowV v)=cs at *
 generalize wV (ct r)=ws at *
 by_cases hx0:x=0
 ·subst hx0
  have hu:un (0#32:W32)=0:=rfl
  simp -implicitDefEqProofs [hltI,hlt,c45_l39,c45_k38,c45_k37,c45_k36,ia1,ho,hc1,ia2,hr,hwx,hu,c45_k35,c45_k34,w9]
  refine⟨m-1,by omega,i+1,k,rfl,by omega,by omega,rfl,?_⟩
  rcases hk with⟨rfl,h⟩ | ⟨t,rfl,a,b,c⟩
  ·refine .inl ⟨rfl,fun t h1 h2=>?_⟩
   by_cases ht:t=i
   ·rw [ht]; exact hex
   ·exact h t h1 (by omega)
  ·exact .inr ⟨t,rfl,a,by omega,c⟩
 ·have hu : ¬ un x=0:=fun e=>hx0 ((un_zero_iff x).1 e)
  simp -implicitDefEqProofs [hltI,hlt,c45_l39,c45_k38,c45_k37,c45_k36,ia1,ho,hc1,ia2,hr,hwx,hu,c45_k35,c45_k34,w9]
  exact⟨m-1,by omega,i+1,i,rfl,by omega,by omega,rfl,.inr ⟨i,rfl,hci,by omega,by rw [hex]; exact hx0⟩⟩
theorem splice_one {cs:List V}{i:Nat}(h:i<cs.length)(x:V):splice cs i [x]=cs.set i x:=by
 unfold splice
 rw [List.set_eq_take_append_cons_drop,if_pos h]
 simp
theorem Mx.swap {s:St}{R:Nat}{rs:List Nat}{ct:Nat→List W32}{v i k:Nat}(h:Mx s R rs ct v v)(hi:i<v)(hk:k<v) : ∃ rs',Mx ⟨s.objs.set R (.cells (rs'.map (rowV v))),s.toks⟩ R rs' ct v v∧(rs'.map (rowV v))=((rs.map (rowV v)).set i (rowV v (rs.getD k 0))).set k (rowV v (rs.getD i 0))∧∀ t,t<v→rs'.getD t 0=rs.getD (swpI i k t) 0:=by
 have hl:=h.ln
 have gk:rs.getD k 0=rs[k]:=by rw [List.getD_eq_getElem?_getD,List.getElem?_eq_getElem (by omega)]; rfl
 have gi:rs.getD i 0=rs[i]:=by rw [List.getD_eq_getElem?_getD,List.getElem?_eq_getElem (by omega)]; rfl
 have hp:((rs.set i rs[k]).set k rs[i]).Perm rs:=List.set_set_perm (by omega) (by omega)
 have hRl:=(List.getElem?_eq_some_iff.1 h.o).1
 refine⟨(rs.set i rs[k]).set k rs[i],⟨by simp [hRl],hp.nodup_iff.2 h.nd,fun hm=>h.nR (hp.mem_iff.1 hm),by simp [hl],fun r hr=>?_⟩,by rw [gk,gi,List.map_set,List.map_set],fun t ht=>?_⟩
 ·have hr':=hp.mem_iff.1 hr
  obtain⟨a,b⟩:=h.ct r hr'
  refine⟨?_,b⟩
  simp only
  have hne:R≠r:=fun e=>h.nR (by rw [e]; exact hr')
  rw [List.getElem?_set_ne hne]
  exact a
 ·unfold swpI
  rw [List.getD_eq_getElem?_getD,List.getElem?_set,List.getElem?_set]
  by_cases h1:t=i
  ·subst h1
   rw [if_pos rfl]
   by_cases h2:k=t
   ·subst h2
    rw [if_pos rfl,if_pos (by simp; omega),if_pos rfl,gk]; rfl
   ·rw [if_neg h2,if_pos rfl,if_pos (by omega),gk]; rfl
  ·rw [if_neg h1]
   by_cases h2:t=k
   ·subst h2
    rw [if_pos rfl,if_pos (by simp; omega),if_pos rfl,gi]; rfl
   ·rw [if_neg (fun e=>h2 e.symm),if_neg (fun e=>h1 e.symm),if_neg h2,← List.getD_eq_getElem?_getD]

open Gf

theorem MxAt.eq {s:St}{rs:List Nat}{ct:Nat→List W32}{v i r r':Nat}(h:MxAt s rs ct v i r')(hg:rs.getD i 0=r):r'=r:=h.g.symm.trans hg
def InvSc (R:Nat)(rs:List Nat)(ct:Nat→List W32)(r v col:Nat)(t:W32)(f:Nat→W32)(m:Nat)(e:Env)(s:St):Prop:=∃ j:Nat,e=[(1,I v),(6,.sl R 0 v 1),(10,I col),(13,Xw t),(14,I j)]∧j+m=v+1∧Mx s R rs (upd ct r (part (ct r) f j)) v v
theorem sol_sc {s:St}{R:Nat}{rs:List Nat}{ct:Nat→List W32}{v col r:Nat}{t:W32}(hM:Mx s R rs ct v v)(hA:MxAt s rs ct v col r)(hc:col<v)(hv:v≤1000){Q:PostC}
  (hQ : ∀ s',Mx s' R rs (upd ct r (part (ct r) (fun k=>mul ((ct r).getD k 0) t) (v+1))) v v→Q .normal [(1,I v),(6,.sl R 0 v 1),(10,I col),(13,Xw t),(14,I (v+1:Nat)),(97,B false)] s') :
  wcode (Dn.Call Γ cx) cx c45_k28 [(1,I v),(6,.sl R 0 v 1),(10,I col),(13,Xw t),(14,I 0)] s Q:=by
 have hrl:=hA.l
 have hg:=hA.g
 simp -implicitDefEqProofs [c45_k28]
 refine wloopI (InvSc R rs ct r v col t (fun k=>mul ((ct r).getD k 0) t)) (m:=v+1) ⟨0,rfl,by omega,by rw [part_zero,upd_id]; exact hM⟩ ?_
 clear hM hA
 rintro m e s' ⟨j,rfl,hm,hM⟩
 by_cases hlt:j≤v
 rotate_left
 ·have hltI : ¬ (j:Int)≤v:=by omega
  have hj:j=v+1:=by omega
  have:=hQ s' (by rw [← hj]; exact hM)
  rw [← hj] at this
  simp -implicitDefEqProofs [hltI,hlt,c45_l27,c45_k26]
  exact this
 have hltI:(j:Int)≤v:=by omega
 have w9:IntKind.i64.wrap ((j:Int)+1)=((j+1:Nat):Int):=by rw [wrap_i64 (by omega) (by omega)]; omega
 obtain⟨r',hA⟩:=hM.at hc
 obtain rfl:=(hA.eq hg).symm
 have hps:=part_set (L:=ct r) (f:=fun k=>mul ((ct r).getD k 0) t) (j:=j) (by omega)
 have hpl:=part_len (ct r) (fun k=>mul ((ct r).getD k 0) t) j
 obtain⟨x,hx⟩ : ∃ x,(part (ct r) (fun k=>mul ((ct r).getD k 0) t) j)[j]?=some x:=⟨_,List.getElem?_eq_getElem (by omega)⟩
 have hxe:(ct r).getD j 0=x:=by
  have h1:=getD_at hx
  rw [part_co _ _ (by omega),if_neg (by omega)] at h1
  exact h1
 have hwx:=wV_at hx
 have ho:=hM.o
 have hc1:=hA.c
 have hr:=hA.o
 rw [upd_self] at hr
 have hput:=hM.put hA.m (L:=part (ct r) (fun k=>mul ((ct r).getD k 0) t) (j+1)) (by rw [part_len]; omega)
 rw [upd_upd] at hput
 have hset:=wV_set (L:=part (ct r) (fun k=>mul ((ct r).getD k 0) t) j) (i:=j) (by omega) (mul x t)
 have hps':(part (ct r) (fun k=>mul ((ct r).getD k 0) t) j).set j (mul x t)=part (ct r) (fun k=>mul ((ct r).getD k 0) t) (j+1):=by rw [← hxe]; exact hps
 rw [hps'] at hset
 have hwl:=wV_len (part (ct r) (fun k=>mul ((ct r).getD k 0) t) j)
 rw [hpl,hrl] at hwl
 have ia1:=fun σ=>iaddr_sl σ (q:=R) (n:=v) (i:=col) hc
 have ia2:=fun σ=>iaddr_sl σ (q:=r) (n:=v+1) (i:=j) (by omega)
 have hinv : ∃ m'<m,InvSc R rs ct r v col t (fun k=>mul ((ct r).getD k 0) t) m' [(1,I v),(6,.sl R 0 v 1),(10,I col),(13,Xw t),(14,I (j+1:Nat))] ⟨s'.objs.set r (.cells (wV (part (ct r) (fun k=>mul ((ct r).getD k 0) t) (j+1)))),s'.toks⟩:=⟨m-1,by omega,j+1,rfl,by omega,hput⟩
 generalize hcs:rs.map (rowV v)=cs at *
 generalize wV (part (ct r) (fun k=>mul ((ct r).getD k 0) t) (j+1))=ws' at *
 generalize wV (part (ct r) (fun k=>mul ((ct r).getD k 0) t) j)=ws at *
 clear hput hA hM hps hps' hx hQ
 simp -implicitDefEqProofs [hltI,hlt,c45_l27,c45_k26,c45_k25,c45_k24]
 refine w_drwX (fun _=>.val) [] (by decide +kernel) ?_
 simp only [room_zero]
 simp -implicitDefEqProofs [ia1,ho,hc1,ia2,hr,hwx]
 refine use_fnN rfl rfl (s_rMul x t) rfl ?_
 simp -implicitDefEqProofs [-splice,ia1,ho,hc1,ia2,hr,hwl,show j+1≤v+1 by omega,hset,c45_k23,w9]
 exact hinv

def InvEi (R:Nat)(rs:List Nat)(ct:Nat→List W32)(r v col i:Nat)(b:W32)(f:Nat→W32)(m:Nat)(e:Env)(s:St):Prop:=∃ j:Nat,e=[(1,I v),(6,.sl R 0 v 1),(10,I col),(15,I i),(16,Xw b),(17,I j)]∧j+m=v+1∧Mx s R rs (upd ct r (part (ct r) f j)) v v
theorem sol_ei {s:St}{R:Nat}{rs:List Nat}{ct:Nat→List W32}{v col i r rc:Nat}{b:W32}(hM:Mx s R rs ct v v)(hA:MxAt s rs ct v i r)(hC:MxAt s rs ct v col rc)(hc:col<v)(hi:i<v)(hic:i≠col)(hv:v≤1000){Q:PostC}
  (hQ : ∀ s',Mx s' R rs (upd ct r (part (ct r) (fun k=>(ct r).getD k 0^^^mul b ((ct rc).getD k 0)) (v+1))) v v→Q .normal [(1,I v),(6,.sl R 0 v 1),(10,I col),(15,I i),(16,Xw b),(17,I (v+1:Nat)),(134,B false)] s') :
  wcode (Dn.Call Γ cx) cx c45_k15 [(1,I v),(6,.sl R 0 v 1),(10,I col),(15,I i),(16,Xw b),(17,I 0)] s Q:=by
 have hrl:=hA.l
 have hcl:=hC.l
 have hg:=hA.g
 have hgc:=hC.g
 have hne:rc≠r:=fun e=>hM.inj hi hc hic (by rw [hg,hgc,e])
 obtain⟨f,hf⟩ : ∃ f,(fun k=>(ct r).getD k 0^^^mul b ((ct rc).getD k 0))=f:=⟨_,rfl⟩
 rw [hf] at hQ
 simp -implicitDefEqProofs [c45_k15]
 refine wloopI (InvEi R rs ct r v col i b f) (m:=v+1) ⟨0,rfl,by omega,by rw [part_zero,upd_id]; exact hM⟩ ?_
 clear hM hA hC
 rintro m e s' ⟨j,rfl,hm,hM⟩
 by_cases hlt:j≤v
 rotate_left
 ·have hltI : ¬ (j:Int)≤v:=by omega
  have hj:j=v+1:=by omega
  have:=hQ s' (by rw [← hj]; exact hM)
  rw [← hj] at this
  simp -implicitDefEqProofs [hltI,hlt,c45_l14,c45_k13]
  exact this
 have hltI:(j:Int)≤v:=by omega
 have hicI : ¬ (i:Int)=col:=by omega
 have w9:IntKind.i64.wrap ((j:Int)+1)=((j+1:Nat):Int):=by rw [wrap_i64 (by omega) (by omega)]; omega
 obtain⟨r',hA⟩:=hM.at hi
 obtain rfl:=(hA.eq hg).symm
 obtain⟨rc',hC⟩:=hM.at hc
 obtain rfl:=(hC.eq hgc).symm
 have hps:=part_set (L:=ct r) (f:=f) (j:=j) (by omega)
 have hpl:=part_len (ct r) f j
 obtain⟨x,hx⟩ : ∃ x,(part (ct r) f j)[j]?=some x:=⟨_,List.getElem?_eq_getElem (by omega)⟩
 obtain⟨y,hy⟩ : ∃ y,(ct rc)[j]?=some y:=⟨_,List.getElem?_eq_getElem (by omega)⟩
 have hxe:f j=x^^^mul b y:=by
  have h1:=getD_at hx
  rw [part_co _ _ (by omega),if_neg (by omega)] at h1
  rw [← hf]
  simp only
  rw [h1,getD_at hy]
 have hwx:=wV_at hx
 have hwy:=wV_at hy
 have ho:=hM.o
 have hc1:=hA.c
 have hc2:=hC.c
 have hr:=hA.o
 have hrc:=hC.o
 rw [upd_self] at hr
 rw [upd_ne _ _ hne] at hrc
 have hput:=hM.put hA.m (L:=part (ct r) f (j+1)) (by rw [part_len]; omega)
 rw [upd_upd] at hput
 have hset:=wV_set (L:=part (ct r) f j) (i:=j) (by omega) (x^^^mul b y)
 rw [← hxe,hps,hxe] at hset
 have hwl:=wV_len (part (ct r) f j)
 rw [hpl,hrl] at hwl
 have ia1:=fun σ=>iaddr_sl σ (q:=R) (n:=v) (i:=i) hi
 have iac:=fun σ=>iaddr_sl σ (q:=R) (n:=v) (i:=col) hc
 have ia2:=fun σ=>iaddr_sl σ (q:=r) (n:=v+1) (i:=j) (by omega)
 have ia3:=fun σ=>iaddr_sl σ (q:=rc) (n:=v+1) (i:=j) (by omega)
 have hinv : ∃ m'<m,InvEi R rs ct r v col i b f m' [(1,I v),(6,.sl R 0 v 1),(10,I col),(15,I i),(16,Xw b),(17,I (j+1:Nat))] ⟨s'.objs.set r (.cells (wV (part (ct r) f (j+1)))),s'.toks⟩:=⟨m-1,by omega,j+1,rfl,by omega,hput⟩
 generalize hcs:rs.map (rowV v)=cs at *
 generalize wV (part (ct r) f (j+1))=ws' at *
 generalize wV (part (ct r) f j)=ws at *
 generalize wV (ct rc)=wc at *
 clear hput hA hC hM hps hx hy hQ hxe
 simp -implicitDefEqProofs [hltI,hlt,hicI,hic,c45_l14,c45_k13,c45_k12,c45_k11]
 refine w_drwX (fun _=>.val) [] (by decide +kernel) ?_
 simp only [room_zero]
 simp -implicitDefEqProofs [ia1,iac,ho,hc1,hc2,ia2,ia3,hr,hrc,hwx,hwy]
 refine use_fnN rfl rfl (s_rMul b y) rfl ?_
 simp -implicitDefEqProofs [-splice,xor_u32,ia1,ho,hc1,ia2,hr,hwl,show j+1≤v+1 by omega,hset,c45_k10,w9]
 exact hinv

open Gf

theorem ent_upd {s:St}{R:Nat}{rs:List Nat}{ct:Nat→List W32}{v i r:Nat}(hM:Mx s R rs ct v v)(hi:i<v)(hg:rs.getD i 0=r)(L:List W32):(∀ j,ent rs (upd ct r L) i j=L.getD j 0)∧∀ t,t<v→t≠i→∀ j,ent rs (upd ct r L) t j=ent rs ct t j:=by
 refine⟨fun j=>?_,fun t ht hti j=>?_⟩
 ·unfold ent
  rw [hg,upd_self]
 ·unfold ent
  rw [upd_ne]
  rw [← hg]
  exact hM.inj ht hi hti
theorem sol_ei0 {s:St}{w:V}{v col:Nat}{b:W32}{Q:PostC}(hQ:Q .normal [(1,I v),(6,w),(10,I col),(15,I col),(16,Xw b),(17,I 0),(134,B false)] s) :
  wcode (Dn.Call Γ cx) cx c45_k15 [(1,I v),(6,w),(10,I col),(15,I col),(16,Xw b),(17,I 0)] s Q:=by
 simp -implicitDefEqProofs [c45_k15]
 refine wloopI (fun m e s'=>e=[(1,I v),(6,w),(10,I col),(15,I col),(16,Xw b),(17,I 0)]∧s'=s) (m:=0) ⟨rfl,rfl⟩ ?_
 rintro m e s' ⟨rfl,rfl⟩
 have h0:(0:Int)≤v:=by omega
 simp -implicitDefEqProofs [h0,c45_l14,c45_k13]
 exact hQ
def InvEo (A0:Mt)(R:Nat)(rs:List Nat)(v col:Nat)(m:Nat)(e:Env)(s:St):Prop:=∃ (i:Nat)(ct:Nat→List W32),e=[(1,I v),(6,.sl R 0 v 1),(10,I col),(15,I i)]∧i+m=v∧Mx s R rs ct v v∧Elim A0 (ent rs ct) v col∧ent rs ct col col=1∧∀ t,t<i→t≠col→ent rs ct t col=0
theorem sol_eo {A0:Mt}{s:St}{R:Nat}{rs:List Nat}{ct:Nat→List W32}{v col:Nat}(hM:Mx s R rs ct v v)(hE:Elim A0 (ent rs ct) v col)(hp:ent rs ct col col=1)(hc:col<v)(hv:v≤1000){Q:PostC}
  (hQ : ∀ s' ct',Mx s' R rs ct' v v→Elim A0 (ent rs ct') v (col+1)→Q .normal [(1,I v),(6,.sl R 0 v 1),(10,I col),(15,I v),(117,B false)] s') :
  wcode (Dn.Call Γ cx) cx c45_k21 [(1,I v),(6,.sl R 0 v 1),(10,I col),(15,I 0)] s Q:=by
 simp -implicitDefEqProofs [c45_k21]
 refine wloopI (InvEo A0 R rs v col) (m:=v) ⟨0,ct,rfl,by omega,hM,hE,hp,fun t h=>by omega⟩ ?_
 clear hM hE hp ct
 rintro m e s' ⟨i,ct,rfl,hm,hM,hE,hp,hz⟩
 by_cases hlt:i<v
 rotate_left
 ·have hltI : ¬ (i:Int)<v:=by omega
  obtain rfl:i=v:=by omega
  have:=hQ s' ct hM (hE.next fun t ht=>by
   by_cases h:t=col
   ·rw [h,if_pos rfl]; exact hp
   ·rw [if_neg h]; exact hz t ht h)
  simp -implicitDefEqProofs [c45_l20,c45_k19]
  exact this
 have hltI:(i:Int)<v:=by omega
 have w9:IntKind.i64.wrap ((i:Int)+1)=((i+1:Nat):Int):=by rw [wrap_i64 (by omega) (by omega)]; omega
 obtain⟨r,hA⟩:=hM.at hlt
 obtain⟨rc,hC⟩:=hM.at hc
 obtain⟨x,hx⟩ : ∃ x,(ct r)[col]?=some x:=⟨_,List.getElem?_eq_getElem (by have:=hA.l; omega)⟩
 have hex:ent rs ct i col=x:=by unfold ent; rw [hA.g]; exact getD_at hx
 have hwx:=wV_at hx
 have ho:=hM.o
 have hc1:=hA.c
 have hr:=hA.o
 have ia1:=fun σ=>iaddr_sl σ (q:=R) (n:=v) (i:=i) hlt
 have ia2:=fun σ=>iaddr_sl σ (q:=r) (n:=v+1) (i:=col) (by omega)
 generalize hcs:rs.map (rowV v)=cs at ho hc1
 generalize hws:wV (ct r)=ws at hr hwx
 simp -implicitDefEqProofs [hltI,hlt,c45_l20,c45_k19,c45_k18,c45_k17,ia1,ho,hc1,ia2,hr,hwx,c45_k16]
 by_cases hic:i=col
 ·subst hic
  refine sol_ei0 ?_
  simp -implicitDefEqProofs [c45_k9,w9]
  exact⟨m-1,by omega,i+1,ct,rfl,by omega,hM,hE,hp,fun t h1 h2=>hz t (by omega) h2⟩
 ·refine sol_ei hM hA hC hc hlt hic hv fun s2 hM2=>?_
  obtain⟨u1,u2⟩:=ent_upd hM hlt hA.g (part (ct r) (fun k=>(ct r).getD k 0^^^mul x ((ct rc).getD k 0)) (v+1))
  have u3 : ∀ j,j≤v→ent rs (upd ct r (part (ct r) (fun k=>(ct r).getD k 0^^^mul x ((ct rc).getD k 0)) (v+1))) i j=ent rs ct i j^^^mul x (ent rs ct col j):=fun j hj=>by
   rw [u1,part_co _ _ (by have:=hA.l; omega),if_pos (by omega)]
   unfold ent
   rw [hA.g,hC.g]
  generalize upd ct r (part (ct r) (fun k=>(ct r).getD k 0^^^mul x ((ct rc).getD k 0)) (v+1))=ct2 at *
  simp -implicitDefEqProofs [c45_k9,w9]
  refine⟨m-1,by omega,i+1,ct2,rfl,by omega,hM2,hE.add hc hlt hic u3 fun t j ht hti _=>u2 t ht hti j,by rw [u2 col hc (fun e=>hic e.symm)]; exact hp,fun t h1 h2=>?_⟩
  by_cases hti:t=i
  ·rw [hti,u3 col (by omega),hp,hex,mul_one,Gf.xs]
  ·rw [u2 t (by omega) hti]
   exact hz t (by omega) h2
theorem Mx.objs {s s':St}{R:Nat}{rs:List Nat}{ct:Nat→List W32}{n v:Nat}(h:Mx s R rs ct n v)(ho:s'.objs=s.objs):Mx s' R rs ct n v :=
 ⟨by rw [ho]; exact h.o,h.nd,h.nR,h.ln,fun r hr=>by rw [ho]; exact h.ct r hr⟩
def InvOu (R:Nat)(rs:List Nat)(ct:Nat→List W32)(v:Nat)(m:Nat)(e:Env)(s:St):Prop:=∃ (i:Nat)(w:V),e=[(1,I v),(6,.sl R 0 v 1),(18,w),(19,I i)]∧i+m=v∧Mx s R rs ct v v∧App s 1 w (pR (fnL i fun i=>ent rs ct i v))
theorem sol_out {s:St}{R:Nat}{rs:List Nat}{ct:Nat→List W32}{v:Nat}(hM:Mx s R rs ct v v)(hv:v≤1000){Q:PostC}
  (hQ : ∀ s' w,App s' 1 w (pR (fnL v fun i=>ent rs ct i v))→Q .normal [(1,I v),(6,.sl R 0 v 1),(18,w),(19,I v),(162,B false)] s') :
  wcode (Dn.Call Γ cx) cx c45_k5 [(1,I v),(6,.sl R 0 v 1),(18,.d .nils),(19,I 0)] s Q:=by
 simp -implicitDefEqProofs [c45_k5]
 refine wloopI (InvOu R rs ct v) (m:=v) ⟨0,_,rfl,by omega,hM,.nil⟩ ?_
 clear hM
 rintro m e s ⟨i,w,rfl,hm,hM,hap⟩
 by_cases hlt:i<v
 rotate_left
 ·have hltI : ¬ (i:Int)<v:=by omega
  obtain rfl:i=v:=by omega
  have:=hQ s w hap
  simp -implicitDefEqProofs [c45_l4,c45_k3]
  exact this
 have hltI:(i:Int)<v:=by omega
 have w9:IntKind.i64.wrap ((i:Int)+1)=((i+1:Nat):Int):=by rw [wrap_i64 (by omega) (by omega)]; omega
 obtain⟨r,hA⟩:=hM.at hlt
 obtain⟨x,hx⟩ : ∃ x,(ct r)[v]?=some x:=⟨_,List.getElem?_eq_getElem (by have:=hA.l; omega)⟩
 have hex:ent rs ct i v=x:=by unfold ent; rw [hA.g]; exact getD_at hx
 have hwx:=wV_at hx
 have ho:=hM.o
 have hc1:=hA.c
 have hr:=hA.o
 have ia1:=fun σ=>iaddr_sl σ (q:=R) (n:=v) (i:=i) hlt
 have ia2:=fun σ=>iaddr_sl σ (q:=r) (n:=v+1) (i:=v) (by omega)
 have hfn:(fnL i fun i=>ent rs ct i v)++[x]=fnL (i+1) fun i=>ent rs ct i v:=by simp [fnL,List.range_succ,hex]
 obtain⟨w2,s2,ap,hap2,ho2,-,-⟩:=hap.push (bytes:=4) (by decide) (pR_fit _) (ys:=pR [x]) (pR_fit _) (by simp [pR_len,fnL_len]; omega) (by simp [pR_len,fnL_len]; omega)
 rw [← pR_app,hfn] at hap2
 generalize hcs:rs.map (rowV v)=cs at ho hc1
 generalize hws:wV (ct r)=ws at hr hwx
 simp -implicitDefEqProofs [hltI,hlt,c45_l4,c45_k3,c45_k2,ia1,ho,hc1,ia2,hr,hwx,isObj,repl,rowsOf,frzV]
 refine i_app_f (v:=w2) (s:=s2) ?_ ?_
 ·have:=ap none
  simp only [pR,List.map_cons,List.map_nil] at this
  simp [evalE,Opd.ev,Env.get,V.rows]
  exact this
 simp -implicitDefEqProofs [c45_k1,w9]
 exact⟨m-1,by omega,i+1,w2,rfl,by omega,hM.objs ho2,hap2⟩
def M0 (S:List W32)(v:Nat):Mt:=fun i j=>(rowS S v i).getD j 0
def solveQ (S:List W32)(v:Nat):Post:=fun w _=>(w = .tup [.d .nils,B false]∧∃ z,(∃ j,j<v∧z j≠0)∧Ker (M0 S v) v z)∨∃ d C,w = .tup [.d d,B true]∧PL d C∧C.length=v∧∀ c,Sol (M0 S v) v c→∀ i,i<v→C.getD i 0=c i
def InvMn (A0:Mt)(R v:Nat)(m:Nat)(e:Env)(s:St):Prop:=∃ (col:Nat)(rs:List Nat)(ct:Nat→List W32),e=[(1,I v),(6,.sl R 0 v 1),(10,I col)]∧col+m=v∧Mx s R rs ct v v∧Elim A0 (ent rs ct) v col
theorem sol_main {A0:Mt}{s:St}{R:Nat}{rs:List Nat}{ct:Nat→List W32}{v:Nat}(hM:Mx s R rs ct v v)(hE:Elim A0 (ent rs ct) v 0)(hv:v≤1000){Q:PostC}
  (h1 : ∀ s',(∃ z,(∃ j,j<v∧z j≠0)∧Ker A0 v z)→Q .ret [(4,.d .nils),(5,B false)] s')
  (h2 : ∀ s' rs' ct',Mx s' R rs' ct' v v→Elim A0 (ent rs' ct') v v→Q .normal [(1,I v),(6,.sl R 0 v 1),(10,I v),(53,B false)] s') :
  wcode (Dn.Call Γ cx) cx c45_k46 [(1,I v),(6,.sl R 0 v 1),(10,I 0)] s Q:=by
 simp -implicitDefEqProofs [c45_k46]
 refine wloopI (InvMn A0 R v) (m:=v) ⟨0,rs,ct,rfl,by omega,hM,hE⟩ ?_
 clear hM hE rs ct
 rintro m e s ⟨col,rs,ct,rfl,hm,hM,hE⟩
 by_cases hc:col<v
 rotate_left
 ·have hltI : ¬ (col:Int)<v:=by omega
  obtain rfl:col=v:=by omega
  have:=h2 s rs ct hM hE
  simp -implicitDefEqProofs [c45_l45,c45_k44]
  exact this
 have hcI:(col:Int)<v:=by omega
 simp -implicitDefEqProofs [hcI,hc,c45_l45,c45_k44,c45_k43,c45_k42,c45_k41]
 refine sol_pv hM hc hv (fun h0=>?_) fun t htc htv ht0=>?_
 ·have:=h1 s (hE.none hc h0)
  simp -implicitDefEqProofs [c45_k33,c45_k32]
  exact this
 have t0 : ¬ (t:Int)<0:=by omega
 simp -implicitDefEqProofs [t0,c45_k33,c45_k32]
 obtain⟨rs',hM1,hcs',hsw⟩:=hM.swap hc htv
 obtain⟨rt,hT⟩:=hM.at htv
 obtain⟨rcl,hCl⟩:=hM.at hc
 rw [hT.g,hCl.g] at hcs'
 have hE1:Elim A0 (ent rs' ct) v col:=hE.swap hc htv htc fun i j hi _=>by unfold ent; rw [hsw i hi]
 have hp1:ent rs' ct col col≠0:=by
  have:ent rs' ct col col=ent rs ct t col:=by
   unfold ent
   rw [hsw col hc]
   unfold swpI
   rw [if_pos rfl]
  rw [this]
  exact ht0
 have ho:=hM.o
 have hct:=hT.c
 have hcc:=hCl.c
 have hlen:(rs.map (rowV v)).length=v:=by rw [List.length_map,hM.ln]
 have hRl:=(List.getElem?_eq_some_iff.1 ho).1
 have hst : ∀ o:Dn.Obj,(s.objs.set R o)[R]?=some o:=fun o=>by simp [hRl]
 have ia1:=fun σ=>iaddr_sl σ (q:=R) (n:=v) (i:=t) htv
 have iac:=fun σ=>iaddr_sl σ (q:=R) (n:=v) (i:=col) hc
 have hr1:rowV v rt = .sl rt 0 (v+1) 1:=rfl
 have hr2:rowV v rcl = .sl rcl 0 (v+1) 1:=rfl
 rw [hr1,hr2] at hcs'
 have sp1:=splice_one (cs:=rs.map (rowV v)) (i:=col) (by omega) (.sl rt 0 (v+1) 1)
 have sp2:=splice_one (cs:=(rs.map (rowV v)).set col (.sl rt 0 (v+1) 1)) (i:=t) (by rw [List.length_set]; omega) (.sl rcl 0 (v+1) 1)
 have hl2:((rs.map (rowV v)).set col (.sl rt 0 (v+1) 1)).length=v:=by rw [List.length_set,hlen]
 rw [← hcs'] at sp2
 generalize (rs.map (rowV v)).set col (.sl rt 0 (v+1) 1)=cs1 at *
 generalize rs.map (rowV v)=cs at *
 generalize hcsn:rs'.map (rowV v)=cs2 at *
 have hs1 : ∃ s1:St,(⟨s.objs.set R (.cells cs2),s.toks⟩:St)=s1:=⟨_,rfl⟩
 obtain⟨s1,hs1⟩:=hs1
 rw [hs1] at hM1
 simp only [c45_k31,w_seq]
 refine w_drwX (fun _=>.val) [] (by decide +kernel) ?_
 simp only [room_zero]
 simp -implicitDefEqProofs [-splice,ia1,iac,ho,hct,hcc,hlen,show col+1≤v by omega,sp1,hst,hl2,show t+1≤v by omega,sp2,hs1]
 obtain⟨r,hA⟩:=hM1.at hc
 obtain⟨x,hx⟩ : ∃ x,(ct r)[col]?=some x:=⟨_,List.getElem?_eq_getElem (by have:=hA.l; omega)⟩
 have hex:ent rs' ct col col=x:=by unfold ent; rw [hA.g]; exact getD_at hx
 have hx0:x≠0:=by rw [← hex]; exact hp1
 have hwx:=wV_at hx
 have ho1:=hM1.o
 have hc1:=hA.c
 have hr:=hA.o
 rw [hcsn] at ho1 hc1
 have ia2:=fun σ=>iaddr_sl σ (q:=r) (n:=v+1) (i:=col) (by omega)
 generalize hws:wV (ct r)=ws at hr hwx
 simp -implicitDefEqProofs [c45_k30,iac,ho1,hc1,ia2,hr,hwx]
 refine use_fn rfl (s_rInv x) rfl ?_
 have hi0:=inv_ne hx0
 have hi1:=mul_inv hx0
 generalize inv x=t at *
 simp -implicitDefEqProofs [c45_k29]
 refine sol_sc hM1 hA hc hv fun s2 hM2=>?_
 obtain⟨u1,u2⟩:=ent_upd hM1 hc hA.g (part (ct r) (fun k=>mul ((ct r).getD k 0) t) (v+1))
 have u3 : ∀ j,j≤v→ent rs' (upd ct r (part (ct r) (fun k=>mul ((ct r).getD k 0) t) (v+1))) col j=mul (ent rs' ct col j) t:=fun j hj=>by
  rw [u1,part_co _ _ (by have:=hA.l; omega),if_pos (by omega)]
  unfold ent
  rw [hA.g]
 have hE2:=hE1.scale hc hi0 u3 fun i j hi hic _=>u2 i hi hic j
 have hp2:=u3 col (by omega)
 rw [hex,hi1] at hp2
 generalize upd ct r (part (ct r) (fun k=>mul ((ct r).getD k 0) t) (v+1))=ct2 at *
 simp -implicitDefEqProofs [c45_k22]
 refine sol_eo hM2 hE2 hp2 hc hv fun s3 ct3 hM3 hE3=>?_
 have w9:IntKind.i64.wrap ((col:Int)+1)=((col+1:Nat):Int):=by rw [wrap_i64 (by omega) (by omega)]; omega
 simp -implicitDefEqProofs [c45_k8,w9]
 exact⟨m-1,by omega,col+1,rs',ct3,rfl,by omega,hM3,hE3⟩
theorem s_solve {ds:D}{S:List W32}{v:Nat}(hd:PL ds S)(hv1:1≤v)(hv2:2*v≤S.length)(lS:S.length≤1000):Dn.Call Γ cx .val 45 [.d ds,I v] St.empty (solveQ S v):=by
 refine Dn.Call.body (fc:=c45) rfl ?_
 simp -implicitDefEqProofs [c45,c45_k62,c45_k61]
 refine sol_rows hd hv1 hv2 lS fun w s hR=>?_
 rcases hR with⟨h,-⟩ | ⟨R,rs,ct,-,rfl,hM,hct⟩
 ·omega
 have hE:Elim (M0 S v) (ent rs ct) v 0:=by
  have he : ∀ i j,i<v→ent rs ct i j=M0 S v i j:=fun i j hi=>by unfold ent M0; rw [hct i hi]
  exact⟨fun c hs i hi=>by rw [sum_congr fun j _=>by rw [he i j hi],he i v hi]; exact hs i hi,fun z hz i hi=>by have:=hz i hi; rwa [sum_congr fun j _=>by rw [he i j hi]] at this,fun _ _ _ h=>by omega⟩
 simp -implicitDefEqProofs [c45_k47]
 refine sol_main hM hE (by omega) (fun s' hz=>?_) fun s' rs' ct' hM' hE'=>?_
 ·simp -implicitDefEqProofs
  exact .inl ⟨rfl,hz⟩
 ·simp -implicitDefEqProofs [c45_k7,c45_k6]
  refine sol_out hM' (by omega) fun s2 w hap=>?_
  obtain⟨d,b1,l1⟩:=hap.lv.byVal s2
  simp -implicitDefEqProofs [c45_k0,b1]
  exact .inr ⟨d,_,rfl,l1,fnL_len _ _,fun c hs i hi=>by rw [fnL_co _ hi]; exact hE'.done hs hi⟩

open Gf

theorem vander {T:List W32}(hn:T.Nodup){w:W32→W32}(h : ∀ i,i<T.length→lsum T (fun x=>mul (npow x i) (w x))=0) : ∀ r∈T,w r=0:=by
 intro r hr
 have hp:=List.perm_cons_erase hr
 have hl:=hp.length_eq
 rw [List.length_cons] at hl
 have hgl:=prodL_len (T.erase r)
 have hz:lsum T (fun x=>mul (ev (prodL (T.erase r)) x) (w x))=0:=by
  have e1 : ∀ x,mul (ev (prodL (T.erase r)) x) (w x)=sum (prodL (T.erase r)).length fun j=>mul ((prodL (T.erase r)).getD j 0) (mul (npow x j) (w x)):=fun x=>by
   rw [ev_sum,mul_comm,sum_mul]
   exact sum_congr fun j _=>by rw [mul_comm (w x),← mul_assoc]
  rw [lsum_congr fun x _=>e1 x,lsum_sum (fun x j=>mul ((prodL (T.erase r)).getD j 0) (mul (npow x j) (w x)))]
  rw [sum_congr (g:=fun _=>0) fun j hj=>by rw [← lsum_mul,h j (by omega),Gf.mul_zero],sum_zero]
 rw [lsum_single hn hr fun x hx hxr=>by
  have:x∈T.erase r:=(List.mem_erase_of_ne hxr).2 hx
  rw [ev_prodL.2 this,zero_mul]] at hz
 refine(mul_eq_zero hz).resolve_left fun h0=>?_
 have:=ev_prodL.1 h0
 exact(List.nodup_cons.1 (hp.nodup_iff.1 hn)).1 this
theorem rec_sum {T S:List W32}(hS:Pows T S){v i:Nat}(h1:v≤i)(h2:i<S.length)(z:Nat→W32):(sum v fun j=>mul (S.getD (i-(j+1)) 0) (z j))=lsum T fun x=>mul (npow x (i-v)) (sum v fun j=>mul (npow x (v-j)) (z j)):=by
 have e1:(sum v fun j=>mul (S.getD (i-(j+1)) 0) (z j))=sum v fun j=>lsum T fun x=>mul (npow x (i-v)) (mul (npow x (v-j)) (z j)):=sum_congr fun j hj=>by
  rw [hS _ (by omega),mul_comm,lsum_mul]
  exact lsum_congr fun x _=>by rw [mul_assoc,← npow_add,mul_comm,show i-v+(v-j)=i-(j+1)+1 by omega]
 rw [e1,← lsum_sum (fun x j=>mul (npow x (i-v)) (mul (npow x (v-j)) (z j)))]
 exact lsum_congr fun x _=>by rw [sum_mul]
theorem rev_sum (x:W32)(z:Nat→W32) : ∀ v,(sum v fun j=>mul (npow x (v-j)) (z j))=mul x (sum v fun k=>mul (z (v-1-k)) (npow x k))
 | 0=>(Gf.mul_zero x).symm
 | n+1=>by
  rw [← sum_rev (fun j=>mul (npow x (n+1-j)) (z j)) n,sum_mul]
  refine sum_congr fun k hk=>?_
  rw [show n+1-(n-k)=k+1 by omega,show n+1-1-k=n-k by omega,npow_succ',mul_comm (z (n-k)),mul_assoc]
theorem rowS_lt {S:List W32}{v i j:Nat}(h:j<v):(rowS S v i).getD j 0=S.getD (v+i-(j+1)) 0:=by
 unfold rowS
 rw [List.getD_eq_getElem?_getD,List.getElem?_append_left (by rw [fnL_len]; exact h),← List.getD_eq_getElem?_getD,fnL_co _ h]
theorem rowS_last (S:List W32)(v i:Nat):(rowS S v i).getD v 0=S.getD (v+i) 0:=by
 unfold rowS
 rw [List.getD_eq_getElem?_getD,List.getElem?_append_right (by rw [fnL_len]; exact Nat.le_refl _),fnL_len,Nat.sub_self]
 rfl
theorem no_ker {T S:List W32}(hn:T.Nodup)(h0:(0:W32)∉T)(hS:Pows T S)(hl:2*T.length≤S.length){z:Nat→W32}(hk:Ker (M0 S T.length) T.length z) : ∀ j,j<T.length→z j=0:=by
 have hv:=vander hn (w:=fun x=>sum T.length fun j=>mul (npow x (T.length-j)) (z j)) fun i hi=>by
  have:=hk i hi
  rw [sum_congr fun j hj=>by unfold M0; rw [rowS_lt hj],rec_sum hS (by omega) (by omega) z,Nat.add_sub_cancel_left] at this
  exact this
 intro j hj
 have hz:=Gf.all_zero (S:=T) (a:=fnL T.length fun k=>z (T.length-1-k)) hn (fun r hr=>by
  have h1:=hv r hr
  rw [rev_sum] at h1
  have h2:=(mul_eq_zero h1).resolve_left fun e=>h0 (e▸hr)
  rw [ev_sum,fnL_len]
  exact(sum_congr fun k hk=>by rw [fnL_co _ hk]).trans h2) (by rw [fnL_len]; exact Nat.le_refl _)
 have hm:z j∈fnL T.length fun k=>z (T.length-1-k):=List.mem_map.2 ⟨T.length-1-j,List.mem_range.2 (by omega),by rw [show T.length-1-(T.length-1-j)=j by omega]⟩
 exact hz _ hm
def cS (T:List W32)(j:Nat):W32:=(prodL T).getD (T.length-1-j) 0
theorem rec_set {T S:List W32}(hS:Pows T S){i:Nat}(h1:T.length≤i)(h2:i<S.length):(sum T.length fun j=>mul (S.getD (i-(j+1)) 0) (cS T j))=S.getD i 0:=by
 rw [rec_sum hS h1 h2,hS i h2]
 refine lsum_congr fun x hx=>?_
 rw [rev_sum]
 have he:ev (prodL T) x=0:=ev_prodL.2 hx
 rw [ev_sum,prodL_len] at he
 have e1:(sum T.length fun k=>mul (cS T (T.length-1-k)) (npow x k))=npow x T.length:=by
  have h3:(sum T.length fun j=>mul ((prodL T).getD j 0) (npow x j))^^^mul ((prodL T).getD T.length 0) (npow x T.length)=0:=he
  rw [prodL_top,one_mul] at h3
  rw [← xor_zero_eq h3]
  exact sum_congr fun k hk=>by unfold cS; rw [show T.length-1-(T.length-1-k)=k by omega]
 rw [e1,← npow_succ',← npow_add,show i-T.length+(T.length+1)=i+1 by omega]
theorem sol_set {T S:List W32}(hS:Pows T S)(hl:2*T.length≤S.length):Sol (M0 S T.length) T.length (cS T):=fun i hi=>by
 rw [sum_congr fun j hj=>by unfold M0; rw [rowS_lt hj]]
 unfold M0
 rw [rowS_last]
 exact rec_set hS (by omega) (by omega)
theorem prod_of {T C:List W32}(hl:C.length=T.length)(h : ∀ i,i<T.length→C.getD i 0=cS T i):C.reverse++[1]=prodL T:=by
 refine list_ext_co (by rw [List.length_append,List.length_reverse,prodL_len,hl]; rfl) fun k hk=>?_
 rw [List.length_append,List.length_reverse,hl,List.length_singleton] at hk
 by_cases hkv:k<T.length
 ·rw [List.getD_eq_getElem?_getD,List.getElem?_append_left (by rw [List.length_reverse]; omega),← List.getD_eq_getElem?_getD,getD_rev (n:=T.length-1) (by omega) (by omega),h _ (by omega)]
  unfold cS
  rw [show T.length-1-(T.length-1-k)=k by omega]
 ·obtain rfl:k=T.length:=by omega
  rw [prodL_top,List.getD_eq_getElem?_getD,List.getElem?_append_right (by rw [List.length_reverse]; omega),List.length_reverse,hl,Nat.sub_self]
  rfl
theorem top_one (C:List W32):dg (C.reverse++[1])=C.length+1:=dg_unique (fun i hi=>getD_ge (by simp; omega)) (.inr (by
 rw [Nat.add_sub_cancel,List.getD_eq_getElem?_getD,List.getElem?_append_right (by rw [List.length_reverse]; exact Nat.le_refl _),List.length_reverse,Nat.sub_self]
 decide))

def InvG1 (ds dc:D)(S C:List W32)(i:Nat)(m:Nat)(e:Env)(s:St):Prop:=∃ j:Nat,e=[(0,.d ds),(1,.d dc),(5,I i),(6,Xw (S.getD i 0^^^sum j fun j=>mul (S.getD (i-(j+1)) 0) (C.getD j 0))),(7,I (j+1:Nat))]∧j+m=C.length∧s=St.empty
def goesP (S C:List W32)(i:Nat):Prop:=(sum C.length fun j=>mul (S.getD (i-(j+1)) 0) (C.getD j 0))=S.getD i 0
def InvG (ds dc:D)(S C:List W32)(m:Nat)(e:Env)(s:St):Prop:=∃ i:Nat,e=[(0,.d ds),(1,.d dc),(5,I i)]∧(i+m=S.length∨(m=0∧S.length≤i))∧2*C.length≤i∧i≤100000∧s=St.empty
theorem s_goes {ds dc:D}{S C:List W32}(hd:PL ds S)(hc:PL dc C)(lS:S.length≤1000)(lC:C.length≤1000):Dn.Call Γ cx .val 46 [.d ds,.d dc] St.empty fun v _=>∃ b,v=B b∧((∀ i,2*C.length≤i→i<S.length→goesP S C i)→b=true):=by
 refine Dn.Call.body (fc:=c46) rfl ?_
 have hls : ∀ σ,lenT σ .slice (.d ds)=some S.length:=fun σ=>by rw [hd.len,pR_len]
 have hlc : ∀ σ,lenT σ .slice (.d dc)=some C.length:=fun σ=>by rw [hc.len,pR_len]
 have w2:IntKind.i64.wrap (2*(C.length:Int))=((2*C.length:Nat):Int):=by rw [wrap_i64 (by omega) (by omega)]; omega
 simp -implicitDefEqProofs [c46,c46_k15,hlc,w2,c46_k14]
 refine wloopI (InvG ds dc S C) (m:=S.length-2*C.length) ⟨2*C.length,rfl,by omega,Nat.le_refl _,by omega,rfl⟩ ?_
 rintro m e s ⟨i,rfl,hm,hi2,hi3,rfl⟩
 by_cases hlt:i<S.length
 rotate_left
 ·have hltI : ¬ (i:Int)<S.length:=by omega
  simp -implicitDefEqProofs [hls,hltI,hlt,c46_l13,c46_k12]
 have hltI:(i:Int)<S.length:=by omega
 obtain⟨y,hy⟩ : ∃ y,S[i]?=some y:=⟨_,List.getElem?_eq_getElem hlt⟩
 have hgy:=getD_at hy
 have hia:=fun σ=>hd.iaddr σ (k:=.i64) (sz:=1) (i:=i) (pR_at hy) rfl
 simp -implicitDefEqProofs [hls,hltI,hlt,c46_l13,c46_k12,c46_k11,c46_k10,hia,c46_k9,c46_k8]
 refine wloopI (InvG1 ds dc S C i) (m:=C.length) ⟨0,by rw [hgy]; show _=[_,_,_,(6,Xw (y^^^0)),_]; rw [x0]; rfl,by omega,rfl⟩ ?_
 rintro m2 e s ⟨j,rfl,hm2,rfl⟩
 by_cases hj:j<C.length
 ·have hjI:((j:Int)+1)≤C.length:=by omega
  have w9:IntKind.i64.wrap ((j:Int)+1+1)=((j+1+1:Nat):Int):=by rw [wrap_i64 (by omega) (by omega)]; omega
  have w1:IntKind.i64.wrap ((j:Int)+1-1)=(j:Int):=by rw [wrap_i64 (by omega) (by omega)]; omega
  have w1':IntKind.i64.wrap (j:Int)=(j:Int):=wrap_i64 (by omega) (by omega)
  obtain⟨q,hq⟩ : ∃ q,i-(j+1)=q:=⟨_,rfl⟩
  have ws:IntKind.i64.wrap ((i:Int)-((j:Int)+1))=(q:Int):=by rw [wrap_i64 (by omega) (by omega)]; omega
  obtain⟨a,ha⟩ : ∃ a,C[j]?=some a:=⟨_,List.getElem?_eq_getElem hj⟩
  obtain⟨b,hb⟩ : ∃ b,S[q]?=some b:=⟨_,List.getElem?_eq_getElem (by omega)⟩
  have hib:=fun σ=>hc.iaddr σ (k:=.i64) (sz:=1) (i:=j) (pR_at ha) rfl
  have hic:=fun σ=>hd.iaddr σ (k:=.i64) (sz:=1) (i:=q) (pR_at hb) rfl
  have hst:(S.getD i 0^^^sum (j+1) fun j=>mul (S.getD (i-(j+1)) 0) (C.getD j 0))=(S.getD i 0^^^sum j fun j=>mul (S.getD (i-(j+1)) 0) (C.getD j 0))^^^mul a b:=by
   rw [BitVec.xor_assoc]
   show S.getD i 0^^^((sum j fun j=>mul (S.getD (i-(j+1)) 0) (C.getD j 0))^^^mul (S.getD (i-(j+1)) 0) (C.getD j 0))=_
   rw [hq,getD_at ha,getD_at hb,mul_comm b a]
  have hinv : ∃ m'<m2,InvG1 ds dc S C i m' [(0,.d ds),(1,.d dc),(5,I i),(6,Xw ((S.getD i 0^^^sum j fun j=>mul (S.getD (i-(j+1)) 0) (C.getD j 0))^^^mul a b)),(7,I (j+1+1:Nat))] St.empty:=⟨m2-1,by omega,j+1,by rw [hst],by omega,rfl⟩
  generalize (S.getD i 0^^^sum j fun j=>mul (S.getD (i-(j+1)) 0) (C.getD j 0))=X0 at *
  simp -implicitDefEqProofs [hlc,hjI,c46_l7,c46_k6,c46_k5,c46_k4]
  refine w_drwX (fun _=>.val) [] (by decide +kernel) ?_
  simp only [room_zero]
  simp -implicitDefEqProofs [w1,w1',ws,hib,hic]
  refine use_fnN rfl rfl (s_rMul a b) rfl ?_
  simp -implicitDefEqProofs [xor_u32,c46_k3,w9]
  exact hinv
 ·have hjI : ¬ ((j:Int)+1)≤C.length:=by omega
  have hjC:j=C.length:=by omega
  have w9:IntKind.i64.wrap ((i:Int)+1)=((i+1:Nat):Int):=by rw [wrap_i64 (by omega) (by omega)]; omega
  have hgp:goesP S C i↔(S.getD i 0^^^sum j fun j=>mul (S.getD (i-(j+1)) 0) (C.getD j 0))=0:=by
   unfold goesP
   rw [← hjC]
   exact⟨fun h=>by rw [h,Gf.xs],fun h=>(xor_zero_eq h).symm⟩
  generalize (S.getD i 0^^^sum j fun j=>mul (S.getD (i-(j+1)) 0) (C.getD j 0))=X0 at *
  by_cases hx0:X0=0
  ·subst hx0
   have hu:un (0#32:W32)=0:=rfl
   simp -implicitDefEqProofs [hlc,hjI,c46_l7,c46_k6,c46_k2,hu,c46_k1,c46_k0,w9]
   exact⟨m-1,by omega,i+1,rfl,by omega,by omega,by omega,rfl⟩
  ·have hu : ¬ un X0=0:=fun e=>hx0 ((un_zero_iff X0).1 e)
   have hng : ¬ goesP S C i:=fun h=>hx0 (hgp.1 h)
   simp -implicitDefEqProofs [hlc,hjI,c46_l7,c46_k6,c46_k2,hu,c46_k1]
   exact⟨i,hi2,hlt,hng⟩

open Gf

def InvDp (dl:D)(L:List W32)(m:Nat)(e:Env)(s:St):Prop:=∃ (i:Nat)(v:V),e=[(0,.d dl),(4,v),(5,I i)]∧i+m=2*L.length∧App s 1 v (pR (powTo L i))
theorem dec_pows {dl:D}{L:List W32}(hd:PL dl L)(lL:L.length≤100){Q:PostC}(hQ : ∀ s v,App s 1 v (pR (powL L))→Q .normal [(0,.d dl),(4,v),(5,I (2*L.length:Nat)),(21,B false)] s) :
  wcode (Dn.Call Γ cx) cx c21_k28 [(0,.d dl),(4,.d .nils),(5,I 0)] St.empty Q:=by
 have hld : ∀ σ,lenT σ .slice (.d dl)=some L.length:=fun σ=>by rw [hd.len,pR_len]
 have w2:IntKind.i64.wrap (2*(L.length:Int))=((2*L.length:Nat):Int):=by rw [wrap_i64 (by omega) (by omega)]; omega
 simp -implicitDefEqProofs [c21_k28]
 refine wloopI (InvDp dl L) (m:=2*L.length) ⟨0,_,rfl,by omega,.nil⟩ ?_
 rintro m e s ⟨i,v,rfl,hm,hA⟩
 obtain⟨n2,hn2⟩ : ∃ n2,2*L.length=n2:=⟨_,rfl⟩
 rw [hn2] at w2 hm hQ
 have hpl:powL L=powTo L n2:=by unfold powL; rw [hn2]
 by_cases hlt:i<n2
 rotate_left
 ·have hltI : ¬ (i:Int)<n2:=by omega
  obtain rfl:i=n2:=by omega
  rw [hpl] at hQ
  have:=hQ s v hA
  simp -implicitDefEqProofs [hld,w2,c21_l27,c21_k26]
  exact this
 have hltI:(i:Int)<n2:=by omega
 have w9:IntKind.i64.wrap ((i:Int)+1)=((i+1:Nat):Int):=by rw [wrap_i64 (by omega) (by omega)]; omega
 have hrem:(i:Int).tmod 2=((i % 2:Nat):Int):=rfl
 have hquo:(i:Int).tdiv 2=((i / 2:Nat):Int):=rfl
 obtain⟨k,hk⟩ : ∃ k,i / 2=k:=⟨_,rfl⟩
 rw [hk] at hquo
 have wk:IntKind.i64.wrap (k:Int)=(k:Int):=wrap_i64 (by omega) (by omega)
 have hst:powTo L (i+1)=powTo L i++[if i % 2=0 then L.getD k 0 else Gf.sq ((powTo L i).getD k 0)]:=by
  simp only [powTo]
  rw [hk]
 have hpt:=powTo_len L i
 by_cases hev:i % 2=0
 ·have e0:((i % 2:Nat):Int)=0:=by omega
  obtain⟨a,ha⟩ : ∃ a,L[k]?=some a:=⟨_,List.getElem?_eq_getElem (by omega)⟩
  have hia:=fun σ=>hd.iaddr σ (k:=.i64) (sz:=1) (i:=k) (pR_at ha) rfl
  rw [if_pos hev,getD_at ha] at hst
  obtain⟨v2,s2,ap,hA2,ho2,-,-⟩:=hA.push (bytes:=4) (by decide) (pR_fit _) (ys:=pR [a]) (pR_fit _) (by simp [pR_len,hpt]; omega) (by simp [pR_len,hpt]; omega)
  rw [← pR_app,← hst] at hA2
  simp -implicitDefEqProofs [hld,w2,hltI,hlt,c21_l27,c21_k26,c21_k25,c21_k24,hrem,e0,hev,c21_k23,hquo,wk,hia,isObj,repl,rowsOf,frzV]
  refine i_app_f (v:=v2) (s:=s2) ?_ ?_
  ·have:=ap none
   simp only [pR,List.map_cons,List.map_nil] at this
   simp [evalE,Opd.ev,Env.get,V.rows]
   exact this
  simp -implicitDefEqProofs [c21_k21,w9]
  exact⟨m-1,by omega,i+1,v2,rfl,by omega,hA2⟩
 ·have e0 : ¬ ((i % 2:Nat):Int)=0:=by omega
  have e1:i % 2=1:=by omega
  obtain⟨a,ha⟩ : ∃ a,(powTo L i)[k]?=some a:=⟨_,List.getElem?_eq_getElem (by omega)⟩
  have hia:=fun σ=>hA.lv.iaddr σ (k:=.i64) (sz:=1) (i:=k) (pR_at ha) rfl
  rw [if_neg hev,getD_at ha] at hst
  have hA1:=hA.toks (room_toks s 1)
  obtain⟨v2,s2,ap,hA2,ho2,-,-⟩:=hA1.push (bytes:=4) (by decide) (pR_fit _) (ys:=pR [Gf.sq a]) (pR_fit _) (by simp [pR_len,hpt]; omega) (by simp [pR_len,hpt]; omega)
  rw [← pR_app,← hst] at hA2
  have hsq:mul a a=Gf.sq a:=rfl
  simp -implicitDefEqProofs [hld,w2,hltI,hlt,c21_l27,c21_k26,c21_k25,c21_k24,hrem,e0,hev,e1,c21_k23,c21_k22]
  refine w_drwX (fun _=>.val) [] (by decide +kernel) ?_
  simp -implicitDefEqProofs [hquo,wk,hia]
  refine use_fnN rfl rfl (s_rMul a a) rfl ?_
  rw [hsq]
  simp -implicitDefEqProofs [repl,rowsOf,frzV]
  refine t_app_f (v:=v2) (s:=s2) ?_ ?_
  ·have:=ap (some (s.objs.length+0))
   simp only [pR,List.map_cons,List.map_nil] at this
   simp [evalE,Opd.ev,Env.get,V.rows]
   exact this
  simp -implicitDefEqProofs [c21_k21,w9]
  exact⟨m-1,by omega,i+1,v2,rfl,by omega,hA2⟩

def InvDq (dl:D)(w:V)(v:Nat)(dc:D)(C:List W32)(m:Nat)(e:Env)(s:St):Prop:=∃ (p:V)(j:Int),e=[(0,.d dl),(4,w),(6,I v),(7,.d dc),(9,p),(10,I j)]∧j=(m:Int)-1∧m≤v∧App s 1 p (pR (C.reverse.take (v-m)))
theorem dec_poly {dl:D}{w:V}{v:Nat}{dc:D}{C:List W32}{s:St}(hc:PL dc C)(hl:C.length=v)(hv:v≤100){Q:PostC}(hQ : ∀ s' p,App s' 1 p (pR C.reverse)→Q .normal [(0,.d dl),(4,w),(6,I v),(7,.d dc),(9,p),(10,I (-1)),(72,B false)] s') :
  wcode (Dn.Call Γ cx) cx c21_k10 [(0,.d dl),(4,w),(6,I v),(7,.d dc),(9,.d .nils),(10,I ((v:Int)-1))] s Q:=by
 simp -implicitDefEqProofs [c21_k10]
 refine wloopI (InvDq dl w v dc C) (m:=v) ⟨_,_,rfl,rfl,Nat.le_refl _,by rw [Nat.sub_self,List.take_zero]; exact .nil⟩ ?_
 rintro m e s ⟨p,j,rfl,rfl,hm,hA⟩
 cases m with
 | zero =>
  rw [Nat.sub_zero,List.take_of_length_le (by rw [List.length_reverse]; omega)] at hA
  have:=hQ s p hA
  simp -implicitDefEqProofs [c21_l9,c21_k8]
  exact this
 | succ k =>
  have ek:((k+1:Nat):Int)-1=(k:Int):=by omega
  have e0:(0:Int)≤k:=by omega
  have w9:IntKind.i64.wrap ((k:Int)-1)=(k:Int)-1:=wrap_i64 (by omega) (by omega)
  obtain⟨a,ha⟩ : ∃ a,C[k]?=some a:=⟨_,List.getElem?_eq_getElem (by omega)⟩
  have hia:=fun σ=>hc.iaddr σ (k:=.i64) (sz:=1) (i:=k) (pR_at ha) rfl
  have ht:C.reverse.take (v-k)=C.reverse.take (v-(k+1))++[a]:=by
   rw [show v-k=v-(k+1)+1 by omega,List.take_add_one,List.getElem?_reverse (by omega),show C.length-1-(v-(k+1))=k by omega,ha]
   rfl
  obtain⟨p2,s2,ap,hA2,ho2,-,-⟩:=hA.push (bytes:=4) (by decide) (pR_fit _) (ys:=pR [a]) (pR_fit _) (by simp [pR_len]; omega) (by simp [pR_len]; omega)
  rw [← pR_app,← ht] at hA2
  rw [ek]
  simp -implicitDefEqProofs [e0,c21_l9,c21_k8,c21_k7,hia,isObj,repl,rowsOf,frzV]
  refine i_app_f (v:=p2) (s:=s2) ?_ ?_
  ·have:=ap none
   simp only [pR,List.map_cons,List.map_nil] at this
   simp [evalE,Opd.ev,Env.get,V.rows]
   exact this
  simp -implicitDefEqProofs [c21_k6,w9]
  exact⟨k,by omega,p2,_,rfl,rfl,by omega,hA2⟩

open Gf

theorem AllQ.perm {T L:List W32}(h:AllQ (prodL T) L)(hn:T.Nodup):L.Perm T :=
 (List.perm_ext_iff_of_nodup h.nd hn).2 fun r=>by rw [h.mem,ev_prodL]
theorem first_nz {L:List W32}(h:L.Pairwise leW)(h0:L.getD 0 0≠0):(0:W32)∉L:=by
 intro hm
 cases L with
 | nil=>simp at hm
 | cons a L =>
  have ha:a≠0:=h0
  rcases List.mem_cons.1 hm with e | hm
  ·exact ha e.symm
  ·have h1:un a≤un (0:W32):=(List.pairwise_cons.1 h).1 0 hm
   apply ha
   apply BitVec.eq_of_toNat_eq
   simp only [un] at h1
   have h2:(0:W32).toNat=0:=rfl
   rw [h2] at h1 ⊢
   omega
theorem fnL_getD (L:List W32)(n:Nat)(h:L.length=n)(f:Nat→W32):fnL n f=L↔∀ k,k<n→L.getD k 0=f k:=by
 constructor
 ·intro e k hk
  rw [← e,fnL_co f hk]
 ·intro h2
  refine list_ext_co (by rw [fnL_len,h]) fun k hk=>?_
  rw [fnL_len] at hk
  rw [fnL_co f hk,h2 k hk]
theorem dec_end {dl:D}{w p:V}{v:Nat}{L C:List W32}{s:St}{j:Int}{dc:D}{b:Bool}(hd:PL dl L)(lL:L.length≤100)(hl:C.length=v)(hv:1≤v)(hvL:v≤L.length)(hA:App s 1 p (pR C.reverse)){Q:PostC}
  (h1 : ∀ s d T,PL d T→Valid L T→T.Pairwise leW→Q .ret [(2,.d d),(3,B true)] s)
  (h2:(∀ T,Valid L T→T.length=v→C.reverse++[1]≠prodL T)→∀ s d,Q .normal [(0,.d dl),(4,w),(6,I v),(11,.d d),(112,B false)] s) :
  wcode (Dn.Call Γ cx) cx c21_k5 [(0,.d dl),(4,w),(6,I v),(7,.d dc),(9,p),(10,I j),(72,B b)] s Q:=by
 have hld : ∀ σ,lenT σ .slice (.d dl)=some L.length:=fun σ=>by rw [hd.len,pR_len]
 obtain⟨p2,s2,ap,hA2,ho2,-,-⟩:=hA.push (bytes:=4) (by decide) (pR_fit _) (ys:=pR [1]) (pR_fit _) (by simp [pR_len]; omega) (by simp [pR_len]; omega)
 rw [← pR_app] at hA2
 simp -implicitDefEqProofs [c21_k5,isObj,repl,rowsOf,frzV]
 refine i_app_f (v:=p2) (s:=s2) ?_ ?_
 ·have:=ap none
  simp only [pR,List.map_cons,List.map_nil] at this
  simp [evalE,Opd.ev,Env.get,V.rows]
  exact this
 have htop:=top_one C
 have hpl:(C.reverse++[1]).length=v+1:=by simp [hl]
 have hlv:=hA2.lv
 have hnb:=hlv.borrows
 obtain⟨dp,b1,l1⟩:=hlv.byVal s2
 generalize hP:C.reverse++[1]=P at *
 simp -implicitDefEqProofs [c21_k4]
 refine use_val (ds:=[.d dp]) (by simp only [byVals,b1]) (s_rAll l1 (by omega) (by omega) (by omega)) fun x s3 ⟨d,T,hx,hdT,hT⟩=>?_
 subst hx
 refine⟨rfl,fun hb=>?_,?_⟩
 ·simp only [List.any_cons,hnb,List.any_nil] at hb
  cases hb
 have hldT : ∀ σ,lenT σ .slice (.d d)=some T.length:=fun σ=>by rw [hdT.len,pR_len]
 have hTl:=hT.ln
 by_cases c1:T.length=v
 rotate_left
 ·have c1I : ¬ (T.length:Int)=v:=by omega
  have:=h2 (fun T' hV hl' e=>c1 (by
   rw [e] at hT
   have:=(hT.perm hV.nd).length_eq
   omega)) s2 d
  simp -implicitDefEqProofs [c21_k3,hldT,c1I,c1,c21_k2]
  exact this
 have c1I:(T.length:Int)=v:=by omega
 obtain⟨y,hy⟩ : ∃ y,T[0]?=some y:=⟨_,List.getElem?_eq_getElem (by omega)⟩
 have hgy:=getD_at hy
 have hiy : ∀ σ,iaddrV σ 1 (.d d) (I 0)=some (.ro [D.int .u32 (un y)]):=fun σ=>hdT.iaddr σ (k:=.i64) (sz:=1) (i:=0) (pR_at hy) rfl
 have w9:IntKind.i64.wrap ((v:Int)+1)=((v+1:Nat):Int):=by rw [wrap_i64 (by omega) (by omega)]; omega
 simp -implicitDefEqProofs [c21_k3,hldT,c1I,c1]
 refine use_val (ds:=[.d dp]) (by simp only [byVals,b1]) (s_rTrim l1 (by omega)) fun x s4 ⟨dt,hx,hdt⟩=>?_
 subst hx
 refine⟨rfl,fun hb=>?_,?_⟩
 ·simp only [List.any_cons,hnb,List.any_nil] at hb
  cases hb
 have htl:=trim_len P
 have hldt : ∀ σ,lenT σ .slice (.d dt)=some (v+1):=fun σ=>by rw [hdt.len,pR_len,htl,htop,hl]
 by_cases c2:y=0
 ·have hu:un y=0:=by rw [c2]; rfl
  have:=h2 (fun T' hV hl' e=>by
   rw [e] at hT
   have hm:y∈T:=List.mem_of_getElem? hy
   exact hV.nz (by rw [← c2]; exact(hT.perm hV.nd).mem_iff.1 hm)) s2 d
  simp -implicitDefEqProofs [hldt,w9,hiy,hu,c21_k2]
  exact this
 have hu : ¬ un y=0:=fun e=>c2 ((un_zero_iff y).1 e)
 simp -implicitDefEqProofs [hldt,w9,hiy,hu,hld]
 refine use_val (ds:=[I L.length,.d d]) rfl (s_OfW (by omega) hdT (by omega)) fun x s5 ⟨do_,hx,hdo⟩=>?_
 subst hx
 refine⟨rfl,fun h=>Bool.noConfusion (show false=true from h),?_⟩
 have hsm:=s_same hdo hd (by rw [fnL_len]; omega) (by omega)
 simp -implicitDefEqProofs
 refine use_fn (ds:=[.d do_,.d dl]) rfl hsm rfl ?_
 have hiff:=fnL_getD L L.length rfl (osum T)
 by_cases c3:fnL L.length (osum T)=L
 ·have hval:Valid L T:=⟨hT.nd,first_nz hT.up (by rw [hgy]; exact c2),by omega,hiff.1 c3⟩
  have:=h1 s2 d T hdT hval hT.up
  simp -implicitDefEqProofs [c3,c21_k2]
  exact this
 ·have:=h2 (fun T' hV hl' e=>c3 (hiff.2 (by
   rw [e] at hT
   exact(hV.perm (hT.perm hV.nd).symm).sm))) s2 d
  simp -implicitDefEqProofs [c3,c21_k2]
  exact this
def decR (L:List W32):Post:=fun w _=>(∃ d T,w = .tup [.d d,B true]∧PL d T∧Valid L T∧T.Pairwise leW)∨(w = .tup [.d .nils,B false]∧∀ T,¬ Valid L T)
def InvDv (dl:D)(w:V)(L:List W32)(m:Nat)(e:Env)(s:St):Prop:=∃ v:Nat,e=[(0,.d dl),(4,w),(6,I v)]∧v+m=L.length+1∧1≤v∧∀ T,Valid L T→v≤T.length
theorem dec_loop {dl:D}{w:V}{L:List W32}{s:St}(hd:PL dl L)(lL:L.length≤100)(hw:LV w (pR (powL L)))(hz : ∀ T,Valid L T→1≤T.length){Q:PostC}
  (h1 : ∀ s d T,PL d T→Valid L T→T.Pairwise leW→Q .ret [(2,.d d),(3,B true)] s)
  (h2:(∀ T,¬ Valid L T)→∀ s,Q .normal [(0,.d dl),(4,w),(6,I (L.length+1:Nat)),(52,B false)] s) :
  wcode (Dn.Call Γ cx) cx c21_k19 [(0,.d dl),(4,w),(6,I 1)] s Q:=by
 have hld : ∀ σ,lenT σ .slice (.d dl)=some L.length:=fun σ=>by rw [hd.len,pR_len]
 have hpl:(powL L).length=2*L.length:=powTo_len L _
 have hnb:=hw.borrows
 simp -implicitDefEqProofs [c21_k19]
 refine wloopI (InvDv dl w L) (m:=L.length) ⟨1,rfl,by omega,by omega,hz⟩ ?_
 rintro m e s ⟨v,rfl,hm,hv1,hT⟩
 by_cases hlt:v≤L.length
 rotate_left
 ·have hltI : ¬ (v:Int)≤L.length:=by omega
  have hvv:v=L.length+1:=by omega
  have:=h2 (fun T hV=>by have h3:=hT T hV; have h4:=hV.ln; omega) s
  rw [← hvv] at this
  simp -implicitDefEqProofs [hld,hltI,hlt,c21_l18,c21_k17]
  exact this
 have hltI:(v:Int)≤L.length:=by omega
 have w9:IntKind.i64.wrap ((v:Int)+1)=((v+1:Nat):Int):=by rw [wrap_i64 (by omega) (by omega)]; omega
 have w8:IntKind.i64.wrap ((v:Int)-1)=(v:Int)-1:=wrap_i64 (by omega) (by omega)
 have hnext:(∀ T,Valid L T→T.length≠v)→∀ s,∃ m'<m,InvDv dl w L m' [(0,.d dl),(4,w),(6,I (v+1:Nat))] s:=fun h s=>⟨m-1,by omega,v+1,rfl,by omega,by omega,fun T hV=>by
  have h3:=hT T hV
  have h4:=h T hV
  omega⟩
 obtain⟨dS,b1,l1⟩:=hw.byVal s
 simp -implicitDefEqProofs [hld,hltI,hlt,c21_l18,c21_k17,c21_k16,c21_k15]
 refine use_val (ds:=[.d dS,I v]) (by simp only [byVals,b1,bv_d]) (s_solve l1 hv1 (by omega) (by omega)) fun x s1 hx=>?_
 rcases hx with⟨rfl,z,⟨jz,hj,hzj⟩,hk⟩ | ⟨dc,C,rfl,hdc,hCl,hC⟩
 ·refine⟨rfl,fun hb=>?_,?_⟩
  ·simp only [List.any_cons,hnb,List.any_nil] at hb
   cases hb
  have hn:=hnext (fun T hV he=>by
   subst he
   exact hzj (no_ker hV.nd hV.nz hV.pows (by omega) hk jz hj)) s
  simp -implicitDefEqProofs [c21_k14,c21_k13,c21_k1,w9]
  exact hn
 ·refine⟨rfl,fun hb=>?_,?_⟩
  ·simp only [List.any_cons,hnb,List.any_nil] at hb
   cases hb
  have hCT : ∀ T,Valid L T→T.length=v→∀ i,i<T.length→C.getD i 0=cS T i:=fun T hV he i hi=>by
   subst he
   exact hC (cS T) (sol_set hV.pows (by omega)) i hi
  simp -implicitDefEqProofs [c21_k14]
  refine use_val (ds:=[.d dS,.d dc]) (by simp only [byVals,b1,bv_d]) (s_goes l1 hdc (by omega) (by omega)) fun x s2 ⟨b,hx,hb⟩=>?_
  subst hx
  refine⟨rfl,fun hb=>?_,?_⟩
  ·simp only [List.any_cons,hnb,List.any_nil] at hb
   cases hb
  cases b with
  | false =>
   have hn:=hnext (fun T hV he=>by
    have hc:=hCT T hV he
    have h3:=hb fun i h1 h2=>by
     unfold goesP
     rw [hCl] at h1 ⊢
     rw [← he] at h1 ⊢
     rw [sum_congr fun j hj=>by rw [hc j hj]]
     exact rec_set hV.pows (by omega) h2
    cases h3) s
   simp -implicitDefEqProofs [c21_k13,c21_k1,w9]
   exact hn
  | true =>
   simp -implicitDefEqProofs [c21_k13,c21_k12,c21_k11,w8]
   refine dec_poly hdc hCl (by omega) fun s3 p hA=>?_
   simp only [q_then_n]
   refine dec_end hd lL hCl hv1 hlt hA (fun s4 d T a b c=>?_) fun hno s4 d=>?_
   ·have:=h1 s4 d T a b c
    simp -implicitDefEqProofs
    exact this
   ·have hn:=hnext (fun T hV he=>hno T hV he (prod_of (by rw [hCl,he]) (hCT T hV he))) s4
    simp -implicitDefEqProofs [c21_k1,w9]
    exact hn
theorem s_rDecode {dl:D}{L:List W32}(hd:PL dl L)(lL:L.length≤100):Dn.Call Γ cx .val 21 [.d dl] St.empty (decR L):=by
 refine Dn.Call.body (fc:=c21) rfl ?_
 have hld : ∀ σ,lenT σ .slice (.d dl)=some L.length:=fun σ=>by rw [hd.len,pR_len]
 have hiff:=fnL_getD L L.length rfl (osum [])
 simp -implicitDefEqProofs [c21,c21_k32,hld]
 refine use_val (ds:=[I L.length,.d .nils]) rfl (s_OfW (A:=[]) (by omega) .nil (by simp)) fun x s5 ⟨do_,hx,hdo⟩=>?_
 subst hx
 refine⟨rfl,fun h=>Bool.noConfusion (show false=true from h),?_⟩
 have hsm:=s_same hd hdo (by omega) (by rw [fnL_len]; omega)
 simp -implicitDefEqProofs
 refine use_fn (ds:=[.d dl,.d do_]) rfl hsm rfl ?_
 by_cases c3:L=fnL L.length (osum [])
 ·have hc:decide (L=fnL L.length (osum []))=true:=decide_eq_true c3
  rw [hc]
  simp -implicitDefEqProofs [c21_k31]
  exact .inl ⟨_,[],rfl,.nil,⟨List.nodup_nil,by simp,by simp,hiff.1 c3.symm⟩,List.Pairwise.nil⟩
 ·have hc:decide (L=fnL L.length (osum []))=false:=decide_eq_false c3
  rw [hc]
  simp -implicitDefEqProofs [c21_k31,c21_k30,c21_k29]
  refine dec_pows hd lL fun s v hA=>?_
  simp -implicitDefEqProofs [c21_k20]
  refine dec_loop hd lL hA.lv (fun T hV=>?_) (fun s d T a b c=>?_) fun hno s=>?_
  ·cases T with
   | nil=>exact absurd (hiff.2 hV.sm).symm c3
   | cons=>simp
  ·simp -implicitDefEqProofs
   exact .inl ⟨_,_,rfl,a,b,c⟩
  ·simp -implicitDefEqProofs [c21_k0]
   exact .inr ⟨rfl,hno⟩

theorem valid_eq {L T T':List W32}(h:Valid L T)(h':Valid L T')(hs:T.Pairwise leW)(hs':T'.Pairwise leW):T=T' :=
 List.Perm.eq_of_pairwise (le:=leW) (fun a b _ _ h1 h2=>by
  have:un a=un b:=Int.le_antisymm h1 h2
  rw [← wof_un a,this,wof_un]) hs hs' (h.unique h')
theorem law4_end {s:St}{L:List W32}{v w:V}{t:Env}(hv:decQ L v)(lL:L.length≤6)(hw:decR L w St.empty) : ∃ a b c d,v = .tup [a,b]∧w = .tup [c,d] ∧
  wcode (Dn.Call Γ cx) cx c4_k2 [(4,b),(5,a),(6,c),(7,d)] s (endQ .val St.empty [.tmp 2] fun r _=>r=B true):=by
 rcases hv with⟨rfl,hn⟩ | ⟨d,T,rfl,hd,hT,hs⟩
 ·rcases hw with⟨d',T',rfl,-,hT',-⟩ | ⟨rfl,-⟩
  ·exact absurd hT' (hn T')
  ·refine⟨_,_,_,_,rfl,rfl,?_⟩
   simp -implicitDefEqProofs [c4_k2,c4_k1]
   refine use_fn (ds:=[errV 13,I 13]) rfl (s_Is 13 13) rfl ?_
   simp -implicitDefEqProofs [lenT,Dn.lenV]
 ·rcases hw with⟨d',T',rfl,hd',hT',hs'⟩ | ⟨rfl,hn⟩
  ·refine⟨_,_,_,_,rfl,rfl,?_⟩
   have hTl:=hT.ln
   have hTl':=hT'.ln
   have he:=valid_eq hT hT' hs hs'
   have hW:=s_WordsW hd hd' (by omega) (by omega)
   rw [he,decide_eq_true rfl] at hW
   simp -implicitDefEqProofs [c4_k2,c4_k1,c4_k0,eqV,V.isNil,Opd.isC]
   refine use_fn (ds:=[.d d,.d d']) rfl hW rfl ?_
   simp -implicitDefEqProofs
  ·exact absurd hT (hn T)
set_option maxHeartbeats 1000000 in
theorem law4 {dl:D}(fl:wordsK.fits dl):Dn.Call Γ cx .val 4 [.d dl] St.empty fun r _=>r=B true:=by
 obtain⟨L,hl⟩:=words_fit fl
 refine Dn.Call.body (fc:=c4) rfl ?_
 have hll : ∀ σ,lenT σ .slice (.d dl)=some L.length:=fun σ=>by rw [hl.len,pR_len]
 simp -implicitDefEqProofs [c4,c4_k11]
 refine use_fn rfl s_alive rfl ?_
 by_cases g1:(L.length:Int)<1
 ·simp -implicitDefEqProofs [c4_k10,c4_k9,hll,g1,c4_k8]
 by_cases g2:(6:Int)<L.length
 ·simp -implicitDefEqProofs [c4_k10,c4_k9,hll,g1,g2,c4_k8]
 simp -implicitDefEqProofs [c4_k10,c4_k9,hll,g1,g2,c4_k8,c4_k7]
 refine use_val (ds:=[.d dl]) rfl (s_rBytesL (by omega) hl) fun w s2 ⟨d6,hw,h6⟩=>?_
 subst hw
 refine⟨rfl,fun h=>Bool.noConfusion (show false=true from h),?_⟩
 have hbl:(bL L).length=4*L.length:=skB_len _ _
 simp -implicitDefEqProofs
 refine use_raw (s_Read h6 (by omega)) fun w s3 hw=>?_
 rcases hw with⟨hbad,-⟩ | ⟨-,x,dx,rfl,-,hx,hf,htk⟩
 ·exact absurd hbad (read_ok (by omega) (by omega))
 rw [words_bL] at hx
 simp -implicitDefEqProofs [c4_k6,eqV,V.isNil,Opd.isC,c4_k5,c4_k4]
 refine use_raw (s_Decode hx (by omega) (by omega)) fun v s4 ⟨hv,hf4,ht4⟩=>?_
 have hdec:=s_rDecode hl (by omega)
 have key : ∀ a b,v = .tup [a,b]→∀ w,decR L w St.empty→∃ c d,w = .tup [c,d]∧w.pure=true∧wcode (Dn.Call Γ cx) cx c4_k2 [(4,b),(5,a),(6,c),(7,d)] s4 (endQ .val St.empty [.tmp 2] fun r _=>r=B true):=fun a b hab w hw=>by
  obtain⟨a',b',c,d,e1,e2,h⟩:=law4_end (s:=s4) (t:=[]) hv (by omega) hw
  rw [hab] at e1
  cases e1
  refine⟨c,d,e2,?_,h⟩
  rcases hw with⟨d',T',rfl,-⟩ | ⟨rfl,-⟩ <;> rfl
 obtain⟨a,b,hab⟩ : ∃ a b,v = .tup [a,b]:=by
  rcases hv with⟨h,-⟩ | ⟨d,T,h,-⟩ <;> exact⟨_,_,h⟩
 have key2:=key a b hab
 clear key hv
 subst hab
 simp -implicitDefEqProofs [c4_k3]
 refine use_val (ds:=[.d dl]) rfl hdec fun w s5 hw=>?_
 obtain⟨c,d,rfl,hp,h⟩:=key2 w hw
 refine⟨hp,fun h=>Bool.noConfusion (show false=true from h),?_⟩
 simp -implicitDefEqProofs
 exact h
end Go.Proofs.Ytmlkdfjojoophaa.T
