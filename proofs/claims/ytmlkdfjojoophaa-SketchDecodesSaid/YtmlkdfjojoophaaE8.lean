import Derived.Test.YtmlkdfjojoophaaE1
import Derived.Sort.AssemblyPlain
namespace Go.Proofs.Ytmlkdfjojoophaa.T
open Go.Dn
attribute [local simp] body_eq globEnv GB List.map_nil List.map_cons List.append_nil w_rangeF i_next i_makeMap i_range i_update i_delete i_entry i_clone entryV cloneV q_rndA q_rndB_n q_rndB_e q_rndB_r setAll w_skip w_ops w_seq w_cond w_block w_exit w_ret q_then_n q_then_e q_then_r q_blk_n q_blk_e q_blk_r q_ops q_cont q_end_n q_end_r q_end_e q_loop_n q_loop_e q_loop_r i_nil i_p i_alloc i_box i_store i_copy i_clear i_call i_callv i_when t_nil t_p t_call t_alloc t_box t_store kept_nil t_copy t_clear q_tcont gsel List.cons_append List.nil_append evalP evalE evalF evalB isObj thaw Opd.ev Env.get Env.set Env.pick putE initEnv evalBin intBin evalUn evalConv goneAll goneOne retV resAll Res.ev tupOf byVals byValsN bv_d bv_da bv_fl bv_tl bn_d bn_da bn_fl bn_tl cx Dn.newObj St.place St.push St.spot St.empty cell_d cell_da cell_agg cell_ref cell_sl cell_fl cell_tl cell_map cell_fn cell_ifc loadAt faddrV partOf extractV mkAgg ofD splice St.setObj fillV
set_option linter.unusedSimpArgs false

abbrev I (n:Int):V:=.d (.int .i64 n)
abbrev X (n:Int):V:=.d (.int .u32 n)
abbrev B (b:Bool):V:=.d (.bool b)

abbrev lt:Int→Int→Bool:=Go.Sort.ltInt
open Go.Sort (swp)
def ar (d:Array Int):List V:=d.toList.map X
theorem ar_len (d:Array Int):(ar d).length=d.size:=by simp [ar]
theorem ar_at (d:Array Int){i:Nat}(h:i<d.size):(ar d)[i]?=some (X d[i]!):=by simp [ar,h]
theorem ar_set (d:Array Int){i:Nat}(h:i<d.size)(v:Int):splice (ar d) i [X v]=ar (d.setIfInBounds i v):=by
 unfold splice ar
 rw [Array.toList_setIfInBounds,List.map_set,List.set_eq_take_append_cons_drop]
 simp [h]
theorem swp_size (d:Array Int)(i j:Nat):(swp d i j).size=d.size:=by simp [swp]

structure At (σ:St)(q:Nat)(d:Array Int):Prop where
 obj:σ.objs[q]?=some (.cells (ar d))
theorem At.lt {σ:St}{q:Nat}{d:Array Int}(h:At σ q d):q<σ.objs.length:=(List.getElem?_eq_some_iff.1 h.obj).1
theorem At.set {σ:St}{q:Nat}{d:Array Int}(h:At σ q d)(o:Dn.Obj):(σ.objs.set q o)[q]?=some o:=by simp [h.lt]

structure To (σ:St)(q:Nat)(d:Array Int)(s:St):Prop where
 obj:s.objs[q]?=some (.cells (ar d))
 fr:Fr [q] σ s
 tk:s.toks=σ.toks
theorem To.at {σ:St}{q:Nat}{d:Array Int}{s:St}(h:To σ q d s):At s q d:=⟨h.obj⟩
theorem To.refl {σ:St}{q:Nat}{d:Array Int}(h:At σ q d):To σ q d σ:=⟨h.obj,Fr.refl _ _,rfl⟩
theorem To.trans {σ s s':St}{q:Nat}{d d':Array Int}(h:To σ q d s)(h':To s q d' s'):To σ q d' s':=⟨h'.obj,h.fr.trans h'.fr,h'.tk.trans h.tk⟩
theorem To.set {σ:St}{q:Nat}{d d':Array Int}(h:At σ q d):To σ q d' ⟨σ.objs.set q (.cells (ar d')),σ.toks⟩ :=
 ⟨h.set _,⟨by simp,fun r hr hl=>by simp only; rw [List.getElem?_set_ne (fun e=>hr (by simp [e]))]⟩,rfl⟩

structure Sw (σ:St)(q:Nat)(d:Array Int)(i j:Nat):Prop where
 o:σ.objs[q]?=some (.cells (ar d))
 ai:(ar d)[i]?=some (X d[i]!)
 aj:(ar d)[j]?=some (X d[j]!)
 s1:splice (ar d) i [X d[j]!]=ar (d.setIfInBounds i d[j]!)
 s2:splice (ar (d.setIfInBounds i d[j]!)) j [X d[i]!]=ar (swp d i j)
 l1:(ar d).length=d.size
 l2:(ar (d.setIfInBounds i d[j]!)).length=d.size
 st : ∀ o:Dn.Obj,(σ.objs.set q o)[q]?=some o
 i1:i+1≤d.size
 j1:j+1≤d.size
theorem At.sw {σ:St}{q:Nat}{d:Array Int}(h:At σ q d){i j:Nat}(hi:i<d.size)(hj:j<d.size):Sw σ q d i j :=
 ⟨h.obj,ar_at d hi,ar_at d hj,ar_set d hi _,by rw [ar_set _ (by simpa using hj)]; rfl,ar_len d,by rw [ar_len]; simp,h.set,hi,hj⟩

theorem iaddr_sl (σ:St){q n i:Nat}(h:i<n):iaddrV σ 1 (.sl q 0 n 1) (I i)=some (.ref q i):=by
 have:(i:Int)<n:=by omega
 simp [iaddrV,asIdx,this]

theorem s_isNaN (x:Int):Dn.Call Γ cx .val 142 [X x] St.empty fun v _=>v=B false:=by
 refine Dn.Call.body (fc:=c142) rfl ?_
 simp -implicitDefEqProofs [c142,c142_k0]
theorem s_Less (x y:Int):Dn.Call Γ cx .val 128 [X x,X y] St.empty fun v _=>v=B (lt x y):=by
 refine Dn.Call.body (fc:=c128) rfl ?_
 simp -implicitDefEqProofs [c128,c128_k0]
 refine use_fn rfl (s_isNaN x) rfl ?_
 simp -implicitDefEqProofs [lt,Go.Sort.ltInt]

open Go.Sort (insInner insOuter insertionSort)
def InvIn (q n a b i:Nat) (σ0:St)(d0:Array Int)(m:Nat)(e:Env) (σ:St):Prop:=∃ (j:Nat)(d:Array Int),e=[(0,.sl q 0 n 1),(1,I a),(2,I b),(6,I i),(7,I j)]∧j=m∧j<n∧d.size=n∧To σ0 q d σ∧insInner lt a i d0=insInner lt a j d

def InvOut (q n a b:Nat) (σ0:St)(d0:Array Int)(m:Nat)(e:Env) (σ:St):Prop:=∃ (i:Nat)(d:Array Int),e=[(0,.sl q 0 n 1),(1,I a),(2,I b),(6,I i)]∧m=b-i∧a<i∧d.size=n∧To σ0 q d σ∧insOuter lt a b (a+1) d0=insOuter lt a b i d

theorem s_ins {σ:St}{q n a b:Nat}{d:Array Int}(h:At σ q d)(hn:d.size=n)(hab:a≤b)(hb:b≤n)(hN:n≤1000000) :
  Dn.Call Γ cx .raw 122 [.sl q 0 n 1,I a,I b] σ fun _ s=>To σ q (insertionSort lt d a b) s:=by
 refine Dn.Call.body (fc:=c122) rfl ?_
 simp -implicitDefEqProofs [c122,wrap_i64 (n:=(a:Int)+1) (by omega) (by omega),c122_k10]
 refine wloopI (InvOut q n a b σ d) (m:=b-(a+1)) ⟨a+1,d,by simp [Env.pick,Env.get],by omega,by omega,hn,To.refl h,rfl⟩ ?_
 rintro m e s ⟨i,d1,rfl,rfl,hai,hn1,hto,heq⟩
 simp -implicitDefEqProofs [c122_l9,c122_k8]
 have hst:=Go.Sort.insOuter.eq_def lt a b i d1
 by_cases hib:i<b
 ·have hib':(i:Int)<b:=by omega
  rw [if_pos hib] at hst
  simp -implicitDefEqProofs [hib',hib,c122_k7,c122_k6]
  refine wloopI (InvIn q n a b i σ d1) (m:=i) ⟨i,d1,rfl,rfl,by omega,hn1,hto,rfl⟩ ?_
  rintro m e s' ⟨j,d2,rfl,rfl,hj,hn2,hto2,heq2⟩
  simp only [body_eq,globEnv,GB,List.map_nil,List.map_cons,List.append_nil,w_rangeF,i_next,i_makeMap,i_range,i_update,i_delete,i_entry,i_clone,entryV,cloneV,q_rndA,q_rndB_n,q_rndB_e,q_rndB_r,setAll,w_skip,w_ops,w_seq,w_cond,w_block,w_exit,w_ret,q_then_n,q_then_e,q_then_r,q_blk_n,q_blk_e,q_blk_r,q_ops,q_cont,q_end_n,q_end_r,q_end_e,q_loop_n,q_loop_e,q_loop_r,i_nil,i_p,i_alloc,i_box,i_store,i_copy,i_clear,i_call,i_callv,i_when,t_nil,t_p,t_call,t_alloc,t_box,t_store,kept_nil,t_copy,t_clear,q_tcont,gsel,List.cons_append,List.nil_append,evalP,evalE,evalF,evalB,isObj,thaw,Opd.ev,Env.get,Env.set,Env.pick,putE,initEnv,evalBin,intBin,evalUn,evalConv,goneAll,goneOne,retV,resAll,Res.ev,tupOf,byVals,byValsN,bv_d,bv_da,bv_fl,bv_tl,bn_d,bn_da,bn_fl,bn_tl,cx,Dn.newObj,St.place,St.push,St.spot,St.empty,cell_d,cell_da,cell_agg,cell_ref,cell_sl,cell_fl,cell_tl,cell_map,cell_fn,cell_ifc,loadAt,faddrV,partOf,extractV,mkAgg,ofD,splice,St.setObj,fillV,c122_l5]
  refine w_drwX (fun _=>.val) [] (by decide +kernel) ?_
  have hat:=hto2.at
  by_cases haj:a<j
  ·obtain⟨j',rfl⟩ : ∃ j',j=j'+1:=⟨j-1,by omega⟩
   have hsw:=hat.sw (i:=j'+1) (j:=j') (by omega) (by omega)
   have e1:IntKind.i64.wrap (((j'+1:Nat):Int)-1)=(j':Nat):=by rw [wrap_i64 (by omega) (by omega)]; omega
   have ia1:=fun σ=>iaddr_sl σ (q:=q) (n:=n) (i:=j'+1) hj
   have ia2:=fun σ=>iaddr_sl σ (q:=q) (n:=n) (i:=j') (by omega)
   have hin:=Go.Sort.insInner.eq_2 lt a d2 j'
   rw [Nat.succ_eq_add_one] at hin
   obtain⟨k,hk⟩ : ∃ k,j'+1=k:=⟨_,rfl⟩
   rw [hk] at haj hsw e1 ia1 heq2 hin ⊢
   have hkl:=hsw.i1
   simp -implicitDefEqProofs [room_zero,haj,e1,ia1,ia2,hsw.o,hsw.ai,hsw.aj]
   refine use_fnN rfl rfl (s_Less _ _) rfl ?_
   cases hl:lt d2[k]! d2[j']! with
   | true =>
    rw [hl] at hin
    simp only [gt_iff_lt,haj,decide_true,Bool.and_self,if_true] at hin
    simp -implicitDefEqProofs [hl,c122_k4,c122_k3,c122_k2]
    refine w_drwX (fun _=>.val) [] (by decide +kernel) ?_
    simp -implicitDefEqProofs [-splice,room_zero,e1,ia1,ia2,hsw.o,hsw.ai,hsw.aj]
    simp -implicitDefEqProofs [-splice,hsw.l1,hsw.i1,hsw.s1,hsw.st,hsw.l2,hsw.j1,hsw.s2,c122_k1,e1]
    exact⟨j',by omega,j',_,rfl,rfl,by omega,by rw [swp_size,hn2],hto2.trans (To.set hat),heq2.trans hin⟩
   | false =>
    rw [hl] at hin
    simp only [Bool.and_false,Bool.false_eq_true,if_false] at hin
    simp -implicitDefEqProofs [hl,c122_k4,c122_k0,wrap_i64 (n:=(i:Int)+1) (by omega) (by omega)]
    exact⟨b-(i+1),by omega,i+1,d2,rfl,rfl,by omega,hn2,hto2,heq.trans (hst.trans (by rw [heq2,hin]))⟩
  ·have hin:insInner lt a j d2=d2:=by
    cases j with
    | zero=>rfl
    | succ j => 
     rw [Go.Sort.insInner.eq_2]
     simp [show ¬ (a<j+1) from haj]
   simp -implicitDefEqProofs [room_zero,haj]
   simp -implicitDefEqProofs [c122_k4,c122_k0,wrap_i64 (n:=(i:Int)+1) (by omega) (by omega)]
   exact⟨b-(i+1),by omega,i+1,d2,rfl,rfl,by omega,hn2,hto2,heq.trans (hst.trans (by rw [heq2,hin]))⟩
 ·have hib' : ¬ ((i:Int)<b):=by omega
  rw [if_neg hib] at hst
  simp -implicitDefEqProofs [hib',hib]
  have:insertionSort lt d a b=d1:=heq.trans hst
  rw [this]
  exact hto

open Go.Sort (swp)

open Go.Sort (siftDown heapBuild heapPop heapSort)
theorem sift_tail {σ : St} {q n hi first root ch : Nat} {d : Array Int} {Q : PostC} {tl : Env} (htl : tl = [] ∨ tl = [(36, B false)]) (h : At σ q d) (hn : d.size = n) (hN : n ≤ 1000000) (hr : first + root < n) (hc : first + ch < n)
    (h1 : lt d[first + root]! d[first + ch]! = true → Q .normal [(0, .sl q 0 n 1), (2, I hi), (3, I first), (8, I ch)] ⟨σ.objs.set q (.cells (ar (swp d (first + root) (first + ch)))), σ.toks⟩)
    (h2 : lt d[first + root]! d[first + ch]! = false → ∀ e, Q .ret e σ) :
    wcode (Dn.Call Γ cx) cx c137_k2 ((0, .sl q 0 n 1) :: (2, I hi) :: (3, I first) :: (8, I root) :: (9, I ch) :: tl) σ Q := by
  simp only [body_eq, globEnv, GB, List.map_nil, List.map_cons, List.append_nil, w_rangeF, i_next, i_makeMap, i_range, i_update, i_delete, i_entry, i_clone, entryV, cloneV, q_rndA, q_rndB_n, q_rndB_e, q_rndB_r, setAll, w_skip, w_ops, w_seq, w_cond, w_block, w_exit, w_ret, q_then_n, q_then_e, q_then_r, q_blk_n, q_blk_e, q_blk_r, q_ops, q_cont, q_end_n, q_end_r, q_end_e, q_loop_n, q_loop_e, q_loop_r, i_nil, i_p, i_alloc, i_box, i_store, i_copy, i_clear, i_call, i_callv, i_when, t_nil, t_p, t_call, t_alloc, t_box, t_store, kept_nil, t_copy, t_clear, q_tcont, gsel, List.cons_append, List.nil_append, evalP, evalE, evalF, evalB, isObj, thaw, Opd.ev, Env.get, Env.set, Env.pick, putE, initEnv, evalBin, intBin, evalUn, evalConv, goneAll, goneOne, retV, resAll, Res.ev, tupOf, byVals, byValsN, bv_d, bv_da, bv_fl, bv_tl, bn_d, bn_da, bn_fl, bn_tl, cx, Dn.newObj, St.place, St.push, St.spot, St.empty, cell_d, cell_da, cell_agg, cell_ref, cell_sl, cell_fl, cell_tl, cell_map, cell_fn, cell_ifc, loadAt, faddrV, partOf, extractV, mkAgg, ofD, splice, St.setObj, fillV, c137_k2]
  refine w_drwX (fun _ => .val) [] (by decide +kernel) ?_
  have hsw := h.sw (i := first + root) (j := first + ch) (by omega) (by omega)
  have e1 : IntKind.i64.wrap ((first : Int) + root) = ((first + root : Nat) : Int) := by rw [wrap_i64 (by omega) (by omega)]; omega
  have e2 : IntKind.i64.wrap ((first : Int) + ch) = ((first + ch : Nat) : Int) := by rw [wrap_i64 (by omega) (by omega)]; omega
  have ia1 := fun σ => iaddr_sl σ (q := q) (n := n) (i := first + root) hr
  have ia2 := fun σ => iaddr_sl σ (q := q) (n := n) (i := first + ch) hc
  generalize first + root = x at *
  generalize first + ch = y at *
  rcases htl with rfl | rfl
  all_goals
   simp -implicitDefEqProofs [room_zero, e1, e2, ia1, ia2, hsw.o, hsw.ai, hsw.aj]
   refine use_fnN rfl rfl (s_Less _ _) rfl ?_
   cases hl : lt d[x]! d[y]! with
   | true =>
     simp -implicitDefEqProofs [c137_k1, c137_k0]
     refine w_drwX (fun _ => .val) [] (by decide +kernel) ?_
     simp -implicitDefEqProofs [-splice, room_zero, e1, e2, ia1, ia2, hsw.o, hsw.ai, hsw.aj]
     simp -implicitDefEqProofs [-splice, hsw.l1, hsw.i1, hsw.s1, hsw.st, hsw.l2, hsw.j1, hsw.s2]
     exact h1 hl
   | false =>
     simp -implicitDefEqProofs [c137_k1]
     exact h2 hl _

def InvSD (q n hi first lo:Nat) (σ0:St)(d0:Array Int)(m:Nat)(e:Env) (σ:St):Prop:=∃ (root:Nat)(d:Array Int),e=[(0,.sl q 0 n 1),(2,I hi),(3,I first),(8,I root)]∧m=hi-root∧d.size=n∧root≤n∧To σ0 q d σ∧siftDown lt hi first lo d0=siftDown lt hi first root d

theorem s_sift {σ:St}{q n hi first lo:Nat}{d:Array Int}(h:At σ q d)(hn:d.size=n)(hlo:lo≤n)(hb:first+hi≤n)(hN:n≤1000000) :
  Dn.Call Γ cx .raw 137 [.sl q 0 n 1,I lo,I hi,I first] σ fun _ s=>To σ q (siftDown lt hi first lo d) s:=by
 refine Dn.Call.body (fc:=c137) rfl ?_
 simp -implicitDefEqProofs [c137,c137_k9]
 refine wloopI (InvSD q n hi first lo σ d) (m:=hi-lo) ⟨lo,d,rfl,rfl,hn,hlo,To.refl h,rfl⟩ ?_
 rintro m e s ⟨root,d1,rfl,rfl,hn1,hrn,hto,heq⟩
 have hst:=Go.Sort.siftDown.eq_def lt hi first root d1
 have e0:IntKind.i64.wrap (2*(root:Int))=((2*root:Nat):Int):=by rw [wrap_i64 (by omega) (by omega)]; omega
 have e1:IntKind.i64.wrap (((2*root:Nat):Int)+1)=((2*root+1:Nat):Int):=by rw [wrap_i64 (by omega) (by omega)]; omega
 obtain⟨r2,hr2⟩ : ∃ r2,2*root=r2:=⟨_,rfl⟩
 rw [hr2] at e0 e1
 obtain⟨ch,hch⟩ : ∃ ch,r2+1=ch:=⟨_,rfl⟩
 rw [hch] at e1
 have e2:IntKind.i64.wrap ((ch:Int)+1)=((ch+1:Nat):Int):=by rw [wrap_i64 (by omega) (by omega)]; omega
 rw [show 2*root+2=ch+1 by omega,show 2*root+1=ch by omega] at hst
 simp -implicitDefEqProofs [c137_l8,c137_k7,e0,e1,c137_k6]
 by_cases hch2:hi≤ch
 ·rw [dif_pos hch2] at hst
  simp -implicitDefEqProofs [hch2,c137_k5]
  rw [heq,hst]
  exact hto
 rw [dif_neg hch2] at hst
 simp -implicitDefEqProofs [hch2,c137_k5,c137_k4]
 refine w_drwX (fun _=>.val) [] (by decide +kernel) ?_
 have hat:=hto.at
 have fin : ∀ (c:Nat),root<c→c<hi→siftDown lt hi first lo d=siftDown lt hi first c (swp d1 (first+root) (first+c))→loopQ (InvSD q n hi first lo σ d) (hi-root) [0,2,3,8] (blkQ 0 (endQ .raw σ [] fun _ s=>To σ q (siftDown lt hi first lo d) s)) .normal [(0,.sl q 0 n 1),(2,I hi),(3,I first),(8,I c)] ⟨s.objs.set q (.cells (ar (swp d1 (first+root) (first+c)))),s.toks⟩:=by
  intro c h1 h2 h3
  simp only [q_loop_n]
  exact⟨hi-c,by omega,c,_,rfl,rfl,by rw [swp_size,hn1],by omega,hto.trans (To.set hat),h3⟩
 by_cases hc1:ch+1<hi
 ·have hc1':(((ch+1:Nat):Int))<hi:=by omega
  have f1:IntKind.i64.wrap ((first:Int)+ch)=((first+ch:Nat):Int):=by rw [wrap_i64 (by omega) (by omega)]; omega
  have f2:IntKind.i64.wrap (((first+ch:Nat):Int)+1)=((first+ch+1:Nat):Int):=by rw [wrap_i64 (by omega) (by omega)]; omega
  have ia1:=fun σ=>iaddr_sl σ (q:=q) (n:=n) (i:=first+ch) (by omega)
  have ia2:=fun σ=>iaddr_sl σ (q:=q) (n:=n) (i:=first+ch+1) (by omega)
  have hsw:=hat.sw (i:=first+ch) (j:=first+ch+1) (by omega) (by omega)
  obtain⟨x,hx⟩ : ∃ x,first+ch=x:=⟨_,rfl⟩
  rw [hx] at f1 f2 ia1 ia2 hsw hst
  obtain⟨y,hy⟩ : ∃ y,x+1=y:=⟨_,rfl⟩
  rw [hy] at f2 ia2 hsw hst
  obtain⟨c2,hc2⟩ : ∃ c2,ch+1=c2:=⟨_,rfl⟩
  rw [hc2] at e2 hc1 hc1' hst
  simp -implicitDefEqProofs [room_zero,e2,hc1,f1,f2,ia1,ia2,hsw.o,hsw.ai,hsw.aj]
  refine use_fnN rfl rfl (s_Less _ _) rfl ?_
  cases hl:lt d1[x]! d1[y]! with
  | true =>
   rw [hl] at hst
   simp only [hc1,decide_true,Bool.and_self,if_true] at hst
   simp -implicitDefEqProofs [c137_k3,e2]
   refine sift_tail (first:=first) (root:=root) (ch:=c2) (.inl rfl) hat hn1 hN (by omega) (by omega) (fun h1=>?_) (fun h1 e=>?_)
   ·rw [h1] at hst
    simp only [Bool.not_true,Bool.false_eq_true,if_false,dif_pos] at hst
    simp only [q_blk_n]
    exact fin c2 (by omega) hc1 (heq.trans hst)
   ·rw [h1] at hst
    simp only [Bool.not_false,if_true] at hst
    simp -implicitDefEqProofs
    rw [heq,hst]
    exact hto
  | false =>
   rw [hl] at hst
   simp only [hc1,decide_true,Bool.and_false,Bool.false_eq_true,if_false] at hst
   simp -implicitDefEqProofs [c137_k3,e2]
   refine sift_tail (first:=first) (root:=root) (ch:=ch) (.inr rfl) hat hn1 hN (by omega) (by omega) (fun h1=>?_) (fun h1 e=>?_)
   ·rw [hx] at h1
    rw [h1] at hst
    simp only [Bool.not_true,Bool.false_eq_true,if_false] at hst
    simp only [q_blk_n]
    exact fin ch (by omega) (by omega) (heq.trans (by rw [hst,hx]))
   ·rw [hx] at h1
    rw [h1] at hst
    simp only [Bool.not_false,if_true] at hst
    simp -implicitDefEqProofs
    rw [heq,hst]
    exact hto
 ·have hc1' : ¬ (((ch+1:Nat):Int))<hi:=by omega
  simp only [hc1,decide_false,Bool.false_and,Bool.false_eq_true,if_false] at hst
  obtain⟨c2,hc2⟩ : ∃ c2,ch+1=c2:=⟨_,rfl⟩
  rw [hc2] at e2 hc1
  simp -implicitDefEqProofs [room_zero,e2,hc1,c137_k3]
  refine sift_tail (first:=first) (root:=root) (ch:=ch) (.inr rfl) hat hn1 hN (by omega) (by omega) (fun h1=>?_) (fun h1 e=>?_)
  ·rw [h1] at hst
   simp only [Bool.not_true,Bool.false_eq_true,if_false] at hst
   simp only [q_blk_n]
   exact fin ch (by omega) (by omega) (heq.trans hst)
  ·rw [h1] at hst
   simp only [Bool.not_false,if_true] at hst
   simp -implicitDefEqProofs
   rw [heq,hst]
   exact hto

theorem siftDown_size : ∀ (k hi first root:Nat)(d:Array Int),hi-root≤k→(siftDown lt hi first root d).size=d.size:=by
 intro k
 induction k with
 | zero =>
  intro hi first root d h
  rw [Go.Sort.siftDown.eq_def,dif_pos (by omega)]
 | succ k ih =>
  intro hi first root d h
  rw [Go.Sort.siftDown.eq_def]
  split
  ·rfl
  ·split
   ·split
    ·rfl
    ·split
     ·rw [ih _ _ _ _ (by omega),swp_size]
     ·rfl
   ·split
    ·rfl
    ·rw [ih _ _ _ _ (by omega),swp_size]

def InvHB (q n a b hi:Nat) (σ0:St)(d0:Array Int)(K0:Nat)(m:Nat)(e:Env) (σ:St):Prop:=∃ (k:Nat)(d:Array Int),e=[(0,.sl q 0 n 1),(6,I a),(7,I 0),(8,I hi),(9,I ((k:Int)-1))]∧k=m∧k≤n+1∧d.size=n∧To σ0 q d σ∧heapBuild lt hi a K0 d0=heapBuild lt hi a k d
def InvHP (q n a b:Nat) (σ0:St)(d0:Array Int)(K0:Nat)(m:Nat)(e:Env) (σ:St):Prop:=∃ (k:Nat)(d:Array Int),e=[(0,.sl q 0 n 1),(6,I a),(7,I 0),(10,I ((k:Int)-1))]∧k=m∧k+a≤n∧d.size=n∧To σ0 q d σ∧heapPop lt a K0 d0=heapPop lt a k d

theorem s_heap {σ:St}{q n a b:Nat}{d:Array Int}(h:At σ q d)(hn:d.size=n)(hab:a≤b)(hb:b≤n)(hN:n≤1000000) :
  Dn.Call Γ cx .raw 123 [.sl q 0 n 1,I a,I b] σ fun _ s=>To σ q (heapSort lt d a b) s:=by
 refine Dn.Call.body (fc:=c123) rfl ?_
 obtain⟨hi,hhi⟩ : ∃ hi,b-a=hi:=⟨_,rfl⟩
 have e0:IntKind.i64.wrap ((b:Int)-a)=(hi:Int):=by rw [wrap_i64 (by omega) (by omega)]; omega
 have e1:IntKind.i64.wrap ((hi:Int)-1)=(hi:Int)-1:=wrap_i64 (by omega) (by omega)
 have e2:IntKind.i64.wrap (((hi:Int)-1).tdiv 2)=((((hi-1) / 2+1:Nat):Int)-1):=by
  have:((hi:Int)-1).tdiv 2=(((hi-1) / 2:Nat):Int):=by
   rcases Nat.eq_zero_or_pos hi with h0 | h0
   ·subst h0; rfl
   ·rw [Int.tdiv_eq_ediv_of_nonneg (by omega)]; omega
  rw [this,wrap_i64 (by omega) (by omega)]
  omega
 simp -implicitDefEqProofs [c123,c123_k15,c123_k14,e0,c123_k13,e1,c123_k12]
 rw [e2]
 refine wloopI (InvHB q n a b hi σ d ((hi-1) / 2+1)) (m:=(hi-1) / 2+1) ⟨_,d,rfl,rfl,by omega,hn,To.refl h,rfl⟩ ?_
 rintro m e s ⟨k,d1,rfl,rfl,hk,hn1,hto,heq⟩
 simp only [body_eq,globEnv,GB,List.map_nil,List.map_cons,List.append_nil,w_rangeF,i_next,i_makeMap,i_range,i_update,i_delete,i_entry,i_clone,entryV,cloneV,q_rndA,q_rndB_n,q_rndB_e,q_rndB_r,setAll,w_skip,w_ops,w_seq,w_cond,w_block,w_exit,w_ret,q_then_n,q_then_e,q_then_r,q_blk_n,q_blk_e,q_blk_r,q_ops,q_cont,q_end_n,q_end_r,q_end_e,q_loop_n,q_loop_e,q_loop_r,i_nil,i_p,i_alloc,i_box,i_store,i_copy,i_clear,i_call,i_callv,i_when,t_nil,t_p,t_call,t_alloc,t_box,t_store,kept_nil,t_copy,t_clear,q_tcont,gsel,List.cons_append,List.nil_append,evalP,evalE,evalF,evalB,isObj,thaw,Opd.ev,Env.get,Env.set,Env.pick,putE,initEnv,evalBin,intBin,evalUn,evalConv,goneAll,goneOne,retV,resAll,Res.ev,tupOf,byVals,byValsN,bv_d,bv_da,bv_fl,bv_tl,bn_d,bn_da,bn_fl,bn_tl,cx,Dn.newObj,St.place,St.push,St.spot,St.empty,cell_d,cell_da,cell_agg,cell_ref,cell_sl,cell_fl,cell_tl,cell_map,cell_fn,cell_ifc,loadAt,faddrV,partOf,extractV,mkAgg,ofD,splice,St.setObj,fillV,c123_l11]
 cases k with
 | zero =>
  have hd:heapBuild lt hi a ((hi-1) / 2+1) d=d1:=heq
  have hl0 : ¬ ((0:Int)≤((0:Nat):Int)-1):=by decide
  simp -implicitDefEqProofs [c123_k10,c123_k7,e1,c123_k6]
  refine wloopI (InvHP q n a b s d1 hi) (m:=hi) ⟨hi,d1,rfl,rfl,by omega,hn1,To.refl hto.at,rfl⟩ ?_
  rintro m e s' ⟨k,d2,rfl,rfl,hk,hn2,hto2,heq2⟩
  simp only [body_eq,globEnv,GB,List.map_nil,List.map_cons,List.append_nil,w_rangeF,i_next,i_makeMap,i_range,i_update,i_delete,i_entry,i_clone,entryV,cloneV,q_rndA,q_rndB_n,q_rndB_e,q_rndB_r,setAll,w_skip,w_ops,w_seq,w_cond,w_block,w_exit,w_ret,q_then_n,q_then_e,q_then_r,q_blk_n,q_blk_e,q_blk_r,q_ops,q_cont,q_end_n,q_end_r,q_end_e,q_loop_n,q_loop_e,q_loop_r,i_nil,i_p,i_alloc,i_box,i_store,i_copy,i_clear,i_call,i_callv,i_when,t_nil,t_p,t_call,t_alloc,t_box,t_store,kept_nil,t_copy,t_clear,q_tcont,gsel,List.cons_append,List.nil_append,evalP,evalE,evalF,evalB,isObj,thaw,Opd.ev,Env.get,Env.set,Env.pick,putE,initEnv,evalBin,intBin,evalUn,evalConv,goneAll,goneOne,retV,resAll,Res.ev,tupOf,byVals,byValsN,bv_d,bv_da,bv_fl,bv_tl,bn_d,bn_da,bn_fl,bn_tl,cx,Dn.newObj,St.place,St.push,St.spot,St.empty,cell_d,cell_da,cell_agg,cell_ref,cell_sl,cell_fl,cell_tl,cell_map,cell_fn,cell_ifc,loadAt,faddrV,partOf,extractV,mkAgg,ofD,splice,St.setObj,fillV,c123_l5]
  cases k with
  | zero =>
   have hres:heapSort lt d a b=d2:=by
    unfold heapSort
    rw [hhi,hd,heq2]
    rfl
   simp -implicitDefEqProofs [c123_k4]
   rw [hres]
   exact hto.trans hto2
  | succ k =>
   have hat:=hto2.at
   have hsw:=hat.sw (i:=a) (j:=a+k) (by omega) (by omega)
   have f1:IntKind.i64.wrap ((a:Int)+k)=((a+k:Nat):Int):=by rw [wrap_i64 (by omega) (by omega)]; omega
   have ia1:=fun σ=>iaddr_sl σ (q:=q) (n:=n) (i:=a) (by omega)
   have ia2:=fun σ=>iaddr_sl σ (q:=q) (n:=n) (i:=a+k) (by omega)
   have hst:heapPop lt a (k+1) d2=heapPop lt a k (siftDown lt k a 0 (swp d2 a (a+k))):=rfl
   have g1:(((k+1:Nat):Int)-1)=(k:Int):=by omega
   have hk0:(0:Int)≤k:=by omega
   have g2:IntKind.i64.wrap ((k:Int)-1)=(k:Int)-1:=wrap_i64 (by omega) (by omega)
   rw [g1]
   obtain⟨x,hx⟩ : ∃ x,a+k=x:=⟨_,rfl⟩
   rw [hx] at hsw f1 ia2 hst
   simp -implicitDefEqProofs [hk0,c123_k4,c123_k3,c123_k2]
   refine w_drwX (fun _=>.val) [] (by decide +kernel) ?_
   simp -implicitDefEqProofs [-splice,room_zero,f1,ia1,ia2,hsw.o,hsw.ai,hsw.aj]
   simp -implicitDefEqProofs [-splice,hsw.l1,hsw.i1,hsw.s1,hsw.st,hsw.l2,hsw.j1,hsw.s2,c123_k1]
   have hto3:To s' q (swp d2 a x) ⟨s'.objs.set q (.cells (ar (swp d2 a x))),s'.toks⟩:=To.set hat
   refine use_raw (s_sift (lo:=0) (hi:=k) (first:=a) hto3.at (by rw [swp_size,hn2]) (by omega) (by omega) hN) fun v s4 h4=>?_
   simp -implicitDefEqProofs [c123_k0,g2]
   exact⟨k,by omega,k,_,rfl,rfl,by omega,by rw [siftDown_size k _ _ _ _ (by omega),swp_size,hn2],(hto2.trans hto3).trans h4,heq2.trans hst⟩
 | succ k =>
  have hat:=hto.at
  have hst:heapBuild lt hi a (k+1) d1=heapBuild lt hi a k (siftDown lt hi a k d1):=rfl
  have g1:(((k+1:Nat):Int)-1)=(k:Int):=by omega
  have hk0:(0:Int)≤k:=by omega
  have g2:IntKind.i64.wrap ((k:Int)-1)=(k:Int)-1:=wrap_i64 (by omega) (by omega)
  rw [g1]
  simp -implicitDefEqProofs [hk0,c123_k10,c123_k9]
  refine use_raw (s_sift (lo:=k) (hi:=hi) (first:=a) hat hn1 (by omega) (by omega) hN) fun v s4 h4=>?_
  simp -implicitDefEqProofs [c123_k8,g2]
  exact⟨k,by omega,k,_,rfl,rfl,by omega,by rw [siftDown_size hi _ _ _ _ (by omega),hn1],hto.trans h4,heq.trans hst⟩

open Go.Sort (swp)

open Go.Sort (reverseLoop reverseRange order2 median medianAdjacent choosePivot Hint)
def InvRv (q n a b:Nat) (σ0:St)(d0:Array Int)(m:Nat)(e:Env) (σ:St):Prop:=∃ (i j:Nat)(d:Array Int),e=[(0,.sl q 0 n 1),(6,I i),(7,I j)]∧m=j-i∧j<n∧d.size=n∧To σ0 q d σ∧reverseLoop a (b-1) d0=reverseLoop i j d

theorem s_reverse {σ:St}{q n a b:Nat}{d:Array Int}(h:At σ q d)(hn:d.size=n)(hab:a<b)(hb:b≤n)(hN:n≤1000000) :
  Dn.Call Γ cx .raw 126 [.sl q 0 n 1,I a,I b] σ fun _ s=>To σ q (reverseRange d a b) s:=by
 refine Dn.Call.body (fc:=c126) rfl ?_
 have e0:IntKind.i64.wrap ((b:Int)-1)=((b-1:Nat):Int):=by rw [wrap_i64 (by omega) (by omega)]; omega
 simp -implicitDefEqProofs [c126,c126_k7,e0,c126_k6]
 refine wloopI (InvRv q n a b σ d) (m:=b-1-a) ⟨a,b-1,d,rfl,rfl,by omega,hn,To.refl h,rfl⟩ ?_
 rintro m e s ⟨i,j,d1,rfl,rfl,hj,hn1,hto,heq⟩
 have hst:=Go.Sort.reverseLoop.eq_def i j d1
 simp -implicitDefEqProofs [c126_l5]
 by_cases hij:i<j
 ·rw [if_pos hij] at hst
  simp -implicitDefEqProofs [hij,c126_k4,c126_k3,c126_k2]
  refine w_drwX (fun _=>.val) [] (by decide +kernel) ?_
  have hat:=hto.at
  have hsw:=hat.sw (i:=i) (j:=j) (by omega) (by omega)
  have ia1:=fun σ=>iaddr_sl σ (q:=q) (n:=n) (i:=i) (by omega)
  have ia2:=fun σ=>iaddr_sl σ (q:=q) (n:=n) (i:=j) (by omega)
  have e1:IntKind.i64.wrap ((j:Int)-1)=((j-1:Nat):Int):=by rw [wrap_i64 (by omega) (by omega)]; omega
  simp -implicitDefEqProofs [-splice,room_zero,ia1,ia2,hsw.o,hsw.ai,hsw.aj]
  simp -implicitDefEqProofs [-splice,hsw.l1,hsw.i1,hsw.s1,hsw.st,hsw.l2,hsw.j1,hsw.s2,c126_k1,c126_k0,e1,wrap_i64 (n:=(i:Int)+1) (by omega) (by omega)]
  exact⟨j-1-(i+1),by omega,i+1,j-1,_,rfl,rfl,by omega,by rw [swp_size,hn1],hto.trans (To.set hat),heq.trans hst⟩
 ·rw [if_neg hij] at hst
  simp -implicitDefEqProofs [hij,c126_k4]
  have:reverseRange d a b=d1:=heq.trans hst
  rw [this]
  exact hto

structure Ct (σ:St)(p:Nat)(k:Int)(s:St):Prop where
 obj:s.objs[p]?=some (.cells [I k])
 fr:Fr [p] σ s
 tk:s.toks=σ.toks
theorem Ct.trans {σ s s':St}{p:Nat}{k k':Int}(h:Ct σ p k s)(h':Ct s p k' s'):Ct σ p k' s':=⟨h'.obj,h.fr.trans h'.fr,h'.tk.trans h.tk⟩
theorem At.ct {σ s:St}{q p:Nat}{d:Array Int}{k:Int}(h:At σ q d)(hc:Ct σ p k s)(hne:q≠p):At s q d:=⟨hc.fr.get h.obj (by simp [hne])⟩

theorem s_order2 {σ:St}{q n a b p k:Nat}{d:Array Int}(h:At σ q d)(hn:d.size=n)(ha:a<n)(hb:b<n)(hN:n≤1000000)(hk:k≤1000)(hp:σ.objs[p]?=some (.cells [I k])) :
  Dn.Call Γ cx .raw 143 [.sl q 0 n 1,I a,I b,.ref p 0] σ fun v s=>v = .tup [I (order2 lt d a b k).1,I (order2 lt d a b k).2.1]∧Ct σ p (order2 lt d a b k).2.2 s:=by
 refine Dn.Call.body (fc:=c143) rfl ?_
 simp -implicitDefEqProofs [c143,c143_k4]
 refine w_drwX (fun _=>.val) [] (by decide +kernel) ?_
 have hsw:=h.sw (i:=a) (j:=b) (by omega) (by omega)
 have ia1:=fun σ=>iaddr_sl σ (q:=q) (n:=n) (i:=a) (by omega)
 have ia2:=fun σ=>iaddr_sl σ (q:=q) (n:=n) (i:=b) (by omega)
 simp -implicitDefEqProofs [room_zero,ia1,ia2,hsw.o,hsw.ai,hsw.aj]
 refine use_fnN rfl rfl (s_Less _ _) rfl ?_
 cases hl:lt d[b]! d[a]! with
 | true =>
  have hpl:p<σ.objs.length:=(List.getElem?_eq_some_iff.1 hp).1
  simp -implicitDefEqProofs [c143_k3,c143_k2,nilCheckV,hp,wrap_i64 (n:=(k:Int)+1) (by omega) (by omega),c143_k1,order2,hl]
  exact⟨by simp [hpl],⟨by simp,fun r hr hlr=>by simp only; rw [List.getElem?_set_ne (fun e=>hr (by simp [e]))]⟩,rfl⟩
 | false =>
  simp -implicitDefEqProofs [c143_k3,c143_k0,order2,hl]
  exact⟨hp,Fr.refl _ _,rfl⟩

theorem order2_lt {d:Array Int}{a b k n:Nat}(ha:a<n)(hb:b<n):(order2 lt d a b k).1<n∧(order2 lt d a b k).2.1<n∧(order2 lt d a b k).2.2≤k+1:=by
 unfold order2
 split <;> simp [ha,hb]

theorem s_median {σ:St}{q n a b c p k:Nat}{d:Array Int}(h:At σ q d)(hn:d.size=n)(ha:a<n)(hb:b<n)(hc:c<n)(hN:n≤1000000)(hk:k≤900)(hp:σ.objs[p]?=some (.cells [I k]))(hqp:q≠p) :
  Dn.Call Γ cx .raw 141 [.sl q 0 n 1,I a,I b,I c,.ref p 0] σ fun v s=>v=I (median lt d a b c k).1∧Ct σ p (median lt d a b c k).2 s:=by
 refine Dn.Call.body (fc:=c141) rfl ?_
 simp -implicitDefEqProofs [c141,c141_k3]
 refine use_raw (s_order2 h hn ha hb hN (by omega) hp) fun v1 s1 ⟨hv1,hc1⟩=>?_
 obtain⟨l1,l2,l3⟩:=order2_lt (d:=d) (k:=k) ha hb
 subst hv1
 simp only [median]
 generalize order2 lt d a b k=r1 at *
 simp -implicitDefEqProofs [c141_k2]
 refine use_raw (s_order2 (h.ct hc1 hqp) hn l2 hc hN (by omega) hc1.obj) fun v2 s2 ⟨hv2,hc2⟩=>?_
 obtain⟨m1,m2,m3⟩:=order2_lt (d:=d) (k:=r1.2.2) l2 hc
 subst hv2
 generalize order2 lt d r1.2.1 c r1.2.2=r2 at *
 simp -implicitDefEqProofs [c141_k1]
 refine use_raw (s_order2 ((h.ct hc1 hqp).ct hc2 hqp) hn l1 m1 hN (by omega) hc2.obj) fun v3 s3 ⟨hv3,hc3⟩=>?_
 subst hv3
 simp -implicitDefEqProofs [c141_k0]
 exact(hc1.trans hc2).trans hc3

theorem median_lt {d:Array Int}{a b c k n:Nat}(ha:a<n)(hb:b<n)(hc:c<n):(median lt d a b c k).1<n∧(median lt d a b c k).2≤k+3:=by
 simp only [median]
 obtain⟨l1,l2,l3⟩:=order2_lt (d:=d) (k:=k) ha hb
 generalize order2 lt d a b k=r1 at *
 obtain⟨m1,m2,m3⟩:=order2_lt (d:=d) (k:=r1.2.2) l2 hc
 generalize order2 lt d r1.2.1 c r1.2.2=r2 at *
 obtain⟨k1,k2,k3⟩:=order2_lt (d:=d) (k:=r2.2.2) l1 m1
 exact⟨k2,by omega⟩

theorem s_medianAdj {σ:St}{q n a p k:Nat}{d:Array Int}(h:At σ q d)(hn:d.size=n)(h1:1≤a)(ha:a+1<n)(hN:n≤1000000)(hk:k≤900)(hp:σ.objs[p]?=some (.cells [I k]))(hqp:q≠p) :
  Dn.Call Γ cx .raw 140 [.sl q 0 n 1,I a,.ref p 0] σ fun v s=>v=I (medianAdjacent lt d a k).1∧Ct σ p (medianAdjacent lt d a k).2 s:=by
 refine Dn.Call.body (fc:=c140) rfl ?_
 have e1:IntKind.i64.wrap ((a:Int)-1)=((a-1:Nat):Int):=by rw [wrap_i64 (by omega) (by omega)]; omega
 have e2:IntKind.i64.wrap ((a:Int)+1)=((a+1:Nat):Int):=by rw [wrap_i64 (by omega) (by omega)]; omega
 simp -implicitDefEqProofs [c140,c140_k0,e1,e2]
 refine use_raw (s_median h hn (by omega) (by omega) ha hN hk hp hqp) fun v s ⟨hv,hc⟩=>?_
 subst hv
 simp -implicitDefEqProofs
 exact⟨rfl,hc⟩

def hintN:Hint→Int
 | .unknown=>0
 | .increasing=>1
 | .decreasing=>2

structure Nw (σ:St)(s:St):Prop where
 fr:Fr [] σ s
 tk:s.toks=σ.toks

theorem piv_end {p:Nat}{j k:Nat} {σ0 s:St}{e:Env}(h9:e.get 9 = .ref p 0)(h11:e.get 11=I j)(hp:s.objs[p]?=some (.cells [I k])){Q:Post}(hq:Q (.tup [I j,I (hintN (if k=0 then .increasing else if k=12 then .decreasing else .unknown))]) s) :
  wcode (Dn.Call Γ cx) cx c125_k5 e s (endQ .raw σ0 [.tmp 6,.tmp 7] Q):=by
 by_cases h0:k=0
 ·subst h0
  simp -implicitDefEqProofs [c125_k5,hp,h9,h11,Env.get_set,c125_k4,c125_k3,c125_k2]
  exact hq
 ·have h0' : ¬ ((k:Int)=0):=by omega
  by_cases h12:k=12
  ·subst h12
   simp -implicitDefEqProofs [c125_k5,hp,h9,h11,Env.get_set,c125_k4,c125_k3,c125_k2,c125_k1,c125_k0]
   exact hq
  ·have h12' : ¬ ((k:Int)=12):=by omega
   simp only [h0,h12,if_false] at hq
   simp -implicitDefEqProofs [c125_k5,hp,h9,h11,Env.get_set,h0',h12',h0,h12,c125_k4,c125_k3,c125_k2,c125_k1,c125_k0]
   exact hq

theorem s_choose {σ:St}{q n a b:Nat}{d:Array Int}(h:At σ q d)(hn:d.size=n)(hab:a<b)(hb:b≤n)(hN:n≤1000000) :
  Dn.Call Γ cx .raw 125 [.sl q 0 n 1,I a,I b] σ fun v s=>v = .tup [I (choosePivot lt d a b).1,I (hintN (choosePivot lt d a b).2)]∧Nw σ s:=by
 refine Dn.Call.body (fc:=c125) rfl ?_
 obtain⟨l,hl⟩ : ∃ l,b-a=l:=⟨_,rfl⟩
 have e0:IntKind.i64.wrap ((b:Int)-a)=(l:Int):=by rw [wrap_i64 (by omega) (by omega)]; omega
 have e1:IntKind.i64.wrap ((l:Int) / 4)=((l / 4:Nat):Int):=by
  rw [wrap_i64 (by omega) (by omega)]; omega
 have e2:IntKind.i64.wrap ((l / 4:Nat):Int)=((l / 4:Nat):Int):=wrap_i64 (by omega) (by omega)
 have e3:IntKind.i64.wrap (((l / 4:Nat):Int)*2)=((l / 4*2:Nat):Int):=by rw [wrap_i64 (by omega) (by omega)]; omega
 have e4:IntKind.i64.wrap (((l / 4:Nat):Int)*3)=((l / 4*3:Nat):Int):=by rw [wrap_i64 (by omega) (by omega)]; omega
 have e5:IntKind.i64.wrap ((a:Int)+(l / 4:Nat))=((a+l / 4:Nat):Int):=by rw [wrap_i64 (by omega) (by omega)]; omega
 have e6:IntKind.i64.wrap ((a:Int)+(l / 4*2:Nat))=((a+l / 4*2:Nat):Int):=by rw [wrap_i64 (by omega) (by omega)]; omega
 have e7:IntKind.i64.wrap ((a:Int)+(l / 4*3:Nat))=((a+l / 4*3:Nat):Int):=by rw [wrap_i64 (by omega) (by omega)]; omega
 have hcp:choosePivot lt d a b=(let i:=a+l / 4; let j:=a+l / 4*2; let k:=a+l / 4*3
  let r:Nat×Nat:=if l≥8 then(if l≥50 then
    let ri:=medianAdjacent lt d i 0
    let rj:=medianAdjacent lt d j ri.2
    let rk:=medianAdjacent lt d k rj.2
    median lt d ri.1 rj.1 rk.1 rk.2 else median lt d i j k 0) else(j,0)
  (r.1,if r.2=0 then .increasing else if r.2=12 then .decreasing else .unknown)):=by
  simp only [choosePivot,hl,Nat.mul_one]
 rw [hcp]
 clear hcp
 have b4:a+l / 4*3+1≤n:=by omega
 have b3:l / 4*2≤l / 4*3:=by omega
 have b2:l / 4≤l / 4*2:=by omega
 have b1:8≤l→2≤l / 4:=by omega
 have b5:8≤l→a+l / 4*3+1<n:=by omega
 generalize l / 4=x4 at *
 generalize x4*2=x2 at *
 generalize x4*3=x3 at *
 obtain⟨i,hi⟩ : ∃ i,a+x4=i:=⟨_,rfl⟩
 obtain⟨j,hj⟩ : ∃ j,a+x2=j:=⟨_,rfl⟩
 obtain⟨k,hk⟩ : ∃ k,a+x3=k:=⟨_,rfl⟩
 rw [hi] at e5 ⊢
 rw [hj] at e6 ⊢
 rw [hk] at e7 ⊢
 simp -implicitDefEqProofs [c125,c125_k18,e0,c125_k17,c125_k16,e1,e2,e5,c125_k15,e3,e6,c125_k14,e4,e7,c125_k13]
 have hq:q≠σ.objs.length:=by have:=h.lt; omega
 obtain⟨σ1,hσ1⟩ : ∃ s:St,(⟨σ.objs++[.cells [I 0]],σ.toks⟩:St)=s:=⟨_,rfl⟩
 have h1:At σ1 q d:=⟨by rw [← hσ1]; simp only; rw [List.getElem?_append_left h.lt]; exact h.obj⟩
 have hp1:σ1.objs[σ.objs.length]?=some (.cells [I ((0:Nat):Int)]):=by rw [← hσ1]; simp
 have hn1:Nw σ σ1:=by
  rw [← hσ1]
  exact⟨⟨by simp,fun r _ hr=>by simp [List.getElem?_append_left hr]⟩,rfl⟩
 rw [hσ1]
 have nw : ∀ {s:St} {k:Int},Ct σ1 σ.objs.length k s→Nw σ s:=fun hc=>⟨⟨Nat.le_trans hn1.fr.len hc.fr.len,fun r _ hr=>by
  rw [hc.fr.at_ r (by simp; omega) (Nat.lt_of_lt_of_le hr hn1.fr.len)]
  exact hn1.fr.at_ r (by simp) hr⟩,hc.tk.trans hn1.tk⟩
 generalize σ.objs.length=p at *
 by_cases h8:8≤l
 ·have b5':=b5 h8
  have b1':=b1 h8
  have h8':(8:Int)≤l:=by omega
  by_cases h50:50≤l
  ·have h50':(50:Int)≤l:=by omega
   simp only [h8,h50,if_true]
   simp -implicitDefEqProofs [h8',h50',c125_k12,c125_k11,c125_k10,c125_k9]
   have ma_lt : ∀ {x c:Nat},1≤x→x+1<n→(medianAdjacent lt d x c).1<n∧(medianAdjacent lt d x c).2≤c+3:=fun h1 h2=>median_lt (by omega) (by omega) h2
   refine use_raw (s_medianAdj h1 hn (by omega) (by omega) hN (by omega) hp1 hq) fun v2 s2 ⟨hv2,hc2⟩=>?_
   obtain⟨l1,l2⟩:=ma_lt (x:=i) (c:=0) (by omega) (by omega)
   generalize medianAdjacent lt d i 0=r1 at *
   subst hv2
   have a2:=h1.ct hc2 hq
   simp -implicitDefEqProofs [c125_k8]
   refine use_raw (s_medianAdj a2 hn (by omega) (by omega) hN (by omega) hc2.obj hq) fun v3 s3 ⟨hv3,hc3⟩=>?_
   obtain⟨l3,l4⟩:=ma_lt (x:=j) (c:=r1.2) (by omega) (by omega)
   generalize medianAdjacent lt d j r1.2=r2 at *
   subst hv3
   have a3:=a2.ct hc3 hq
   simp -implicitDefEqProofs [c125_k7]
   refine use_raw (s_medianAdj a3 hn (by omega) (by omega) hN (by omega) hc3.obj hq) fun v4 s4 ⟨hv4,hc4⟩=>?_
   obtain⟨l5,l6⟩:=ma_lt (x:=k) (c:=r2.2) (by omega) (by omega)
   generalize medianAdjacent lt d k r2.2=r3 at *
   subst hv4
   have a4:=a3.ct hc4 hq
   simp -implicitDefEqProofs [c125_k6]
   refine use_raw (s_median a4 hn (by omega) (by omega) (by omega) hN (by omega) hc4.obj hq) fun v5 s5 ⟨hv5,hc5⟩=>?_
   generalize median lt d r1.1 r2.1 r3.1 r3.2=r4 at *
   subst hv5
   simp -implicitDefEqProofs
   exact piv_end (k:=r4.2) rfl rfl hc5.obj ⟨by simp,nw (((hc2.trans hc3).trans hc4).trans hc5)⟩
  ·have h50' : ¬ (50:Int)≤l:=by omega
   simp only [h8,h50,if_true,if_false]
   simp -implicitDefEqProofs [h8',h50',c125_k12,c125_k11,c125_k10,c125_k6]
   refine use_raw (s_median h1 hn (by omega) (by omega) (by omega) hN (by omega) hp1 hq) fun v5 s5 ⟨hv5,hc5⟩=>?_
   generalize median lt d i j k 0=r4 at *
   subst hv5
   simp -implicitDefEqProofs
   exact piv_end (k:=r4.2) rfl rfl hc5.obj ⟨by simp,nw hc5⟩
 ·have h8' : ¬ (8:Int)≤l:=by omega
  simp only [h8,if_false]
  simp -implicitDefEqProofs [h8',c125_k12]
  exact piv_end (k:=0) rfl rfl hp1 ⟨by simp,hn1⟩

open Go.Sort (swp scanUp scanDown)

theorem p_up1 {σ:St}{q n a i j:Nat}{d:Array Int}{Q:PostC}{e:Env}(h:At σ q d)(hn:d.size=n)(ha:a<n)(hj:j<n)(hi:i≤n+1)(hN:n≤1000000)(he:e.pick [0,1,10,11]=[(0,.sl q 0 n 1),(1,I a),(10,I i),(11,I j)])
  (hQ:scanUp (fun x=>lt x d[a]!) d j i≤n+1→Q .normal [(0,.sl q 0 n 1),(1,I a),(10,I (scanUp (fun x=>lt x d[a]!) d j i:Nat)),(11,I j),(43,B false)] σ) :
  wcode (Dn.Call Γ cx) cx (.block 0 (.loop [0,1,10,11] c130_l30)) e σ Q:=by
 simp only [w_block]
 refine wloopI (fun m e s=>∃ i',e=[(0,.sl q 0 n 1),(1,I a),(10,I (i':Nat)),(11,I j)]∧m=j+1-i'∧i'≤n+1∧s=σ∧scanUp (fun x=>lt x d[a]!) d j i=scanUp (fun x=>lt x d[a]!) d j i') (m:=j+1-i) ⟨i,he,rfl,hi,rfl,rfl⟩ ?_
 rintro m e s ⟨i',rfl,rfl,hi',rfl,heq⟩
 have hst:=Go.Sort.scanUp.eq_def (fun x=>lt x d[a]!) d j i'
 simp only [body_eq,globEnv,GB,List.map_nil,List.map_cons,List.append_nil,w_rangeF,i_next,i_makeMap,i_range,i_update,i_delete,i_entry,i_clone,entryV,cloneV,q_rndA,q_rndB_n,q_rndB_e,q_rndB_r,setAll,w_skip,w_ops,w_seq,w_cond,w_block,w_exit,w_ret,q_then_n,q_then_e,q_then_r,q_blk_n,q_blk_e,q_blk_r,q_ops,q_cont,q_end_n,q_end_r,q_end_e,q_loop_n,q_loop_e,q_loop_r,i_nil,i_p,i_alloc,i_box,i_store,i_copy,i_clear,i_call,i_callv,i_when,t_nil,t_p,t_call,t_alloc,t_box,t_store,kept_nil,t_copy,t_clear,q_tcont,gsel,List.cons_append,List.nil_append,evalP,evalE,evalF,evalB,isObj,thaw,Opd.ev,Env.get,Env.set,Env.pick,putE,initEnv,evalBin,intBin,evalUn,evalConv,goneAll,goneOne,retV,resAll,Res.ev,tupOf,byVals,byValsN,bv_d,bv_da,bv_fl,bv_tl,bn_d,bn_da,bn_fl,bn_tl,cx,Dn.newObj,St.place,St.push,St.spot,St.empty,cell_d,cell_da,cell_agg,cell_ref,cell_sl,cell_fl,cell_tl,cell_map,cell_fn,cell_ifc,loadAt,faddrV,partOf,extractV,mkAgg,ofD,splice,St.setObj,fillV,c130_l30]
 refine w_drwX (fun _=>.val) [] (by decide +kernel) ?_
 by_cases hij:i'≤j
 ·have hsw:=h.sw (i:=i') (j:=a) (by omega) (by omega)
  have ia1:=fun σ=>iaddr_sl σ (q:=q) (n:=n) (i:=i') (by omega)
  have ia2:=fun σ=>iaddr_sl σ (q:=q) (n:=n) (i:=a) (by omega)
  simp -implicitDefEqProofs [room_zero,hij,ia1,ia2,hsw.o,hsw.ai,hsw.aj]
  refine use_fnN rfl rfl (s_Less _ _) rfl ?_
  cases hl:lt d[i']! d[a]! with
  | true =>
   simp only [hl,hij,decide_true,Bool.not_false,Bool.and_self,if_true] at hst
   simp -implicitDefEqProofs [c130_k29,c130_k28,wrap_i64 (n:=(i':Int)+1) (by omega) (by omega)]
   exact⟨j+1-(i'+1),by omega,i'+1,rfl,rfl,by omega,heq.trans hst⟩
  | false =>
   simp only [hl,hij,decide_true,Bool.not_true,Bool.and_false,Bool.false_eq_true,if_false] at hst
   simp -implicitDefEqProofs [c130_k29]
   rw [heq,hst] at hQ
   exact hQ hi'
 ·simp only [hij,decide_false,Bool.false_and,Bool.false_eq_true,if_false] at hst
  simp -implicitDefEqProofs [room_zero,hij,c130_k29]
  rw [heq,hst] at hQ
  exact hQ hi'
theorem p_up2 {σ:St}{q n a i j:Nat}{d:Array Int}{Q:PostC}{e:Env}(h:At σ q d)(hn:d.size=n)(ha:a<n)(hj:j<n)(hi:i≤n+1)(hN:n≤1000000)(he:e.pick [0,1,10,11]=[(0,.sl q 0 n 1),(1,I a),(10,I i),(11,I j)])
  (hQ:scanUp (fun x=>lt x d[a]!) d j i≤n+1→Q .normal [(0,.sl q 0 n 1),(1,I a),(10,I (scanUp (fun x=>lt x d[a]!) d j i:Nat)),(11,I j),(112,B false)] σ) :
  wcode (Dn.Call Γ cx) cx (.block 6 (.loop [0,1,10,11] c130_l13)) e σ Q:=by
 simp only [w_block]
 refine wloopI (fun m e s=>∃ i',e=[(0,.sl q 0 n 1),(1,I a),(10,I (i':Nat)),(11,I j)]∧m=j+1-i'∧i'≤n+1∧s=σ∧scanUp (fun x=>lt x d[a]!) d j i=scanUp (fun x=>lt x d[a]!) d j i') (m:=j+1-i) ⟨i,he,rfl,hi,rfl,rfl⟩ ?_
 rintro m e s ⟨i',rfl,rfl,hi',rfl,heq⟩
 have hst:=Go.Sort.scanUp.eq_def (fun x=>lt x d[a]!) d j i'
 simp only [body_eq,globEnv,GB,List.map_nil,List.map_cons,List.append_nil,w_rangeF,i_next,i_makeMap,i_range,i_update,i_delete,i_entry,i_clone,entryV,cloneV,q_rndA,q_rndB_n,q_rndB_e,q_rndB_r,setAll,w_skip,w_ops,w_seq,w_cond,w_block,w_exit,w_ret,q_then_n,q_then_e,q_then_r,q_blk_n,q_blk_e,q_blk_r,q_ops,q_cont,q_end_n,q_end_r,q_end_e,q_loop_n,q_loop_e,q_loop_r,i_nil,i_p,i_alloc,i_box,i_store,i_copy,i_clear,i_call,i_callv,i_when,t_nil,t_p,t_call,t_alloc,t_box,t_store,kept_nil,t_copy,t_clear,q_tcont,gsel,List.cons_append,List.nil_append,evalP,evalE,evalF,evalB,isObj,thaw,Opd.ev,Env.get,Env.set,Env.pick,putE,initEnv,evalBin,intBin,evalUn,evalConv,goneAll,goneOne,retV,resAll,Res.ev,tupOf,byVals,byValsN,bv_d,bv_da,bv_fl,bv_tl,bn_d,bn_da,bn_fl,bn_tl,cx,Dn.newObj,St.place,St.push,St.spot,St.empty,cell_d,cell_da,cell_agg,cell_ref,cell_sl,cell_fl,cell_tl,cell_map,cell_fn,cell_ifc,loadAt,faddrV,partOf,extractV,mkAgg,ofD,splice,St.setObj,fillV,c130_l13]
 refine w_drwX (fun _=>.val) [] (by decide +kernel) ?_
 by_cases hij:i'≤j
 ·have hsw:=h.sw (i:=i') (j:=a) (by omega) (by omega)
  have ia1:=fun σ=>iaddr_sl σ (q:=q) (n:=n) (i:=i') (by omega)
  have ia2:=fun σ=>iaddr_sl σ (q:=q) (n:=n) (i:=a) (by omega)
  simp -implicitDefEqProofs [room_zero,hij,ia1,ia2,hsw.o,hsw.ai,hsw.aj]
  refine use_fnN rfl rfl (s_Less _ _) rfl ?_
  cases hl:lt d[i']! d[a]! with
  | true =>
   simp only [hl,hij,decide_true,Bool.not_false,Bool.and_self,if_true] at hst
   simp -implicitDefEqProofs [c130_k12,c130_k11,wrap_i64 (n:=(i':Int)+1) (by omega) (by omega)]
   exact⟨j+1-(i'+1),by omega,i'+1,rfl,rfl,by omega,heq.trans hst⟩
  | false =>
   simp only [hl,hij,decide_true,Bool.not_true,Bool.and_false,Bool.false_eq_true,if_false] at hst
   simp -implicitDefEqProofs [c130_k12]
   rw [heq,hst] at hQ
   exact hQ hi'
 ·simp only [hij,decide_false,Bool.false_and,Bool.false_eq_true,if_false] at hst
  simp -implicitDefEqProofs [room_zero,hij,c130_k12]
  rw [heq,hst] at hQ
  exact hQ hi'
theorem e_up {σ:St}{q n a i j:Nat}{d:Array Int}{Q:PostC}{e:Env}(h:At σ q d)(hn:d.size=n)(ha:a<n)(hj:j<n)(hi:i≤n+1)(hN:n≤1000000)(he:e.pick [0,1,9,10]=[(0,.sl q 0 n 1),(1,I a),(9,I i),(10,I j)])
  (hQ:scanUp (fun x=>!lt d[a]! x) d j i≤n+1→Q .normal [(0,.sl q 0 n 1),(1,I a),(9,I (scanUp (fun x=>!lt d[a]! x) d j i:Nat)),(10,I j),(43,B false)] σ) :
  wcode (Dn.Call Γ cx) cx (.block 2 (.loop [0,1,9,10] c129_l12)) e σ Q:=by
 simp only [w_block]
 refine wloopI (fun m e s=>∃ i',e=[(0,.sl q 0 n 1),(1,I a),(9,I (i':Nat)),(10,I j)]∧m=j+1-i'∧i'≤n+1∧s=σ∧scanUp (fun x=>!lt d[a]! x) d j i=scanUp (fun x=>!lt d[a]! x) d j i') (m:=j+1-i) ⟨i,he,rfl,hi,rfl,rfl⟩ ?_
 rintro m e s ⟨i',rfl,rfl,hi',rfl,heq⟩
 have hst:=Go.Sort.scanUp.eq_def (fun x=>!lt d[a]! x) d j i'
 simp only [body_eq,globEnv,GB,List.map_nil,List.map_cons,List.append_nil,w_rangeF,i_next,i_makeMap,i_range,i_update,i_delete,i_entry,i_clone,entryV,cloneV,q_rndA,q_rndB_n,q_rndB_e,q_rndB_r,setAll,w_skip,w_ops,w_seq,w_cond,w_block,w_exit,w_ret,q_then_n,q_then_e,q_then_r,q_blk_n,q_blk_e,q_blk_r,q_ops,q_cont,q_end_n,q_end_r,q_end_e,q_loop_n,q_loop_e,q_loop_r,i_nil,i_p,i_alloc,i_box,i_store,i_copy,i_clear,i_call,i_callv,i_when,t_nil,t_p,t_call,t_alloc,t_box,t_store,kept_nil,t_copy,t_clear,q_tcont,gsel,List.cons_append,List.nil_append,evalP,evalE,evalF,evalB,isObj,thaw,Opd.ev,Env.get,Env.set,Env.pick,putE,initEnv,evalBin,intBin,evalUn,evalConv,goneAll,goneOne,retV,resAll,Res.ev,tupOf,byVals,byValsN,bv_d,bv_da,bv_fl,bv_tl,bn_d,bn_da,bn_fl,bn_tl,cx,Dn.newObj,St.place,St.push,St.spot,St.empty,cell_d,cell_da,cell_agg,cell_ref,cell_sl,cell_fl,cell_tl,cell_map,cell_fn,cell_ifc,loadAt,faddrV,partOf,extractV,mkAgg,ofD,splice,St.setObj,fillV,c129_l12]
 refine w_drwX (fun _=>.val) [] (by decide +kernel) ?_
 by_cases hij:i'≤j
 ·have hsw:=h.sw (i:=i') (j:=a) (by omega) (by omega)
  have ia1:=fun σ=>iaddr_sl σ (q:=q) (n:=n) (i:=i') (by omega)
  have ia2:=fun σ=>iaddr_sl σ (q:=q) (n:=n) (i:=a) (by omega)
  simp -implicitDefEqProofs [room_zero,hij,ia1,ia2,hsw.o,hsw.ai,hsw.aj]
  refine use_fnN rfl rfl (s_Less _ _) rfl ?_
  cases hl:lt d[a]! d[i']! with
  | false =>
   simp only [hl,hij,decide_true,Bool.not_false,Bool.and_self,if_true] at hst
   simp -implicitDefEqProofs [c129_k11,c129_k10,wrap_i64 (n:=(i':Int)+1) (by omega) (by omega)]
   exact⟨j+1-(i'+1),by omega,i'+1,rfl,rfl,by omega,heq.trans hst⟩
  | true =>
   simp only [hl,hij,decide_true,Bool.not_true,Bool.and_false,Bool.false_eq_true,if_false] at hst
   simp -implicitDefEqProofs [c129_k11]
   rw [heq,hst] at hQ
   exact hQ hi'
 ·simp only [hij,decide_false,Bool.false_and,Bool.false_eq_true,if_false] at hst
  simp -implicitDefEqProofs [room_zero,hij,c129_k11]
  rw [heq,hst] at hQ
  exact hQ hi'
theorem p_dn1 {σ:St}{q n a i j:Nat}{d:Array Int}{Q:PostC}{e:Env}(h:At σ q d)(hn:d.size=n)(ha:a<n)(hj:j<n)(hi:1≤i)(hN:n≤1000000)(he:e.pick [0,1,10,11]=[(0,.sl q 0 n 1),(1,I a),(10,I i),(11,I j)])
  (hQ:Q .normal [(0,.sl q 0 n 1),(1,I a),(10,I i),(11,I (scanDown (fun x=>!lt x d[a]!) d i j:Nat)),(60,B false)] σ) :
  wcode (Dn.Call Γ cx) cx (.block 2 (.loop [0,1,10,11] c130_l26)) e σ Q:=by
 simp only [w_block]
 refine wloopI (fun m e s=>∃ k,e=[(0,.sl q 0 n 1),(1,I a),(10,I i),(11,I (k:Nat))]∧k=m∧k<n∧s=σ∧scanDown (fun x=>!lt x d[a]!) d i j=scanDown (fun x=>!lt x d[a]!) d i k) (m:=j) ⟨j,he,rfl,hj,rfl,rfl⟩ ?_
 rintro m e s ⟨k,rfl,rfl,hk,rfl,heq⟩
 simp only [body_eq,globEnv,GB,List.map_nil,List.map_cons,List.append_nil,w_rangeF,i_next,i_makeMap,i_range,i_update,i_delete,i_entry,i_clone,entryV,cloneV,q_rndA,q_rndB_n,q_rndB_e,q_rndB_r,setAll,w_skip,w_ops,w_seq,w_cond,w_block,w_exit,w_ret,q_then_n,q_then_e,q_then_r,q_blk_n,q_blk_e,q_blk_r,q_ops,q_cont,q_end_n,q_end_r,q_end_e,q_loop_n,q_loop_e,q_loop_r,i_nil,i_p,i_alloc,i_box,i_store,i_copy,i_clear,i_call,i_callv,i_when,t_nil,t_p,t_call,t_alloc,t_box,t_store,kept_nil,t_copy,t_clear,q_tcont,gsel,List.cons_append,List.nil_append,evalP,evalE,evalF,evalB,isObj,thaw,Opd.ev,Env.get,Env.set,Env.pick,putE,initEnv,evalBin,intBin,evalUn,evalConv,goneAll,goneOne,retV,resAll,Res.ev,tupOf,byVals,byValsN,bv_d,bv_da,bv_fl,bv_tl,bn_d,bn_da,bn_fl,bn_tl,cx,Dn.newObj,St.place,St.push,St.spot,St.empty,cell_d,cell_da,cell_agg,cell_ref,cell_sl,cell_fl,cell_tl,cell_map,cell_fn,cell_ifc,loadAt,faddrV,partOf,extractV,mkAgg,ofD,splice,St.setObj,fillV,c130_l26]
 refine w_drwX (fun _=>.val) [] (by decide +kernel) ?_
 by_cases hij:i≤k
 ·obtain⟨j',rfl⟩ : ∃ j',k=j'+1:=⟨k-1,by omega⟩
  have hst:=Go.Sort.scanDown.eq_2 (fun x=>!lt x d[a]!) d i j'
  rw [Nat.succ_eq_add_one] at hst
  have hsw:=h.sw (i:=j'+1) (j:=a) (by omega) (by omega)
  have ia1:=fun σ=>iaddr_sl σ (q:=q) (n:=n) (i:=j'+1) (by omega)
  have ia2:=fun σ=>iaddr_sl σ (q:=q) (n:=n) (i:=a) (by omega)
  have e1:IntKind.i64.wrap (((j'+1:Nat):Int)-1)=(j':Nat):=by rw [wrap_i64 (by omega) (by omega)]; omega
  obtain⟨k,hk1⟩ : ∃ k,j'+1=k:=⟨_,rfl⟩
  rw [hk1] at hij hst hsw ia1 e1 heq ⊢
  simp -implicitDefEqProofs [room_zero,hij,ia1,ia2,hsw.o,hsw.ai,hsw.aj]
  refine use_fnN rfl rfl (s_Less _ _) rfl ?_
  cases hl:lt d[k]! d[a]! with
  | false =>
   simp only [hl,hij,decide_true,Bool.not_false,Bool.and_self,if_true] at hst
   simp -implicitDefEqProofs [c130_k25,c130_k24,e1]
   exact⟨j',by omega,j',rfl,rfl,by omega,heq.trans hst⟩
  | true =>
   simp only [hl,hij,decide_true,Bool.not_true,Bool.and_false,Bool.false_eq_true,if_false] at hst
   simp -implicitDefEqProofs [c130_k25]
   rw [heq,hst] at hQ
   exact hQ
 ·have hst:scanDown (fun x=>!lt x d[a]!) d i k=k:=by
   cases k with
   | zero=>rfl
   | succ k =>
    rw [Go.Sort.scanDown.eq_2]
    simp [show ¬ i≤k+1 from hij]
  simp -implicitDefEqProofs [room_zero,hij,c130_k25]
  rw [heq,hst] at hQ
  exact hQ
theorem p_dn2 {σ:St}{q n a i j:Nat}{d:Array Int}{Q:PostC}{e:Env}(h:At σ q d)(hn:d.size=n)(ha:a<n)(hj:j<n)(hi:1≤i)(hN:n≤1000000)(he:e.pick [0,1,10,11]=[(0,.sl q 0 n 1),(1,I a),(10,I i),(11,I j)])
  (hQ:Q .normal [(0,.sl q 0 n 1),(1,I a),(10,I i),(11,I (scanDown (fun x=>!lt x d[a]!) d i j:Nat)),(129,B false)] σ) :
  wcode (Dn.Call Γ cx) cx (.block 8 (.loop [0,1,10,11] c130_l9)) e σ Q:=by
 simp only [w_block]
 refine wloopI (fun m e s=>∃ k,e=[(0,.sl q 0 n 1),(1,I a),(10,I i),(11,I (k:Nat))]∧k=m∧k<n∧s=σ∧scanDown (fun x=>!lt x d[a]!) d i j=scanDown (fun x=>!lt x d[a]!) d i k) (m:=j) ⟨j,he,rfl,hj,rfl,rfl⟩ ?_
 rintro m e s ⟨k,rfl,rfl,hk,rfl,heq⟩
 simp only [body_eq,globEnv,GB,List.map_nil,List.map_cons,List.append_nil,w_rangeF,i_next,i_makeMap,i_range,i_update,i_delete,i_entry,i_clone,entryV,cloneV,q_rndA,q_rndB_n,q_rndB_e,q_rndB_r,setAll,w_skip,w_ops,w_seq,w_cond,w_block,w_exit,w_ret,q_then_n,q_then_e,q_then_r,q_blk_n,q_blk_e,q_blk_r,q_ops,q_cont,q_end_n,q_end_r,q_end_e,q_loop_n,q_loop_e,q_loop_r,i_nil,i_p,i_alloc,i_box,i_store,i_copy,i_clear,i_call,i_callv,i_when,t_nil,t_p,t_call,t_alloc,t_box,t_store,kept_nil,t_copy,t_clear,q_tcont,gsel,List.cons_append,List.nil_append,evalP,evalE,evalF,evalB,isObj,thaw,Opd.ev,Env.get,Env.set,Env.pick,putE,initEnv,evalBin,intBin,evalUn,evalConv,goneAll,goneOne,retV,resAll,Res.ev,tupOf,byVals,byValsN,bv_d,bv_da,bv_fl,bv_tl,bn_d,bn_da,bn_fl,bn_tl,cx,Dn.newObj,St.place,St.push,St.spot,St.empty,cell_d,cell_da,cell_agg,cell_ref,cell_sl,cell_fl,cell_tl,cell_map,cell_fn,cell_ifc,loadAt,faddrV,partOf,extractV,mkAgg,ofD,splice,St.setObj,fillV,c130_l9]
 refine w_drwX (fun _=>.val) [] (by decide +kernel) ?_
 by_cases hij:i≤k
 ·obtain⟨j',rfl⟩ : ∃ j',k=j'+1:=⟨k-1,by omega⟩
  have hst:=Go.Sort.scanDown.eq_2 (fun x=>!lt x d[a]!) d i j'
  rw [Nat.succ_eq_add_one] at hst
  have hsw:=h.sw (i:=j'+1) (j:=a) (by omega) (by omega)
  have ia1:=fun σ=>iaddr_sl σ (q:=q) (n:=n) (i:=j'+1) (by omega)
  have ia2:=fun σ=>iaddr_sl σ (q:=q) (n:=n) (i:=a) (by omega)
  have e1:IntKind.i64.wrap (((j'+1:Nat):Int)-1)=(j':Nat):=by rw [wrap_i64 (by omega) (by omega)]; omega
  obtain⟨k,hk1⟩ : ∃ k,j'+1=k:=⟨_,rfl⟩
  rw [hk1] at hij hst hsw ia1 e1 heq ⊢
  simp -implicitDefEqProofs [room_zero,hij,ia1,ia2,hsw.o,hsw.ai,hsw.aj]
  refine use_fnN rfl rfl (s_Less _ _) rfl ?_
  cases hl:lt d[k]! d[a]! with
  | false =>
   simp only [hl,hij,decide_true,Bool.not_false,Bool.and_self,if_true] at hst
   simp -implicitDefEqProofs [c130_k8,c130_k7,e1]
   exact⟨j',by omega,j',rfl,rfl,by omega,heq.trans hst⟩
  | true =>
   simp only [hl,hij,decide_true,Bool.not_true,Bool.and_false,Bool.false_eq_true,if_false] at hst
   simp -implicitDefEqProofs [c130_k8]
   rw [heq,hst] at hQ
   exact hQ
 ·have hst:scanDown (fun x=>!lt x d[a]!) d i k=k:=by
   cases k with
   | zero=>rfl
   | succ k =>
    rw [Go.Sort.scanDown.eq_2]
    simp [show ¬ i≤k+1 from hij]
  simp -implicitDefEqProofs [room_zero,hij,c130_k8]
  rw [heq,hst] at hQ
  exact hQ
theorem e_dn {σ:St}{q n a i j:Nat}{d:Array Int}{Q:PostC}{e:Env}(h:At σ q d)(hn:d.size=n)(ha:a<n)(hj:j<n)(hi:1≤i)(hN:n≤1000000)(he:e.pick [0,1,9,10]=[(0,.sl q 0 n 1),(1,I a),(9,I i),(10,I j)])
  (hQ:Q .normal [(0,.sl q 0 n 1),(1,I a),(9,I i),(10,I (scanDown (fun x=>lt d[a]! x) d i j:Nat)),(59,B false)] σ) :
  wcode (Dn.Call Γ cx) cx (.block 4 (.loop [0,1,9,10] c129_l8)) e σ Q:=by
 simp only [w_block]
 refine wloopI (fun m e s=>∃ k,e=[(0,.sl q 0 n 1),(1,I a),(9,I i),(10,I (k:Nat))]∧k=m∧k<n∧s=σ∧scanDown (fun x=>lt d[a]! x) d i j=scanDown (fun x=>lt d[a]! x) d i k) (m:=j) ⟨j,he,rfl,hj,rfl,rfl⟩ ?_
 rintro m e s ⟨k,rfl,rfl,hk,rfl,heq⟩
 simp only [body_eq,globEnv,GB,List.map_nil,List.map_cons,List.append_nil,w_rangeF,i_next,i_makeMap,i_range,i_update,i_delete,i_entry,i_clone,entryV,cloneV,q_rndA,q_rndB_n,q_rndB_e,q_rndB_r,setAll,w_skip,w_ops,w_seq,w_cond,w_block,w_exit,w_ret,q_then_n,q_then_e,q_then_r,q_blk_n,q_blk_e,q_blk_r,q_ops,q_cont,q_end_n,q_end_r,q_end_e,q_loop_n,q_loop_e,q_loop_r,i_nil,i_p,i_alloc,i_box,i_store,i_copy,i_clear,i_call,i_callv,i_when,t_nil,t_p,t_call,t_alloc,t_box,t_store,kept_nil,t_copy,t_clear,q_tcont,gsel,List.cons_append,List.nil_append,evalP,evalE,evalF,evalB,isObj,thaw,Opd.ev,Env.get,Env.set,Env.pick,putE,initEnv,evalBin,intBin,evalUn,evalConv,goneAll,goneOne,retV,resAll,Res.ev,tupOf,byVals,byValsN,bv_d,bv_da,bv_fl,bv_tl,bn_d,bn_da,bn_fl,bn_tl,cx,Dn.newObj,St.place,St.push,St.spot,St.empty,cell_d,cell_da,cell_agg,cell_ref,cell_sl,cell_fl,cell_tl,cell_map,cell_fn,cell_ifc,loadAt,faddrV,partOf,extractV,mkAgg,ofD,splice,St.setObj,fillV,c129_l8]
 refine w_drwX (fun _=>.val) [] (by decide +kernel) ?_
 by_cases hij:i≤k
 ·obtain⟨j',rfl⟩ : ∃ j',k=j'+1:=⟨k-1,by omega⟩
  have hst:=Go.Sort.scanDown.eq_2 (fun x=>lt d[a]! x) d i j'
  rw [Nat.succ_eq_add_one] at hst
  have hsw:=h.sw (i:=j'+1) (j:=a) (by omega) (by omega)
  have ia1:=fun σ=>iaddr_sl σ (q:=q) (n:=n) (i:=j'+1) (by omega)
  have ia2:=fun σ=>iaddr_sl σ (q:=q) (n:=n) (i:=a) (by omega)
  have e1:IntKind.i64.wrap (((j'+1:Nat):Int)-1)=(j':Nat):=by rw [wrap_i64 (by omega) (by omega)]; omega
  obtain⟨k,hk1⟩ : ∃ k,j'+1=k:=⟨_,rfl⟩
  rw [hk1] at hij hst hsw ia1 e1 heq ⊢
  simp -implicitDefEqProofs [room_zero,hij,ia1,ia2,hsw.o,hsw.ai,hsw.aj]
  refine use_fnN rfl rfl (s_Less _ _) rfl ?_
  cases hl:lt d[a]! d[k]! with
  | true =>
   simp only [hl,hij,decide_true,Bool.not_false,Bool.and_self,if_true] at hst
   simp -implicitDefEqProofs [c129_k7,c129_k6,e1]
   exact⟨j',by omega,j',rfl,rfl,by omega,heq.trans hst⟩
  | false =>
   simp only [hl,hij,decide_true,Bool.not_true,Bool.and_false,Bool.false_eq_true,if_false] at hst
   simp -implicitDefEqProofs [c129_k7]
   rw [heq,hst] at hQ
   exact hQ
 ·have hst:scanDown (fun x=>lt d[a]! x) d i k=k:=by
   cases k with
   | zero=>rfl
   | succ k =>
    rw [Go.Sort.scanDown.eq_2]
    simp [show ¬ i≤k+1 from hij]
  simp -implicitDefEqProofs [room_zero,hij,c129_k7]
  rw [heq,hst] at hQ
  exact hQ

open Go.Sort (partition partLoop partitionEqual partEqLoop)
def InvPt (q n a:Nat) (σ:St)(r:Nat×Array Int)(m:Nat)(e:Env)(s:St):Prop:=∃ (i j:Nat)(d3:Array Int),e=[(0,.sl q 0 n 1),(1,I a),(10,I i),(11,I j)]∧m=j+1-i∧1≤i∧i≤n∧j<n∧d3.size=n∧To σ q d3 s∧r=partLoop lt a i j d3
def InvPe (q n a:Nat) (σ:St)(r:Nat×Array Int)(m:Nat)(e:Env)(s:St):Prop:=∃ (i j:Nat)(d3:Array Int),e=[(0,.sl q 0 n 1),(1,I a),(9,I i),(10,I j)]∧m=j+1-i∧1≤i∧i≤n∧j<n∧d3.size=n∧To σ q d3 s∧r=partEqLoop lt a i j d3

theorem s_part {σ:St}{q n a b pv:Nat}{d:Array Int}(h:At σ q d)(hn:d.size=n)(hap:a≤pv)(hpb:pv<b)(hb:b≤n)(hN:n≤1000000) :
  Dn.Call Γ cx .raw 130 [.sl q 0 n 1,I a,I b,I pv] σ fun v s=>v = .tup [I (partition lt d a b pv).1,B (partition lt d a b pv).2.1]∧To σ q (partition lt d a b pv).2.2 s:=by
 refine Dn.Call.body (fc:=c130) rfl ?_
 have e1:IntKind.i64.wrap ((a:Int)+1)=((a+1:Nat):Int):=by rw [wrap_i64 (by omega) (by omega)]; omega
 have e2:IntKind.i64.wrap ((b:Int)-1)=((b-1:Nat):Int):=by rw [wrap_i64 (by omega) (by omega)]; omega
 obtain⟨i0,hi0⟩ : ∃ i0,a+1=i0:=⟨_,rfl⟩
 obtain⟨j0,hj0⟩ : ∃ j0,b-1=j0:=⟨_,rfl⟩
 rw [hi0] at e1
 rw [hj0] at e2
 simp -implicitDefEqProofs [c130,c130_k33]
 have hsw:=h.sw (i:=a) (j:=pv) (by omega) (by omega)
 have ia1:=fun σ=>iaddr_sl σ (q:=q) (n:=n) (i:=a) (by omega)
 have ia2:=fun σ=>iaddr_sl σ (q:=q) (n:=n) (i:=pv) (by omega)
 refine w_drwX (fun _=>.val) [] (by decide +kernel) ?_
 simp -implicitDefEqProofs [-splice,room_zero,ia1,ia2,hsw.o,hsw.ai,hsw.aj]
 simp -implicitDefEqProofs [-splice,hsw.l1,hsw.i1,hsw.s1,hsw.st,hsw.l2,hsw.j1,hsw.s2,c130_k32,e1,e2,c130_k31]
 have ht1:To σ q (swp d a pv) ⟨σ.objs.set q (.cells (ar (swp d a pv))),σ.toks⟩:=To.set h
 unfold partition
 simp only [hi0,hj0]
 clear hsw ia1 ia2
 have hn1:(swp d a pv).size=n:=by rw [swp_size,hn]
 generalize swp d a pv=d1 at *
 generalize (⟨σ.objs.set q (.cells (ar d1)),σ.toks⟩:St)=s1 at *
 refine p_up1 ht1.at hn1 (by omega) (by omega) (by omega) hN rfl fun hb1=>?_
 have g1:=Go.Sort.scanUp_ge (fun x=>lt x d1[a]!) d1 j0 i0
 generalize scanUp (fun x=>lt x d1[a]!) d1 j0 i0=i1 at *
 simp -implicitDefEqProofs [c130_k27]
 refine p_dn1 ht1.at hn1 (by omega) (by omega) (by omega) hN rfl ?_
 have g2:=Go.Sort.scanDown_le (fun x=>!lt x d1[a]!) d1 i1 j0
 generalize scanDown (fun x=>!lt x d1[a]!) d1 i1 j0=j1 at *
 simp -implicitDefEqProofs [c130_k23]
 by_cases hij:j1<i1
 ·simp -implicitDefEqProofs [hij,c130_k22,c130_k21]
  have hsw:=ht1.at.sw (i:=j1) (j:=a) (by omega) (by omega)
  have ia1:=fun σ=>iaddr_sl σ (q:=q) (n:=n) (i:=j1) (by omega)
  have ia2:=fun σ=>iaddr_sl σ (q:=q) (n:=n) (i:=a) (by omega)
  refine w_drwX (fun _=>.val) [] (by decide +kernel) ?_
  simp -implicitDefEqProofs [-splice,room_zero,ia1,ia2,hsw.o,hsw.ai,hsw.aj]
  simp -implicitDefEqProofs [-splice,hsw.l1,hsw.i1,hsw.s1,hsw.st,hsw.l2,hsw.j1,hsw.s2,c130_k20]
  exact ht1.trans (To.set ht1.at)
 ·simp -implicitDefEqProofs [hij,c130_k22,c130_k19]
  have hsw:=ht1.at.sw (i:=i1) (j:=j1) (by omega) (by omega)
  have ia1:=fun σ=>iaddr_sl σ (q:=q) (n:=n) (i:=i1) (by omega)
  have ia2:=fun σ=>iaddr_sl σ (q:=q) (n:=n) (i:=j1) (by omega)
  refine w_drwX (fun _=>.val) [] (by decide +kernel) ?_
  simp -implicitDefEqProofs [-splice,room_zero,ia1,ia2,hsw.o,hsw.ai,hsw.aj]
  simp -implicitDefEqProofs [-splice,hsw.l1,hsw.i1,hsw.s1,hsw.st,hsw.l2,hsw.j1,hsw.s2,c130_k18,c130_k17,c130_k16]
  have ht2:=ht1.trans (To.set (d':=swp d1 i1 j1) ht1.at)
  clear hsw ia1 ia2
  have hn2:(swp d1 i1 j1).size=n:=by rw [swp_size,hn1]
  generalize swp d1 i1 j1=d2 at *
  generalize (⟨s1.objs.set q (.cells (ar d2)),s1.toks⟩:St)=s2 at *
  refine wloopI (InvPt q n a σ (partLoop lt a (i1+1) (j1-1) d2)) (m:=j1-1+1-(i1+1)) ⟨i1+1,j1-1,d2,?_,rfl,by omega,by omega,by omega,hn2,ht2,rfl⟩ ?_
  ·simp [Env.pick,Env.get,wrap_i64 (n:=(i1:Int)+1) (by omega) (by omega),wrap_i64 (n:=(j1:Int)-1) (by omega) (by omega)]
   omega
  rintro m e s ⟨i,j,d3,rfl,rfl,hi,hin,hj,hn3,ht3,heq⟩
  have hst:=Go.Sort.partLoop_eq lt a i j d3
  simp -implicitDefEqProofs [c130_l15,c130_k14]
  refine p_up2 ht3.at hn3 (by omega) (by omega) (by omega) hN rfl fun hb1=>?_
  have g3:=Go.Sort.scanUp_ge (fun x=>lt x d3[a]!) d3 j i
  generalize scanUp (fun x=>lt x d3[a]!) d3 j i=i2 at *
  simp -implicitDefEqProofs [c130_k10]
  refine p_dn2 ht3.at hn3 (by omega) (by omega) (by omega) hN rfl ?_
  have g4:=Go.Sort.scanDown_le (fun x=>!lt x d3[a]!) d3 i2 j
  generalize scanDown (fun x=>!lt x d3[a]!) d3 i2 j=j2 at *
  simp -implicitDefEqProofs [c130_k6]
  by_cases hij2:j2<i2
  ·rw [if_pos hij2] at hst
   simp -implicitDefEqProofs [hij2,c130_k5,c130_k1]
   have hsw:=ht3.at.sw (i:=j2) (j:=a) (by omega) (by omega)
   have ia1:=fun σ=>iaddr_sl σ (q:=q) (n:=n) (i:=j2) (by omega)
   have ia2:=fun σ=>iaddr_sl σ (q:=q) (n:=n) (i:=a) (by omega)
   refine w_drwX (fun _=>.val) [] (by decide +kernel) ?_
   simp -implicitDefEqProofs [-splice,room_zero,ia1,ia2,hsw.o,hsw.ai,hsw.aj]
   simp -implicitDefEqProofs [-splice,hsw.l1,hsw.i1,hsw.s1,hsw.st,hsw.l2,hsw.j1,hsw.s2,c130_k0]
   rw [heq,hst]
   exact⟨rfl,ht3.trans (To.set ht3.at)⟩
  ·rw [if_neg hij2] at hst
   simp -implicitDefEqProofs [hij2,c130_k5,c130_k4]
   have hsw:=ht3.at.sw (i:=i2) (j:=j2) (by omega) (by omega)
   have ia1:=fun σ=>iaddr_sl σ (q:=q) (n:=n) (i:=i2) (by omega)
   have ia2:=fun σ=>iaddr_sl σ (q:=q) (n:=n) (i:=j2) (by omega)
   refine w_drwX (fun _=>.val) [] (by decide +kernel) ?_
   simp -implicitDefEqProofs [-splice,room_zero,ia1,ia2,hsw.o,hsw.ai,hsw.aj]
   simp -implicitDefEqProofs [-splice,hsw.l1,hsw.i1,hsw.s1,hsw.st,hsw.l2,hsw.j1,hsw.s2,c130_k3,c130_k2]
   refine⟨j2-1+1-(i2+1),by omega,i2+1,j2-1,_,?_,rfl,by omega,by omega,by omega,by rw [swp_size,hn3],ht3.trans (To.set ht3.at),heq.trans hst⟩
   simp [wrap_i64 (n:=(i2:Int)+1) (by omega) (by omega),wrap_i64 (n:=(j2:Int)-1) (by omega) (by omega)]
   omega

theorem s_partEq {σ:St}{q n a b pv:Nat}{d:Array Int}(h:At σ q d)(hn:d.size=n)(hap:a≤pv)(hpb:pv<b)(hb:b≤n)(hN:n≤1000000) :
  Dn.Call Γ cx .raw 129 [.sl q 0 n 1,I a,I b,I pv] σ fun v s=>v=I (partitionEqual lt d a b pv).1∧To σ q (partitionEqual lt d a b pv).2 s:=by
 refine Dn.Call.body (fc:=c129) rfl ?_
 have e1:IntKind.i64.wrap ((a:Int)+1)=((a+1:Nat):Int):=by rw [wrap_i64 (by omega) (by omega)]; omega
 have e2:IntKind.i64.wrap ((b:Int)-1)=((b-1:Nat):Int):=by rw [wrap_i64 (by omega) (by omega)]; omega
 obtain⟨i0,hi0⟩ : ∃ i0,a+1=i0:=⟨_,rfl⟩
 obtain⟨j0,hj0⟩ : ∃ j0,b-1=j0:=⟨_,rfl⟩
 rw [hi0] at e1
 rw [hj0] at e2
 simp -implicitDefEqProofs [c129,c129_k17]
 have hsw:=h.sw (i:=a) (j:=pv) (by omega) (by omega)
 have ia1:=fun σ=>iaddr_sl σ (q:=q) (n:=n) (i:=a) (by omega)
 have ia2:=fun σ=>iaddr_sl σ (q:=q) (n:=n) (i:=pv) (by omega)
 refine w_drwX (fun _=>.val) [] (by decide +kernel) ?_
 simp -implicitDefEqProofs [-splice,room_zero,ia1,ia2,hsw.o,hsw.ai,hsw.aj]
 simp -implicitDefEqProofs [-splice,hsw.l1,hsw.i1,hsw.s1,hsw.st,hsw.l2,hsw.j1,hsw.s2,c129_k16,e1,e2,c129_k15]
 have ht1:To σ q (swp d a pv) ⟨σ.objs.set q (.cells (ar (swp d a pv))),σ.toks⟩:=To.set h
 unfold partitionEqual
 simp only [hi0,hj0]
 clear hsw ia1 ia2
 have hn1:(swp d a pv).size=n:=by rw [swp_size,hn]
 generalize swp d a pv=d1 at *
 generalize (⟨σ.objs.set q (.cells (ar d1)),σ.toks⟩:St)=s1 at *
 refine wloopI (InvPe q n a σ (partEqLoop lt a i0 j0 d1)) (m:=j0+1-i0) ⟨i0,j0,d1,rfl,rfl,by omega,by omega,by omega,hn1,ht1,rfl⟩ ?_
 rintro m e s ⟨i,j,d3,rfl,rfl,hi,hin,hj,hn3,ht3,heq⟩
 have hst:=Go.Sort.partEqLoop_eq lt a i j d3
 simp -implicitDefEqProofs [c129_l14,c129_k13]
 refine e_up ht3.at hn3 (by omega) (by omega) (by omega) hN rfl fun hb1=>?_
 have g3:=Go.Sort.scanUp_ge (fun x=>!lt d3[a]! x) d3 j i
 generalize scanUp (fun x=>!lt d3[a]! x) d3 j i=i2 at *
 simp -implicitDefEqProofs [c129_k9]
 refine e_dn ht3.at hn3 (by omega) (by omega) (by omega) hN rfl ?_
 have g4:=Go.Sort.scanDown_le (fun x=>lt d3[a]! x) d3 i2 j
 generalize scanDown (fun x=>lt d3[a]! x) d3 i2 j=j2 at *
 simp -implicitDefEqProofs [c129_k5]
 by_cases hij2:j2<i2
 ·rw [if_pos hij2] at hst
  simp -implicitDefEqProofs [hij2,c129_k4,c129_k0]
  rw [heq,hst]
  exact⟨rfl,ht3⟩
 ·rw [if_neg hij2] at hst
  simp -implicitDefEqProofs [hij2,c129_k4,c129_k3]
  have hsw:=ht3.at.sw (i:=i2) (j:=j2) (by omega) (by omega)
  have ia1:=fun σ=>iaddr_sl σ (q:=q) (n:=n) (i:=i2) (by omega)
  have ia2:=fun σ=>iaddr_sl σ (q:=q) (n:=n) (i:=j2) (by omega)
  refine w_drwX (fun _=>.val) [] (by decide +kernel) ?_
  simp -implicitDefEqProofs [-splice,room_zero,ia1,ia2,hsw.o,hsw.ai,hsw.aj]
  simp -implicitDefEqProofs [-splice,hsw.l1,hsw.i1,hsw.s1,hsw.st,hsw.l2,hsw.j1,hsw.s2,c129_k2,c129_k1]
  refine⟨j2-1+1-(i2+1),by omega,i2+1,j2-1,_,?_,rfl,by omega,by omega,by omega,by rw [swp_size,hn3],ht3.trans (To.set ht3.at),heq.trans hst⟩
  simp [wrap_i64 (n:=(i2:Int)+1) (by omega) (by omega),wrap_i64 (n:=(j2:Int)-1) (by omega) (by omega)]
  omega

open Go.Sort (swp)

open Go.Sort (scanSorted partialIns partialInsertionSort xorNext breakStep breakPatterns bitsLen shiftDown shiftUp)
def InvSs (q n a b i t:Nat) (σ0:St)(d:Array Int)(m:Nat)(e:Env) (σ:St):Prop:=∃ (k:Nat),e=[(0,.sl q 0 n 1),(1,I a),(2,I b),(7,I k),(8,I t)]∧m=b-k∧i≤k∧k≤b∧σ=σ0∧scanSorted lt d b i=scanSorted lt d b k
def InvSd (q n a b i t j0:Nat) (σ0:St)(d0:Array Int)(m:Nat)(e:Env) (σ:St):Prop:=∃ (j:Nat)(d:Array Int),e=[(0,.sl q 0 n 1),(1,I a),(2,I b),(7,I i),(8,I t),(9,I j)]∧j=m∧j<n∧d.size=n∧To σ0 q d σ∧shiftDown lt j0 d0=shiftDown lt j d
def InvSu (q n a b i t j0:Nat) (σ0:St)(d0:Array Int)(m:Nat)(e:Env) (σ:St):Prop:=∃ (j:Nat)(d:Array Int),e=[(0,.sl q 0 n 1),(1,I a),(2,I b),(7,I i),(8,I t),(10,I j)]∧m=b-j∧1≤j∧j≤b∧d.size=n∧To σ0 q d σ∧shiftUp lt b j0 d0=shiftUp lt b j d

theorem pins_down {σ:St}{q n a b i t j:Nat}{d:Array Int}(h:At σ q d)(hn:d.size=n)(hj:j<n)(hN:n≤1000000){Q:PostC}
  (hQ : ∀ (s:St) (j' y:Nat) (w:V),(y=65∨y=78)→To σ q (shiftDown lt j d) s→Q .normal [(0,.sl q 0 n 1),(1,I a),(2,I b),(7,I i),(8,I t),(9,I j'),(y,w)] s) :
  wcode (Dn.Call Γ cx) cx c127_k18 [(0,.sl q 0 n 1),(1,I a),(2,I b),(7,I i),(8,I t),(9,I j)] σ Q:=by
 simp -implicitDefEqProofs [c127_k18]
 refine wloopI (InvSd q n a b i t j σ d) (m:=j) ⟨j,d,rfl,rfl,hj,hn,To.refl h,rfl⟩ ?_
 rintro m e s ⟨k,d2,rfl,rfl,hk,hn2,hto,heq⟩
 cases k with
 | zero =>
  rw [Go.Sort.shiftDown.eq_1] at heq
  simp -implicitDefEqProofs [c127_l17,c127_k16]
  exact hQ s 0 _ _ (.inl rfl) (by rw [heq]; exact hto)
 | succ k' =>
  have hst:=Go.Sort.shiftDown.eq_2 lt d2 k'
  rw [Nat.succ_eq_add_one] at hst
  have hat:=hto.at
  have hsw:=hat.sw (i:=k'+1) (j:=k') (by omega) (by omega)
  have e1:IntKind.i64.wrap (((k'+1:Nat):Int)-1)=(k':Nat):=by rw [wrap_i64 (by omega) (by omega)]; omega
  have ia1:=fun σ=>iaddr_sl σ (q:=q) (n:=n) (i:=k'+1) hk
  have ia2:=fun σ=>iaddr_sl σ (q:=q) (n:=n) (i:=k') (by omega)
  have h1:(1:Int)≤((k'+1:Nat):Int):=by omega
  obtain⟨k,hkd⟩ : ∃ k,k'+1=k:=⟨_,rfl⟩
  rw [hkd] at hsw e1 ia1 heq hst h1 hk ⊢
  simp -implicitDefEqProofs [c127_l17,c127_k16,h1,c127_k15,c127_k14]
  refine w_drwX (fun _=>.val) [] (by decide +kernel) ?_
  simp -implicitDefEqProofs [room_zero,e1,ia1,ia2,hsw.o,hsw.ai,hsw.aj]
  refine use_fnN rfl rfl (s_Less _ _) rfl ?_
  cases hl:lt d2[k]! d2[k']! with
  | false =>
   rw [hl] at hst
   simp only [Bool.not_false,if_true] at hst
   simp -implicitDefEqProofs [hl,c127_k13]
   exact hQ s k _ _ (.inr rfl) (by rw [heq,hst]; exact hto)
  | true =>
   rw [hl] at hst
   simp only [Bool.not_true,Bool.false_eq_true,if_false] at hst
   simp -implicitDefEqProofs [hl,c127_k13,c127_k12]
   refine w_drwX (fun _=>.val) [] (by decide +kernel) ?_
   simp -implicitDefEqProofs [-splice,room_zero,e1,ia1,ia2,hsw.o,hsw.ai,hsw.aj]
   simp -implicitDefEqProofs [-splice,hsw.l1,hsw.i1,hsw.s1,hsw.st,hsw.l2,hsw.j1,hsw.s2,c127_k11,e1]
   exact⟨k',by omega,k',_,rfl,rfl,by omega,by rw [swp_size,hn2],hto.trans (To.set hat),heq.trans hst⟩

theorem pins_up {σ:St}{q n a b i t j:Nat}{d:Array Int}(h:At σ q d)(hn:d.size=n)(h1:1≤j)(hjb:j≤b)(hb:b≤n)(hN:n≤1000000){Q:PostC}
  (hQ : ∀ (s:St) (j' y:Nat) (w:V),(y=103∨y=116)→To σ q (shiftUp lt b j d) s→Q .normal [(0,.sl q 0 n 1),(1,I a),(2,I b),(7,I i),(8,I t),(10,I j'),(y,w)] s) :
  wcode (Dn.Call Γ cx) cx c127_k8 [(0,.sl q 0 n 1),(1,I a),(2,I b),(7,I i),(8,I t),(10,I j)] σ Q:=by
 simp -implicitDefEqProofs [c127_k8]
 refine wloopI (InvSu q n a b i t j σ d) (m:=b-j) ⟨j,d,rfl,rfl,h1,hjb,hn,To.refl h,rfl⟩ ?_
 rintro m e s ⟨k,d2,rfl,rfl,hk1,hkb,hn2,hto,heq⟩
 have hst:=Go.Sort.shiftUp.eq_def lt b k d2
 rcases hbk:decide ((k:Int)<b) with _ | _
 ·have hk : ¬ (k:Int)<b:=of_decide_eq_false hbk
  rw [if_neg (by omega)] at hst
  simp -implicitDefEqProofs [c127_l7,hk,show ¬ k<b by omega,c127_k6]
  exact hQ s k _ _ (.inl rfl) (by rw [heq,hst]; exact hto)
 ·have hk:(k:Int)<b:=of_decide_eq_true hbk
  rw [if_pos (by omega)] at hst
  obtain⟨k',rfl⟩ : ∃ k',k=k'+1:=⟨k-1,by omega⟩
  have hat:=hto.at
  have hsw:=hat.sw (i:=k'+1) (j:=k') (by omega) (by omega)
  have e1:IntKind.i64.wrap (((k'+1:Nat):Int)-1)=(k':Nat):=by rw [wrap_i64 (by omega) (by omega)]; omega
  have ia1:=fun σ=>iaddr_sl σ (q:=q) (n:=n) (i:=k'+1) (by omega)
  have ia2:=fun σ=>iaddr_sl σ (q:=q) (n:=n) (i:=k') (by omega)
  rw [show k'+1-1=k' by omega] at hst
  obtain⟨k,hkd⟩ : ∃ k,k'+1=k:=⟨_,rfl⟩
  rw [hkd] at hsw e1 ia1 heq hst hk hkb hk1 ⊢
  have w1:IntKind.i64.wrap ((k:Int)+1)=((k+1:Nat):Int):=by rw [wrap_i64 (by omega) (by omega)]; omega
  have hkn:k<b:=by omega
  simp -implicitDefEqProofs [c127_l7,hk,hkn,c127_k6,c127_k5,c127_k4]
  refine w_drwX (fun _=>.val) [] (by decide +kernel) ?_
  simp -implicitDefEqProofs [room_zero,e1,ia1,ia2,hsw.o,hsw.ai,hsw.aj]
  refine use_fnN rfl rfl (s_Less _ _) rfl ?_
  cases hl:lt d2[k]! d2[k']! with
  | false =>
   rw [hl] at hst
   simp only [Bool.not_false,if_true] at hst
   simp -implicitDefEqProofs [hl,c127_k3]
   exact hQ s k _ _ (.inr rfl) (by rw [heq,hst]; exact hto)
  | true =>
   rw [hl] at hst
   simp only [Bool.not_true,Bool.false_eq_true,if_false] at hst
   simp -implicitDefEqProofs [hl,c127_k3,c127_k2]
   refine w_drwX (fun _=>.val) [] (by decide +kernel) ?_
   simp -implicitDefEqProofs [-splice,room_zero,e1,ia1,ia2,hsw.o,hsw.ai,hsw.aj]
   simp -implicitDefEqProofs [-splice,hsw.l1,hsw.i1,hsw.s1,hsw.st,hsw.l2,hsw.j1,hsw.s2,c127_k1,w1]
   exact⟨b-(k+1),by omega,k+1,_,rfl,rfl,by omega,by omega,by rw [swp_size,hn2],hto.trans (To.set hat),heq.trans hst⟩

theorem shiftDown_size : ∀ (j:Nat)(d:Array Int),(shiftDown lt j d).size=d.size
 | 0,d=>rfl
 | j+1,d=>by
  rw [Go.Sort.shiftDown.eq_2]
  split
  ·rfl
  ·rw [shiftDown_size j,swp_size]
theorem shiftUp_size (b:Nat) : ∀ (k j:Nat)(d:Array Int),b-j=k→(shiftUp lt b j d).size=d.size:=by
 intro k
 induction k with
 | zero =>
  intro j d h
  rw [Go.Sort.shiftUp.eq_def,if_neg (by omega)]
 | succ k ih =>
  intro j d h
  rw [Go.Sort.shiftUp.eq_def]
  split
  ·split
   ·rfl
   ·rw [ih _ _ (by omega),swp_size]
  ·rfl
def TlE (tl:Env):Prop:=tl=[(98,B false)]∨∃ (j':Nat)(y:Nat)(w:V),(y=103∨y=116)∧tl=[(10,I j'),(y,w)]

theorem pins_k10 {σ:St}{q n a b i t:Nat}{d:Array Int}(h:At σ q d)(hn:d.size=n)(hib:i<b)(hb:b≤n)(hN:n≤1000000){tl:Env}(htl:tl=[(61,B false)]∨∃ (j':Nat)(y:Nat)(w:V),(y=65∨y=78)∧tl=[(9,I j'),(y,w)]){Q:PostC}
  (hQ : ∀ (s:St) (tl:Env),TlE tl→To σ q (if b-i≥2 then shiftUp lt b (i+1) d else d) s→Q .normal ((0,.sl q 0 n 1)::(1,I a)::(2,I b)::(7,I i)::(8,I t)::tl) s) :
  wcode (Dn.Call Γ cx) cx c127_k10 ((0,.sl q 0 n 1)::(1,I a)::(2,I b)::(7,I i)::(8,I t)::tl) σ Q:=by
 obtain⟨bi,hbi⟩ : ∃ bi,b-i=bi:=⟨_,rfl⟩
 have e1:IntKind.i64.wrap ((b:Int)-i)=(bi:Int):=by rw [wrap_i64 (by omega) (by omega)]; omega
 have w1:IntKind.i64.wrap ((i:Int)+1)=((i+1:Nat):Int):=by rw [wrap_i64 (by omega) (by omega)]; omega
 rw [hbi] at hQ
 have key:wcode (Dn.Call Γ cx) cx c127_k9 [(0,.sl q 0 n 1),(1,I a),(2,I b),(7,I i),(8,I t),(98,B (decide (2≤(bi:Int))))] σ Q:=by
  by_cases h2:2≤bi
  ·have h2':(2:Int)≤bi:=by omega
   rw [if_pos h2] at hQ
   simp -implicitDefEqProofs [h2,h2',c127_k9,w1]
   exact pins_up (j:=i+1) h hn (by omega) (by omega) hb hN fun s j' y w hy hto=>hQ s _ (.inr ⟨j',y,w,hy,rfl⟩) hto
  ·have h2' : ¬ (2:Int)≤bi:=by omega
   rw [if_neg h2] at hQ
   simp -implicitDefEqProofs [h2,h2',c127_k9]
   exact hQ σ _ (.inl rfl) (To.refl h)
 rcases htl with rfl | ⟨j',y,w,rfl | rfl,rfl⟩
 all_goals
  simp only [body_eq,globEnv,GB,List.map_nil,List.map_cons,List.append_nil,w_rangeF,i_next,i_makeMap,i_range,i_update,i_delete,i_entry,i_clone,entryV,cloneV,q_rndA,q_rndB_n,q_rndB_e,q_rndB_r,setAll,w_skip,w_ops,w_seq,w_cond,w_block,w_exit,w_ret,q_then_n,q_then_e,q_then_r,q_blk_n,q_blk_e,q_blk_r,q_ops,q_cont,q_end_n,q_end_r,q_end_e,q_loop_n,q_loop_e,q_loop_r,i_nil,i_p,i_alloc,i_box,i_store,i_copy,i_clear,i_call,i_callv,i_when,t_nil,t_p,t_call,t_alloc,t_box,t_store,kept_nil,t_copy,t_clear,q_tcont,gsel,List.cons_append,List.nil_append,evalP,evalE,evalF,evalB,isObj,thaw,Opd.ev,Env.get,Env.set,Env.pick,putE,initEnv,evalBin,intBin,evalUn,evalConv,goneAll,goneOne,retV,resAll,Res.ev,tupOf,byVals,byValsN,bv_d,bv_da,bv_fl,bv_tl,bn_d,bn_da,bn_fl,bn_tl,cx,Dn.newObj,St.place,St.push,St.spot,St.empty,cell_d,cell_da,cell_agg,cell_ref,cell_sl,cell_fl,cell_tl,cell_map,cell_fn,cell_ifc,loadAt,faddrV,partOf,extractV,mkAgg,ofD,splice,St.setObj,fillV,c127_k10]
  simp -implicitDefEqProofs [e1]
  simpa using key

theorem pins_k21 {σ:St}{q n a b i t:Nat}{d:Array Int}(h:At σ q d)(hn:d.size=n)(hai:a<i)(hib:i<b)(hb:b≤n)(hN:n≤1000000){Q:PostC}
  (hQ : ∀ (s:St) (tl:Env),TlE tl→To σ q (let d:=swp d i (i-1); let d:=if i-a≥2 then shiftDown lt (i-1) d else d; if b-i≥2 then shiftUp lt b (i+1) d else d) s→Q .normal ((0,.sl q 0 n 1)::(1,I a)::(2,I b)::(7,I i)::(8,I t)::tl) s) :
  wcode (Dn.Call Γ cx) cx c127_k21 [(0,.sl q 0 n 1),(1,I a),(2,I b),(7,I i),(8,I t),(41,B false)] σ Q:=by
 obtain⟨i',rfl⟩ : ∃ i',i=i'+1:=⟨i-1,by omega⟩
 have hsw:=h.sw (i:=i'+1) (j:=i') (by omega) (by omega)
 have e1:IntKind.i64.wrap (((i'+1:Nat):Int)-1)=(i':Nat):=by rw [wrap_i64 (by omega) (by omega)]; omega
 have ia1:=fun σ=>iaddr_sl σ (q:=q) (n:=n) (i:=i'+1) (by omega)
 have ia2:=fun σ=>iaddr_sl σ (q:=q) (n:=n) (i:=i') (by omega)
 simp only at hQ
 rw [show i'+1-1=i' by omega] at hQ
 obtain⟨i,hid⟩ : ∃ i,i'+1=i:=⟨_,rfl⟩
 rw [hid] at hsw e1 ia1 hQ hai hib ⊢
 obtain⟨ia,hia⟩ : ∃ ia,i-a=ia:=⟨_,rfl⟩
 have e2:IntKind.i64.wrap ((i:Int)-a)=(ia:Int):=by rw [wrap_i64 (by omega) (by omega)]; omega
 rw [hia] at hQ
 simp only [c127_k21,w_seq]
 refine w_drwX (fun _=>.val) [] (by decide +kernel) ?_
 simp only [room_zero]
 simp -implicitDefEqProofs [-splice,e1,ia1,ia2,hsw.o,hsw.ai,hsw.aj]
 simp -implicitDefEqProofs [-splice,hsw.l1,hsw.i1,hsw.s1,hsw.st,hsw.l2,hsw.j1,hsw.s2]
 have hto:To σ q (swp d i i') ⟨σ.objs.set q (.cells (ar (swp d i i'))),σ.toks⟩:=To.set h
 have hn2:(swp d i i').size=n:=by rw [swp_size,hn]
 generalize (⟨σ.objs.set q (.cells (ar (swp d i i'))),σ.toks⟩:St)=s1 at *
 generalize swp d i i'=d1 at *
 by_cases h2:2≤ia
 ·have h2':(2:Int)≤ia:=by omega
  rw [if_pos h2] at hQ
  simp -implicitDefEqProofs [c127_k20,e2,h2,h2',c127_k19,e1]
  refine pins_down hto.at hn2 (by omega) hN fun s2 j' y w hy hto2=>?_
  have hsz:(shiftDown lt i' d1).size=n:=by rw [shiftDown_size,hn2]
  simp only [q_then_n]
  exact pins_k10 hto2.at hsz hib hb hN (.inr ⟨j',y,w,hy,rfl⟩) fun s3 tl htl hto3=>hQ s3 tl htl ((hto.trans hto2).trans hto3)
 ·have h2' : ¬ (2:Int)≤ia:=by omega
  rw [if_neg h2] at hQ
  simp -implicitDefEqProofs [c127_k20,e2,h2,h2',c127_k19]
  exact pins_k10 hto.at hn2 hib hb hN (.inl rfl) fun s3 tl htl hto3=>hQ s3 tl htl (hto.trans hto3)

def InvPi (q n a b:Nat) (σ0:St)(d0:Array Int)(m:Nat)(e:Env) (σ:St):Prop:=∃ (t i:Nat)(d:Array Int),e=[(0,.sl q 0 n 1),(1,I a),(2,I b),(7,I i),(8,I t)]∧5-t=m∧t≤5∧a<i∧i≤b∧d.size=n∧To σ0 q d σ∧partialInsertionSort lt d0 a b=partialIns lt a b (5-t) i d

theorem s_pins {σ : St} {q n a b : Nat} {d : Array Int} (h : At σ q d) (hn : d.size = n) (hab : a < b) (hb : b ≤ n) (hN : n ≤ 1000000) :
    Dn.Call Γ cx .raw 127 [.sl q 0 n 1, I a, I b] σ fun v s => v = B (partialInsertionSort lt d a b).2 ∧ To σ q (partialInsertionSort lt d a b).1 s := by
  refine Dn.Call.body (fc := c127) rfl ?_
  have e1 : IntKind.i64.wrap ((a : Int) + 1) = ((a + 1 : Nat) : Int) := by rw [wrap_i64 (by omega) (by omega)]; omega
  simp -implicitDefEqProofs [c127, c127_k35, e1, c127_k34, c127_k33]
  refine wloopI (InvPi q n a b σ d) (m := 5) ⟨0, a + 1, d, rfl, rfl, by omega, by omega, by omega, hn, To.refl h, rfl⟩ ?_
  rintro m e s ⟨t, i, d1, rfl, rfl, ht, hai, hib, hn1, hto, heq⟩
  rcases ht5 : decide ((t : Int) < 5) with _ | _
  · have ht5' : ¬ (t : Int) < 5 := of_decide_eq_false ht5
    obtain rfl : t = 5 := by omega
    have hpe : partialIns lt a b (5 - 5) i d1 = (d1, false) := rfl
    rw [hpe] at heq
    simp -implicitDefEqProofs [c127_l32, c127_k31]
    rw [heq]
    exact ⟨rfl, hto⟩
  have ht5' : (t : Int) < 5 := of_decide_eq_true ht5
  obtain ⟨t', ht'⟩ : ∃ t', 5 - t = t' + 1 := ⟨4 - t, by omega⟩
  rw [ht', Go.Sort.partialIns.eq_2] at heq
  simp -implicitDefEqProofs [c127_l32, ht5', c127_k31, c127_k30, c127_k29]
  refine wloopI (InvSs q n a b i t s d1) (m := b - i) ⟨i, rfl, rfl, by omega, hib, rfl, rfl⟩ ?_
  rintro m e s ⟨k, rfl, rfl, hk, hkb, rfl, hsc⟩
  have hst := Go.Sort.scanSorted.eq_def lt d1 b k
  have hat := hto.at
  simp only [body_eq, globEnv, GB, List.map_nil, List.map_cons, List.append_nil, w_rangeF, i_next, i_makeMap, i_range, i_update, i_delete, i_entry, i_clone, entryV, cloneV, q_rndA, q_rndB_n, q_rndB_e, q_rndB_r, setAll, w_skip, w_ops, w_seq, w_cond, w_block, w_exit, w_ret, q_then_n, q_then_e, q_then_r, q_blk_n, q_blk_e, q_blk_r, q_ops, q_cont, q_end_n, q_end_r, q_end_e, q_loop_n, q_loop_e, q_loop_r, i_nil, i_p, i_alloc, i_box, i_store, i_copy, i_clear, i_call, i_callv, i_when, t_nil, t_p, t_call, t_alloc, t_box, t_store, kept_nil, t_copy, t_clear, q_tcont, gsel, List.cons_append, List.nil_append, evalP, evalE, evalF, evalB, isObj, thaw, Opd.ev, Env.get, Env.set, Env.pick, putE, initEnv, evalBin, intBin, evalUn, evalConv, goneAll, goneOne, retV, resAll, Res.ev, tupOf, byVals, byValsN, bv_d, bv_da, bv_fl, bv_tl, bn_d, bn_da, bn_fl, bn_tl, cx, Dn.newObj, St.place, St.push, St.spot, St.empty, cell_d, cell_da, cell_agg, cell_ref, cell_sl, cell_fl, cell_tl, cell_map, cell_fn, cell_ifc, loadAt, faddrV, partOf, extractV, mkAgg, ofD, splice, St.setObj, fillV, c127_l28]
  refine w_drwX (fun _ => .val) [] (by decide +kernel) ?_
  have fin : scanSorted lt d1 b k = k → wcode (Dn.Call Γ cx) cx c127_k25 [(0, V.sl q 0 n 1), (1, I a), (2, I b), (7, I k), (8, I t), (32, B false)] s (blkQ 1
            (thenQ (Dn.Call Γ cx) cx c127_k0 (loopQ (InvPi q n a b σ d) (5 - t) [0, 1, 2, 7, 8] (blkQ 0 (thenQ (Dn.Call Γ cx) cx ((C.ops [6] [Ins.p (some 6) (POp.move (Opd.c (D.bool false)))]).seq C.ret) (endQ Mode.raw σ [Res.tmp 6] fun v s' => v = B (partialInsertionSort lt d a b).2 ∧ To σ q (partialInsertionSort lt d a b).1 s')))))) := by
    intro hk2
    rw [hsc, hk2] at heq
    by_cases hkb2 : k = b
    · simp only [hkb2, if_true] at heq
      subst hkb2
      simp -implicitDefEqProofs [c127_k25, c127_k24]
      rw [heq]
      exact ⟨rfl, hto⟩
    · have hkb' : ¬ ((k : Int) = b) := by omega
      simp only [hkb2, if_false] at heq
      have e2 : IntKind.i64.wrap ((b : Int) - a) = ((b - a : Nat) : Int) := by rw [wrap_i64 (by omega) (by omega)]; omega
      obtain ⟨ba, hba⟩ : ∃ ba, b - a = ba := ⟨_, rfl⟩
      rw [hba] at e2 heq
      by_cases h50 : ba < 50
      · have h50' : (ba : Int) < 50 := by omega
        simp only [h50, if_true] at heq
        simp -implicitDefEqProofs [hkb2, hkb', c127_k25, c127_k24, c127_k23, e2, h50, h50', c127_k22]
        rw [heq]
        exact ⟨rfl, hto⟩
      · have h50' : ¬ (ba : Int) < 50 := by omega
        simp only [h50, if_false] at heq
        simp -implicitDefEqProofs [hkb2, hkb', c127_k25, c127_k24, c127_k23, e2, h50, h50', c127_k22]
        refine pins_k21 hat hn1 (by omega) (by omega) hb hN fun s2 tl htl hto2 => ?_
        have hs2 : (let d := swp d1 k (k - 1); let d := if k - a ≥ 2 then shiftDown lt (k - 1) d else d; if b - k ≥ 2 then shiftUp lt b (k + 1) d else d).size = n := by
          simp only
          split
          · rw [shiftUp_size b _ _ _ rfl]
            split
            · rw [shiftDown_size, swp_size, hn1]
            · rw [swp_size, hn1]
          · split
            · rw [shiftDown_size, swp_size, hn1]
            · rw [swp_size, hn1]
        simp only at heq hto2 hs2
        generalize (if b - k ≥ 2 then shiftUp lt b (k + 1) (if k - a ≥ 2 then shiftDown lt (k - 1) (swp d1 k (k - 1)) else swp d1 k (k - 1)) else if k - a ≥ 2 then shiftDown lt (k - 1) (swp d1 k (k - 1)) else swp d1 k (k - 1)) = d2 at *
        have w1 : IntKind.i64.wrap ((t : Int) + 1) = ((t + 1 : Nat) : Int) := by rw [wrap_i64 (by omega) (by omega)]; omega
        have hto3 := hto.trans hto2
        have hinv : ∃ m' < 5 - t, InvPi q n a b σ d m' [(0, .sl q 0 n 1), (1, I a), (2, I b), (7, I k), (8, I (t + 1 : Nat))] s2 := ⟨5 - (t + 1), by omega, t + 1, k, d2, rfl, rfl, by omega, by omega, by omega, hs2, hto3, by rw [heq, show 5 - (t + 1) = t' by omega]⟩
        rcases htl with rfl | ⟨j', y, w, rfl | rfl, rfl⟩
        all_goals
          simp -implicitDefEqProofs [c127_k0, w1]
          exact hinv
  by_cases hkb3 : k < b
  · obtain ⟨k', rfl⟩ : ∃ k', k = k' + 1 := ⟨k - 1, by omega⟩
    have hsw := hat.sw (i := k' + 1) (j := k') (by omega) (by omega)
    have e2 : IntKind.i64.wrap (((k' + 1 : Nat) : Int) - 1) = (k' : Nat) := by rw [wrap_i64 (by omega) (by omega)]; omega
    have ia1 := fun σ => iaddr_sl σ (q := q) (n := n) (i := k' + 1) (by omega)
    have ia2 := fun σ => iaddr_sl σ (q := q) (n := n) (i := k') (by omega)
    rw [show k' + 1 - 1 = k' by omega] at hst
    obtain ⟨k, hk1⟩ : ∃ k, k' + 1 = k := ⟨_, rfl⟩
    rw [hk1] at hsw e2 ia1 hst hsc hkb hkb3 hk fin ⊢
    simp -implicitDefEqProofs [room_zero, hkb3, e2, ia1, ia2, hsw.o, hsw.ai, hsw.aj]
    refine use_fnN rfl rfl (s_Less _ _) rfl ?_
    cases hl : lt d1[k]! d1[k']! with
    | false =>
      simp only [hl, hkb3, decide_true, Bool.not_false, Bool.and_self, if_true] at hst
      simp -implicitDefEqProofs [c127_k27, c127_k26, wrap_i64 (n := (k : Int) + 1) (by omega) (by omega)]
      exact ⟨b - (k + 1), by omega, k + 1, rfl, rfl, by omega, by omega, rfl, hsc.trans hst⟩
    | true =>
      simp only [hl, hkb3, decide_true, Bool.not_true, Bool.and_false, Bool.false_eq_true, if_false] at hst
      simp -implicitDefEqProofs [c127_k27]
      exact fin hst
  · simp only [hkb3, decide_false, Bool.false_and, Bool.false_eq_true, if_false] at hst
    simp -implicitDefEqProofs [room_zero, hkb3, c127_k27]
    exact fin hst

abbrev Wd (x:W64):V:=.d (.int .u64 (un x))
def xs (x:W64):W64 :=
 let x:=x^^^(x <<< 13)
 let x:=x^^^(x >>> 7)
 x^^^(x <<< 17)
theorem s_Next {σ:St}{p:Nat}{x:W64}(hp:σ.objs[p]?=some (.cells [Wd x])):Dn.Call Γ cx .raw 139 [.ref p 0] σ fun v s=>v=Wd (xs x)∧s=⟨σ.objs.set p (.cells [Wd (xs x)]),σ.toks⟩:=by
 refine Dn.Call.body (fc:=c139) rfl ?_
 have hpl:p<σ.objs.length:=(List.getElem?_eq_some_iff.1 hp).1
 have hst : ∀ o:Dn.Obj,(σ.objs.set p o)[p]?=some o:=fun o=>by simp [hpl]
 have s1 : ∀ x:W64,IntKind.u64.wrap (un x*(8192:Int))=un (x <<< 13):=fun x=>shl_u64 x 13
 have s2 : ∀ x:W64,un x / (128:Int)=un (x >>> 7):=fun x=>shr_u64 x 7
 have s3 : ∀ x:W64,IntKind.u64.wrap (un x*(131072:Int))=un (x <<< 17):=fun x=>shl_u64 x 17
 simp -implicitDefEqProofs [c139,c139_k3]
 refine w_drwX (fun _=>.val) [] (by decide +kernel) ?_
 simp -implicitDefEqProofs [room_zero,nilCheckV,hp,shiftBin,IntKind.bits,s1,xor_u64,c139_k2]
 refine w_drwX (fun _=>.val) [] (by decide +kernel) ?_
 simp -implicitDefEqProofs [room_zero,nilCheckV,hst,shiftBin,IntKind.bits,s2,xor_u64,c139_k1]
 refine w_drwX (fun _=>.val) [] (by decide +kernel) ?_
 simp -implicitDefEqProofs [room_zero,nilCheckV,hst,shiftBin,IntKind.bits,s3,xor_u64,c139_k0]
 exact⟨rfl,rfl⟩

def tab:List UInt8:=[0,1,2,2,3,3,3,3]++List.replicate 8 4++List.replicate 16 5++List.replicate 32 6++List.replicate 64 7++List.replicate 128 8
theorem tab_at : ∀ x:Fin 256,tab[x.1]?=some (UInt8.ofNat (bitsLen x.1)):=by decide +kernel
theorem bits_256 : ∀ x:Fin 256,bitsLen x.1≤8:=by decide +kernel

theorem s_Len64 {x:Nat}(h:x<256):Dn.Call Γ cx .val 132 [.d (.int .u64 x)] St.empty fun v _=>v=I (bitsLen x):=by
 refine Dn.Call.body (fc:=c132) rfl ?_
 have h1 : ¬ (4294967296:Int)≤x:=by omega
 have h2 : ¬ (65536:Int)≤x:=by omega
 have h3 : ¬ (256:Int)≤x:=by omega
 have ht:=tab_at ⟨x,h⟩
 have hb:=bits_256 ⟨x,h⟩
 simp only at ht hb
 have e1:IntKind.u8.wrap (x:Int)=(x:Int):=by rw [wrap_u8n]; omega
 have e2:(UInt8.ofNat (bitsLen x)).toNat=bitsLen x:=by simp [UInt8.toNat_ofNat]; omega
 have e3:IntKind.i64.wrap (0+(bitsLen x:Int))=bitsLen x:=by rw [wrap_i64 (by omega) (by omega)]; omega
 have e4:IntKind.i64.wrap ((bitsLen x:Int))=bitsLen x:=by rw [wrap_i64 (by omega) (by omega)]
 have htab : ∀ b,b=tab→indexStrV (.d (.str b)) (.d (.int .u8 (x:Int)))=some (.d (.int .u8 (bitsLen x))):=by
  rintro b rfl
  simp only [indexStrV,asIdx,Int.toNat_natCast,ht,e2]
  simp
 have hk0:c132_k0 = .seq (.ops [2] [.p (some 19) (.move (.t 2)),
  .p (some 20) (.move (.t 0)),
  .p (some 21) (.conv (.int .u8) (.t 20)),
  .p (some 22) (.indexStr (.c (.str tab)) (.t 21)),
  .p (some 23) (.conv (.int .i64) (.t 22)),
  .p (some 24) (.bin .add .int [] (.t 19) (.t 23)),
  .p (some 2) (.move (.t 24))]) (.ret):=by kernel_rfl
 have htb:=htab _ rfl
 simp -implicitDefEqProofs [c132,c132_k8,h1,c132_k7,c132_k6,h2,c132_k5,c132_k3,h3,c132_k2,hk0,e1,htb,e3,e4]

theorem s_Len {x:Nat}(h:x<256):Dn.Call Γ cx .val 115 [.d (.int .u64 x)] St.empty fun v _=>v=I (bitsLen x):=by
 refine Dn.Call.body (fc:=c115) rfl ?_
 simp -implicitDefEqProofs [c115,c115_k1,c115_k0]
 refine use_fn rfl (s_Len64 h) rfl ?_
 simp -implicitDefEqProofs

theorem s_npo {x:Nat}(h:x<256):Dn.Call Γ cx .val 138 [I x] St.empty fun v _=>v = .d (.int .u64 ((2 ^ bitsLen x:Nat):Int)):=by
 refine Dn.Call.body (fc:=c138) rfl ?_
 have e1:IntKind.u64.wrap (x:Int)=x:=wrap_u64 (by omega) (by omega)
 simp -implicitDefEqProofs [c138,c138_k0,e1]
 refine use_fn rfl (s_Len h) rfl ?_
 have hb:=bits_256 ⟨x,h⟩
 simp only at hb
 generalize bitsLen x=k at *
 have hp:2 ^ k≤2 ^ 8:=Nat.pow_le_pow_right (by decide) hb
 obtain⟨w,hw⟩ : ∃ w:Nat,2 ^ k=w:=⟨_,rfl⟩
 have hwi:(2 ^ k:Int)=(w:Int):=by rw [← hw]; simp
 rw [hw] at hp
 have e2:IntKind.u64.wrap (w:Int)=w:=wrap_u64 (by omega) (by omega)
 simp -implicitDefEqProofs [shiftBin,IntKind.bits,show min k 64=k by omega,hwi,e2,show ¬ (k:Int)<0 by omega]

open Go.Sort (swp xorNext breakStep breakPatterns bitsLen)

def brk (a l md idx:Nat)(st:UInt64×Array Int):Nat→UInt64×Array Int
 | 0=>st
 | t+1=>breakStep a l md (brk a l md idx st t) (idx+t)

def InvBk (q n a l md idx p:Nat) (σ0:St)(d0:Array Int)(m:Nat)(e:Env) (σ:St):Prop:=∃ (t k:Nat)(x:W64)(d:Array Int),e=[(0,.sl q 0 n 1),(1,I a),(6,I l),(7,.ref p 0),(8,.d (.int .u64 md)),(9,I k)]∧m=3-t∧k=idx+t∧t≤3∧d.size=n ∧
 σ.objs[q]?=some (.cells (ar d))∧σ.objs[p]?=some (.cells [Wd x])∧Fr [q] σ0 σ∧σ.toks=σ0.toks∧brk a l md idx (UInt64.ofNat l,d0) t=(UInt64.ofBitVec x,d)

theorem and_lt (x y:Nat)(h:0<y):x&&&(y-1)<y:=by
 have:x&&&(y-1)≤y-1:=Nat.and_le_right
 omega

theorem s_break {σ:St}{q n a b:Nat}{d:Array Int}(h:At σ q d)(hn:d.size=n)(hab:a≤b)(hb:b≤n)(hN:n≤90) :
  Dn.Call Γ cx .raw 124 [.sl q 0 n 1,I a,I b] σ fun _ s=>To σ q (breakPatterns d a b) s:=by
 refine Dn.Call.body (fc:=c124) rfl ?_
 obtain⟨l,hl⟩ : ∃ l,b-a=l:=⟨_,rfl⟩
 have e0:IntKind.i64.wrap ((b:Int)-a)=(l:Int):=by rw [wrap_i64 (by omega) (by omega)]; omega
 simp -implicitDefEqProofs [c124,e0,c124_k13]
 unfold breakPatterns
 simp only [hl]
 by_cases h8:8≤l
 rotate_left
 ·have h8' : ¬ (8:Int)≤l:=by omega
  simp -implicitDefEqProofs [h8',h8,c124_k12]
  exact To.refl h
 have h8':(8:Int)≤l:=by omega
 simp only [ge_iff_le,h8,if_true]
 have u1:IntKind.u64.wrap (l:Int)=(l:Int):=wrap_u64 (by omega) (by omega)
 simp -implicitDefEqProofs [h8',c124_k12,c124_k11,u1]
 simp -implicitDefEqProofs [c124_k10]
 refine use_fn rfl (s_npo (x:=l) (by omega)) rfl ?_
 have hp2:2 ^ bitsLen l≤2*l∧0<2 ^ bitsLen l:=by
  unfold bitsLen
  rw [if_neg (by omega),Nat.pow_succ]
  have:=Nat.log2_self_le (n:=l) (by omega)
  exact⟨by omega,by have:=Nat.two_pow_pos (Nat.log2 l); omega⟩
 rw [Nat.one_shiftLeft]
 generalize 2 ^ bitsLen l=md at *
 obtain⟨idx,hidx⟩ : ∃ idx,a+l / 4*2-1=idx:=⟨_,rfl⟩
 have e1:IntKind.i64.wrap ((l:Int) / 4)=((l / 4:Nat):Int):=by rw [wrap_i64 (by omega) (by omega)]; omega
 have e3:IntKind.i64.wrap (((l / 4:Nat):Int)*2)=((l / 4*2:Nat):Int):=by rw [wrap_i64 (by omega) (by omega)]; omega
 have e5:IntKind.i64.wrap ((a:Int)+(l / 4*2:Nat))=((a+l / 4*2:Nat):Int):=by rw [wrap_i64 (by omega) (by omega)]; omega
 have bx:idx+3≤n∧a+l / 4*2=idx+1:=by omega
 rw [hidx]
 rw [bx.2] at e5
 generalize l / 4*2=x2 at *
 generalize l / 4=x4 at *
 have e6:IntKind.i64.wrap (((idx+1:Nat):Int)-1)=(idx:Int):=by rw [wrap_i64 (by omega) (by omega)]; omega
 have e7:IntKind.i64.wrap (((idx+1:Nat):Int)+1)=((idx+2:Nat):Int):=by rw [wrap_i64 (by omega) (by omega)]; omega
 obtain⟨i1,hi1⟩ : ∃ i1,idx+1=i1:=⟨_,rfl⟩
 obtain⟨i2,hi2⟩ : ∃ i2,idx+2=i2:=⟨_,rfl⟩
 have hbr:(breakStep a l md (breakStep a l md (breakStep a l md (UInt64.ofNat l,d) idx) (idx+1)) (idx+2)).2=(brk a l md idx (UInt64.ofNat l,d) 3).2:=rfl
 rw [hbr]
 clear hbr
 rw [hi1] at e5 e6 e7
 rw [hi2] at e7
 simp -implicitDefEqProofs [e1,e3,e5,c124_k9,e6,c124_k8]
 have hql:=h.lt
 have hqp:q≠σ.objs.length:=by omega
 have hpn:(σ.objs++[Dn.Obj.cells [V.d (D.int IntKind.u64 (l:Int))]])[σ.objs.length]?=some (.cells [Wd (BitVec.ofNat 64 l)]):=by
  have:un (BitVec.ofNat 64 l)=(l:Int):=by
   simp only [un,BitVec.toNat_ofNat]
   rw [Nat.mod_eq_of_lt (by omega)]
  simp [this]
 refine wloopI (InvBk q n a l md idx σ.objs.length σ d) (m:=3) ⟨0,idx,BitVec.ofNat 64 l,d,rfl,rfl,rfl,by omega,hn,?_,hpn,?_,rfl,rfl⟩ ?_
 ·simp only
  rw [List.getElem?_append_left hql]
  exact h.obj
 ·exact⟨by simp,fun r _ hr=>by simp [List.getElem?_append_left hr]⟩
 rintro m e s ⟨t,k,x,d1,rfl,rfl,hk,ht,hn1,hq,hp,hfr,htk,heq⟩
 simp -implicitDefEqProofs [c124_l7,e1,e3,e5,e7]
 obtain⟨p,hpdef⟩ : ∃ p,σ.objs.length=p:=⟨_,rfl⟩
 rw [hpdef] at hp hqp ⊢
 by_cases ht3:t<3
 rotate_left
 ·obtain rfl:t=3:=by omega
  have : ¬ k≤i2:=by omega
  simp -implicitDefEqProofs [this,c124_k6]
  rw [heq]
  exact⟨hq,hfr,htk⟩
 have hki:k≤i2:=by omega
 simp -implicitDefEqProofs [hki,c124_k6,c124_k5,c124_k4]
 refine use_raw (s_Next hp) fun v s2 ⟨hv,hs2⟩=>?_
 subst hv
 have hpl:p<s.objs.length:=(List.getElem?_eq_some_iff.1 hp).1
 have hq2:s2.objs[q]?=some (.cells (ar d1)):=by rw [hs2]; simp only; rw [List.getElem?_set_ne (by omega)]; exact hq
 have hp2':s2.objs[p]?=some (.cells [Wd (xs x)]):=by rw [hs2]; simp [hpl]
 have htk2:s2.toks=s.toks:=by rw [hs2]
 have hlen2:s2.objs.length=s.objs.length:=by rw [hs2]; simp
 have hoth : ∀ r,r≠p→s2.objs[r]?=s.objs[r]?:=fun r hr=>by rw [hs2]; simp only; rw [List.getElem?_set_ne (by omega)]
 clear hs2
 have hst:brk a l md idx (UInt64.ofNat l,d) (t+1)=(UInt64.ofBitVec (xs x),swp d1 k (a+(if (xs x).toNat&&&(md-1)≥l then((xs x).toNat&&&(md-1))-l else(xs x).toNat&&&(md-1)))):=by
  rw [brk,heq,hk]
  rfl
 have m1:IntKind.u64.wrap ((md:Int)-1)=((md-1:Nat):Int):=by rw [wrap_u64 (by omega) (by omega)]; omega
 have hand:bits .and .u64 (un (xs x)) ((md-1:Nat):Int)=(((xs x).toNat&&&(md-1):Nat):Int):=by
  have:((md-1:Nat):Int)=un (BitVec.ofNat 64 (md-1)):=by
   simp only [un,BitVec.toNat_ofNat]
   rw [Nat.mod_eq_of_lt (by omega)]
  rw [this,and_u64]
  simp only [un,BitVec.toNat_and,BitVec.toNat_ofNat]
  rw [Nat.mod_eq_of_lt (by omega)]
 have hol:=and_lt (xs x).toNat md hp2.2
 generalize md-1=md1 at *
 generalize (xs x).toNat&&&md1=o at *
 have w1:IntKind.i64.wrap (o:Int)=o:=wrap_i64 (by omega) (by omega)
 have w2:IntKind.i64.wrap ((o:Int)-l)=(o:Int)-l:=wrap_i64 (by omega) (by omega)
 have w4:IntKind.i64.wrap ((k:Int)+1)=((k+1:Nat):Int):=by rw [wrap_i64 (by omega) (by omega)]; omega
 simp -implicitDefEqProofs [m1,hand,w1,c124_k3]
 have fin : ∀ o2:Nat,o2<l→brk a l md idx (UInt64.ofNat l,d) (t+1)=(UInt64.ofBitVec (xs x),swp d1 k (a+o2))→∀ tl,tl=[]∨tl=[(43,B false)]→wcode (Dn.Call Γ cx) cx c124_k1 ((0,.sl q 0 n 1)::(1,I a)::(6,I l)::(7,.ref p 0)::(8,.d (.int .u64 md))::(9,I k)::(10,I o2)::tl) s2
   (blkQ 1 (thenQ (Dn.Call Γ cx) cx c124_k0 (loopQ (InvBk q n a l md idx p σ d) (3-t) [0,1,6,7,8,9] (blkQ 0 (endQ Mode.raw σ [] fun x s=>To σ q (brk a l md idx (UInt64.ofNat l,d) 3).snd s))))):=by
  intro o2 ho2 hbk tl htl
  have hat:At s2 q d1:=⟨hq2⟩
  have hsw:=hat.sw (i:=k) (j:=a+o2) (by omega) (by omega)
  have ia1:=fun σ=>iaddr_sl σ (q:=q) (n:=n) (i:=k) (by omega)
  have ia2:=fun σ=>iaddr_sl σ (q:=q) (n:=n) (i:=a+o2) (by omega)
  have w3:IntKind.i64.wrap ((a:Int)+o2)=((a+o2:Nat):Int):=by rw [wrap_i64 (by omega) (by omega)]; omega
  have hle:a+o2<n:=by omega
  generalize a+o2=y at *
  simp only [c124_k1]
  refine w_drwX (fun _=>.val) [] (by decide +kernel) ?_
  rcases htl with rfl | rfl
  all_goals
   simp -implicitDefEqProofs [-splice,room_zero,w3,ia1,ia2,hsw.o,hsw.ai,hsw.aj]
   simp -implicitDefEqProofs [-splice,hsw.l1,hsw.i1,hsw.s1,hsw.st,hsw.l2,hsw.j1,hsw.s2,c124_k0,w4]
   refine⟨3-(t+1),by omega,t+1,k+1,xs x,_,rfl,rfl,by omega,by omega,by rw [swp_size,hn1],hsw.st _,?_,?_,htk2.trans htk,hbk⟩
   ·simp only
    rw [List.getElem?_set_ne (by omega)]
    exact hp2'
   ·refine⟨by simp [hlen2]; exact hfr.len,fun r hr hl=>?_⟩
    simp only
    rw [List.getElem?_set_ne (fun e=>hr (by simp [e]))]
    rw [hoth r (by omega)]
    exact hfr.at_ r hr hl
 by_cases hol2:l≤o
 ·have hb2:o-l<l:=by omega
  have w2':IntKind.i64.wrap ((o:Int)-l)=((o-l:Nat):Int):=by rw [w2]; omega
  rw [if_pos hol2] at hst
  have:=fin (o-l) hb2 hst [] (.inl rfl)
  generalize o-l=o3 at *
  simp -implicitDefEqProofs [hol2,c124_k2,w2']
  exact this
 ·rw [if_neg hol2] at hst
  simp -implicitDefEqProofs [hol2,c124_k2]
  exact fin o (by omega) hst _ (.inr rfl)

open Go.Sort (swp PermIn SortedIn Below partition partitionEqual choosePivot breakPatterns bitsLen Hint)

structure Rnd (σ:St)(q n a b:Nat)(d:Array Int)(Q1:PostC):Prop where
 ret : ∀ (e:Env) (s:St) (R:Array Int),To σ q R s→PermIn a b d R→SortedIn lt a b R→Q1 .ret e s
 go : ∀ (a' b' l':Nat) (wb wp:Bool) (d':Array Int) (s:St),To σ q d' s→a'≤b'→b'≤n→b'-a'<b-a→d'.size=n→l'≤1000→Below lt a' b' d' →
  (∀ R,PermIn a' b' d' R→SortedIn lt a' b' R→PermIn a b d R∧SortedIn lt a b R)→Q1 .normal [(0,.sl q 0 n 1),(1,I a'),(2,I b'),(3,I l'),(8,B wb),(9,B wp)] s

def Ih (q n m:Nat):Prop:=∀ (σ:St)(a b l:Nat)(d:Array Int),b-a<m→At σ q d→d.size=n→a≤b→b≤n→l≤1000→Below lt a b d →
 Dn.Call Γ cx .raw 114 [.sl q 0 n 1,I a,I b,I l] σ fun _ s=>∃ R,To σ q R s∧PermIn a b d R∧SortedIn lt a b R

attribute [local irreducible] Go.Sort.partition Go.Sort.partitionEqual Go.Sort.partialInsertionSort Go.Sort.insertionSort Go.Sort.heapSort Go.Sort.reverseRange Go.Sort.breakPatterns Go.Sort.choosePivot
theorem swo:Go.Sort.SWO lt:=Go.Sort.swo_ltInt

theorem st10 {σ:St}{q n a b l pv lim:Nat}{d d3:Array Int}{wb wp:Bool}{Q1:PostC}{s:St}(hR:Rnd σ q n a b d Q1)(ih:Ih q n (b-a))(hto:To σ q d3 s)(hn3:d3.size=n)(hP:PermIn a b d d3)(hB:Below lt a b d3)
  (hl:b-a=l) (hN:n≤90) (hb:b≤n) (h1:a≤pv) (h2:pv<b) (hlim:lim≤1000) :
  wcode (Dn.Call Γ cx) cx c114_k10 [(0,.sl q 0 n 1),(1,I a),(2,I b),(3,I lim),(8,B wb),(9,B wp),(10,I l),(11,I pv),(87,B false)] s Q1:=by
 simp -implicitDefEqProofs [c114_k10]
 refine use_raw (s_part hto.at hn3 h1 h2 hb (by omega)) fun v s4 ⟨hv,ht4⟩=>?_
 rcases hx:partition lt d3 a b pv with⟨mid,ap,d4⟩
 rw [hx] at hv ht4
 have hb3:b≤d3.size:=by omega
 have hpt:=Go.Sort.partition_holds lt
 have hm:=Go.Sort.round_part swo hpt h1 h2 hb3 hB hx
 obtain⟨m1,m2,m3,m4,m5,m6,m7⟩:=hm
 have ht4':=hto.trans ht4
 have hn4:d4.size=n:=by rw [m3,hn3]
 have e1:IntKind.i64.wrap ((mid:Int)-a)=((mid-a:Nat):Int):=by rw [wrap_i64 (by omega) (by omega)]; omega
 have e2:IntKind.i64.wrap ((b:Int)-mid)=((b-mid:Nat):Int):=by rw [wrap_i64 (by omega) (by omega)]; omega
 have e3:IntKind.i64.wrap ((mid:Int)+1)=((mid+1:Nat):Int):=by rw [wrap_i64 (by omega) (by omega)]; omega
 have e4:IntKind.i64.wrap ((l:Int) / 8)=((l / 8:Nat):Int):=by rw [wrap_i64 (by omega) (by omega)]; omega
 obtain⟨lf,hlf⟩ : ∃ lf,mid-a=lf:=⟨_,rfl⟩
 obtain⟨rt,hrt⟩ : ∃ rt,b-mid=rt:=⟨_,rfl⟩
 obtain⟨th,hth⟩ : ∃ th,l / 8=th:=⟨_,rfl⟩
 obtain⟨mi,hmi⟩ : ∃ mi,mid+1=mi:=⟨_,rfl⟩
 rw [hlf] at e1
 rw [hrt] at e2
 rw [hmi] at e3
 rw [hth] at e4
 subst hv
 simp -implicitDefEqProofs [c114_k9,c114_k8,e1,e2,c114_k7,e4,c114_k6]
 by_cases hlr:lf<rt
 ·simp -implicitDefEqProofs [hlr,c114_k5,c114_k2,c114_k1]
  refine use_raw (ih s4 a mid lim d4 (by omega) ht4.at hn4 m1 (by omega) hlim m4) fun v s5 ⟨L,hL,pL,sL⟩=>?_
  simp -implicitDefEqProofs [c114_k0,e3]
  obtain⟨n1,n2⟩:=m6 L pL sL
  rw [hmi] at n1 n2
  exact hR.go mi b lim _ ap L s5 (ht4'.trans hL) (by omega) hb (by omega) (by rw [pL.1,hn4]) hlim n1 fun R pR sR=>⟨Go.Sort.permIn_trans _ _ _ a b hP (n2 R pR sR).1,(n2 R pR sR).2⟩
 ·simp -implicitDefEqProofs [hlr,c114_k5,c114_k4,c114_k3,e3]
  rw [hmi] at m5 m7
  refine use_raw (ih s4 mi b lim d4 (by omega) ht4.at hn4 (by omega) hb hlim m5) fun v s5 ⟨L,hL,pL,sL⟩=>?_
  simp -implicitDefEqProofs
  obtain⟨n1,n2⟩:=m7 L pL sL
  exact hR.go a mid lim _ ap L s5 (ht4'.trans hL) m1 (by omega) (by omega) (by rw [pL.1,hn4]) hlim n1 fun R pR sR=>⟨Go.Sort.permIn_trans _ _ _ a b hP (n2 R pR sR).1,(n2 R pR sR).2⟩

theorem st13 {σ:St}{q n a b l pv lim:Nat}{d d3:Array Int}{wb wp:Bool}{Q1:PostC}{s:St}{tl:Env}(htl:tl=[(72,B false)]∨tl=[(68,B false)])(hR:Rnd σ q n a b d Q1)(ih:Ih q n (b-a))(hto:To σ q d3 s)(hn3:d3.size=n)(hP:PermIn a b d d3)(hB:Below lt a b d3)
  (hl:b-a=l) (hN:n≤90) (hb:b≤n) (h1:a≤pv) (h2:pv<b) (hlim:lim≤1000) :
  wcode (Dn.Call Γ cx) cx c114_k13 ((0,.sl q 0 n 1)::(1,I a)::(2,I b)::(3,I lim)::(8,B wb)::(9,B wp)::(10,I l)::(11,I pv)::tl) s (blkQ 1 Q1):=by
 simp only [body_eq,globEnv,GB,List.map_nil,List.map_cons,List.append_nil,w_rangeF,i_next,i_makeMap,i_range,i_update,i_delete,i_entry,i_clone,entryV,cloneV,q_rndA,q_rndB_n,q_rndB_e,q_rndB_r,setAll,w_skip,w_ops,w_seq,w_cond,w_block,w_exit,w_ret,q_then_n,q_then_e,q_then_r,q_blk_n,q_blk_e,q_blk_r,q_ops,q_cont,q_end_n,q_end_r,q_end_e,q_loop_n,q_loop_e,q_loop_r,i_nil,i_p,i_alloc,i_box,i_store,i_copy,i_clear,i_call,i_callv,i_when,t_nil,t_p,t_call,t_alloc,t_box,t_store,kept_nil,t_copy,t_clear,q_tcont,gsel,List.cons_append,List.nil_append,evalP,evalE,evalF,evalB,isObj,thaw,Opd.ev,Env.get,Env.set,Env.pick,putE,initEnv,evalBin,intBin,evalUn,evalConv,goneAll,goneOne,retV,resAll,Res.ev,tupOf,byVals,byValsN,bv_d,bv_da,bv_fl,bv_tl,bn_d,bn_da,bn_fl,bn_tl,cx,Dn.newObj,St.place,St.push,St.spot,St.empty,cell_d,cell_da,cell_agg,cell_ref,cell_sl,cell_fl,cell_tl,cell_map,cell_fn,cell_ifc,loadAt,faddrV,partOf,extractV,mkAgg,ofD,splice,St.setObj,fillV,c114_k13]
 refine w_drwX (fun _=>.val) [] (by decide +kernel) ?_
 have hat:=hto.at
 have hR':Rnd σ q n a b d (blkQ 1 Q1):=⟨hR.ret,hR.go⟩
 have rest:=st10 hR' ih hto hn3 hP hB hl hN hb h1 h2 hlim (wb:=wb) (wp:=wp)
 by_cases ha0:0<a
 ·obtain⟨a',rfl⟩ : ∃ a',a=a'+1:=⟨a-1,by omega⟩
  have e1:IntKind.i64.wrap (((a'+1:Nat):Int)-1)=(a':Nat):=by rw [wrap_i64 (by omega) (by omega)]; omega
  have hsw:=hat.sw (i:=a') (j:=pv) (by omega) (by omega)
  have ia1:=fun σ=>iaddr_sl σ (q:=q) (n:=n) (i:=a') (by omega)
  have ia2:=fun σ=>iaddr_sl σ (q:=q) (n:=n) (i:=pv) (by omega)
  obtain⟨a,hadef⟩ : ∃ a,a'+1=a:=⟨_,rfl⟩
  have haa:a-1=a':=by omega
  rw [hadef] at e1 hR hR' ih hP hB hl h1 rest ha0 ⊢
  have ha0':(0:Int)<a:=by omega
  rcases htl with rfl | rfl
  all_goals
   simp -implicitDefEqProofs [room_zero,ha0',ha0,e1,ia1,ia2,hsw.o,hsw.ai,hsw.aj]
   refine use_fnN rfl rfl (s_Less _ _) rfl ?_
   cases hlt:lt d3[a']! d3[pv]! with
   | true =>
    simp -implicitDefEqProofs [c114_k12]
    exact rest
   | false =>
    simp -implicitDefEqProofs [c114_k12]
    refine use_raw (s_partEq hat hn3 h1 h2 hb (by omega)) fun v s4 ⟨hv,ht4⟩=>?_
    rcases hx:partitionEqual lt d3 a b pv with⟨mid,d4⟩
    rw [hx] at hv ht4
    subst hv
    obtain⟨m1,m2,m3,m4,m5⟩:=Go.Sort.round_eq swo (Go.Sort.partitionEqual_holds lt) ha0 h1 h2 (by omega) hB (by rw [haa]; exact hlt) hx
    simp -implicitDefEqProofs [c114_k11]
    exact hR.go mid b lim wb wp d4 s4 (hto.trans ht4) m2 hb (by omega) (by rw [m3,hn3]) hlim m4 fun R pR sR=>⟨Go.Sort.permIn_trans _ _ _ a b hP (m5 R pR sR).1,(m5 R pR sR).2⟩
 ·obtain rfl:a=0:=by omega
  rcases htl with rfl | rfl
  all_goals
   simp -implicitDefEqProofs [room_zero,c114_k12]
   exact rest

theorem st16 {σ:St}{q n a b l pv lim:Nat}{d d3:Array Int}{wb wp:Bool}{hi:Int}{Q1:PostC}{s:St}{tl:Env}(htl:tl=[]∨tl=[(50,B false)])(hR:Rnd σ q n a b d Q1)(ih:Ih q n (b-a))(hto:To σ q d3 s)(hn3:d3.size=n)(hP:PermIn a b d d3)(hB:Below lt a b d3)
  (hl:b-a=l) (hN:n≤90) (hb:b≤n) (h1:a≤pv) (h2:pv<b) (hlim:lim≤1000) :
  wcode (Dn.Call Γ cx) cx c114_k16 ((0,.sl q 0 n 1)::(1,I a)::(2,I b)::(3,I lim)::(8,B wb)::(9,B wp)::(10,I l)::(11,I pv)::(12,I hi)::tl) s (blkQ 1 Q1):=by
 have rest:=fun(tl:Env) (htl:tl=[(72,B false)]∨tl=[(68,B false)])=>st13 (wb:=wb) (wp:=wp) htl hR ih hto hn3 hP hB hl hN hb h1 h2 hlim
 have rest2:=fun(tl:Env) (htl:tl=[(72,B false)]∨tl=[(68,B false)]) (s4:St) (d4:Array Int) (hto4:To σ q d4 s4) (hn4:d4.size=n) (hP4:PermIn a b d d4) (hB4:Below lt a b d4)=>st13 (wb:=true) (wp:=true) htl hR ih hto4 hn4 hP4 hB4 hl hN hb h1 h2 hlim
 by_cases hg:wb=true∧wp=true∧hi=1
 ·obtain⟨rfl,rfl,rfl⟩:=hg
  have hps:=Go.Sort.partialInsertionSort_holds swo d3 a b (by omega) (by omega) hB
  rcases htl with rfl | rfl
  all_goals
   simp -implicitDefEqProofs [c114_k16,c114_k15]
   refine use_raw (s_pins hto.at hn3 (by omega) hb (by omega)) fun v s4 ⟨hv,ht4⟩=>?_
   subst hv
   have hP4:=Go.Sort.permIn_trans _ _ _ a b hP hps.1
   have hn4:(Go.Sort.partialInsertionSort lt d3 a b).1.size=n:=by rw [hps.1.1,hn3]
   have hB4:Below lt a b (Go.Sort.partialInsertionSort lt d3 a b).1:=hB.perm (by omega) hps.1
   have hto4:=hto.trans ht4
   cases hp:(Go.Sort.partialInsertionSort lt d3 a b).2 with
   | true =>
    simp -implicitDefEqProofs [c114_k14]
    exact hR.ret _ _ _ hto4 hP4 (hps.2 hp)
   | false =>
    simp -implicitDefEqProofs [c114_k14]
    exact rest2 _ (.inl rfl) _ _ hto4 hn4 hP4 hB4
 ·have hv : ∀ x:Bool,(wb=true→wp=true→x=decide (hi=1))→(if wb=true then(if wp=true then x else false) else false)=false:=by
   intro x hx
   cases wb <;> cases wp <;> simp at hx ⊢
   rw [hx]
   simpa using hg
  rcases htl with rfl | rfl
  all_goals
   cases wb <;> cases wp <;> simp -implicitDefEqProofs [c114_k16,c114_k15] <;> first | exact rest _ (.inr rfl) | skip
  all_goals
   have h1 : ¬ hi=1:=by simpa using hg
   simp [h1]
   exact rest _ (.inr rfl)
end Go.Proofs.Ytmlkdfjojoophaa.T
