import Derived.Test.YtmlkdfjojoophaaFw210
import Derived.Laws.Externs
import Derived.KernelRfl
import Derived.OrdersIn
import Derived.RangeFuncRecord
/- copy, make, clear; append into an object that may be written. -/
namespace Go.Dn
open Go.Lib

set_option linter.unusedSimpArgs false

variable {P:Program} {g:Gh} {σ:St} {tk:List Nat} {w:World}

theorem rowsLen_take {sz:Nat} : ∀ (ys:List (List D))(n:Nat),(∀ (i:Nat)(row:List D),ys[i]?=some row→row.length=sz)→(ys.take n).flatten=ys.flatten.take (n*sz)
 | [],n,_=>by simp
 | y::ys,0,_=>by simp
 | y::ys,n+1,h=>by
  have h0:y.length=sz:=h 0 y rfl
  have ih:=rowsLen_take ys n (fun i row hr=>h (i+1) row (by simpa using hr))
  simp only [List.take_succ_cons,List.flatten_cons]
  rw [ih,Nat.add_mul,Nat.one_mul,Nat.add_comm (n*sz) sz,List.take_append,h0]
  rw [show y.take (sz+n*sz)=y from List.take_of_length_le (by omega)]
  congr 1
  congr 1
  omega

theorem DRs.take {f:Nat→Nat→Prop} : ∀ {ds:List D}{vs:List Value}(n:Nat),DRs f w ds vs→DRs f w (ds.take n) (vs.take n)
 | [],[],n,h=>by simp; exact h
 | _::_,_::_,0,h=>trivial
 | _::_,_::_,n+1,h=>⟨h.1,DRs.take n h.2⟩
 | [],_::_,_,h=>h.elim
 | _::_,[],_,h=>h.elim

theorem run_loadFrom (a:Addr)(cv:Nat→Value)(n:Nat)(hc : ∀ j,j<n→w.cell? (a.add j)=some (cv j)):(loadCells a n).run P w = .ok ((List.range n).map cv).toArray w:=run_loadCells w a n cv hc

theorem src_first (hs:Sim g σ w){x:V}{cx:Value}(hx:VR g σ.toks w x cx){ys:List (List D)}(h:V.rows σ x=some ys){sz:Nat}(hpos:0<sz)(hfit:fitR sz ys=true)(m:Nat)(hm:m≤ys.length) :
  ∃ news:Array Value,(Builtin.lenOf cx).run P w = .ok ys.length w∧(Builtin.firstCells sz m cx).run P w = .ok news w∧DRs g.frz w (ys.take m).flatten news.toList∧∀ v∈news.toList,oneC v=true:=by
 have hf : ∀ (i:Nat) (row:List D),ys[i]?=some row→row.length=sz:=fun i row hr=>fitR_get hfit hr
 obtain⟨news,hn⟩:=src_rows (P:=P) (rows_rel hs hx h) hpos hfit
 have hl:=hn.len
 have hfi:=hn.first w rfl
 refine⟨(news.toList.take (m*sz)).toArray,hl,?_,?_,?_⟩
 ·rcases rows_rel hs hx h with⟨rfl,rfl⟩ | ⟨a,cap,sz',cv,rfl,hcap,hat⟩
  ·have hm0:m=0:=by simpa using hm
   subst hm0
   simp [Builtin.firstCells]
  ·by_cases hz:ys.length=0
   ·have hm0:m=0:=by omega
    subst hm0
    simp [Builtin.firstCells,loadCells,loadCellsFrom]
   ·have hsz:sz'=sz:=by
     have h0:ys[0]?=some (ys[0]'(by omega)):=by simp
     rw [← hat.hsz 0 _ h0,hf 0 _ h0]
    subst hsz
    have e1:(Builtin.firstCells sz' ys.length (.slice (some a) ys.length cap)).run P w = .ok ((List.range (ys.length*sz')).map cv).toArray w:=run_loadFrom a cv _ hat.hc
    rw [hfi] at e1
    simp only [Result.ok.injEq,and_true] at e1
    subst e1
    have hle:m*sz'≤ys.length*sz':=Nat.mul_le_mul_right _ hm
    have e2:(Builtin.firstCells sz' m (.slice (some a) ys.length cap)).run P w = .ok ((List.range (m*sz')).map cv).toArray w:=run_loadFrom a cv _ (fun j hj=>hat.hc j (by omega))
    rw [e2]
    simp only [← List.map_take,List.take_range]
    rw [Nat.min_eq_left hle]
 ·rw [rowsLen_take ys m hf]
  exact hn.rel.take _
 ·intro v hv
  simp only at hv
  exact hn.one v (List.mem_of_mem_take hv)

theorem copy_rel (hs:Sim g σ w){t xT e ty:TypeId}(ht:P.underlying t=some (.slice e))(hc:P.cellsOf e≠0){s x v:V}{cs cx:Value}(hsv:VR g σ.toks w s cs)(hx:VR g σ.toks w x cx){ys:List (List D)}(hys:V.rows σ x=some ys) {σ':St}
  (h:copyV σ (P.cellsOf e) s ys=some (v,σ')):EStep P g σ w (Builtin.copy_ #[t,xT] ty #[cs,cx]) v σ':=by
 have hpos:0<P.cellsOf e:=by omega
 unfold copyV at h
 split at h
 ·cases h
 ·rename_i hfit
  simp only [Bool.not_eq_false] at hfit
  have hf : ∀ (i:Nat) (row:List D),ys[i]?=some row→row.length=P.cellsOf e:=fun i row hr=>fitR_get hfit hr
  split at h
  ·rename_i r off len s'
   split at h
   ·rename_i hcnd
    obtain⟨rfl,_⟩:=hcnd
    split at h
    ·rename_i ocs hobj
     split at h
     ·rename_i hroom
      cases h
      cases hsv with
      | sl _ _ _ _ cap a hh hcap hsz hin hout ha hsp =>
       obtain⟨news,n1,n2,n3,n4⟩:=src_first (P:=P) hs hx hys hpos hfit (min ys.length len) (Nat.min_le_left _ _)
       have hln:ocs.length=g.len r:=(hs.cells r ocs hobj).1
       have htl:(ys.take (min ys.length len))=ys.take len:=by
        rcases Nat.le_total ys.length len with h | h
        ·rw [Nat.min_eq_left h,List.take_of_length_le (Nat.le_refl _),List.take_of_length_le h]
        ·rw [Nat.min_eq_right h]
       rw [htl] at n3
       have hft : ∀ (i:Nat) (row:List D),(ys.take len)[i]?=some row→row.length=P.cellsOf e:=fun i row hr=>by
        rw [List.getElem?_take] at hr
        split at hr
        ·exact hf i row hr
        ·cases hr
       have hxl:(((ys.take len).flatten).map V.d).length≤len*P.cellsOf e:=by
        rw [List.length_map,flatten_len _ hft]
        exact Nat.mul_le_mul_right _ (by simp; omega)
       obtain⟨w',r1,r2,r3⟩:=hs.splice (P:=P) hobj (off:=off) (DRs.to_v n4 n3) n4 (by omega)
       have run : ∀ q,(storeCells a news.toList).run P w = .ok () q→(Builtin.copy_ #[t,xT] ty #[.slice (some a) len cap,cx]).run P w = .ok (goInt ((min ys.length len:Nat):Int)) q:=fun q hq=>by
        have e1:Nat.min ys.length len=min ys.length len:=rfl
        simp [Builtin.copy_,run_underlying ht,run_sizeOf_cells hc,n1,e1,n2,hq]
        try (congr 1; omega)
       by_cases hlt:off<g.len r
       ·have haa:=ha hlt
        subst haa
        exact⟨_,w',g,run w' r1,r2,.int _ _,r3⟩
       ·have hn0:news.toList=[]:=List.eq_nil_of_length_eq_zero (by
         have:=n3.length
         rw [flatten_len _ hft] at this
         have hz:len*P.cellsOf e=0:=by omega
         have:(ys.take len).length*P.cellsOf e≤len*P.cellsOf e:=Nat.mul_le_mul_right _ (by simp; omega)
         omega)
        have hw:w'=w:=by
         rw [hn0] at r1
         simp [storeCells] at r1
         exact r1.symm
        subst hw
        exact⟨_,w',g,run w' (by rw [hn0]; simp [storeCells]),r2,.int _ _,r3⟩
     ·cases h
    ·cases h
   ·cases h
  ·split at h
   ·rename_i hl0
    cases h
    obtain⟨a,c,rfl,_⟩:=slice_len hs hsv hl0
    obtain⟨news,n1,n2,n3,n4⟩:=src_first (P:=P) hs hx hys hpos hfit 0 (Nat.zero_le _)
    have hn0:news.toList=[]:=List.eq_nil_of_length_eq_zero (by simpa using n3.length.symm)
    refine⟨goInt 0,w,g,?_,hs,.int _ _,Ev.refl _ _ _⟩
    have e1:Nat.min ys.length 0=0:=Nat.min_zero _
    cases a with
    | none=>simp [Builtin.copy_,run_underlying ht,run_sizeOf_cells hc,n1,e1,n2]
    | some a=>simp [Builtin.copy_,run_underlying ht,run_sizeOf_cells hc,n1,e1,n2,hn0,storeCells]
   ·cases h

theorem makeSlice_rel (hs:Sim g σ w){t e:TypeId}(ht:P.underlying t=some (.slice e))(hg:growOk P e=true){z:List D}(hz:zeroOf P e=some z){l c:Int}(h0:0≤l)(h1:l≤c)(hb:c*P.bytesOf e≤140737488355328)(hc:c≤9223372036854775807)
  {tg:Option Nat} {v:V} {σ':St} (h:Dn.newObj σ tg (.cells (repl c.toNat z)) (fun r=>.sl r 0 l.toNat (P.cellsOf e))=some (v,σ')):EStep P g σ w (Instr.makeSlice t (.int .i64 l) (.int .i64 c)) v σ':=by
 obtain⟨hp,rfl⟩:=newObj_inv h
 obtain⟨i,zv,hi,hzv,hisz,hiby,hcell,hzs,hz1⟩:=growOk_inv hg
 obtain⟨i',zv',hi',hzv',hleaf⟩:=zeroOf_inv hz
 rw [hi] at hi'; cases hi'
 rw [hzv] at hzv'; cases hzv'
 obtain⟨z1,z2⟩:=leafsD_vrs (g:=g) (tk:=σ.toks) (w:=w) hleaf
 have hzl:z.length=P.cellsOf e:=by have:=z1.length; simp at this; rw [this]; exact hzs
 have hpos:0<z.length:=by omega
 have w1:IntKind.i64.wrap l=l:=by simp only [IntKind.wrap,IntKind.signed,IntKind.bits]; simp; omega
 have w2:IntKind.i64.wrap c=c:=by simp only [IntKind.wrap,IntKind.signed,IntKind.bits]; simp; omega
 have hcn:(c.toNat:Int)=c:=Int.toNat_of_nonneg (by omega)
 have hprod:((c.toNat*i.bytes:Nat):Int)=c*i.bytes:=by rw [Int.natCast_mul,hcn]
 rw [← hiby] at hb
 have room:c.toNat*i.bytes≤140737488355328:=by omega
 have t1 : ¬ ((i.bytes:Int)*c>281474976710656):=by rw [Int.mul_comm]; omega
 obtain⟨r1,r2⟩:=repl_rel (g:=g) (tk:=σ.toks) (w:=w) z1 z2 hpos c.toNat
 have hszz:zv.cells.size=z.length:=by rw [hzl]; exact hzs
 obtain⟨s1,s2⟩:=hs.new_obj hp r1 r2 (grown_push w (.cells ((Array.range (c.toNat*z.length)).map (zv.cells[· % zv.cells.size]!)) e))
 have hrl:(repl c.toNat z).length=c.toNat*z.length:=repl_length _ _
 refine⟨.slice (some ⟨w.heap.size,0,none⟩) l.toNat c.toNat,_,_,?_,s1,?_,s2⟩
 ·have e1 : ¬ (c<0):=by omega
  have e2 : ¬ (l<0):=by omega
  have e3 : ¬ (c<l):=by omega
  have e4 : ¬ (roomBytes<c.toNat*i.bytes):=by unfold roomBytes; omega
  have e5 : ¬ (281474976710656<(i.bytes:Int)*c):=by omega
  by_cases hn:c.toNat*i.size=0
  ·have hc0:c.toNat*z.length=0:=by rw [hzl,← hisz]; exact hn
   simp [Instr.makeSlice,run_underlying ht,asInt,asIntOf,typeInfo,hi,w1,w2,e1,e2,e3,e4,e5,sizeOf,hn,newRow,askRoom,hc0]
   have e0:Array.range 0 = #[]:=rfl
   simp only [e0,Array.map_empty]
  ·simp [Instr.makeSlice,run_underlying ht,asInt,asIntOf,typeInfo,hi,w1,w2,e1,e2,e3,e4,e5,sizeOf,hn,run_zeroValue hi hzv,newRow,askRoom]
   rw [hisz,hzl]
 ·have:=VR.sl (g:=g.add (σ.spot tg) w.heap.size (repl c.toNat z).length ((Array.range (c.toNat*z.length)).map (zv.cells[· % zv.cells.size]!)).size) (tk:=σ'.toks) (w:={ w with heap:=w.heap.push (.cells ((Array.range (c.toNat*z.length)).map (zv.cells[· % zv.cells.size]!)) e) }) (σ.spot tg) 0 l.toNat (P.cellsOf e) c.toNat ⟨w.heap.size,0,none⟩ (.inr rfl) (by omega) (by omega)
   (by simp [Gh.add,hrl,hzl]; exact Nat.mul_le_mul_right _ (by omega)) (by simp [Gh.add,hrl,hzl]) (fun _=>by simp [Gh.add]) rfl (by simp [Gh.add,hzl])
  exact this

theorem clear_rel (hs:Sim g σ w){t e ty:TypeId}(ht:P.underlying t=some (.slice e)){z:List D}(hz:zeroOf P e=some z)(hzl:z.length=P.cellsOf e)(hpos:0<P.cellsOf e){s v:V}{cs:Value}(hsv:VR g σ.toks w s cs) {σ':St}
  (h:clearV σ (P.cellsOf e) z s=some (v,σ')):EStep P g σ w (Builtin.clear_ #[t] ty #[cs]) v σ':=by
 obtain⟨i,zv,hi,hzv,hleaf⟩:=zeroOf_inv hz
 obtain⟨z1,z2⟩:=leafsD_vrs (g:=g) (tk:=σ.toks) (w:=w) hleaf
 have hzs:zv.cells.size=z.length:=by have:=z1.length; simp at this; exact this.symm
 unfold clearV at h
 split at h
 ·rename_i r off len s'
  split at h
  ·rename_i hcnd
   obtain⟨rfl,_⟩:=hcnd
   split at h
   ·rename_i ocs hobj
    split at h
    ·rename_i hroom
     cases h
     cases hsv with
     | sl _ _ _ _ cap a hh hcap hsz hin hout ha hsp =>
      have hln:ocs.length=g.len r:=(hs.cells r ocs hobj).1
      obtain⟨r1,r2⟩:=repl_rel (g:=g) (tk:=σ.toks) (w:=w) z1 z2 (by omega) len
      have hrl:(repl len z).length=len*z.length:=repl_length _ _
      obtain⟨w',q1,q2,q3⟩:=hs.splice (P:=P) hobj (off:=off) r1 r2 (by rw [hrl,hzl]; exact hroom)
      have hzc:(Builtin.zeroCells zv.cells len).toList=((Array.range (len*z.length)).map (zv.cells[· % zv.cells.size]!)).toList:=by
       simp [Builtin.zeroCells,hzs]
      by_cases hl0:len=0
      ·subst hl0
       have hw:w'=w:=by
        simp [storeCells] at q1
        exact q1.symm
       subst hw
       exact⟨.tuple #[],w',g,by simp [Builtin.clear_,run_underlying ht],q2,.tup [] #[] rfl (fun i c v h=>by simp at h),q3⟩
      ·have hlt:off<g.len r:=by
        have:0<len*P.cellsOf e:=Nat.mul_pos (by omega) hpos
        omega
       have haa:=ha hlt
       subst haa
       refine⟨.tuple #[],w',g,?_,q2,.tup [] #[] rfl (fun i c v h=>by simp at h),q3⟩
       rw [← hzc] at q1
       obtain⟨n,rfl⟩ : ∃ n,len=n+1:=⟨len-1,by omega⟩
       simp [Builtin.clear_,run_underlying ht,run_zeroValue hi hzv,q1]
    ·cases h
   ·cases h
  ·cases h
 ·split at h
  ·rename_i hl0
   cases h
   obtain⟨a,c,rfl,_⟩:=slice_len hs hsv hl0
   refine⟨.tuple #[],w,g,?_,hs,.tup [] #[] rfl (fun i c v h=>by simp at h),Ev.refl _ _ _⟩
   cases a <;> simp [Builtin.clear_,run_underlying ht]
  ·cases h

theorem repl_zero {z:List D}{zv:Value}(hzs:zv.cells.size=z.length)(n:Nat):(Builtin.zeroCells zv.cells n).toList=((Array.range (n*z.length)).map (zv.cells[· % zv.cells.size]!)).toList:=by
 simp [Builtin.zeroCells,hzs]

theorem appendZ_rel (hs:Sim g σ w){t xT e ty:TypeId}(ht:P.underlying t=some (.slice e))(hg:growOk P e=true){k:IntKind}(hx:P.underlying xT=some (.int k)){z:List D}(hz:zeroOf P e=some z){l:Int}(h0:0<l)(hb:l*P.bytesOf e≤140737488355328)(h63:l≤9223372036854775807)
  {tg:Option Nat} {v:V} {σ':St} (h:Dn.newObj σ tg (.cells (repl l.toNat z)) (fun r=>.sl r 0 l.toNat (P.cellsOf e))=some (v,σ')):EStep P g σ w (Builtin.append_ #[t,xT] ty #[.slice none 0 0,.int .i64 l]) v σ':=by
 obtain⟨hp,rfl⟩:=newObj_inv h
 obtain⟨i,zv,hi,hzv,hisz,hiby,hcell,hzs,hz1⟩:=growOk_inv hg
 obtain⟨i',zv',hi',hzv',hleaf⟩:=zeroOf_inv hz
 rw [hi] at hi'; cases hi'
 rw [hzv] at hzv'; cases hzv'
 obtain⟨z1,z2⟩:=leafsD_vrs (g:=g) (tk:=σ.toks) (w:=w) hleaf
 have hzl:z.length=P.cellsOf e:=by have:=z1.length; simp at this; rw [this]; exact hzs
 have hpos:0<z.length:=by omega
 have hcn:(l.toNat:Int)=l:=Int.toNat_of_nonneg (by omega)
 have hprod:((l.toNat*i.bytes:Nat):Int)=l*i.bytes:=by rw [Int.natCast_mul,hcn]
 rw [← hiby] at hb
 have hrun:=run_append_zero (P:=P) (w:=w) (ty:=ty) (k':=.i64) ht hi hzv hx h0 h63 (by rw [hisz]; omega) (by omega)
 have hcge:=grownCap_ge w l.toNat 0 e
 generalize grownCap w l.toNat 0 e=newCap at *
 obtain⟨r1,r2⟩:=repl_rel (g:=g) (tk:=σ.toks) (w:=w) z1 z2 hpos l.toNat
 have hszz:zv.cells.size=z.length:=by rw [hzl]; exact hzs
 have hrl:(repl l.toNat z).length=l.toNat*z.length:=repl_length _ _
 have hgr:Grown1 w (.cells (Builtin.zeroCells zv.cells l.toNat++Builtin.zeroCells zv.cells (newCap-l.toNat)) e (0,0)) (w.drew.alloc (.cells (Builtin.zeroCells zv.cells l.toNat++Builtin.zeroCells zv.cells (newCap-l.toNat)) e)) :=
  ⟨by simp [World.alloc,World.drew,-World.alloc_eq,-World.drew_eq],by simp [World.alloc,World.drew,-World.alloc_eq,-World.drew_eq],by simp [World.alloc,World.drew,-World.alloc_eq,-World.drew_eq],by simp [World.alloc,World.drew,-World.alloc_eq,-World.drew_eq]⟩
 have hzc:=repl_zero hszz l.toNat
 obtain⟨s1,s2⟩:=hs.new_obj2 hp r1 r2 (c:=Builtin.zeroCells zv.cells l.toNat++Builtin.zeroCells zv.cells (newCap-l.toNat)) (e:=e) (fun j u hj=>by
  have hj2:(Builtin.zeroCells zv.cells l.toNat).toList[j]?=some u:=by rw [hzc]; exact hj
  have hlt:=(List.getElem?_eq_some_iff.1 hj2).1
  rw [Array.getElem?_append_left (by simpa using hlt),← Array.getElem?_toList]
  exact hj2) hgr
 have hcs:(Builtin.zeroCells zv.cells l.toNat++Builtin.zeroCells zv.cells (newCap-l.toNat)).size=newCap*P.cellsOf e:=by
  simp only [Array.size_append,size_zeroCells,hzs]
  rw [← Nat.add_mul]
  congr 1
  omega
 refine⟨_,_,_,hrun,s1,?_,s2⟩
 have m1:=Nat.mul_le_mul_right (P.cellsOf e) hcge
 exact VR.sl (g:=g.add (σ.spot tg) w.heap.size (repl l.toNat z).length (Builtin.zeroCells zv.cells l.toNat++Builtin.zeroCells zv.cells (newCap-l.toNat)).size) (σ.spot tg) 0 l.toNat (P.cellsOf e) newCap ⟨w.heap.size,0,none⟩ (.inr rfl) hcge (by omega)
  (by simp only [Gh.add,if_true,hrl,hzl]; omega) (by simp only [Gh.add,if_true,hrl,hzl]; omega) (fun _=>by simp [Gh.add]) rfl (by simp only [Gh.add,if_true,hcs]; omega)

theorem appendM_rel (hs:Sim g σ w){t xT e ty:TypeId}(ht:P.underlying t=some (.slice e))(hg:growOk P e=true){ti:TypeInfo}(hti:P.info? e=some ti){s v:V}{cs cx:Value}(hsv:VR g σ.toks w s cs)
  {ys:List (List D)} {news:Array Value} (hsrc:fitR (P.cellsOf e) ys=true→AppRun P g.frz w t xT ty e ti ys cx news) {tg:Option Nat} {σ':St} (h:appendM σ tg (P.cellsOf e) (P.bytesOf e) s ys=some (v,σ')) :
  EStep P g σ w (Builtin.append_ #[t,xT] ty #[cs,cx]) v σ':=by
 obtain⟨i,z,hi,hzv,hisz,hiby,hc0,hzs,hz1⟩:=growOk_inv hg
 have hti':=hti
 obtain rfl:i=ti:=by rw [hi] at hti; exact Option.some.inj hti
 have hpos:0<P.cellsOf e:=by omega
 unfold appendM at h
 split at h
 ·cases h
 ·rename_i hnn
  simp only [not_or,Bool.not_eq_false] at hnn
  obtain⟨hfit0,hne⟩:=hnn
  have hsrc:=hsrc hfit0
  have hys : ∀ (i:Nat) (row:List D),ys[i]?=some row→row.length=P.cellsOf e:=fun i row hr=>fitR_get hfit0 hr
  have hn:0<ys.length:=List.length_pos_iff.2 hne
  -- what a new block comes to
  have main : ∀ (base:Option Addr) (sLen:Nat) (rows:List (List D)) (olds:Array Value),rows.length=sLen→fitR (P.cellsOf e) rows=true→(∀ w',w'.heap=w.heap→(Builtin.firstCells (P.cellsOf e) sLen (.slice base sLen sLen)).run P w' = .ok olds w')→DRs g.frz w rows.flatten olds.toList→(∀ v∈olds.toList,oneC v=true) →
    sLen+ys.length≤9223372036854775807→(sLen+ys.length)*P.bytesOf e≤140737488355328→Dn.newObj σ tg (.cells ((rows++ys).flatten.map .d)) (fun r=>.sl r 0 (sLen+ys.length) (P.cellsOf e))=some (v,σ') →
    EStep P g σ w (Builtin.append_ #[t,xT] ty #[.slice base sLen sLen,cx]) v σ':=by
   intro base sLen rows olds hrl hfr hold hdo hone h63 h48 hnew
   obtain⟨hp,rfl⟩:=newObj_inv hnew
   have hrun:=hsrc.grow hzv (base:=base) (sLen:=sLen) (sCap:=sLen) (olds:=olds) hn (by rw [hisz]; exact hold) (by omega) h63 (by rw [hiby]; exact h48)
   have hflat:(rows++ys).flatten=rows.flatten++ys.flatten:=by simp
   have hdr:DRs g.frz w (rows++ys).flatten (olds.toList++news.toList):=by rw [hflat]; exact hdo.append hsrc.rel
   have hon : ∀ v∈olds.toList++news.toList,oneC v=true:=fun v hv=>by
    rcases List.mem_append.1 hv with h | h
    ·exact hone v h
    ·exact hsrc.one v h
   have hrf : ∀ (i:Nat) (row:List D),(rows++ys)[i]?=some row→row.length=P.cellsOf e:=fit_append hfr hfit0
   have hgw:Grown1 w (.cells (olds++news++Builtin.zeroCells z.cells (grownCap w (sLen+ys.length) sLen e-(sLen+ys.length))) e) (w.drew.alloc (.cells (olds++news++Builtin.zeroCells z.cells (grownCap w (sLen+ys.length) sLen e-(sLen+ys.length))) e)):=⟨rfl,rfl,rfl,rfl⟩
   obtain⟨s1,s2⟩:=hs.new_obj2 hp (DRs.to_v hon hdr) hon (c:=olds++news++Builtin.zeroCells z.cells (grownCap w (sLen+ys.length) sLen e-(sLen+ys.length))) (e:=e) (fun j v hj=>by
    have hlt:j<(olds++news).size:=by
     have:=(List.getElem?_eq_some_iff.1 hj).1
     simpa using this
    rw [Array.getElem?_append_left hlt,← Array.getElem?_toList,Array.toList_append]
    exact hj) hgw
   refine⟨_,_,_,hrun,s1,?_,s2⟩
   have hlen:((rows++ys).flatten.map V.d).length=(sLen+ys.length)*P.cellsOf e:=by rw [List.length_map,flatten_len _ hrf]; simp [hrl]
   have hcap:sLen+ys.length≤grownCap w (sLen+ys.length) sLen e:=grownCap_ge w (sLen+ys.length) sLen e
   exact VR.sl (g:=g.add (σ.spot tg) w.heap.size ((rows++ys).flatten.map V.d).length (olds++news++Builtin.zeroCells z.cells (grownCap w (sLen+ys.length) sLen e-(sLen+ys.length))).size) (σ.spot tg) 0 (sLen+ys.length) (P.cellsOf e) _ ⟨w.heap.size,0,none⟩ (.inr rfl) hcap hpos
    (by simp only [Gh.add,if_true,hlen]; omega) (by simp only [Gh.add,if_true,hlen]; have:=Nat.mul_le_mul_right (P.cellsOf e) hcap; omega) (fun _=>by simp [Gh.add]) rfl (by
     simp only [Gh.add,if_true,Array.size_append,size_zeroCells,hzs]
     have a1:olds.size=sLen*P.cellsOf e:=by
      have:=hdo.length
      rw [flatten_len rows (fun i row hr=>fitR_get hfr hr),hrl] at this
      simpa using this.symm
     have a2:news.size=ys.length*P.cellsOf e:=by
      have:=hsrc.rel.length
      rw [flatten_len ys hys] at this
      simpa using this.symm
     rw [a1,a2,← Nat.add_mul,← Nat.add_mul,Nat.zero_add]
     apply Nat.le_of_eq
     congr 1
     omega)
  split at h
  ·split at h
   ·rename_i hcnd
    obtain⟨_,h48,h63⟩:=hcnd
    have:=hsv.inv_d
    cases this
    refine main none 0 [] #[] rfl rfl (fun w' _=>by simp [Builtin.firstCells]) trivial (by simp) (by omega) (by rw [Nat.zero_add]; exact h48) ?_
    simpa using h
   ·cases h
  ·rename_i rows
   split at h
   ·rename_i hcnd
    obtain⟨_,hfit,h48,h63⟩:=hcnd
    have hd:=fl_dr hsv
    cases hsv with
    | fl _ a hd' =>
     have hro:RowsR g.frz w rows (.slice (some a) rows.length rows.length):=.inr hd.rows
     obtain⟨olds,ho⟩:=src_rows (P:=P) hro hpos hfit
     exact main (some a) rows.length rows olds rfl hfit ho.first ho.rel ho.one h63 h48 h
   ·cases h
  ·split at h
   ·rename_i hcnd
    obtain⟨rfl,_,h48,h63⟩:=hcnd
    split at h
    ·rename_i ocs hobj
     split at h
     ·rename_i hin
      exact growS_rel hs ht hg hti' hsv hsrc hfit0 hne hobj hin.1 hin.2 h48 h63 h
     ·cases h
    ·cases h
   ·cases h
  ·cases h

theorem zerosD_flat (z:List D) : ∀ n,(List.replicate n z).flatten=zerosD n z
 | 0=>rfl
 | n+1=>by simp only [List.replicate_succ,List.flatten_cons,zerosD,zerosD_flat z n]
theorem zerosD_map (n:Nat)(z:List D):(zerosD n z).map V.d=repl n z:=by
 induction n with
 | zero=>rfl
 | succ n ih=>simp only [zerosD,repl,List.map_append,ih]
theorem zero_app {t xT e ty:TypeId}(ht:P.underlying t=some (.slice e))(hg:growOk P e=true){k:IntKind}(hx:P.underlying xT=some (.int k)){z:List D}(hz:zeroOf P e=some z)(n:Nat)(h0:0<n) :
  ∃ ti news,P.info? e=some ti∧AppRun P g.frz w t xT ty e ti (List.replicate n z) (.int .i64 n) news:=by
 obtain⟨i,zv,hi,hzv,hisz,hiby,hcell,hzs,hz1⟩:=growOk_inv hg
 obtain⟨i',zv',hi',hzv',hleaf⟩:=zeroOf_inv hz
 rw [hi] at hi'; cases hi'
 rw [hzv] at hzv'; cases hzv'
 obtain⟨z1,z2⟩:=leafsD_vrs (g:=g) (tk:=([]:List Nat)) (w:=w) hleaf
 have hzl:z.length=P.cellsOf e:=by have:=z1.length; simp at this; rw [this]; exact hzs
 have hpos:0<z.length:=by omega
 obtain⟨r1,r2⟩:=repl_rel (g:=g) (tk:=([]:List Nat)) (w:=w) z1 z2 hpos n
 rw [← zerosD_map] at r1
 have hszz:zv.cells.size=z.length:=by rw [hzl]; exact hzs
 have hzc:=repl_zero hszz n
 refine⟨i,Builtin.zeroCells zv.cells n,hi,⟨⟨by rw [hzc]; exact r2,?_,?_⟩,by rw [zerosD_flat,hzc]; exact r1.of_d⟩⟩
 ·intro a sLen sCap hn hb h63 hf
  rw [List.length_replicate] at hn hb h63 hf ⊢
  exact run_appendZ_fit ht hi hzv hx hn h63 (by rw [hisz]; omega) hb hf
 ·intro z' base sLen sCap olds hz' hn ho hgt h63 h48
  rw [hzv] at hz'
  cases hz'
  rw [List.length_replicate] at hn h63 h48 hgt ⊢
  exact run_appendZ_grow ht hi hzv hx hn (by rw [hisz]; omega) ho hgt h63 h48
theorem run_appendZ_nil {t xT ty e:TypeId}{i:TypeInfo}(ht:P.underlying t=some (.slice e))(hi:P.info? e=some i){k:IntKind}(hx:P.underlying xT=some (.int k)){base:Option Addr}{sLen sCap:Nat}(hf:sLen≤sCap) :
  (Builtin.append_ #[t,xT] ty #[.slice base sLen sCap,.int .i64 0]).run P w = .ok (.slice base sLen sCap) w:=by
 have w1:IntKind.i64.wrap 0=0:=by decide
 cases base <;> simp [Builtin.append_,run_underlying ht,run_underlying hx,sizeOf,typeInfo,hi,asInt,asIntOf,w1,hf,storeCells]
theorem appendZM_rel (hs:Sim g σ w){t xT e ty:TypeId}(ht:P.underlying t=some (.slice e))(hg:growOk P e=true){k:IntKind}(hx:P.underlying xT=some (.int k)){z:List D}(hz:zeroOf P e=some z){s v:V}{cs:Value}(hsv:VR g σ.toks w s cs)(hsl : ∃ base n cap,cs = .slice base n cap∧n≤cap){l:Int}(h0:0≤l)
  {tg:Option Nat} {σ':St} (h:(if l=0 then some (s,σ) else appendM σ tg (P.cellsOf e) (P.bytesOf e) s (List.replicate l.toNat z))=some (v,σ')):EStep P g σ w (Builtin.append_ #[t,xT] ty #[cs,.int .i64 l]) v σ':=by
 split at h
 ·rename_i hl
  subst hl
  cases h
  obtain⟨i,zv,hi,hzv,hisz,hiby,hcell,hzs,hz1⟩:=growOk_inv hg
  obtain⟨base,n,cap,rfl,hc⟩:=hsl
  exact⟨_,w,g,run_appendZ_nil ht hi hx hc,hs,hsv,Ev.refl _ _ _⟩
 ·rename_i hl
  obtain⟨n,hn⟩ : ∃ n:Nat,l=(n:Int):=⟨l.toNat,by omega⟩
  subst hn
  rw [Int.toNat_natCast] at h
  obtain⟨ti,news,hti,ha⟩:=zero_app (g:=g) (w:=w) (ty:=ty) ht hg hx hz n (by omega)
  exact appendM_rel hs ht hg hti hsv (fun _=>ha) h

theorem appendX_rel (hs:Sim g σ w){t xT e ty:TypeId}(ht:P.underlying t=some (.slice e))(hg:growOk P e=true){dx:TypeDesc}(hx:P.underlying xT=some dx)(hni : ∀ k,dx ≠ .int k){s x v:V}{cs cx:Value}(hsv:VR g σ.toks w s cs)(hxv:VR g σ.toks w x cx){tg:Option Nat} {σ':St}
  (h:appendX σ tg (P.cellsOf e) (P.bytesOf e) s x=some (v,σ')):EStep P g σ w (Builtin.append_ #[t,xT] ty #[cs,cx]) v σ':=by
 obtain⟨i,z,hi,hzv,hisz,hiby,hc0,hzs,hz1⟩:=growOk_inv hg
 unfold appendX at h
 split at h
 ·rename_i rx ox lx sx
  split at h
  ·rename_i ccs hobj
   split at h
   ·rename_i hcnd
    obtain⟨rfl,hpos,hlx,hin⟩:=hcnd
    have hlt:ox<ccs.length:=by
     have:=Nat.mul_pos hlx hpos
     omega
    obtain⟨news,hsrc,hrel⟩:=obj_app (ty:=ty) hs ht hi hisz hx hni hxv hobj hin hlt
    have hxl:((ccs.drop ox).take (lx*P.cellsOf e)).length=lx*P.cellsOf e:=by rw [List.length_take,List.length_drop]; omega
    generalize (ccs.drop ox).take (lx*P.cellsOf e)=xv at *
    split at h
    ·split at h
     ·rename_i hb
      have:=hsv.inv_d
      cases this
      obtain⟨hp,rfl⟩:=newObj_inv h
      have hrun:=hsrc.grow hzv (base:=none) (sLen:=0) (sCap:=0) (olds := #[]) hlx (fun w' _=>by simp [Builtin.firstCells]) (by omega) (by omega) (by rw [hiby,Nat.zero_add]; exact hb.1)
      have hgw:Grown1 w (.cells (#[]++news++Builtin.zeroCells z.cells (grownCap w (0+lx) 0 e-(0+lx))) e) (w.drew.alloc (.cells (#[]++news++Builtin.zeroCells z.cells (grownCap w (0+lx) 0 e-(0+lx))) e)):=⟨rfl,rfl,rfl,rfl⟩
      obtain⟨s1,s2⟩:=hs.new_obj2 hp hrel hsrc.one (c := #[]++news++Builtin.zeroCells z.cells (grownCap w (0+lx) 0 e-(0+lx))) (e:=e) (fun j v hj=>by
       have hlt:j<(#[]++news).size:=by
        have:=(List.getElem?_eq_some_iff.1 hj).1
        simpa using this
       rw [Array.getElem?_append_left hlt,← Array.getElem?_toList,Array.toList_append]
       exact hj) hgw
      have hcap:lx≤grownCap w (0+lx) 0 e:=by have:=grownCap_ge w (0+lx) 0 e; omega
      have hns:news.size=lx*P.cellsOf e:=by have:=hrel.length; rw [hxl] at this; simpa using this.symm
      refine⟨_,_,_,hrun,s1,?_,s2⟩
      rw [Nat.zero_add] at *
      exact VR.sl (g:=g.add (σ.spot tg) w.heap.size xv.length (#[]++news++Builtin.zeroCells z.cells (grownCap w lx 0 e-lx)).size) (σ.spot tg) 0 lx (P.cellsOf e) _ ⟨w.heap.size,0,none⟩ (.inr rfl) hcap hpos
       (by simp only [Gh.add,if_true,hxl]; omega) (by simp only [Gh.add,if_true,hxl]; have:=Nat.mul_le_mul_right (P.cellsOf e) hcap; omega) (fun _=>by simp [Gh.add]) rfl (by
        simp only [Gh.add,if_true,Array.size_append,size_zeroCells,hzs,hns,List.size_toArray,List.length_nil,Nat.zero_add]
        rw [← Nat.add_mul]
        apply Nat.le_of_eq
        congr 1
        omega)
     ·cases h
    ·split at h
     ·rename_i hb
      obtain⟨rfl,h48,h63⟩:=hb
      split at h
      ·rename_i ocs hobj2
       split at h
       ·rename_i hin2
        exact growX_rel hs ht hg hi hsv hsrc hrel hxl hlx hobj2 hin2.1 hin2.2 h48 h63 h
       ·cases h
      ·cases h
     ·cases h
    ·cases h
   ·cases h
  ·cases h
 ·cases h

end Go.Dn

/- Objects that are no cells: written anew, laid anew; maps' operations. -/
namespace Go.Dn
open Go.Lib Go.Maps Go.MapKept

set_option linter.unusedSimpArgs false

variable {P:Program} {g:Gh} {σ:St} {tk:List Nat} {w:World}

theorem PutOth {g:Gh}{tk:List Nat}{w:World}{o:Obj}{x:Go.Obj}(h:OthR g tk w o x):o.isOth∨o = .dead:=by
 cases o <;> first | exact .inl trivial | exact .inr rfl | (cases x <;> exact h.elim)

theorem Sim.put_oth (hs:Sim g σ w){r:Nat}{o o':Obj}(hr:σ.objs[r]?=some o)(ho:o.isOth)(ho':o'.isOth∨o' = .dead){x:Go.Obj}(hrel:o'.isOth→OthR g σ.toks w o' x) :
  Sim g (σ.setObj r o') (putB w (g.obj r).1 x)∧Ev g σ w g (σ.setObj r o') (putB w (g.obj r).1 x):=by
 have hrl:r<σ.objs.length:=(List.getElem?_eq_some_iff.1 hr).1
 have hcell : ∀ b q,g.frz b q→(putB w (g.obj r).1 x).cell? ⟨b,q,none⟩=w.cell? ⟨b,q,none⟩:=fun b q hf =>
  putB_cell w _ (fun e=>hs.nofrz r _ hr ho.live q (by rw [e]; exact hf)) q
 have hl:Later g σ.toks w g (σ.setObj r o').toks (putB w (g.obj r).1 x) :=
  ⟨⟨fun b q hf=>hf,hcell⟩,fun q hq=>⟨hq,rfl,rfl⟩,fun t k ht=>⟨k,ht,Nat.le_refl _,fun _=>rfl,rfl⟩,rfl,fun _ _=>rfl⟩
 have obj : ∀ (q:Nat) (p:Obj),(σ.setObj r o').objs[q]?=some p→(q=r∧p=o')∨(q≠r∧σ.objs[q]?=some p):=by
  intro q p h
  simp only [St.setObj] at h
  by_cases hq:q=r
  ·subst hq
   rw [List.getElem?_set_self hrl] at h
   cases h
   exact .inl ⟨rfl,rfl⟩
  ·rw [List.getElem?_set_ne (fun e=>hq e.symm)] at h
   exact .inr ⟨hq,h⟩
 have old : ∀ (q:Nat) (p:Obj),(σ.setObj r o').objs[q]?=some p→p.live→∃ p',σ.objs[q]?=some p'∧p'.live:=by
  intro q p h1 h2
  rcases obj q p h1 with⟨rfl,rfl⟩ | ⟨_,h⟩
  ·exact⟨_,hr,ho.live⟩
  ·exact⟨p,h,h2⟩
 refine⟨⟨fun q p h1 h2=>?_,fun q hq=>?_,fun q hq=>?_,fun q cs2 hq=>?_,fun q p hq hoth=>?_,fun q q' p p' h1 h2 h3 h4 hne=>?_,fun q p h1 h2=>?_,fun t k ht=>?_,hs.tdist,fun t k q p h1 h2 h3=>?_,fun b q hf=>?_,fun q cs2 hq=>?_⟩,
  ⟨hl,by simp [putB],rfl,rfl,rfl,fun b hb' hm=>?_,fun b hb'=>?_,fun b q hf=>.inl hf⟩⟩
 ·obtain⟨p',h3,h4⟩:=old q p h1 h2
  exact hs.has q p' h3 h4
 ·simpa [St.setObj] using hs.bound q hq
 ·rcases obj q _ hq with⟨_,h⟩ | ⟨_,h⟩
  ·rcases ho' with h' | h'
   ·rw [← h] at h'; exact h'.elim
   ·rw [← h] at h'; cases h'
  ·exact hs.free q h
 ·rcases obj q _ hq with⟨_,h⟩ | ⟨hne,h⟩
  ·rcases ho' with h' | h'
   ·rw [← h] at h'; exact h'.elim
   ·rw [← h] at h'; cases h'
  ·obtain⟨h1,c0,e0,fz0,hb0,hn0,hcc⟩:=hs.cells q cs2 h
   have hbne:=hs.dist r q _ _ hr ho.live h trivial (fun e=>hne e.symm)
   refine⟨h1,c0,e0,fz0,by rw [putB_other w _ hbne]; exact hb0,hn0,fun j v hj=>?_⟩
   obtain⟨cv,r1,r2,r3⟩:=hcc j v hj
   exact⟨cv,r1,r2,r3.later hl⟩
 ·rcases obj q _ hq with⟨rfl,rfl⟩ | ⟨hne,h⟩
  ·exact⟨x,putB_same w _ (hs.blk hr ho.live),(hrel hoth).later hl⟩
  ·obtain⟨y,a1,a2⟩:=hs.oth q p h hoth
   exact⟨y,by rw [putB_other w _ (hs.dist r q _ _ hr ho.live h hoth.live (fun e=>hne e.symm))]; exact a1,a2.later hl⟩
 ·obtain⟨p1,a1,a2⟩:=old q p h1 h2
  obtain⟨p2,b1,b2⟩:=old q' p' h3 h4
  exact hs.dist q q' p1 p2 a1 a2 b1 b2 hne
 ·obtain⟨p1,a1,a2⟩:=old q p h1 h2
  exact hs.nofrz q p1 a1 a2
 ·obtain⟨h0,c0,e0,fz0,hb0,hn0,hsz,hf⟩:=hs.tok t k ht
  have hbne:=hs.tobj t k r _ ht hr ho.live
  exact⟨h0,c0,e0,fz0,by rw [putB_other w _ (fun e=>hbne e.symm)]; exact hb0,hn0,hsz,hf⟩
 ·obtain⟨p1,a1,a2⟩:=old q p h2 h3
  exact hs.tobj t k q p1 h1 a1 a2
 ·obtain⟨v,hv⟩:=hs.frzb b q hf
  exact⟨v,by rw [hcell b q hf]; exact hv⟩
 ·rcases obj q _ hq with⟨_,h⟩ | ⟨hne,h⟩
  ·rcases ho' with h' | h'
   ·rw [← h] at h'; exact h'.elim
   ·rw [← h] at h'; cases h'
  ·refine⟨(hs.lims q cs2 h).1,fun c2 e2 fz2 hb2=>?_⟩
   rw [putB_other w _ (hs.dist r q _ _ hr ho.live h trivial (fun e=>hne e.symm))] at hb2
   exact(hs.lims q cs2 h).2 _ _ _ hb2
 ·exact putB_other w _ (fun e=>hm (.inl ⟨r,_,hr,ho.live,e⟩))
 ·left
  rcases hb' with⟨q,p,h1,h2,rfl⟩ | h
  ·obtain⟨p1,a1,a2⟩:=old q p h1 h2
   exact .inl ⟨q,p1,a1,a2,rfl⟩
  ·exact .inr h

theorem Sim.new_oth (hs:Sim g σ w){tg:Option Nat}{o:Obj}(ho:o.isOth) {σ':St}(hp:σ.place tg o=some σ'){x:Go.Obj}(hr:OthR g σ.toks w o x){w':World}(hw:Grown1 w x w') :
  Sim (g.add (σ.spot tg) w.heap.size 0 0) σ' w'∧Ev g σ w (g.add (σ.spot tg) w.heap.size 0 0) σ' w':=by
 obtain⟨p1,p2,p3,p4,p5⟩:=place_inv hp
 have hnh : ¬ g.has (σ.spot tg):=by
  intro hh
  rcases p5 with h | h
  ·have:=hs.bound _ hh
   rw [List.getElem?_eq_none_iff] at h
   omega
  ·exact hs.free _ h hh
 have hcell : ∀ b q,g.frz b q→w'.cell? ⟨b,q,none⟩=w.cell? ⟨b,q,none⟩:=fun b q hf=>by
  obtain⟨v,hv⟩:=hs.frzb b q hf
  exact hw.cell (cell_lt hv) q
 have keep : ∀ r,g.has r→r≠σ.spot tg:=fun r hr e=>hnh (e▸hr)
 have hl:Later g σ.toks w (g.add (σ.spot tg) w.heap.size 0 0) σ'.toks w':=by
  refine⟨⟨fun b q hf=>hf,hcell⟩,fun r hr=>⟨.inl hr,?_,?_⟩,fun t k ht=>⟨k,by rw [p1]; exact ht,Nat.le_refl _,fun _=>rfl,rfl⟩,rfl,fun r hr=>by simp [Gh.add,keep r hr]⟩
  ·simp [Gh.add,keep r hr]
  ·simp [Gh.add,keep r hr]
 have hlt : ∀ (r:Nat) (o:Obj),σ.objs[r]?=some o→o.live→(g.obj r).1<w.heap.size:=fun r o h1 h2=>hs.blk h1 h2
 refine⟨⟨fun r o h1 h2=>?_,fun r hr=>?_,fun r hr=>?_,fun r cs' hr'=>?_,fun r o hr' hoth=>?_,fun r r' o o' h1 h2 h3 h4 hne=>?_,fun r o h1 h2 q=>?_,fun t k ht=>?_,fun t t' k k' h1 h2 h3=>?_,fun t k r o h1 h2 h3=>?_,fun b q hf=>?_,fun r cs' hr'=>?_⟩,
  ⟨hl,by rw [hw.size]; omega,hw.os,hw.tape,hw.output,fun b hb _=>hw.old hb,fun b hb=>?_,fun b q hf=>.inl hf⟩⟩
 ·by_cases hq:r=σ.spot tg
  ·exact .inr hq
  ·exact .inl (hs.has r o (by rw [← p2 r hq]; exact h1) h2)
 ·rcases hr with hr | rfl
  ·exact Nat.lt_of_lt_of_le (hs.bound r hr) p4
  ·exact(List.getElem?_eq_some_iff.1 p3).1
 ·intro hh
  by_cases hq:r=σ.spot tg
  ·subst hq; rw [p3] at hr; cases hr; exact ho.elim
  ·rcases hh with hh | hh
   ·exact hs.free r (by rw [← p2 r hq]; exact hr) hh
   ·exact hq hh
 ·by_cases hq:r=σ.spot tg
  ·subst hq
   rw [p3] at hr'
   cases hr'
   exact ho.elim
  ·obtain⟨h1,c',e',fz',hb,hn,hc⟩:=hs.cells r cs' (by rw [← p2 r hq]; exact hr')
   refine⟨by simp [Gh.add,hq,h1],c',e',fz',by simp only [Gh.add,hq,if_false]; rw [hw.old (block_lt hb)]; exact hb,hn,fun j v hj=>?_⟩
   obtain⟨cv,r1,r2,r3⟩:=hc j v hj
   exact⟨cv,by simp only [Gh.add,hq,if_false]; exact r1,r2,r3.later hl⟩
 ·by_cases hq:r=σ.spot tg
  ·subst hq
   rw [p3] at hr'
   cases hr'
   exact⟨x,by simp [Gh.add,hw.new],hr.later hl⟩
  ·obtain⟨y,a1,a2⟩:=hs.oth r o (by rw [← p2 r hq]; exact hr') hoth
   exact⟨y,by simp only [Gh.add,hq,if_false]; rw [hw.old (block_lt a1)]; exact a1,a2.later hl⟩
 ·by_cases hq:r=σ.spot tg
  ·by_cases hq':r'=σ.spot tg
   ·exact absurd (hq.trans hq'.symm) hne
   ·have:=hlt r' o' (by rw [← p2 r' hq']; exact h3) h4
    simp only [Gh.add,hq,hq',if_true,if_false]
    omega
  ·have l1:=hlt r o (by rw [← p2 r hq]; exact h1) h2
   by_cases hq':r'=σ.spot tg
   ·simp only [Gh.add,hq,hq',if_true,if_false]
    omega
   ·simp only [Gh.add,hq,hq',if_false]
    exact hs.dist r r' o o' (by rw [← p2 r hq]; exact h1) h2 (by rw [← p2 r' hq']; exact h3) h4 hne
 ·by_cases hq:r=σ.spot tg
  ·simp only [Gh.add,hq,if_true]
   intro hf
   obtain⟨v,hv⟩:=hs.frzb _ _ hf
   have:=cell_lt hv
   omega
  ·simp only [Gh.add,hq,if_false]
   exact hs.nofrz r o (by rw [← p2 r hq]; exact h1) h2 q
 ·rw [p1] at ht
  obtain⟨h0,c',e',fz',hb,hn,hsz,hf⟩:=hs.tok t k ht
  exact⟨h0,c',e',fz',by rw [show((g.add (σ.spot tg) w.heap.size 0 0).tok t)=g.tok t from rfl,hw.old (block_lt hb)]; exact hb,hn,hsz,hf⟩
 ·rw [p1] at h1 h2
  exact hs.tdist t t' k k' h1 h2 h3
 ·rw [p1] at h1
  obtain⟨h0,c',e',fz',hb,_⟩:=hs.tok t k h1
  have:=block_lt hb
  by_cases hq:r=σ.spot tg
  ·simp only [Gh.add,hq,if_true]
   omega
  ·simp only [Gh.add,hq,if_false]
   exact hs.tobj t k r o h1 (by rw [← p2 r hq]; exact h2) h3
 ·obtain⟨v,hv⟩:=hs.frzb b q hf
  exact⟨v,by rw [hcell b q hf]; exact hv⟩
 ·by_cases hq:r=σ.spot tg
  ·subst hq
   rw [p3] at hr'
   cases hr'
   exact ho.elim
  ·have hr2:σ.objs[r]?=some (.cells cs'):=by rw [← p2 r hq]; exact hr'
   refine⟨by simp only [Gh.add,hq,if_false]; exact(hs.lims r cs' hr2).1,fun c' e' fz' hb=>?_⟩
   simp only [Gh.add,hq,if_false] at hb ⊢
   exact(hs.lims r cs' hr2).2 c' e' fz' (by rw [← hw.old (hs.blk hr2 trivial)]; exact hb)
 ·rcases hb with⟨r,o,h1,h2,rfl⟩ | ⟨t,k,ht,rfl⟩
  ·by_cases hq:r=σ.spot tg
   ·right; simp [Gh.add,hq]
   ·left
    simp only [Gh.add,hq,if_false]
    exact .inl ⟨r,o,by rw [← p2 r hq]; exact h1,h2,rfl⟩
  ·left
   exact .inr ⟨t,k,by rw [← p1]; exact ht,rfl⟩

theorem Gh.add_obj (g:Gh)(r b n m:Nat):(g.add r b n m).obj r=(b,0):=by simp [Gh.add]

theorem makeMap_rel (hs:Sim g σ w){t:TypeId}{tg:Option Nat}{v:V} {σ':St}(h:Dn.newObj σ tg (.map [] 0) .map=some (v,σ')):EStep P g σ w (Instr.makeMap t none) v σ':=by
 obtain⟨hp,rfl⟩:=newObj_inv h
 obtain⟨s1,s2⟩:=hs.new_oth (o:=.map [] 0) trivial hp (x:=.map #[] 0) ⟨rfl,rfl,by simp,fun i b k v h=>by simp at h⟩ (grown_push w _)
 refine⟨.map (some w.heap.size),_,_,?_,s1,?_,s2⟩
 ·simp [Instr.makeMap,newObj,Sem.run]
 ·have:=VR.map (g:=g.add (σ.spot tg) w.heap.size 0 0) (tk:=σ'.toks) (w:={ w with heap:=w.heap.push (.map #[] 0) }) (σ.spot tg) (.inr rfl)
  rwa [Gh.add_obj] at this

theorem range_rel (hs:Sim g σ w){t kt et:TypeId}(hu:P.underlying t=some (.map kt et)){tg:Option Nat}{x v:V}{cx:Value}(hx:VR g σ.toks w x cx) {σ':St}(h:rangeV σ tg x=some (v,σ')):EStep P g σ w (Instr.range t cx) v σ':=by
 unfold rangeV at h
 split at h
 ·have:=hx.inv_d
  cases this
  obtain⟨hp,rfl⟩:=newObj_inv h
  obtain⟨s1,s2⟩:=hs.new_oth (o:=.iter none 0 [] 0) trivial hp (x:=.mapIter none 0 #[] 0) ⟨rfl,(fun r h=>by cases h),rfl,rfl,rfl⟩ (grown_push w _)
  refine⟨.pointer (some ⟨w.heap.size,0,none⟩),_,_,?_,s1,?_,s2⟩
  ·simp [Instr.range,run_underlying hu,newObj,Sem.run]
  ·have:=VR.iter (g:=g.add (σ.spot tg) w.heap.size 0 0) (tk:=σ'.toks) (w:={ w with heap:=w.heap.push (.mapIter none 0 #[] 0) }) (σ.spot tg) (.inr rfl)
   rwa [Gh.add_obj] at this
 ·rename_i r
  split at h
  ·rename_i es clock ho
   obtain⟨hob,h1,h2⟩:=hs.oth _ _ ho trivial
   cases hob <;> try exact h2.elim
   rename_i es' clock'
   obtain⟨hp,rfl⟩:=newObj_inv h
   cases hx with
   | map _ hh =>
    obtain⟨rfl,_⟩:=h2
    obtain⟨s1,s2⟩:=hs.new_oth (o:=.iter (some r) clock [] clock) trivial hp (x:=.mapIter (some (g.obj r).1) clock #[] clock) ⟨rfl,fun q h=>by cases h; exact hh,rfl,rfl,rfl⟩ (grown_push w _)
    refine⟨.pointer (some ⟨w.heap.size,0,none⟩),_,_,?_,s1,?_,s2⟩
    ·simp [Instr.range,run_underlying hu,newObj,getObj,Sem.run,h1]
    ·have:=VR.iter (g:=g.add (σ.spot tg) w.heap.size 0 0) (tk:=σ'.toks) (w:={ w with heap:=w.heap.push (.mapIter (some (g.obj r).1) clock #[] clock) }) (σ.spot tg) (.inr rfl)
     rwa [Gh.add_obj] at this
  ·cases h
 ·cases h

theorem clone_rel (hs:Sim g σ w){tg:Option Nat}{x v:V}{cx:Value}(hx:VR g σ.toks w x cx) {σ':St}(h:cloneV σ tg x=some (v,σ')):EStep P g σ w (Extern.MapsClone.clone #[cx]) v σ':=by
 unfold cloneV at h
 split at h
 ·rename_i t r
  split at h
  ·rename_i es clock ho
   obtain⟨hob,h1,h2⟩:=hs.oth _ _ ho trivial
   cases hob <;> try exact h2.elim
   rename_i es' clock'
   obtain⟨hp,rfl⟩:=newObj_inv h
   cases hx with
   | ifc _ _ cv hcv =>
    cases hcv with
    | map _ hh =>
     obtain⟨s1,s2⟩:=hs.new_oth (o:=.map es clock) trivial hp (x:=.map es' clock') h2 (grown_push w _)
     refine⟨.iface t (.map (some w.heap.size)),_,_,?_,s1,?_,s2⟩
     ·have e:Extern.MapsClone.clone #[.iface t (.map (some (g.obj r).1))]=(getObj (g.obj r).1 >>= fun o=>match o with
        | .map entries clock=>(Go.newObj (.map entries clock) >>= fun n=>pure (.iface t (.map (some n))))
        | _ => stuck "maps.clone: a map expected") := rfl
      rw [e]
      simp [Go.newObj,getObj,Sem.run,h1]
     ·have:=VR.map (g:=g.add (σ.spot tg) w.heap.size 0 0) (tk:=σ'.toks) (w:={ w with heap:=w.heap.push (.map es' clock') }) (σ.spot tg) (.inr rfl)
      rw [Gh.add_obj] at this
      exact .ifc _ _ _ this
  ·cases h
 ·cases h

theorem find_born {es:List (Nat×V×V)}{es':Array MapEntry}(hl:es.length=es'.size){b:Nat}(hh : ∀ (i b:Nat)(k v:V),es[i]?=some (b,k,v)→∃ x,es'[i]?=some x∧x.born=b){e:Nat×V×V}(h:es.find? (fun e=>e.1==b)=some e) :
  ∃ (i:Nat) (x:MapEntry),es[i]?=some e∧es'[i]?=some x∧es'.find? (·.born==b)=some x:=by
 obtain⟨l⟩:=es'
 simp only [List.size_toArray,List.getElem?_toArray,List.find?_toArray] at *
 induction es generalizing l with
 | nil=>cases h
 | cons a r ih =>
  cases l with
  | nil=>simp at hl
  | cons x l =>
   obtain⟨y,hy,hb⟩:=hh 0 a.1 a.2.1 a.2.2 rfl
   simp only [List.getElem?_cons_zero,Option.some.injEq] at hy
   subst hy
   rw [List.find?_cons] at h
   cases hc:(a.1==b) with
   | true =>
    rw [hc] at h
    cases h
    exact⟨0,x,rfl,rfl,by rw [List.find?_cons,hb,hc]⟩
   | false =>
    rw [hc] at h
    obtain⟨i,z,h1,h2,h3⟩:=ih h l (by simpa using hl) fun i b k v hi=>hh (i+1) b k v hi
    exact⟨i+1,z,h1,h2,by rw [List.find?_cons,hb,hc]; exact h3⟩

theorem entry_rel (hs:Sim g σ w){x v:V}{cx:Value}(hx:VR g σ.toks w x cx)(h:entryV σ x=some v):EStep P g σ w (Instr.entry cx) v σ:=by
 unfold entryV at h
 split at h
 ·rename_i r
  split at h
  ·rename_i m since seen last ho
   split at h
   ·rename_i b es clock hb hm
    split at h
    ·rename_i hc
     subst hc
     split at h
     ·rename_i e he
      cases h
      obtain⟨hob,h1,h2⟩:=hs.oth _ _ ho trivial
      cases hob <;> try exact h2.elim
      rename_i m' since' seen' last'
      obtain⟨rfl,k2,rfl,k4,rfl⟩:=h2
      obtain⟨hom,h3,h4⟩:=hs.oth _ _ hm trivial
      cases hom <;> try exact h4.elim
      rename_i es' clock'
      obtain⟨rfl,l1,l2,l3⟩:=h4
      obtain⟨i,y,q1,q2,q3⟩:=find_born l1 (fun i b k v hi=>by obtain⟨x,a1,a2,_⟩:=l3 i b k v hi; exact⟨x,a1,a2⟩) he
      obtain⟨y',a1,a2,a3,a4,a5⟩:=l3 i e.1 e.2.1 e.2.2 q1
      rw [q2] at a1
      cases a1
      have hbk:seen'.back?=some b:=by rw [← k4] at hb; simpa using hb
      cases hx with
      | iter _ hh =>
       refine⟨.tuple #[y.key,y.val],w,g,?_,hs,VR.two a3 a4,Ev.refl _ _ _⟩
       simp [Instr.entry,getObj,Sem.run,h1,h3,hbk,q3]
     ·cases h
    ·cases h
   ·cases h
  ·cases h
 ·cases h

theorem run_setObj_oth {b:Nat}{x:Go.Obj}(y:Go.Obj)(h:w.heap[b]?=some x)(hx : ∀ c e f,x ≠ .cells c e f):(setObj b y).run P w = .ok () (putB w b y):=by
 cases x <;> first | exact absurd rfl (hx _ _ _) | simp [setObj,Sem.run,h,putB]

theorem update_rel (hs:Sim g σ w){t:TypeId}{ka:Bool}{ks:List Lf}(hm:mapKeyOf P t=some (ka,ks)){m k x v:V}{cm ck cx:Value}(hvm:VR g σ.toks w m cm)(hvk:VR g σ.toks w k ck)(hvx:VR g σ.toks w x cx) {σ':St}(h:updateV σ ka ks m k x=some (v,σ')) :
  v = .gone∧∃ w',(Instr.mapUpdate t cm ck cx).run P w = .ok () w'∧Sim g σ' w'∧Ev g σ w g σ' w':=by
 unfold mapKeyOf at hm
 split at hm
 ·rename_i kt et hu
  unfold updateV at h
  split at h
  ·rename_i r
   split at h
   ·rename_i es clock ho
    split at h
    ·rename_i hcnd
     obtain⟨hko,hks,hcl⟩:=hcnd
     simp only [Option.some.injEq,Prod.mk.injEq] at h
     obtain⟨rfl,rfl⟩:=h
     refine⟨rfl,?_⟩
     cases hvm with
     | map _ hh =>
      obtain⟨hob,h1,h2⟩:=hs.oth _ _ ho trivial
      cases hob <;> try exact h2.elim
      rename_i es' clock'
      have hfin:=find_rel hm hko hvk hks h2 w
      obtain⟨rfl,hl,hn,hh2⟩:=h2
      rcases hfin with⟨f1,f2⟩ | ⟨j,b,v',y,f1,f2,f3,f4,f5,f6,f7⟩
      ·rw [(findM_none f2).1]
       have hrel:OthR g σ.toks w (.map (es++[(clock,k,x)]) (clock+1)) (.map (es'.push { key:=ck,val:=cx,born:=clock }) (clock+1)):=by
        refine⟨rfl,by simp [hl],?_,fun i b q u hi=>?_⟩
        ·rw [List.map_append,List.nodup_append]
         refine⟨hn,by simp,?_⟩
         intro a ha c hc
         simp at hc
         subst hc
         obtain⟨z,hz,rfl⟩:=List.mem_map.1 ha
         exact f2 z hz
        ·rcases Nat.lt_or_ge i es.length with hlt | hge
         ·rw [List.getElem?_append_left hlt] at hi
          obtain⟨z,a1,a2⟩:=hh2 i b q u hi
          exact⟨z,by rw [Array.getElem?_push_lt (by omega)]; rw [Array.getElem?_eq_getElem (by omega)] at a1; exact a1,a2⟩
         ·have hi0:i=es.length:=by
           have:=(List.getElem?_eq_some_iff.1 hi).1
           simp at this
           omega
          subst hi0
          simp at hi
          obtain⟨rfl,rfl,rfl⟩:=hi
          exact⟨{ key:=ck,val:=cx,born:=clock },by rw [hl]; simp,rfl,hvk,hvx,hcl⟩
       obtain⟨s1,s2⟩:=hs.put_oth ho trivial (@PutOth _ _ _ _ _ hrel) (fun _=>hrel)
       refine⟨_,?_,s1,s2⟩
       simp [Instr.mapUpdate,run_underlying hu,getObj,Sem.run,h1,check_key hm hko hvk w,f1,run_setObj_oth _ h1 (by intro c e f; simp)]
      ·obtain⟨lit,hlit⟩:=keyOk_lit hm hko hvk
       obtain⟨e1,e2,e3⟩:=findM_at hn f2
       rw [e1]
       simp only [e2]
       have hlt:j<es'.size:=(Array.getElem?_eq_some_iff.1 f3).1
       have hrel:OthR g σ.toks w (.map (es.set j (b,k,x)) clock) (.map (es'.modify j fun e=>{ e with key:=ck,val:=cx }) clock):=by
        refine⟨rfl,by simp [hl],?_,fun i b' q u hi=>?_⟩
        ·have:(es.set j (b,k,x)).map (fun x=>x.2.1)=es.map fun x=>x.2.1:=by
          rw [List.map_set]
          apply List.ext_getElem?
          intro i
          by_cases hij:j=i
          ·subst hij
           rw [List.getElem?_set_self (by simp; omega),List.getElem?_map,f2]
           rfl
          ·rw [List.getElem?_set_ne hij]
         rw [this]; exact hn
        ·by_cases hij:j=i
         ·subst hij
          rw [List.getElem?_set_self (by omega)] at hi
          cases hi
          refine⟨{ y with key:=ck,val:=cx },?_,f4,hvk,hvx,hcl⟩
          simp [Array.getElem?_modify,f3]
         ·rw [List.getElem?_set_ne hij] at hi
          obtain⟨z,a1,a2⟩:=hh2 i b' q u hi
          exact⟨z,by simp [Array.getElem?_modify,hij,a1],a2⟩
       obtain⟨s1,s2⟩:=hs.put_oth ho trivial (@PutOth _ _ _ _ _ hrel) (fun _=>hrel)
       refine⟨_,?_,s1,s2⟩
       have hst:=(compKey_law hm).stays w hlit
       simp [Instr.mapUpdate,run_underlying hu,getObj,Sem.run,h1,check_key hm hko hvk w,f1,f3,f5,hst,run_setObj_oth _ h1 (by intro c e f; simp)]
    ·cases h
   ·cases h
  ·cases h
 ·cases hm

theorem eraseIdx_if {α:Type}(a:Array α)(j:Nat)(h:j<a.size):(a.eraseIdxIfInBounds j).toList=a.toList.eraseIdx j:=by
 simp [Array.eraseIdxIfInBounds,h]

theorem delete_rel (hs:Sim g σ w){t:TypeId}{ka:Bool}{ks:List Lf}(hm:mapKeyOf P t=some (ka,ks)){m k v:V}{cm ck:Value}(hvm:VR g σ.toks w m cm)(hvk:VR g σ.toks w k ck) {σ':St}(h:deleteV σ ka ks m k=some (v,σ')){ats:Array TypeId}(hat:ats[0]?=some t)(ty:TypeId) :
  EStep P g σ w (Builtin.delete_ ats ty #[cm,ck]) v σ':=by
 unfold mapKeyOf at hm
 split at hm
 ·rename_i kt et hu
  unfold deleteV at h
  split at h
  ·cases h
  ·rename_i hko
   have hko:keyOk ka ks k=true:=by simpa using hko
   have vt : ∀ {g:Gh} {tk:List Nat} {w:World},VR g tk w (.tup []) (.tuple #[]):=.tup _ _ rfl (fun i c v hi hv=>by simp at hi)
   split at h
   ·cases h
    have:=hvm.inv_d
    cases this
    exact⟨.tuple #[],w,g,by simp [Builtin.delete_,hat,run_underlying hu,check_key hm hko hvk w],hs,vt,Ev.refl _ _ _⟩
   ·rename_i r
    split at h
    ·rename_i es clock ho
     split at h
     ·rename_i hks
      cases h
      cases hvm with
      | map _ hh =>
       obtain⟨hob,h1,h2⟩:=hs.oth _ _ ho trivial
       cases hob <;> try exact h2.elim
       rename_i es' clock'
       have hfin:=find_rel hm hko hvk hks h2 w
       obtain⟨rfl,hl,hn,hh2⟩:=h2
       rcases hfin with⟨f1,f2⟩ | ⟨j,b,v',y,f1,f2,f3,f4,f5,f6,f7⟩
       ·rw [(findM_none f2).2]
        obtain⟨s1,s2⟩:=hs.put_oth ho trivial (o':=.map es clock) (.inl trivial) (x:=.map es' clock) (fun _=>⟨rfl,hl,hn,hh2⟩)
        refine⟨.tuple #[],_,g,?_,s1,vt,s2⟩
        simp [Builtin.delete_,hat,run_underlying hu,getObj,Sem.run,h1,check_key hm hko hvk w,f1,run_setObj_oth _ h1 (by intro c e f; simp)]
       ·obtain⟨e1,e2,e3⟩:=findM_at hn f2
        rw [e3]
        have hlt:j<es'.size:=(Array.getElem?_eq_some_iff.1 f3).1
        have hrel:OthR g σ.toks w (.map (es.eraseIdx j) clock) (.map (es'.eraseIdxIfInBounds j) clock):=by
         have el:=eraseIdx_if es' j hlt
         refine⟨rfl,?_,?_,fun i b' q u hi=>?_⟩
         ·have:=congrArg List.length el
          rw [List.length_eraseIdx] at this ⊢
          simp only [Array.length_toList,hlt,if_true] at this
          simp only [hl,hlt,if_true]
          exact this.symm
         ·exact hn.sublist ((List.eraseIdx_sublist _ _).map _)
         ·have:(es'.eraseIdxIfInBounds j)[i]?=(es'.toList.eraseIdx j)[i]?:=by rw [← el,Array.getElem?_toList]
          rw [this]
          rw [List.getElem?_eraseIdx] at hi ⊢
          split at hi
          ·rename_i hlt'
           obtain⟨z,a1,a2⟩:=hh2 i b' q u hi
           exact⟨z,by rw [if_pos hlt']; simpa using a1,a2⟩
          ·rename_i hlt'
           obtain⟨z,a1,a2⟩:=hh2 (i+1) b' q u hi
           exact⟨z,by rw [if_neg hlt']; simpa using a1,a2⟩
        obtain⟨s1,s2⟩:=hs.put_oth ho trivial (@PutOth _ _ _ _ _ hrel) (fun _=>hrel)
        refine⟨.tuple #[],_,g,?_,s1,vt,s2⟩
        simp [Builtin.delete_,hat,run_underlying hu,getObj,Sem.run,h1,check_key hm hko hvk w,f1,run_setObj_oth _ h1 (by intro c e f; simp)]
     ·cases h
    ·cases h
   ·cases h
 ·cases hm

end Go.Dn

/- Every operation that turns the store, taken together. -/
namespace Go.Dn
open Go.Lib

set_option linter.unusedSimpArgs false

variable {P:Program} {g:Gh} {σ:St} {w:World}

def XStep (P:Program)(g:Gh) (σ:St)(w:World)(s:Sem Next)(v:V) (σ':St):Prop :=
 ∃ cv w' g',(s.run P w = .ok (.value cv) w'∨(s.run P w = .ok .skip w'∧cv=undef))∧Sim g' σ' w'∧VR g' σ'.toks w' v cv∧Ev g σ w g' σ' w'

theorem EStep.next {s:Sem Value}{v:V} {σ':St}(h:EStep P g σ w s v σ'):XStep P g σ w (do pure (.value (← s))) v σ':=by
 obtain⟨cv,w',g',h1,h2⟩:=h
 exact⟨cv,w',g',.inl (by simp [Sem.run_bind,h1]),h2⟩

theorem builtin_xnext {b:Builtin}{args:Array Operand}{argTypes:Array TypeId}{o:Oper}{a:Act}(ho:o.op = .call { callee:=.builtin b,args,argTypes }){s:Sem Value}{v:V} {σ':St}
  (hb : ∀ consts,Go.builtin b argTypes o.type consts (args.map a.eval)=(do pure (.value (← s)))) (h:EStep P g σ w s v σ'):XStep P g σ w (execOp a.eval o) v σ':=by
 obtain⟨cv,w',g',h1,h2⟩:=h.next
 refine⟨cv,w',g',?_,h2⟩
 unfold execOp
 simp only [ho,resolve,Sem.run_bind,Sem.run_pure,Result.andThen_ok,invoke]
 rw [hb]
 exact h1

theorem append_args {argTypes:Array TypeId}{t xT ty:TypeId}(h0:argTypes[0]?=some t)(h1:argTypes[1]?=some xT)(args:Array Value) :
  Builtin.append_ argTypes ty args=Builtin.append_ #[t,xT] ty args:=by
 unfold Builtin.append_
 simp [h0,h1]

theorem opd_pair {n:Nat}{e:Env}{a:Act}(he:EnvR g σ.toks w n e a.tmps){args:Array Operand}{xa xb:Opd}(hx:compOpds args.toList=some [xa,xb]) : ∃ cx cy,args.map a.eval = #[cx,cy]∧VR g σ.toks w (xa.ev e) cx∧VR g σ.toks w (xb.ev e) cy:=by
 have hargs:args.toList.map a.eval=(args.map a.eval).toList:=by simp
 have hv:=opds_vrs he hx
 rw [hargs] at hv
 match hm:(args.map a.eval).toList,hv with
 | [cx,cy],hv=>exact⟨cx,cy,by apply Array.ext'; simpa using hm,hv.1,hv.2.1⟩
 | [],hv=>exact hv.elim
 | [_],hv=>exact hv.2.elim
 | _::_::_::_,hv=>exact hv.2.2.elim

theorem opd_single {n:Nat}{e:Env}{a:Act}(he:EnvR g σ.toks w n e a.tmps){args:Array Operand}{xa:Opd}(hx:compOpds args.toList=some [xa]) : ∃ cx,args.map a.eval = #[cx]∧VR g σ.toks w (xa.ev e) cx:=by
 have hargs:args.toList.map a.eval=(args.map a.eval).toList:=by simp
 have hv:=opds_vrs he hx
 rw [hargs] at hv
 match hm:(args.map a.eval).toList,hv with
 | [cx],hv=>exact⟨cx,by apply Array.ext'; simpa using hm,hv.1⟩
 | [],hv=>exact hv.elim
 | _::_::_,hv=>exact hv.2.elim

theorem copy_args {argTypes:Array TypeId}{t xT ty:TypeId}(h0:argTypes[0]?=some t)(args:Array Value) :
  Builtin.copy_ argTypes ty args=Builtin.copy_ #[t,xT] ty args:=by
 unfold Builtin.copy_
 simp [h0]

theorem clear_args {argTypes:Array TypeId}{t ty:TypeId}(h0:argTypes[0]?=some t)(args:Array Value) :
  Builtin.clear_ argTypes ty args=Builtin.clear_ #[t] ty args:=by
 unfold Builtin.clear_
 simp [h0]

theorem evalE_rel (hs:Sim g σ w){n:Nat}{e:Env}{a:Act}(he:EnvR g σ.toks w n e a.tmps){o:Oper}{dst:Option Nat}{op:EOp}(hc:compOp P o=some (.e dst op)){v:V}{tg:Option Nat} {σ':St}(h:evalE op e σ tg=some (v,σ')) :
  dst=o.dst∧XStep P g σ w (execOp a.eval o) v σ':=by
 have rel : ∀ {x:Operand} {x':Opd},compOpd x=some x'→VR g σ.toks w (x'.ev e) (a.eval x):=fun hx=>opd_rel hx he
 obtain⟨od,oop,oty,opos,oaft,ogd⟩:=o
 cases oop <;> simp only [compOp] at hc
 case alloc t =>
  split at hc
  ·rename_i z hz
   simp only [Option.some.injEq,Ins.e.injEq] at hc
   obtain⟨rfl,rfl⟩:=hc
   simp only [evalE] at h
   exact⟨rfl,(alloc_rel hs hz h).next⟩
  ·cases hc
 case box t x =>
  split at hc
  ·rename_i x' hx
   simp only [Option.some.injEq,Ins.e.injEq] at hc
   obtain⟨rfl,rfl⟩:=hc
   simp only [evalE] at h
   split at h
   ·rename_i l hl
    exact⟨rfl,(box_rel hs (rel hx) hl h).next⟩
   ·cases h
  ·cases hc
 case store t x y =>
  split at hc
  ·rename_i x' y' hx hy
   split at hc
   ·rename_i hok
    simp only [Option.some.injEq,Ins.e.injEq] at hc
    obtain⟨rfl,rfl⟩:=hc
    simp only [evalE] at h
    split at h
    ·rename_i r off hxe
     split at h
     ·rename_i cs hr
      split at h
      ·rename_i l hl
       split at h
       ·rename_i hb
        cases h
        obtain⟨w',r1,r2,r3⟩:=store_rel hs hok (rel hx) (rel hy) hxe hr hl hb.1 hb.2
        exact⟨rfl,undef,w',g,.inr ⟨by simp [execOp,Sem.run_bind,r1],rfl⟩,r2,.gone,r3⟩
       ·cases h
      ·cases h
     ·cases h
    ·cases h
   ·cases hc
  ·cases hc
 case call c =>
  obtain⟨callee,args,argTypes⟩:=c
  simp only [compCall] at hc
  split at hc
  case h_1 f =>
   split at hc
   ·rename_i l hl
    split at hc
    ·rename_i fn hfn
     split at hc
     ·simp at hc
     ·split at hc
      ·rename_i x'
       split at hc
       ·rename_i hcl
        simp only [Option.some.injEq,Ins.e.injEq] at hc
        obtain⟨rfl,rfl⟩:=hc
        simp only [evalE] at h
        obtain⟨cx,hcx,hvr⟩:=opd_single he hl
        have hst:=clone_rel (P:=P) hs hvr h
        refine⟨rfl,?_⟩
        obtain ⟨c1, c2, c3⟩ : fn.name = "maps.clone" ∧ fn.body.isNone = true ∧ Extern.findNext fn = none := by
         simp only [cloneFn,Bool.and_eq_true,beq_iff_eq] at hcl
         exact⟨hcl.1.1,hcl.1.2,by simpa using hcl.2⟩
        have hfind:Extern.find fn=some Extern.MapsClone.clone:=by
         unfold Extern.find
         simp only [c1]
         have e1 : Extern.allGenericRows.lookup "maps.clone" = none := by kernel_rfl
         have e2 : Extern.allTypedRows.lookup "maps.clone" = none := by kernel_rfl
         have e3 : Extern.allRows.lookup "maps.clone" = some Extern.MapsClone.clone := by kernel_rfl
         rw [e1,e2,e3]
         rfl
        have hname : (fn.name == "runtime.NumGoroutine") = false := by rw [c1]; rfl
        have hx:execOp a.eval (⟨od,.call { callee:=.value (.func f),args,argTypes },oty,opos,oaft,ogd⟩:Oper)=callFunc f (#[]++args.map a.eval ++ #[]):=by
         unfold execOp
         simp only [resolve,Sem.run_bind,Sem.run_pure,Result.andThen_ok,invoke]
         rfl
        obtain⟨cv,w',g',r1,r2⟩:=hst
        refine⟨cv,w',g',.inl ?_,r2⟩
        rw [hx,run_callFunc_extern hfn hname c2 c3 hfind]
        simp only [Array.empty_append,Array.append_empty,hcx,r1,Result.andThen]
       ·cases hc
      ·cases hc
    ·cases hc
   ·cases hc
  case h_3 cal b =>
   unfold compBuiltin at hc
   split at hc
   case h_2 =>
    split at hc
    ·rename_i t xT xa xb ht hxT hx
     have hargs:args.toList.map a.eval=(args.map a.eval).toList:=by simp
     have hv:=opds_vrs he hx
     rw [hargs] at hv
     have h1 : ∃ cx cy,args.map a.eval = #[cx,cy]∧VR g σ.toks w (xa.ev e) cx∧VR g σ.toks w (xb.ev e) cy:=by
      match hm:(args.map a.eval).toList,hv with
      | [cx,cy],hv=>exact⟨cx,cy,by apply Array.ext'; simpa using hm,hv.1,hv.2.1⟩
      | [],hv=>exact hv.elim
      | [_],hv=>exact hv.2.elim
      | _::_::_::_,hv=>exact hv.2.2.elim
     obtain⟨cx,cy,hcx,hvr,hvr'⟩:=h1
     split at hc
     ·rename_i el hu
      split at hc
      ·rename_i el' hu'
       split at hc
       ·rename_i hg
        simp only [Option.some.injEq,Ins.e.injEq] at hc
        obtain⟨rfl,rfl⟩:=hc
        simp only [evalE] at h
        split at h
        ·rename_i ys hys
         refine⟨rfl,builtin_xnext rfl (s:=Builtin.append_ #[t,xT] oty #[cx,cy]) (fun _=>by rw [hcx]; simp only [Go.builtin]; rw [append_args ht hxT]) ?_⟩
         have hpos:0<P.cellsOf el:=by
          obtain⟨_,_,_,_,_,_,h0,_⟩:=growOk_inv hg
          omega
         by_cases hfit:fitR (P.cellsOf el) ys=true
         ·obtain⟨news,hn⟩:=src_rows (P:=P) (rows_rel hs hvr' hys) hpos hfit
          exact append_rel hs hu hg hu' (fun k=>by simp) hvr (fun _=>hn) h
         ·unfold appendV at h
          simp [hfit] at h
        ·cases h
       ·cases hc
      ·rename_i hu'
       split at hc
       ·rename_i hg
        simp only [Option.some.injEq,Ins.e.injEq] at hc
        obtain⟨rfl,rfl⟩:=hc
        simp only [evalE] at h
        split at h
        ·rename_i l hl
         refine⟨rfl,builtin_xnext rfl (s:=Builtin.append_ #[t,xT] oty #[cx,cy]) (fun _=>by rw [hcx]; simp only [Go.builtin]; rw [append_args ht hxT]) ?_⟩
         rw [hl] at hvr'
         cases hvr'.inv_d
         obtain⟨news,hn⟩:=src_str (P:=P) (w:=w) (f:=g.frz) l
         have:=append_rel (t:=t) (xT:=xT) (ty:=oty) (cx:=.string ⟨l.toArray⟩) (news:=news) (ys:=byteRows l) hs hu hg.1 hu' (fun k=>by simp) hvr (fun _=>by rw [hg.2.1]; exact hn) (tg:=tg) (v:=v) (σ':=σ') (by rw [hg.2.1,hg.2.2]; exact h)
         exact this
        ·cases h
       ·cases hc
      ·rename_i k0 hu'
       split at hc
       ·rename_i z hz
        split at hc
        ·cases hc
        ·rename_i hg
         simp only [Bool.not_eq_false] at hg
         simp only [Option.some.injEq,Ins.e.injEq] at hc
         obtain⟨rfl,rfl⟩:=hc
         simp only [evalE] at h
         split at h
         ·rename_i k1 l hs0 hl0
          split at h
          ·rename_i hcnd
           obtain⟨rfl,h0,hb,h63,hpos⟩:=hcnd
           rw [hs0] at hvr
           rw [hl0] at hvr'
           cases hvr.inv_d
           cases hvr'.inv_int
           exact⟨rfl,builtin_xnext rfl (s:=Builtin.append_ #[t,xT] oty #[.slice none 0 0,.int .i64 l]) (fun _=>by rw [hcx]; simp only [Go.builtin]; rw [append_args ht hxT]) (appendZ_rel hs hu hg hu' hz h0 hb h63 h)⟩
          ·cases h
         ·cases h
       ·cases hc
      ·cases hc
     ·cases hc
    ·cases hc
   case h_3 =>
    split at hc
    ·rename_i t xT xa xb ht hxT hx
     obtain⟨cx,cy,hcx,hvr,hvr'⟩:=opd_pair he hx
     split at hc
     ·rename_i el el' hu hu'
      split at hc
      ·cases hc
      ·rename_i hne
       simp only [Option.some.injEq,Ins.e.injEq] at hc
       obtain⟨rfl,rfl⟩:=hc
       simp only [evalE] at h
       split at h
       ·rename_i ys hys
        refine⟨rfl,builtin_xnext rfl (s:=Builtin.copy_ #[t,xT] oty #[cx,cy]) (fun _=>by rw [hcx]; simp only [Go.builtin]; rw [copy_args (xT:=xT) ht]) ?_⟩
        exact copy_rel hs hu hne hvr hvr' hys h
       ·cases h
     ·cases hc
    ·cases hc
   case h_4 =>
    split at hc
    ·rename_i t xa ht hx
     obtain⟨cx,hcx,hvr⟩:=opd_single he hx
     split at hc
     ·rename_i el hu
      split at hc
      ·rename_i z hz
       split at hc
       ·cases hc
       ·rename_i hcnd
        simp only [not_or,Decidable.not_not,ne_eq] at hcnd
        simp only [Option.some.injEq,Ins.e.injEq] at hc
        obtain⟨rfl,rfl⟩:=hc
        simp only [evalE] at h
        refine⟨rfl,builtin_xnext rfl (s:=Builtin.clear_ #[t] oty #[cx]) (fun _=>by rw [hcx]; simp only [Go.builtin]; rw [clear_args ht]) ?_⟩
        exact clear_rel hs hu hz hcnd.2 (by omega) hvr h
      ·cases hc
     ·cases hc
    ·cases hc
   case h_7 =>
    split at hc
    ·rename_i t xa xb ht hx
     obtain⟨cx,cy,hcx,hvr,hvr'⟩:=opd_pair he hx
     split at hc
     ·rename_i ka ks hm
      simp only [Option.some.injEq,Ins.e.injEq] at hc
      obtain⟨rfl,rfl⟩:=hc
      simp only [evalE] at h
      refine⟨rfl,builtin_xnext rfl (s:=Builtin.delete_ argTypes oty #[cx,cy]) (fun _=>by rw [hcx]; simp only [Go.builtin]) ?_⟩
      exact delete_rel hs hm hvr hvr' h ht oty
     ·cases hc
    ·cases hc
   all_goals (exfalso; (repeat' (split at hc)) <;> first | (cases hc; done) | (simp only [Option.some.injEq,Ins.e.injEq] at hc; obtain⟨rfl,rfl⟩:=hc; simp [evalE] at h; done) | (simp at hc; done))
  all_goals (exfalso; (repeat' (split at hc)) <;> first | (cases hc; done) | (simp only [Option.some.injEq,Ins.e.injEq] at hc; obtain⟨rfl,rfl⟩:=hc; simp [evalE] at h; done) | (simp at hc; done))
 case makeSlice t xl xc =>
  split at hc
  ·rename_i el hu
   split at hc
   ·rename_i z xl' xc' hz hxl hxc
    split at hc
    ·cases hc
    ·rename_i hg
     simp only [Bool.not_eq_false] at hg
     simp only [Option.some.injEq,Ins.e.injEq] at hc
     obtain⟨rfl,rfl⟩:=hc
     simp only [evalE] at h
     split at h
     ·rename_i k l k' c hl hcc
      split at h
      ·rename_i hcnd
       obtain⟨rfl,rfl,h0,h1,hb,h63,hpos⟩:=hcnd
       have rl:=rel hxl
       have rc:=rel hxc
       rw [hl] at rl
       rw [hcc] at rc
       have e1:=rl.inv_int
       have e2:=rc.inv_int
       refine⟨rfl,?_⟩
       have:=(makeSlice_rel (P:=P) hs hu hg hz h0 h1 hb h63 h).next
       simpa [execOp,e1,e2] using this
      ·cases h
     ·cases h
   ·cases hc
  ·cases hc
 case makeMap t r =>
  cases r with
  | none =>
   simp only [Option.some.injEq,Ins.e.injEq] at hc
   obtain⟨rfl,rfl⟩:=hc
   simp only [evalE] at h
   exact⟨rfl,(makeMap_rel hs h).next⟩
  | some x=>cases hc
 case range t x =>
  split at hc
  ·rename_i kt et a' hu hx
   simp only [Option.some.injEq,Ins.e.injEq] at hc
   obtain⟨rfl,rfl⟩:=hc
   simp only [evalE] at h
   exact⟨rfl,(range_rel hs hu (rel hx) h).next⟩
  ·cases hc
 case entry x =>
  split at hc
  ·rename_i a' hx
   simp only [Option.some.injEq,Ins.e.injEq] at hc
   obtain⟨rfl,rfl⟩:=hc
   simp only [evalE] at h
   split at h
   ·rename_i v' hv
    cases h
    exact⟨rfl,(entry_rel hs (rel hx) hv).next⟩
   ·cases h
  ·cases hc
 case mapUpdate t m k x =>
  split at hc
  ·rename_i ka ks m' k' x' hm hxs
   simp only [Option.some.injEq,Ins.e.injEq] at hc
   obtain⟨rfl,rfl⟩:=hc
   simp only [evalE] at h
   have hv:=opds_vrs he hxs
   simp only [List.map_cons,List.map_nil] at hv
   obtain⟨v1,v2,v3,_⟩:=hv
   obtain⟨rfl,w',r1,r2,r3⟩:=update_rel hs hm v1 v2 v3 h
   exact⟨rfl,undef,w',g,.inr ⟨by simp [execOp,Sem.run_bind,r1],rfl⟩,r2,.gone,r3⟩
  ·cases hc
 all_goals (exfalso; (repeat' (split at hc)) <;> first | (cases hc; done) | (simp only [Option.some.injEq,Ins.e.injEq] at hc; obtain⟨rfl,rfl⟩:=hc; simp [evalE] at h; done) | (simp at hc; done))

end Go.Dn

/- make, into memory that is not written any more. -/
namespace Go.Dn
open Go.Lib Go.RowKit

set_option linter.unusedSimpArgs false
variable {P:Program} {g:Gh} {σ:St} {w:World}

theorem makeSlice_relF (hs:Sim g σ w){t e:TypeId}(ht:P.underlying t=some (.slice e))(hg:growOk P e=true){z:List D}(hz:zeroOf P e=some z){l:Int}(h0:0≤l)(hb:l*P.bytesOf e≤140737488355328)(hc:l≤9223372036854775807) :
  EStep P g σ w (Instr.makeSlice t (.int .i64 l) (.int .i64 l)) (.fl (rowsOf (P.cellsOf e) l.toNat (zerosD l.toNat z))) σ:=by
 obtain⟨i,zv,hi,hzv,hisz,hiby,hcell,hzs,hz1⟩:=growOk_inv hg
 obtain⟨i',zv',hi',hzv',hleaf⟩:=zeroOf_inv hz
 rw [hi] at hi'; cases hi'
 rw [hzv] at hzv'; cases hzv'
 obtain⟨z1,z2⟩:=leafsD_vrs (g:=g) (tk:=σ.toks) (w:=w) hleaf
 have hzl:z.length=P.cellsOf e:=by have:=z1.length; simp at this; rw [this]; exact hzs
 have hpos:0<z.length:=by omega
 have w1:IntKind.i64.wrap l=l:=by simp only [IntKind.wrap,IntKind.signed,IntKind.bits]; simp; omega
 have hcn:(l.toNat:Int)=l:=Int.toNat_of_nonneg (by omega)
 have hprod:((l.toNat*i.bytes:Nat):Int)=l*i.bytes:=by rw [Int.natCast_mul,hcn]
 rw [← hiby] at hb
 have room:l.toNat*i.bytes≤140737488355328:=by omega
 have t1 : ¬ ((i.bytes:Int)*l>281474976710656):=by rw [Int.mul_comm]; omega
 obtain⟨r1,r2⟩:=repl_rel (g:=g) (tk:=σ.toks) (w:=w) z1 z2 hpos l.toNat
 rw [← zerosD_map] at r1
 have hszz:zv.cells.size=z.length:=by rw [hzl]; exact hzs
 have hrl:(zerosD l.toNat z).length=l.toNat*P.cellsOf e:=by
  have:=congrArg List.length (zerosD_map l.toNat z)
  rw [List.length_map,repl_length,hzl] at this
  exact this
 obtain⟨g',s1,s2,s3⟩:=newRow_rel hs (e:=e) hrl r1.of_d r2 (w':={ w with heap:=w.heap.push (.cells ((Array.range (l.toNat*z.length)).map (zv.cells[· % zv.cells.size]!)) e) }) ⟨rfl,rfl,rfl,rfl⟩
 refine⟨.slice (some ⟨w.heap.size,0,none⟩) l.toNat l.toNat,_,g',?_,s1,s2,s3⟩
 have e1 : ¬ (l<0):=by omega
 have e4 : ¬ (roomBytes<l.toNat*i.bytes):=by unfold roomBytes; omega
 have e5 : ¬ (281474976710656<(i.bytes:Int)*l):=by omega
 by_cases hn:l.toNat*i.size=0
 ·have hc0:l.toNat*z.length=0:=by rw [hzl,← hisz]; exact hn
  simp [Instr.makeSlice,run_underlying ht,asInt,asIntOf,typeInfo,hi,w1,e1,e4,e5,sizeOf,hn,newRow,askRoom,hc0]
  have e0:Array.range 0 = #[]:=rfl
  simp only [e0,Array.map_empty]
 ·simp [Instr.makeSlice,run_underlying ht,asInt,asIntOf,typeInfo,hi,w1,e1,e4,e5,sizeOf,hn,run_zeroValue hi hzv,newRow,askRoom]
  rw [hisz,hzl]

end Go.Dn

/- append, its other way. -/
namespace Go.Dn
open Go.Lib

set_option linter.unusedSimpArgs false

variable {P:Program} {g:Gh} {σ:St} {w:World}

theorem evalM_rel (hs:Sim g σ w){n:Nat}{e:Env}{a:Act}(he:EnvR g σ.toks w n e a.tmps){o:Oper}{dst:Option Nat}{op:EOp}(hc:compOp P o=some (.e dst op)){v:V}{tg:Option Nat} {σ':St}(h:evalM op e σ tg=some (v,σ')) :
  dst=o.dst∧XStep P g σ w (execOp a.eval o) v σ':=by
 have rel : ∀ {x:Operand} {x':Opd},compOpd x=some x'→VR g σ.toks w (x'.ev e) (a.eval x):=fun hx=>opd_rel hx he
 obtain⟨od,oop,oty,opos,oaft,ogd⟩:=o
 cases oop <;> simp only [compOp] at hc
 case call c =>
  obtain⟨callee,args,argTypes⟩:=c
  simp only [compCall] at hc
  split at hc
  case h_3 cal b =>
   unfold compBuiltin at hc
   split at hc
   case h_2 =>
    split at hc
    ·rename_i t xT xa xb ht hxT hx
     have hargs:args.toList.map a.eval=(args.map a.eval).toList:=by simp
     have hv:=opds_vrs he hx
     rw [hargs] at hv
     have h1 : ∃ cx cy,args.map a.eval = #[cx,cy]∧VR g σ.toks w (xa.ev e) cx∧VR g σ.toks w (xb.ev e) cy:=by
      match hm:(args.map a.eval).toList,hv with
      | [cx,cy],hv=>exact⟨cx,cy,by apply Array.ext'; simpa using hm,hv.1,hv.2.1⟩
      | [],hv=>exact hv.elim
      | [_],hv=>exact hv.2.elim
      | _::_::_::_,hv=>exact hv.2.2.elim
     obtain⟨cx,cy,hcx,hvr,hvr'⟩:=h1
     split at hc
     ·rename_i el hu
      split at hc
      ·rename_i el' hu'
       split at hc
       ·rename_i hg
        simp only [Option.some.injEq,Ins.e.injEq] at hc
        obtain⟨rfl,rfl⟩:=hc
        simp only [evalM] at h
        split at h
        ·rename_i ys hys
         refine⟨rfl,builtin_xnext rfl (s:=Builtin.append_ #[t,xT] oty #[cx,cy]) (fun _=>by rw [hcx]; simp only [Go.builtin]; rw [append_args ht hxT]) ?_⟩
         have hpos:0<P.cellsOf el:=by
          obtain⟨_,_,_,_,_,_,h0,_⟩:=growOk_inv hg
          omega
         by_cases hfit:fitR (P.cellsOf el) ys=true
         ·obtain⟨news,hn⟩:=src_rows (P:=P) (rows_rel hs hvr' hys) hpos hfit
          obtain⟨ti,_,hti,_,hts,_⟩:=growOk_inv hg
          exact appendM_rel hs hu hg hti hvr (fun _=>Src.app hu hti hu' (fun k=>by simp) (by rw [hts]; exact hn)) h
         ·unfold appendM at h
          simp [hfit] at h
        ·exact⟨rfl,builtin_xnext rfl (s:=Builtin.append_ #[t,xT] oty #[cx,cy]) (fun _=>by rw [hcx]; simp only [Go.builtin]; rw [append_args ht hxT]) (appendX_rel hs hu hg hu' (fun k=>by simp) hvr hvr' h)⟩
       ·cases hc
      ·rename_i hu'
       split at hc
       ·rename_i hg
        simp only [Option.some.injEq,Ins.e.injEq] at hc
        obtain⟨rfl,rfl⟩:=hc
        simp only [evalM] at h
        split at h
        ·rename_i l hl
         refine⟨rfl,builtin_xnext rfl (s:=Builtin.append_ #[t,xT] oty #[cx,cy]) (fun _=>by rw [hcx]; simp only [Go.builtin]; rw [append_args ht hxT]) ?_⟩
         rw [hl] at hvr'
         cases hvr'.inv_d
         obtain⟨news,hn⟩:=src_str (P:=P) (w:=w) (f:=g.frz) l
         obtain⟨ti,_,hti,_,hts,_⟩:=growOk_inv hg.1
         have:=appendM_rel (t:=t) (xT:=xT) (ty:=oty) (cx:=.string ⟨l.toArray⟩) (news:=news) (ys:=byteRows l) hs hu hg.1 hti hvr (fun _=>Src.app hu hti hu' (fun k=>by simp) (by rw [hts,hg.2.1]; exact hn)) (tg:=tg) (v:=v) (σ':=σ') (by rw [hg.2.1,hg.2.2]; exact h)
         exact this
        ·cases h
       ·cases hc
      ·rename_i k0 hu'
       split at hc
       ·rename_i z hz
        split at hc
        ·cases hc
        ·rename_i hg
         simp only [Bool.not_eq_false] at hg
         simp only [Option.some.injEq,Ins.e.injEq] at hc
         obtain⟨rfl,rfl⟩:=hc
         simp only [evalM] at h
         split at h
         ·rename_i k1 l hl0
          split at h
          ·rename_i hcnd
           obtain⟨rfl,h0,hlen⟩:=hcnd
           rw [hl0] at hvr'
           cases hvr'.inv_int
           exact⟨rfl,builtin_xnext rfl (s:=Builtin.append_ #[t,xT] oty #[cx,.int .i64 l]) (fun _=>by rw [hcx]; simp only [Go.builtin]; rw [append_args ht hxT]) (appendZM_rel hs hu hg hu' hz hvr (by obtain⟨n,hn⟩:=Option.isSome_iff_exists.1 hlen; obtain⟨a,c,h1,h2⟩:=slice_len hs hvr hn; exact⟨a,n,c,h1,h2⟩) h0 h)⟩
          ·cases h
         ·cases h
       ·cases hc
      ·cases hc
     ·cases hc
    ·cases hc
   all_goals (exfalso; (repeat' (split at hc)) <;> first | (cases hc; done) | (simp only [Option.some.injEq,Ins.e.injEq] at hc; obtain⟨rfl,rfl⟩:=hc; simp [evalM] at h; done) | (simp at hc; done))
  all_goals (exfalso; (repeat' (split at hc)) <;> first | (cases hc; done) | (simp only [Option.some.injEq,Ins.e.injEq] at hc; obtain⟨rfl,rfl⟩:=hc; simp [evalM] at h; done) | (simp at hc; done))
 case makeSlice t xl xc =>
  split at hc
  ·rename_i el hu
   split at hc
   ·rename_i z xl' xc' hz hxl hxc
    split at hc
    ·cases hc
    ·rename_i hg
     simp only [Bool.not_eq_false] at hg
     simp only [Option.some.injEq,Ins.e.injEq] at hc
     obtain⟨rfl,rfl⟩:=hc
     simp only [evalM] at h
     split at h
     ·rename_i k l k' c hl hcc
      split at h
      ·rename_i hcnd
       obtain⟨rfl,rfl,h0,rfl,hb,h63⟩:=hcnd
       cases h
       have rl:=rel hxl
       have rc:=rel hxc
       rw [hl] at rl
       rw [hcc] at rc
       have e1:=rl.inv_int
       have e2:=rc.inv_int
       refine⟨rfl,?_⟩
       have:=(makeSlice_relF (P:=P) hs hu hg hz h0 hb h63).next
       simpa [execOp,e1,e2] using this
      ·cases h
     ·cases h
   ·cases hc
  ·cases hc
 case makeMap t r =>
  cases r with
  | none =>
   simp only [Option.some.injEq,Ins.e.injEq] at hc
   obtain⟨rfl,rfl⟩:=hc
   simp [evalM] at h
  | some x=>cases hc
 all_goals (exfalso; (repeat' (split at hc)) <;> first | (cases hc; done) | (simp only [Option.some.injEq,Ins.e.injEq] at hc; obtain⟨rfl,rfl⟩:=hc; simp [evalM] at h; done) | (simp at hc; done))

end Go.Dn

/- Calls: by value, and as it stands. -/
namespace Go.Dn
open Go.Lib

set_option linter.unusedSimpArgs false

variable {P:Program} {g:Gh} {σ:St} {tk:List Nat} {w:World}

def Gh.bare (P:Program)(f:Nat→Nat→Prop):Gh:={ has:=fun _=>False,obj:=fun _=>(0,0),len:=fun _=>0,lim:=fun _=>0,tok:=fun _=>⟨0,0,0,0,0⟩,frz:=f,prog:=P }

theorem Sim.bare {f:Nat→Nat→Prop}(hf : ∀ b q,f b q→∃ v,w.cell? ⟨b,q,none⟩=some v):Sim (Gh.bare P f) St.empty w where
 has:=fun r o h=>by simp [St.empty] at h
 bound:=fun r h=>h.elim
 free:=fun r h=>by simp [St.empty] at h
 cells:=fun r cs h=>by simp [St.empty] at h
 oth:=fun r o h=>by simp [St.empty] at h
 dist:=fun r r' o o' h=>by simp [St.empty] at h
 nofrz:=fun r o h=>by simp [St.empty] at h
 tok:=fun t k h=>by simp [St.empty] at h
 tdist:=fun t t' k k' h=>by simp [St.empty] at h
 tobj:=fun t k r o h=>by simp [St.empty] at h
 frzb:=hf
 lims:=fun r cs h=>by simp [St.empty] at h

theorem not_mine_empty {b:Nat}(h:Mine g St.empty b):False:=by
 rcases h with⟨r,o,h,_⟩ | ⟨t,k,h,_⟩ <;> simp [St.empty] at h

theorem Sim.away (hs:Sim g σ w){w':World}{f':Nat→Nat→Prop}(hheap : ∀ b,b<w.heap.size→w'.heap[b]?=w.heap[b]?)(hsz:w.heap.size≤w'.heap.size)(hsub : ∀ b q,g.frz b q→f' b q)
  (hnew : ∀ b q,f' b q→g.frz b q∨w.heap.size≤b) (hcell : ∀ b q,f' b q→∃ v,w'.cell? ⟨b,q,none⟩=some v) (hos:w'.os=w.os) (htape:w'.tape=w.tape) (hout:w'.output=w.output) :
  Sim { g with frz:=f' } σ w'∧Ev g σ w { g with frz:=f' } σ w':=by
 have lt : ∀ {b:Nat} {o:Go.Obj},w.heap[b]?=some o→b<w.heap.size:=fun h=>(Array.getElem?_eq_some_iff.1 h).1
 have hst:Stay g.frz f' w w':=⟨hsub,fun b q h=>by
  obtain⟨v,hv⟩:=hs.frzb b q h
  have hb:=cell_lt hv
  unfold World.cell?
  rw [hheap b hb]⟩
 have hl:Later g σ.toks w { g with frz:=f' } σ.toks w':=⟨hst,fun r h=>⟨h,rfl,rfl⟩,fun t k h=>⟨k,h,Nat.le_refl _,fun _=>rfl,rfl⟩,rfl,fun _ _=>rfl⟩
 refine⟨⟨hs.has,hs.bound,hs.free,fun r cs h=>?_,fun r o h ho=>?_,hs.dist,fun r o h ho q hq=>?_,fun t k h=>?_,hs.tdist,hs.tobj,hcell,fun r cs h=>⟨(hs.lims r cs h).1,fun c e fz hb=>(hs.lims r cs h).2 c e fz (by rw [← hheap _ (hs.blk h trivial)]; exact hb)⟩⟩,⟨hl,hsz,hos,htape,hout,fun b hb _=>hheap b hb,fun b h=>.inl h,fun b q h=>(hnew b q h).imp id fun h=>.inr h⟩⟩
 ·obtain⟨h1,c,e,fz,h2,h3,h4⟩:=hs.cells r cs h
  refine⟨h1,c,e,fz,by rw [hheap _ (lt h2)]; exact h2,h3,fun j v hj=>?_⟩
  obtain⟨cv,a1,a2,a3⟩:=h4 j v hj
  exact⟨cv,a1,a2,a3.later hl⟩
 ·obtain⟨x,a1,a2⟩:=hs.oth r o h ho
  exact⟨x,by rw [hheap _ (lt a1)]; exact a1,a2.later hl⟩
 ·rcases hnew _ q hq with h1 | h1
  ·exact hs.nofrz r o h ho q h1
  ·have:=hs.blk h ho
   simp only at h1
   omega
 ·obtain⟨h1,c,e,fz,h2,h3,h4,h5⟩:=hs.tok t k h
  refine⟨h1,c,e,fz,by rw [hheap _ (lt h2)]; exact h2,h3,h4,fun q hq hf=>?_⟩
  rcases hnew _ q hf with h6 | h6
  ·exact h5 q hq h6
  ·have:=lt h2
   simp only at h6
   omega

theorem Sim.drawn (hs:Sim g σ w)(n:Nat):Sim g σ { w with drawn:=n }∧Ev g σ w g σ { w with drawn:=n } :=
 hs.away (f':=g.frz) (fun _ _=>rfl) (Nat.le_refl _) (fun _ _ h=>h) (fun _ _ h=>.inl h) (fun b q h=>hs.frzb b q h) rfl rfl rfl

theorem DR.scalar {f f':Nat→Nat→Prop}{w':World}{d:D}{v:Value}(h:DR f w d v)(hd:d.scalar=true):DR f' w' d v:=by
 cases h with
 | int k n=>exact .int k n
 | bool b=>exact .bool b
 | str l=>exact .str l
 | nilp=>exact .nilp
 | nils=>exact .nils
 | nilm=>exact .nilm
 | nilf=>exact .nilf
 | nili=>exact .nili
 | iface t d v h =>
  cases h with
  | int k n=>exact .iface t _ _ (.int k n)
  | _=>simp [D.scalar] at hd
 | list=>simp [D.scalar] at hd
 | list0=>simp [D.scalar] at hd
 | agg=>simp [D.scalar] at hd

theorem VR.of_scalar {g':Gh}{tk':List Nat}{w':World}{v:V}{x:Value}(h:VR g tk w v x)(hv:v.scalar=true):VR g' tk' w' v x:=by
 cases h with
 | d x v h h1=>exact .d _ _ (h.scalar hv) h1
 | da cs vs h =>
  cases h with
  | agg _ _ hl h1 h =>
   refine .da cs vs (.agg cs vs hl h1 fun i d v hd hx=>(h i d v hd hx).scalar ?_)
   simp only [V.scalar,List.all_eq_true] at hv
   exact hv d (List.mem_of_getElem? hd)
 | _=>simp [V.scalar] at hv

theorem VR.of_scalars {g':Gh}{tk':List Nat}{w':World}{v:V}{x:Value}(h:VR g tk w v x)(hv:v.scalars=true):VR g' tk' w' v x:=by
 cases h with
 | tup cs vs hl h =>
  simp only [V.scalars,List.all_eq_true] at hv
  exact .tup cs vs hl fun i c v hc hx=>(h i c v hc hx).of_scalar (hv c (List.mem_of_getElem? hc))
 | d _ _ h h1=>exact VR.of_scalar (tk:=tk) (.d _ _ h h1) hv
 | da _ _ h=>exact VR.of_scalar (tk:=tk) (.da _ _ h) hv
 | _=>simp [V.scalars,V.scalar] at hv

theorem VR.of_flatv {g':Gh}{tk':List Nat}{v:V}{x:Value}(h:VR g tk w v x)(hv:v.flatv=true)(hf:g'.frz=g.frz):VR g' tk' w v x:=by
 cases h with
 | d x v h h1=>exact .d _ _ (by rw [hf]; exact h) h1
 | da cs vs h=>exact .da _ _ (by rw [hf]; exact h)
 | _=>simp [V.flatv] at hv

theorem VR.of_pure {g':Gh}{tk':List Nat}{v:V}{x:Value}(h:VR g tk w v x)(hv:v.pure=true)(hf:g'.frz=g.frz):VR g' tk' w v x:=by
 cases h with
 | tup cs vs hl h =>
  simp only [V.pure,List.all_eq_true] at hv
  exact .tup cs vs hl fun i c v hc hx=>(h i c v hc hx).of_flatv (hv c (List.mem_of_getElem? hc)) hf
 | d _ _ h h1=>exact VR.of_flatv (tk:=tk) (.d _ _ h h1) rfl hf
 | da _ _ h=>exact VR.of_flatv (tk:=tk) (.da _ _ h) rfl hf
 | _=>simp [V.pure] at hv

def Lent (g:Gh):V→Nat→Nat→Prop
 | .sl r off len sz,b,q=>b=(g.obj r).1∧(g.obj r).2+off≤q∧q<(g.obj r).2+off+len*sz
 | _,_,_=>False

theorem lent_cell (hs:Sim g σ w){x y:V}{cx:Value}(hx:VR g σ.toks w x cx)(h:x.byVal σ=some y){b q:Nat}(hl:Lent g x b q) : ∃ v,w.cell? ⟨b,q,none⟩=some v:=by
 cases x with
 | sl r off len sz =>
  obtain⟨rfl,h1,h2⟩:=hl
  simp only [V.byVal,V.rows] at h
  split at h
  ·rename_i rows hr
   split at hr
   ·rename_i cs hobj
    cases hx with
    | sl _ _ _ _ cap a hh hcap hsz hin hout ha hsp =>
     have hlen:=(hs.cells r cs hobj).1
     obtain⟨vs,v1,v2,v3,v4⟩:=hs.stretch hobj off (len*sz) (by omega)
     have:=v2 (q-((g.obj r).2+off)) (by omega)
     rw [show(g.obj r).2+off+(q-((g.obj r).2+off))=q by omega] at this
     exact⟨vs[q-((g.obj r).2+off)]'(by omega),by rw [this]; simp [show q-((g.obj r).2+off)<vs.length by omega]⟩
   ·cases hr
  ·cases h
 | _=>exact hl.elim

theorem byVal_rel (hs:Sim g σ w){x y:V}{cx:Value}(hx:VR g σ.toks w x cx)(h:x.byVal σ=some y){f:Nat→Nat→Prop}(hf : ∀ b q,g.frz b q→f b q)(hl : ∀ b q,Lent g x b q→f b q){g':Gh}(hg':g'.frz=f){tk:List Nat} :
  VR g' tk w y cx∧y.flatv=true:=by
 have hst:Stay g.frz f w w:=⟨hf,fun _ _ _=>rfl⟩
 unfold V.byVal at h
 split at h
 ·cases h; cases hx with
  | d _ _ h h1=>exact⟨.d _ _ (by rw [hg']; exact h.mono hst) h1,rfl⟩
 ·cases h; cases hx with
  | da _ _ h=>exact⟨.da _ _ (by rw [hg']; exact h.mono hst),rfl⟩
 ·cases h; cases hx with
  | fl _ a h=>exact⟨.d _ _ (by rw [hg']; exact h.mono hst) rfl,rfl⟩
 ·cases h; cases hx with
  | tl _ t st sz k a cap hd ht hle hh hsz ha=>exact⟨.d _ _ (by rw [hg']; exact hd.mono hst) rfl,rfl⟩
 ·rename_i r off len sz
  split at h
  ·rename_i rows hr
   cases h
   refine⟨?_,rfl⟩
   rcases rows_rel hs hx hr with⟨rfl,rfl⟩ | ⟨a,cap,sz',cv,rfl,hcap,hra⟩
   ·cases hx
   ·have hrl:rows.length=len:=by
     cases hx
     rfl
    cases hx with
    | sl _ _ _ _ _ _ hh hcap' hsz hin hout ha hsp =>
     obtain⟨ab,ao,asp⟩:=a
     simp only at hsp
     subst hsp
     refine .d _ _ ?_ rfl
     rw [hg']
     have hmem : ∀ k,k<rows.length*sz'→f ab (ao+k):=fun k hk=>by
      have hpos:0<rows.length:=by
       rcases Nat.eq_zero_or_pos rows.length with h | h
       ·rw [h] at hk; simp at hk
       ·exact h
      obtain⟨row,hrow⟩ : ∃ row,rows[0]?=some row:=⟨rows[0],by simp [hpos]⟩
      have h1:=hra.hsz 0 row hrow
      have h2:row.length=sz:=by
       simp only [V.rows] at hr
       split at hr
       ·rename_i cs hobj
        split at hr
        ·rename_i l hofd
         simp only [Option.some.injEq] at hr
         rw [← hr,rowsOf_get,if_pos hpos] at hrow
         cases hrow
         have hlen:cs.length=g.len r:=(hs.cells r cs hobj).1
         have hll:=congrArg List.length (ofD_some hofd)
         simp at hll
         have:sz≤rows.length*sz:=Nat.le_mul_of_pos_left sz hpos
         simp
         omega
        ·cases hr
       ·cases hr
      have h3:sz'=sz:=by omega
      subst h3
      have h4:off<g.len r:=by rw [hrl] at hk; omega
      have h5:=ha h4
      simp only [Addr.mk.injEq] at h5
      obtain⟨rfl,rfl,_⟩:=h5
      exact hl _ _ ⟨rfl,by omega,by rw [hrl] at hk; omega⟩
     exact .list rows ab ao cap sz' cv hcap hra.hsz hmem (fun k hk=>by have:=hra.hc k hk; rw [addr_add] at this; exact this) hra.h1 (fun i row j d h1 h2=>(hra.hd i row j d h1 h2).mono hst)
  ·cases h
 ·cases h

theorem byVals_rel (hs:Sim g σ w){f:Nat→Nat→Prop}(hf : ∀ b q,g.frz b q→f b q){g':Gh}(hg':g'.frz=f){tk:List Nat} : ∀ {xs ys:List V}{cxs:List Value},VRs g σ.toks w xs cxs→byVals σ xs=some ys→(∀ x∈xs,∀ b q,Lent g x b q→f b q) →
  VRs g' tk w ys cxs∧∀ y∈ys,y.flatv=true
 | [],ys,[],_,h,_=>by simp [byVals] at h; subst h; exact⟨trivial,by simp⟩
 | x::xs,ys,c::cxs,hx,h,hl=>by
  simp only [byVals] at h
  split at h
  ·rename_i y l hy hyl
   cases h
   obtain⟨a1,a2⟩:=byVal_rel hs hx.1 hy hf (hl x (by simp)) hg' (tk:=tk)
   obtain⟨b1,b2⟩:=byVals_rel hs hf hg' (tk:=tk) hx.2 hyl (fun x hx=>hl x (by simp [hx]))
   exact⟨⟨a1,b1⟩,fun z hz=>by
    rcases List.mem_cons.1 hz with h | h
    ·rw [h]; exact a2
    ·exact b2 z h⟩
  ·cases h
 | [],_,_::_,h,_,_=>h.elim
 | _::_,_,[],h,_,_=>h.elim

theorem lents_cell (hs:Sim g σ w) : ∀ {xs ys:List V}{cxs:List Value},VRs g σ.toks w xs cxs→byVals σ xs=some ys→∀ x∈xs,∀ b q,Lent g x b q→∃ v,w.cell? ⟨b,q,none⟩=some v
 | [],_,_,_,_,x,hx=>by simp at hx
 | x::xs,ys,[],h,_,_,_=>h.elim
 | x::xs,ys,c::cxs,hx,h,z,hz=>by
  simp only [byVals] at h
  split at h
  ·rename_i y l hy hyl
   rcases List.mem_cons.1 hz with rfl | hz
   ·exact fun b q hl=>lent_cell hs hx.1 hy hl
   ·exact lents_cell hs hx.2 hyl z hz
  ·cases h

def RetV (R:Value→World→Prop):Ending→World→Prop
 | .returned v,w=>R v w
 | _,_=>False

def GoodF (P : Program) (f : Nat) : Prop := ∃ (fn : Func) (c : Code), P.funcs[f]? = some fn ∧ fn.body = some c ∧ (fn.name == "runtime.NumGoroutine") = false

theorem GoodF.run {f:Nat}(h:GoodF P f)(args:Array Value)(w:World):(callFunc f args).run P w = .ok (.enter f args) w:=by
 obtain⟨fn,c,h1,h2,h3⟩:=h
 have h4 : fn.name ≠ "runtime.NumGoroutine" := by simpa using h3
 simp [callFunc,h1,h4,h2]

def GlobR (l:List (Nat×List D))(g:Gh)(tk:List Nat)(w:World):Prop:=∀ (k:Nat)(cs:List D),(k,cs)∈l→VR g tk w (.ro cs) (.pointer (some ⟨k,0,none⟩))

theorem GlobR.later {l:List (Nat×List D)}{g g':Gh}{tk tk':List Nat}{w w':World}(hl:Later g tk w g' tk' w')(h:GlobR l g tk w):GlobR l g' tk' w':=fun k cs hk=>(h k cs hk).later hl

theorem GlobR.frz {l:List (Nat×List D)}{g g':Gh}{tk tk':List Nat}{w:World}(hf : ∀ b q,g.frz b q→g'.frz b q)(h:GlobR l g tk w):GlobR l g' tk' w:=fun k cs hk=>by
 have h:=h k cs hk
 cases h with
 | ro _ _ _ cv hf1 hc h1 hd=>exact .ro cs k 0 cv (fun k hk=>hf _ _ (hf1 k hk)) hc h1 (fun k d hk=>(hd k d hk).mono ⟨hf,fun _ _ _=>rfl⟩)

def SK (P:Program)(cx:Cx):CallP:=fun m f vs σ Q =>
 match m with
 | .raw=>GoodF P f∧∀ (g:Gh) (w:World) (args:Array Value),g.prog=P→GlobR cx.globs g σ.toks w→Sim g σ w→VRs g σ.toks w vs args.toList →
  Calls P f args w (RetV fun v w'=>∃ g' x σ',Q x σ'∧Sim g' σ' w'∧VR g' σ'.toks w' x v∧Ev g σ w g' σ' w')
 | .rd=>GoodF P f∧∀ (g:Gh) (w:World) (args:Array Value),g.prog=P→GlobR cx.globs g σ.toks w→Sim g σ w→VRs g σ.toks w vs args.toList →
  Calls P f args w (RetV fun v w'=>∃ g' x σ',Q x σ'∧Sim g' σ w'∧VR g' σ.toks w' x v∧Ev g σ w g' σ w')
 | .val=>GoodF P f∧∀ (g:Gh) (w:World) (args:Array Value),g.prog=P→GlobR cx.globs g σ.toks w→Sim g σ w→VRs g σ.toks w vs args.toList →
  σ=St.empty→Calls P f args w (RetV fun v w'=>∃ f' x σ',Q x σ'∧(∀ b q,f' b q→∃ u,w'.cell? ⟨b,q,none⟩=some u)∧VR (Gh.bare P f') [] w' x v∧Ev g σ w (Gh.bare P f') St.empty w')
 | .rnd=>∀ (g:Gh) (w:World) (args:Array Value),g.prog=P→GlobR cx.globs g σ.toks w→Sim g σ w→VRs g σ.toks w vs args.toList →
  ∃ l:Loop,w.heap[(g.obj f).1]?=some (.loop l)∧args.size=l.params.size ∧
   RoundIn Fence.wide 0 P (g.obj f).1 l.fn ((l.params.zip args).foldl (fun tmps (t,a)=>tmps.setIfInBounds t a) l.tmps) l.assign l.body w (RetV fun v w'=>∃ g' x σ',Q x σ'∧Sim g' σ' w'∧VR g' σ'.toks w' x v∧Ev g σ w g' σ' w')

theorem RetV.mono {R R':Value→World→Prop}(h : ∀ v w,R v w→R' v w) : ∀ e w,RetV R e w→RetV R' e w:=fun e w hr=>by
 cases e with
 | returned v=>exact h _ _ hr
 | panicked c=>exact hr.elim
 | outgrown=>exact hr.elim

def Gh.lend (g:Gh)(v:V):Gh:={ g with frz:=fun b q=>g.frz b q∨Lent g v b q }

theorem Sim.thaw1 (hs:Sim g σ w){r off len sz:Nat}{c:Value}(hv:VR g σ.toks w (.sl r off len sz) c){rows:List (List D)}(h:V.rows σ (.sl r off len sz)=some rows) :
  Sim (g.lend (.sl r off len sz)) (σ.setObj r .dead) w∧Ev g σ w (g.lend (.sl r off len sz)) (σ.setObj r .dead) w∧VR (g.lend (.sl r off len sz)) σ.toks w (.d (.list rows)) c:=by
 have hby:V.byVal σ (.sl r off len sz)=some (.d (.list rows)):=by simp only [V.byVal,h]
 obtain⟨hvr,-⟩:=byVal_rel hs hv hby (f:=(g.lend (.sl r off len sz)).frz) (fun b q h=>.inl h) (fun b q h=>.inr h) (g':=g.lend (.sl r off len sz)) rfl (tk:=σ.toks)
 have hobj : ∃ cs,σ.objs[r]?=some (.cells cs):=by
  simp only [V.rows] at h
  split at h
  ·rename_i cs hcs; exact⟨cs,hcs⟩
  ·cases h
 obtain⟨cs,hobj⟩:=hobj
 obtain⟨d1,d2,dlive⟩:=hs.drop hobj (by simp)
 have hl:Later g σ.toks w (g.lend (.sl r off len sz)) σ.toks w:=⟨⟨fun b q h=>.inl h,fun _ _ _=>rfl⟩,fun r hr=>⟨hr,rfl,rfl⟩,fun t k ht=>⟨k,ht,Nat.le_refl _,fun _=>rfl,rfl⟩,rfl,fun _ _=>rfl⟩
 have hcell : ∀ b q,Lent g (.sl r off len sz) b q→∃ v,w.cell? ⟨b,q,none⟩=some v:=fun b q hq=>lent_cell hs hv hby hq
 refine⟨⟨d1.has,d1.bound,d1.free,fun q cs' hq=>?_,fun q o hq ho=>?_,d1.dist,fun q o hq ho p hp=>?_,fun t k ht=>?_,d1.tdist,d1.tobj,fun b q hf=>?_,d1.lims⟩,⟨hl,Nat.le_refl _,rfl,rfl,rfl,fun _ _ _=>rfl,fun b hb=>?_,fun b q hf=>?_⟩,hvr⟩
 ·obtain⟨h1,c',e',fz',h2,h3,h4⟩:=d1.cells q cs' hq
  exact⟨h1,c',e',fz',h2,h3,fun j v hj=>by
   obtain⟨cv,a1,a2,a3⟩:=h4 j v hj
   exact⟨cv,a1,a2,a3.later hl⟩⟩
 ·obtain⟨ho',h1,h2⟩:=d1.oth q o hq ho
  exact⟨ho',h1,h2.later hl⟩
 ·rcases hp with hp | ⟨hb,_,_⟩
  ·exact d1.nofrz q o hq ho p hp
  ·obtain⟨hne,hq'⟩:=dlive q o hq ho
   exact hs.dist q r o _ hq' ho hobj trivial hne hb
 ·obtain⟨h1,c',e',fz',h2,h3,h4,h5⟩:=d1.tok t k ht
  refine⟨h1,c',e',fz',h2,h3,h4,fun q hq hf=>?_⟩
  rcases hf with hf | ⟨hb,_,_⟩
  ·exact h5 q hq hf
  ·exact hs.tobj t k r _ ht hobj trivial hb
 ·rcases hf with hf | hf
  ·exact hs.frzb b q hf
  ·exact hcell b q hf
 ·rcases hb with⟨q,o',h1,h2,h3⟩ | h
  ·exact .inl (.inl ⟨q,o',(dlive q o' h1 h2).2,h2,h3⟩)
  ·exact .inl (.inr h)
 ·rcases hf with hf | ⟨hb,_,_⟩
  ·exact .inl hf
  ·exact .inr (.inl (.inl ⟨r,_,hobj,trivial,hb.symm⟩))

theorem callK0_sound {cx:Cx}{f:Nat}{vs:List V}{Q:Post}(h:callK0 (SK P cx) cx f vs σ Q)(hs:Sim g σ w)(hp:g.prog=P)(hgl:GlobR cx.globs g σ.toks w){args:Array Value}(hv:VRs g σ.toks w vs args.toList) :
  GoodF P f∧Calls P f args w (RetV fun v w'=>∃ g' x σ',Q x σ'∧Sim g' σ' w'∧VR g' σ'.toks w' x v∧Ev g σ w g' σ' w'):=by
 obtain⟨m,h⟩:=h
 cases m with
 | rnd=>exact h.elim
 | raw =>
  obtain⟨Q',h1,h2⟩:=h
  have:=h1.2 g w args hp hgl hs hv
  refine⟨h1.1,?_⟩
  exact this.mono (RetV.mono fun v w' ⟨g',x,σ',q,r⟩=>⟨g',x,σ',h2 _ _ q,r⟩)
 | rd =>
  obtain⟨Q',h1,h2⟩:=h
  have:=h1.2 g w args hp hgl hs hv
  refine⟨h1.1,?_⟩
  exact this.mono (RetV.mono fun v w' ⟨g',x,σ',q,r⟩=>⟨g',x,σ,h2 _ _ q,r⟩)
 | val =>
  simp only [callM] at h
  split at h
  ·rename_i ds hds
   obtain⟨Q',h1,h2⟩:=h
   let f0:Nat→Nat→Prop:=fun b q=>g.frz b q∨∃ x∈vs,Lent g x b q
   obtain⟨b1,b2⟩:=byVals_rel (tk:=[]) (g':=Gh.bare P f0) hs (f:=f0) (fun b q h=>.inl h) rfl hv hds (fun x hx b q hl=>.inr ⟨x,hx,hl⟩)
   have hcell0 : ∀ b q,f0 b q→∃ v,w.cell? ⟨b,q,none⟩=some v:=fun b q h=>by
    rcases h with h | ⟨x,hx,hl⟩
    ·exact hs.frzb b q h
    ·exact lents_cell hs hv hds x hx b q hl
   have:=h1.2 (Gh.bare P f0) w args rfl (hgl.frz (g':=Gh.bare P f0) (tk':=[]) (fun b q h=>.inl h)) (Sim.bare hcell0) b1
   refine⟨h1.1,?_⟩
   refine(this rfl).mono (RetV.mono fun v w' ⟨f',x,σ',q,hc,hx,hev⟩=>?_)
   obtain⟨hp,hsc,hq⟩:=h2 _ _ q
   have hheap : ∀ b,b<w.heap.size→w'.heap[b]?=w.heap[b]?:=fun b hb=>hev.frame b hb not_mine_empty
   by_cases hb:vs.any V.borrows=true
   ·have:=hs.away (w':=w') (f':=g.frz) hheap hev.size (fun _ _ h=>h) (fun _ _ h=>.inl h) (fun b q h=>by
     obtain⟨u,hu⟩:=hs.frzb b q h
     refine⟨u,?_⟩
     rw [← hu]
     unfold World.cell?
     rw [hheap b (cell_lt hu)]) hev.os hev.tape hev.output
    exact⟨g,x,σ,hq,this.1,hx.of_scalars (hsc hb),this.2⟩
   ·have hno : ∀ b q,f0 b q→g.frz b q:=fun b q h=>by
     rcases h with h | ⟨x,hx,hl⟩
     ·exact h
     ·exfalso
      apply hb
      rw [List.any_eq_true]
      refine⟨x,hx,?_⟩
      cases x <;> first | exact hl.elim | rfl
    have:=hs.away (w':=w') (f':=f') hheap hev.size (fun b q h=>hev.later.stay.frz b q (.inl h)) (fun b q h=>by
     rcases hev.newf b q h with h | h | h
     ·exact .inl (hno b q h)
     ·exact(not_mine_empty h).elim
     ·exact .inr h) hc hev.os hev.tape hev.output
    exact⟨{ g with frz:=f' },x,σ,hq,this.1,hx.of_pure hp rfl,this.2⟩
  ·exact h.elim

theorem thawV_rel : ∀ {l:List V}{l':List Value}{g:Gh} {σ σ':St}{w:World}{pl:List V},Sim g σ w→VRs g σ.toks w l l'→thawV σ l=some (pl,σ') →
  ∃ g',Sim g' σ' w∧Ev g σ w g' σ' w∧VRs g' σ'.toks w pl l'
 | [],[],g,σ,σ',w,pl,hs,hp,h=>by
  simp only [thawV,Option.some.injEq,Prod.mk.injEq] at h
  obtain⟨rfl,rfl⟩:=h
  exact⟨g,hs,Ev.refl _ _ _,trivial⟩
 | v::l,cv::l',g,σ,σ',w,pl,hs,hp,h=>by
  obtain⟨h1,h2⟩:=hp
  have plain:(∀ {pl0:List V} {s:St},thawV σ l=some (pl0,s)→pl=v::pl0→σ'=s→∃ g',Sim g' σ' w∧Ev g σ w g' σ' w∧VRs g' σ'.toks w pl (cv::l')):=by
   intro pl0 s ht hpl hss
   subst hpl hss
   obtain⟨g',a1,a2,a3⟩:=thawV_rel hs h2 ht
   exact⟨g',a1,a2,h1.later a2.later,a3⟩
  cases v with
  | sl r off len sz =>
   simp only [thawV] at h
   split at h
   ·rename_i rows hrows
    split at h
    ·rename_i pl0 s ht
     simp only [Option.some.injEq,Prod.mk.injEq] at h
     obtain⟨rfl,rfl⟩:=h
     obtain⟨d1,d2,d3⟩:=hs.thaw1 h1 hrows
     obtain⟨g',a1,a2,a3⟩:=thawV_rel (σ:=σ.setObj r .dead) d1 (VRs.later d2.later h2) ht
     exact⟨g',a1,d2.trans a2,VR.later a2.later d3,a3⟩
    ·cases h
   ·cases h
  | _ =>
   simp only [thawV] at h
   split at h
   ·rename_i pl0 s ht
    simp only [Option.some.injEq,Prod.mk.injEq] at h
    exact plain ht h.1.symm h.2.symm
   ·cases h
 | [],_::_,g,σ,σ',w,pl,hs,hp,h=>hp.elim
 | _::_,[],g,σ,σ',w,pl,hs,hp,h=>hp.elim
theorem callK_sound {cx:Cx}{f:Nat}{vs:List V}{Q:Post}(h:callK (SK P cx) cx f vs σ Q)(hs:Sim g σ w)(hp:g.prog=P)(hgl:GlobR cx.globs g σ.toks w){args:Array Value}(hv:VRs g σ.toks w vs args.toList) :
  GoodF P f∧Calls P f args w (RetV fun v w'=>∃ g' x σ',Q x σ'∧Sim g' σ' w'∧VR g' σ'.toks w' x v∧Ev g σ w g' σ' w'):=by
 rcases h with h | ⟨vs',σ',ht,h⟩
 ·exact callK0_sound h hs hp hgl hv
 ·obtain⟨g1,a1,a2,a3⟩:=thawV_rel hs hv ht
  obtain⟨r1,r2⟩:=callK0_sound h a1 (a2.later.prog.trans hp) (hgl.later a2.later) a3
  exact⟨r1,r2.mono (RetV.mono fun v w' ⟨g',x,s,q,b1,b2,b3⟩=>⟨g',x,s,q,b1,b2,a2.trans b3⟩)⟩

end Go.Dn

/- Instructions and regions in the order of the text. -/
namespace Go.Dn
open Go.Lib

set_option linter.unusedSimpArgs false

variable {P:Program} {w:World}

def Ins.simple:Ins→Bool
 | .when .. => false
 | _=>true

theorem compCall_dst {dst:Option Nat}{ty:TypeId}{c:Go.Call}{i:Ins}(h:compCall P dst ty c=some i):i.simple=true∧i.dst=dst:=by
 unfold compCall compBuiltin at h
 (repeat' (split at h)) <;> first | (cases h; done) | (cases h; exact⟨rfl,rfl⟩)

theorem compOp_dst {o:Oper}{i:Ins}(h:compOp P o=some i):i.simple=true∧i.dst=o.dst:=by
 obtain⟨od,oop,oty,opos,oaft,ogd⟩:=o
 cases oop <;> simp only [compOp] at h
 case call c=>exact compCall_dst h
 case makeMap t r =>
  cases r with
  | none=>cases h; exact⟨rfl,rfl⟩
  | some x=>cases h
 all_goals ((repeat' (split at h)) <;> first | (cases h; done) | (cases h; exact⟨rfl,rfl⟩))

theorem nextV_mono {it:V} {σ:St}{Q Q':Post}(hq : ∀ v s,Q v s→Q' v s)(h:nextV it σ Q):nextV it σ Q':=by
 unfold nextV at *
 cases it with
 | iter r =>
  simp only at *
  cases ho:σ.objs[r]? with
  | none=>rw [ho] at h; exact h.elim
  | some o =>
   rw [ho] at h
   cases o with
   | iter m since seen last =>
    cases m with
    | none=>exact hq _ _ h
    | some m =>
     simp only at *
     cases ho2:σ.objs[m]? with
     | none=>rw [ho2] at h; exact h.elim
     | some o2 =>
      rw [ho2] at h
      cases o2 with
      | map es clock =>
       obtain⟨h1,h2,h3,h4,h5⟩:=h
       exact⟨h1,h2,h3,fun x hx hs=>hq _ _ (h4 x hx hs),fun hs=>hq _ _ (h5 hs)⟩
      | _=>exact h.elim
   | _=>exact h.elim
 | _=>exact h.elim

theorem callK0_mono {K:CallP}{cx:Cx}{f:Nat}{vs:List V} {σ:St}{Q Q':Post}(hq : ∀ v s,Q v s→Q' v s)(h:callK0 K cx f vs σ Q):callK0 K cx f vs σ Q':=by
 obtain⟨m,h⟩:=h
 refine⟨m,?_⟩
 cases m with
 | rnd=>exact h.elim
 | raw =>
  obtain⟨q,h1,h2⟩:=h
  exact⟨q,h1,fun v s hv=>hq _ _ (h2 v s hv)⟩
 | rd =>
  obtain⟨q,h1,h2⟩:=h
  exact⟨q,h1,fun v s hv=>hq _ _ (h2 v s hv)⟩
 | val =>
  simp only [callM] at *
  split
  ·rename_i ds hds
   rw [hds] at h
   obtain⟨q,h1,h2⟩:=h
   exact⟨q,h1,fun v s hv=>⟨(h2 v s hv).1,(h2 v s hv).2.1,hq _ _ (h2 v s hv).2.2⟩⟩
  ·rename_i hds
   rw [hds] at h
   exact h

theorem callK_mono {K:CallP}{cx:Cx}{f:Nat}{vs:List V} {σ:St}{Q Q':Post}(hq : ∀ v s,Q v s→Q' v s)(h:callK K cx f vs σ Q):callK K cx f vs σ Q' :=
 h.imp (callK0_mono hq) fun⟨vs',σ',ht,h⟩=>⟨vs',σ',ht,callK0_mono hq h⟩

theorem wone_mono_dst {K:CallP}{cx:Cx}{i:Ins}(hi:i.simple=true){e:Env} {σ:St}{Q Q':Env→St→Prop}(hq : ∀ v s,Q (putE e i.dst v) s→Q' (putE e i.dst v) s)(h:wone K cx i e σ Q):wone K cx i e σ Q':=by
 cases i with
 | p dst op =>
  simp only [wone] at *
  split
  ·rename_i ho
   rw [if_pos ho] at h
   split
   ·rename_i v s hf; rw [hf] at h; exact hq _ _ h
   ·rename_i hf; rw [hf] at h; exact h
  rename_i ho
  rw [if_neg ho] at h
  split
  ·rename_i v hv; rw [hv] at h; exact hq _ _ h
  ·rename_i hv; rw [hv] at h
   simp only at h ⊢
   split
   ·rename_i v s hf; rw [hf] at h; exact hq _ _ h
   ·rename_i hf; rw [hf] at h; exact h
 | e dst op =>
  simp only [wone] at *
  refine h.imp (fun h=>?_) (fun h=>?_)
  ·split
   ·rename_i v hv; rw [hv] at h; exact hq _ _ h
   ·rename_i hv; rw [hv] at h; exact h
  ·split
   ·rename_i v hv; rw [hv] at h; exact hq _ _ h
   ·rename_i hv; rw [hv] at h; exact h
 | call dst f args =>
  simp only [wone] at *
  exact callK_mono (fun v s=>hq v s) h
 | callv dst f args =>
  simp only [wone] at *
  split
  ·rename_i g first caps hf; rw [hf] at h; exact callK_mono (fun v s=>hq v s) h
  ·rename_i r hf
   rw [hf] at h
   obtain⟨Q1,h1,h2⟩:=h
   exact⟨Q1,h1,fun v s hv=>hq _ _ (h2 v s hv)⟩
  ·rename_i hn hn2
   split at h
   ·rename_i g first caps hf; exact(hn _ _ _ hf).elim
   ·rename_i r hf; exact(hn2 _ hf).elim
   ·exact h
 | next dst it =>
  simp only [wone] at *
  exact nextV_mono (fun v s=>hq v s) h
 | «when» s want body=>simp [Ins.simple] at hi

def wg (K:CallP)(cx:Cx):List (Option (Nat×Bool)×Ins)→Env→St→(Env→St→Prop)→Prop
 | [],e,σ,Q=>Q e σ
 | (none,i)::r,e,σ,Q=>wone K cx i e σ fun e' σ'=>wg K cx r e' σ' Q
 | (some (s,want),i)::r,e,σ,Q=>wone K cx (.when s want [i]) e σ fun e' σ'=>wg K cx r e' σ' Q

theorem get_put_ne {e:Env}{dst:Option Nat}{s:Nat}(h:dst≠some s)(v:V):(putE e dst v).get s=e.get s:=by
 cases dst with
 | none=>rfl
 | some t =>
  simp only [putE]
  rw [Env.get_set,if_neg (fun e=>h (by rw [e]))]

theorem goneOne_simple {i:Ins}(hi:i.simple=true)(e:Env):goneOne i e=putE e i.dst .gone:=by
 cases i with
 | «when» => simp [Ins.simple] at hi
 | _=>rfl

theorem wwhen_mono {K:CallP}{cx:Cx}{s:Nat}{want:Bool}{i:Ins}(hi:i.simple=true){e:Env} {σ:St}{Q Q':Env→St→Prop}(hq : ∀ e' s',Q e' s'→Q' e' s')(h:wone K cx (.when s want [i]) e σ Q):wone K cx (.when s want [i]) e σ Q':=by
 simp only [wone,wins] at *
 split
 ·rename_i b hb
  rw [hb] at h
  simp only at h
  split
  ·rename_i hw; rw [if_pos hw] at h; exact wone_mono_dst hi (fun v s=>hq _ _) h
  ·rename_i hw; rw [if_neg hw] at h; exact hq _ _ h
 ·rename_i hb; rw [hb] at h; exact hq _ _ h
 ·rename_i hn1 hn2
  split at h
  ·rename_i b hb; exact(hn1 _ hb).elim
  ·rename_i hb; exact(hn2 hb).elim
  ·exact h

theorem group_wg {K:CallP}{cx:Cx}{Q:Env→St→Prop} : ∀ (l:List (Option (Nat×Bool)×Ins)),(∀ p∈l,p.2.simple=true)→∀ (e:Env) (σ:St),wins K cx (group l) e σ Q→wg K cx l e σ Q
 | [],_,e,σ,h=>by simpa [group,wins,wg] using h
 | (none,i)::r,hl,e,σ,h=>by
  have hi:=hl (none,i) (by simp)
  have ih:=group_wg (K:=K) (cx:=cx) (Q:=Q) r (fun p hp=>hl p (by simp [hp]))
  simp only [group,wins,wg] at *
  exact wone_mono_dst hi (fun v s=>ih _ _) h
 | (some (s,w),i)::r,hl,e,σ,h=>by
  have hi:i.simple=true:=hl (some (s,w),i) (by simp)
  have ih:=group_wg (K:=K) (cx:=cx) (Q:=Q) r (fun p hp=>hl p (by simp [hp]))
  have plain:wins K cx (.when s w [i]::group r) e σ Q→wg K cx ((some (s,w),i)::r) e σ Q:=fun h=>by
   simp only [wins,wg] at h ⊢
   exact wwhen_mono hi (fun _ _=>ih _ _) h
  simp only [group] at h
  split at h
  ·rename_i s' w' body r' hg
   split at h
   ·rename_i hc
    obtain⟨rfl,rfl,hd⟩:=hc
    simp only [wg,wins,wone] at h ⊢
    split
    ·rename_i b hb
     rw [hb] at h
     simp only at h
     split
     ·rename_i hw
      rw [if_pos hw] at h
      refine wone_mono_dst hi (fun v s1 hq=>ih _ _ ?_) h
      rw [hg]
      simp only [wins,wone]
      rw [get_put_ne hd,hb]
      simp only
      rw [if_pos hw]
      exact hq
     ·rename_i hw
      rw [if_neg hw] at h
      simp only [goneAll] at h ⊢
      refine ih _ _ ?_
      rw [hg]
      simp only [wins,wone]
      rw [goneOne_simple hi,get_put_ne hd,hb]
      simp only
      rw [if_neg hw,← goneOne_simple hi]
      exact h
    ·rename_i hb
     rw [hb] at h
     simp only [goneAll] at h ⊢
     refine ih _ _ ?_
     rw [hg]
     simp only [wins,wone]
     rw [goneOne_simple hi,get_put_ne hd,hb]
     simp only
     rw [← goneOne_simple hi]
     exact h
    ·rename_i hn1 hn2
     split at h
     ·rename_i b hb; exact(hn1 _ hb).elim
     ·rename_i hb; exact(hn2 hb).elim
     ·exact h
   ·rw [← hg] at h
    exact plain h
  ·rename_i hn
   exact plain h

end Go.Dn

/- A step of a walk over a map. -/
namespace Go.Dn
open Go.Lib

set_option linter.unusedSimpArgs false

variable {P:Program}

theorem next_rel {g:Gh} {σ:St}{w:World}(hs:Sim g σ w){it:V}{ci:Value}(hv:VR g σ.toks w it ci){Q:Post}(h:nextV it σ Q){ty:TypeId} :
  ∃ cv w' g' x σ',(Instr.next ci false ty).run P w = .ok cv w'∧Q x σ'∧Sim g' σ' w'∧VR g' σ'.toks w' x cv∧Ev g σ w g' σ' w':=by
 have v1 : ∀ {g:Gh} {tk:List Nat} {w:World},VR g tk w (.tup [.d (.bool false)]) (.tuple #[.bool false]):=.tup _ _ rfl (fun i c v hi hv=>by
  match i,hi,hv with
  | 0,hi,hv=>simp at hi hv; subst hi hv; exact .bool _
  | n+1,hi,hv=>simp at hi)
 unfold nextV at h
 cases it with
 | iter r =>
  simp only at h
  cases hv with
  | iter _ hh =>
   cases ho:σ.objs[r]? with
   | none=>rw [ho] at h; exact h.elim
   | some o =>
    rw [ho] at h
    cases o with
    | iter m since seen last =>
     obtain⟨hob,b1,b2⟩:=hs.oth _ _ ho trivial
     cases hob <;> try exact b2.elim
     rename_i m' since' seen' last'
     obtain⟨rfl,b3,rfl,b5,rfl⟩:=b2
     cases m with
     | none=>exact⟨_,w,g,_,_,by simp [Instr.next,getObj,Sem.run,b1],h,hs,v1,Ev.refl _ _ _⟩
     | some m =>
      simp only at h
      cases ho2:σ.objs[m]? with
      | none=>rw [ho2] at h; exact h.elim
      | some o2 =>
       rw [ho2] at h
       cases o2 with
       | map es clock =>
        obtain⟨rfl,rfl,h3,h4,h5⟩:=h
        obtain⟨hob,c1,c2⟩:=hs.oth _ _ ho2 trivial
        cases hob <;> try exact c2.elim
        rename_i es' clock'
        obtain⟨rfl,hl,hn,hh2⟩:=c2
        have get : ∀ (i:Nat) (x:MapEntry),es'[i]?=some x→∃ k v,es[i]?=some (x.born,k,v)∧VR g σ.toks w k x.key∧VR g σ.toks w v x.val:=by
         intro i x hx
         have hi:i<es.length:=by rw [hl]; exact(Array.getElem?_eq_some_iff.1 hx).1
         obtain⟨y,a1,a2,a3,a4,a5⟩:=hh2 i es[i].1 es[i].2.1 es[i].2.2 (by simp [hi])
         rw [hx] at a1
         cases a1
         exact⟨es[i].2.1,es[i].2.2,by rw [a2]; simp [hi],a3,a4⟩
        have hold : ∀ x∈es'.toList,x.born<last':=fun x hx=>by
         obtain⟨i,hi⟩:=List.getElem?_of_mem hx
         obtain⟨k,v,e1,_⟩:=get i x (by simpa using hi)
         exact h3 _ (List.mem_of_getElem? e1)
        have hguard:(!seen'.isEmpty && !es'.isEmpty&&es'.all (fun x=>decide (x.born≥last')))=false:=by
         cases hz:es'.isEmpty with
         | true=>simp
         | false =>
          have:es'.all (fun x=>decide (x.born≥last'))=false:=by
           have hpos:0<es'.size:=by
            rcases Nat.eq_zero_or_pos es'.size with h0 | h0
            ·simp [Array.isEmpty,h0] at hz
            ·exact h0
           rw [← Array.all_toList]
           rw [List.all_eq_false]
           refine⟨es'[0],by simp,?_⟩
           have:=hold es'[0] (by simp)
           simp
           omega
          simp [this]
        have hnew:(es'.filter fun e=>!seen'.contains e.born).filter (fun x=>decide (x.born≥last')) = #[]:=by
         apply Array.ext'
         rw [Array.toList_filter,Array.toList_filter,List.filter_eq_nil_iff]
         intro x hx
         have:=hold x (List.mem_filter.1 hx).1
         simp
         omega
        have hold2:(es'.filter fun e=>!seen'.contains e.born).filter (fun x=>decide (x.born<last'))=es'.filter fun e=>!seen'.contains e.born:=by
         apply Array.ext'
         rw [Array.toList_filter]
         rw [List.filter_eq_self]
         intro x hx
         rw [Array.toList_filter] at hx
         have:=hold x (List.mem_filter.1 hx).1
         simpa using this
        have hmem : ∀ x,x∈(es'.filter fun e=>!seen'.contains e.born)↔x∈es'∧seen.contains x.born=false:=by
         intro x
         rw [Array.mem_filter]
         simp [← b5]
        generalize hL:(es'.filter fun e=>!seen'.contains e.born)=L at hnew hold2 hmem
        have hrun : ∀ (k:Nat) (w1:World),(choose (.mapNext ((if L.isEmpty then #[none] else #[])++L.map some).size)).run P w = .ok k w1 →
          (Instr.next (.pointer (some ⟨(g.obj r).1,0,none⟩)) false ty).run P w=(match ((if L.isEmpty then #[none] else #[])++L.map some)[k]? with
           | some (some e)=>((setObj (g.obj r).1 (.mapIter (some (g.obj m).1) last' (seen'.push e.born) last')).run P w1).andThen fun _ w2=>.ok (.tuple #[.bool true,e.key,e.val]) w2
           | some none=>.ok (.tuple #[.bool false]) w1
           | none => (stuck "Next: no such candidate" : Sem Value).run P w1) := by
         intro k w1 hk
         simp only [Instr.next,Sem.run_bind,getObj,Sem.run,b1,Result.andThen_ok,Option.map_some,c1,hguard,hL,hnew,hold2,Array.append_empty]
         simp only [Bool.false_eq_true,if_false,Sem.run_bind,Sem.run_pure,Result.andThen_ok,hk]
         cases hc:((if L.isEmpty then #[none] else #[])++L.map some)[k]? with
         | none=>rfl
         | some c=>cases c <;> simp [Sem.run_bind,hk]
        by_cases hz:L.isEmpty=true
        ·have hL0:L = #[]:=by simpa using hz
         subst hL0
         have hk:(choose (.mapNext ((if (#[]:Array MapEntry).isEmpty then #[none] else #[])++(#[]:Array MapEntry).map some).size)).run P w = .ok 0 w:=by
          simp [choose,Sem.run,Question.forced]
         refine⟨_,w,g,_,_,?_,h5 (fun x hx=>?_),hs,v1,Ev.refl _ _ _⟩
         ·rw [hrun 0 w hk]
          simp
         ·obtain⟨i,hi⟩:=List.getElem?_of_mem hx
          obtain⟨y,a1,a2,_⟩:=hh2 i x.1 x.2.1 x.2.2 hi
          cases hcx:seen.contains x.1 with
          | true=>rfl
          | false =>
           have:=(hmem y).2 ⟨Array.mem_of_getElem? a1,by rw [a2]; exact hcx⟩
           simp at this
        ·have hz':L.isEmpty=false:=by simpa using hz
         have hpos:0<L.size:=by
          rcases Nat.eq_zero_or_pos L.size with h0 | h0
          ·simp [Array.isEmpty,h0] at hz'
          ·exact h0
         have hk : ∃ (k:Nat) (d:Nat),(choose (.mapNext ((if L.isEmpty then #[none] else #[])++L.map some).size)).run P w = .ok k { w with drawn:=d }∧k<L.size:=by
          simp only [hz',Bool.false_eq_true,if_false,Array.empty_append,Array.size_map]
          by_cases h1:L.size≤1
          ·exact⟨0,w.drawn,by simp [choose,Sem.run,Question.forced,h1],hpos⟩
          ·exact⟨w.tape w.drawn (.mapNext L.size) % L.size,w.drawn+1,by simp [choose,Sem.run,Question.forced,h1,Question.cut],Nat.mod_lt _ hpos⟩
         obtain⟨k,d,hk,hlt⟩:=hk
         have hcand:((if L.isEmpty then #[none] else #[])++L.map some)[k]?=some (some L[k]):=by simp [hz',hlt]
         have hm:=(hmem L[k]).1 (Array.getElem_mem hlt)
         obtain⟨i,hi,hie⟩:=Array.getElem_of_mem hm.1
         obtain⟨q,v,e1,e2,e3⟩:=get i L[k] (by rw [← hie]; simp [hi])
         obtain⟨d1,d2⟩:=hs.drawn d
         have ho':({ w with drawn:=d }:World).heap[(g.obj r).1]?=some (.mapIter (some (g.obj m).1) last' seen' last'):=b1
         obtain⟨s1,s2⟩:=d1.put_oth ho trivial (o':=.iter (some m) last' (seen++[L[k].born]) last') (.inl trivial) (x:=.mapIter (some (g.obj m).1) last' (seen'.push L[k].born) last')
          (fun _=>⟨rfl,b3,rfl,by simp [b5],rfl⟩)
         have hv2:VR g σ.toks w (.tup [.d (.bool true),q,v]) (.tuple #[.bool true,L[k].key,L[k].val]):=by
          refine .tup _ _ rfl (fun i c u hi hu=>?_)
          match i,hi,hu with
          | 0,hi,hu=>simp at hi hu; subst hi hu; exact .bool _
          | 1,hi,hu=>simp at hi hu; subst hi hu; exact e2
          | 2,hi,hu=>simp at hi hu; subst hi hu; exact e3
          | n+3,hi,hu=>simp at hi
         refine⟨_,_,g,_,_,?_,h4 _ (List.mem_of_getElem? e1) hm.2,s1,(hv2.later d2.later).later s2.later,d2.trans s2⟩
         rw [hrun k _ hk,hcand]
         simp only
         rw [run_setObj_oth _ ho' (by intro c e f; simp)]
         rfl
       | _=>exact h.elim
    | _=>exact h.elim
 | _=>exact h.elim

end Go.Dn
