import Derived.Test.YtmlkdfjojoophaaFw6
import Derived.Lib.ConvBytes
import Derived.Laws.BytesString
import Derived.Lib.Strings
import Derived.Maps.Keyed
import Derived.DeepKeys3
/- Loads, fields, elements. -/
namespace Go.Dn

set_option linter.unusedSimpArgs false

variable {P:Program} {g:Gh} {σ:St} {tk:List Nat} {w:World}

theorem ofD_some : ∀ {cs:List V}{l:List D},ofD cs=some l→cs=l.map .d
 | [],l,h=>by simp [ofD] at h; subst h; rfl
 | c::r,l,h=>by
  cases c <;> simp only [ofD] at h <;> try (cases h; done)
  split at h
  ·rename_i x m hm
   cases h
   simp [ofD_some hm]
  ·cases h

def VRs (g:Gh)(tk:List Nat)(w:World):List V→List Value→Prop
 | [],[]=>True
 | c::cs,v::vs=>VR g tk w c v∧VRs g tk w cs vs
 | _,_=>False

theorem VRs.length : ∀ {cs:List V}{vs:List Value},VRs g tk w cs vs→cs.length=vs.length
 | [],[],_=>rfl
 | _::_,_::_,h=>by simp [VRs.length h.2]
 | [],_::_,h=>h.elim
 | _::_,[],h=>h.elim

theorem VRs.of_get : ∀ {cs:List V}{vs:List Value},cs.length=vs.length→(∀ (i:Nat)(c:V)(v:Value),cs[i]?=some c→vs[i]?=some v→VR g tk w c v)→VRs g tk w cs vs
 | [],[],_,_=>trivial
 | d::ds,v::vs,hl,h=>⟨h 0 d v rfl rfl,VRs.of_get (by simpa using hl) (fun i d' v' h1 h2=>h (i+1) d' v' (by simpa using h1) (by simpa using h2))⟩
 | [],_::_,hl,_=>by simp at hl
 | _::_,[],hl,_=>by simp at hl

theorem VRs.get : ∀ {cs:List V}{vs:List Value},VRs g tk w cs vs→∀ (i:Nat)(c:V)(v:Value),cs[i]?=some c→vs[i]?=some v→VR g tk w c v
 | [],[],_,i,d,v,h,_=>by simp at h
 | d::ds,v::vs,h,i,d',v',h1,h2=>by
  cases i with
  | zero=>simp at h1 h2; subst h1 h2; exact h.1
  | succ i=>exact VRs.get h.2 i d' v' (by simpa using h1) (by simpa using h2)
 | [],_::_,h,_,_,_,_,_=>h.elim
 | _::_,[],h,_,_,_,_,_=>h.elim

theorem VRs.later {g':Gh}{tk':List Nat}{w':World}(hl:Later g tk w g' tk' w') : ∀ {cs:List V}{vs:List Value},VRs g tk w cs vs→VRs g' tk' w' cs vs
 | [],[],_=>trivial
 | _::_,_::_,h=>⟨h.1.later hl,VRs.later hl h.2⟩
 | [],_::_,h=>h.elim
 | _::_,[],h=>h.elim

theorem VRs.append : ∀ {as bs:List V}{xs ys:List Value},VRs g tk w as xs→VRs g tk w bs ys→VRs g tk w (as++bs) (xs++ys)
 | [],_,[],_,_,h=>h
 | _::_,_,_::_,_,h,h'=>⟨h.1,VRs.append h.2 h'⟩
 | [],_,_::_,_,h,_=>h.elim
 | _::_,_,[],_,h,_=>h.elim

theorem VRs.take : ∀ {cs:List V}{vs:List Value}(n:Nat),VRs g tk w cs vs→VRs g tk w (cs.take n) (vs.take n)
 | [],[],n,_=>by simp [VRs]
 | c::cs,v::vs,0,_=>by simp [VRs]
 | c::cs,v::vs,n+1,h=>⟨h.1,VRs.take n h.2⟩
 | [],_::_,_,h=>h.elim
 | _::_,[],_,h=>h.elim

theorem VRs.drop : ∀ {cs:List V}{vs:List Value}(n:Nat),VRs g tk w cs vs→VRs g tk w (cs.drop n) (vs.drop n)
 | [],[],n,_=>by simp [VRs]
 | c::cs,v::vs,0,h=>h
 | c::cs,v::vs,n+1,h=>by simpa using VRs.drop n h.2
 | [],_::_,_,h=>h.elim
 | _::_,[],_,h=>h.elim

theorem VRs.of_d : ∀ {ds:List D}{vs:List Value},VRs g tk w (ds.map .d) vs→DRs g.frz w ds vs
 | [],[],_=>trivial
 | _::_,_::_,h=>⟨h.1.inv_d,VRs.of_d h.2⟩
 | [],_::_,h=>h.elim
 | _::_,[],h=>h.elim

theorem VR.agg_of {cs:List V}{vs:Array Value}(h1 : ∀ v∈vs.toList,oneC v=true)(h:VRs g tk w cs vs.toList):VR g tk w (.agg cs) (.agg vs) :=
 .agg cs vs (by simpa using h.length) (fun i v hv=>h1 v (List.mem_of_getElem? (by simpa using hv))) (fun i c v hc hv=>h.get i c v hc (by simpa using hv))

theorem DR.agg_of {f:Nat→Nat→Prop}{ds:List D}{vs:Array Value}(h1 : ∀ v∈vs.toList,oneC v=true)(h:DRs f w ds vs.toList):DR f w (.agg ds) (.agg vs) :=
 .agg ds vs (by simpa using h.length) (fun i v hv=>h1 v (List.mem_of_getElem? (by simpa using hv))) (fun i c v hc hv=>h.get i c v hc (by simpa using hv))

theorem VR.mkAgg_of {cs:List V}{vs:Array Value}(h1 : ∀ v∈vs.toList,oneC v=true)(h:VRs g tk w cs vs.toList):VR g tk w (mkAgg cs) (.agg vs):=by
 unfold mkAgg
 split
 ·rename_i l hl
  have:=ofD_some hl
  subst this
  exact .da _ _ (DR.agg_of h1 h.of_d)
 ·exact VR.agg_of h1 h

theorem VR.inv_agg {cs:List V}{v:Value}(h:VR g tk w (.agg cs) v) : ∃ vs,v = .agg vs∧(∀ v∈vs.toList,oneC v=true)∧VRs g tk w cs vs.toList:=by
 cases h with
 | agg _ vs hl h1 h =>
  refine⟨vs,rfl,fun v hv=>?_,VRs.of_get (by simpa using hl) (fun i c v hc hv=>h i c v hc (by simpa using hv))⟩
  obtain⟨i,hi⟩:=List.getElem?_of_mem hv
  exact h1 i v (by simpa using hi)

theorem DR.inv_agg {f:Nat→Nat→Prop}{ds:List D}{vs:Array Value}(h:DR f w (.agg ds) (.agg vs)):(∀ v∈vs.toList,oneC v=true)∧DRs f w ds vs.toList:=by
 cases h with
 | agg _ _ hl h1 h' =>
  refine⟨fun v hv=>?_,DRs.of_get (by simpa using hl) (fun i c v hc hv=>h' i c v hc (by simpa using hv))⟩
  obtain⟨i,hi⟩:=List.getElem?_of_mem hv
  exact h1 i v (by simpa using hi)

theorem VR.inv_da {ds:List D}{v:Value}(h:VR g tk w (.da ds) v) : ∃ vs,v = .agg vs∧(∀ v∈vs.toList,oneC v=true)∧DRs g.frz w ds vs.toList:=by
 cases h with
 | da _ vs h=>exact⟨vs,rfl,h.inv_agg⟩

theorem DRs.to_v : ∀ {ds:List D}{vs:List Value},(∀ v∈vs,oneC v=true)→DRs g.frz w ds vs→VRs g tk w (ds.map .d) vs
 | [],[],_,_=>trivial
 | _::_,_::_,h1,h=>⟨.d _ _ h.1 (h1 _ (by simp)),DRs.to_v (fun v hv=>h1 v (by simp [hv])) h.2⟩
 | [],_::_,_,h=>h.elim
 | _::_,[],_,h=>h.elim

theorem VR.cells {v:V}{x:Value}{l:List V}(h:VR g tk w v x)(hl:v.cells=some l):VRs g tk w l x.cells.toList∧(∀ u∈x.cells.toList,oneC u=true):=by
 have one : ∀ {v:V} {x:Value},VR g tk w v x→VRs g tk w [v] [x]:=fun h=>⟨h,trivial⟩
 cases h with
 | d y _ h h1 =>
  simp only [V.cells] at hl
  cases hl
  have:x.cells = #[x]:=by cases x <;> simp [oneC] at h1 <;> rfl
  rw [this]
  exact⟨one (.d _ _ h h1),by simpa using h1⟩
 | da cs vs h =>
  simp only [V.cells] at hl
  cases hl
  obtain⟨h1,h2⟩:=h.inv_agg
  exact⟨DRs.to_v h1 h2,h1⟩
 | agg cs vs hl' h1 h =>
  simp only [V.cells] at hl
  cases hl
  obtain⟨vs',e,h2,h3⟩:=(VR.agg _ vs hl' h1 h:VR g tk w _ _).inv_agg
  cases e
  exact⟨h3,h2⟩
 | any v=>simp [V.cells] at hl
 | gone=>simp [V.cells] at hl
 | tup cs vs hl' h=>simp [V.cells] at hl
 | ref r off h=>simp only [V.cells] at hl; cases hl; exact⟨one (.ref _ _ h),by simp [Value.cells,oneC]⟩
 | yld r h=>simp only [V.cells] at hl; cases hl; exact⟨one (.yld _ h),by simp [Value.cells,oneC]⟩
 | iter r h=>simp only [V.cells] at hl; cases hl; exact⟨one (.iter _ h),by simp [Value.cells,oneC]⟩
 | ro cs b o cv hf hc h1 hd=>simp only [V.cells] at hl; cases hl; exact⟨one (.ro _ _ _ _ hf hc h1 hd),by simp [Value.cells,oneC]⟩
 | sl r off len sz cap a h hcap hsz hin hout ha hsp hlim=>simp only [V.cells] at hl; cases hl; exact⟨one (.sl _ _ _ _ _ _ h hcap hsz hin hout ha hsp hlim),by simp [Value.cells,oneC]⟩
 | fl rows a h=>simp only [V.cells] at hl; cases hl; exact⟨one (.fl _ _ h),by simp [Value.cells,oneC]⟩
 | tl rows t st sz k a cap hd ht hle hh hsz ha=>simp only [V.cells] at hl; cases hl; exact⟨one (.tl _ _ _ _ _ _ _ hd ht hle hh hsz ha),by simp [Value.cells,oneC]⟩
 | map r h=>simp only [V.cells] at hl; cases hl; exact⟨one (.map _ h),by simp [Value.cells,oneC]⟩
 | fn f a b a' b' h1 h2 h3 h4=>simp only [V.cells] at hl; cases hl; exact⟨one (.fn _ _ _ _ _ h1 h2 h3 h4),by simp [Value.cells,oneC]⟩
 | ifc t v x h=>simp only [V.cells] at hl; cases hl; exact⟨one (.ifc _ _ _ h),by simp [Value.cells,oneC]⟩

theorem cell_of_block {b:Nat}{c:Array Value}{e:TypeId}{fz:Nat×Nat}(h:w.heap[b]?=some (.cells c e fz))(o:Nat):w.cell? ⟨b,o,none⟩=c[o]?:=by
 simp [World.cell?,h]

theorem addr_add (b o n:Nat):(⟨b,o,none⟩:Addr).add n=⟨b,o+n,none⟩:=by
 unfold Addr.add
 split <;> simp_all

theorem okT_some {t:TypeId}(h:okT P t=true) : ∃ d,P.underlying t=some d:=Option.isSome_iff_exists.1 h

theorem run_isAgg {t:TypeId}(h:okT P t=true):(isAgg t).run P w = .ok (aggT P t) w:=by
 obtain⟨d,hd⟩:=okT_some h
 unfold isAgg aggT
 simp only [Sem.run_bind,run_underlying hd,Result.andThen_ok,hd]
 cases d <;> rfl

theorem run_sizeOf' {t:TypeId}(h:okT P t=true):(sizeOf t).run P w = .ok (P.cellsOf t) w:=by
 obtain⟨d,hd⟩:=okT_some h
 obtain⟨i,hi⟩:=info_of_underlying hd
 exact run_sizeOf w hi

theorem aggT_ok {t:TypeId}(h:aggT P t=true):okT P t=true:=by
 unfold aggT at h
 unfold okT
 split at h <;> simp_all

theorem run_loadVar_agg {t:TypeId}(ha:aggT P t=true){b o:Nat}{vs:List Value}(hl:vs.length=P.cellsOf t)(hc : ∀ k,k<vs.length→w.cell? ⟨b,o+k,none⟩=vs[k]?) :
  (loadVar t ⟨b,o,none⟩).run P w = .ok (.agg vs.toArray) w:=by
 have hok:=aggT_ok ha
 unfold loadVar
 simp only [Sem.run_bind,run_isAgg hok,Result.andThen_ok,ha,if_true,run_sizeOf' hok]
 rw [← hl,run_loadCells_list w ⟨b,o,none⟩ vs (fun j v hv=>by
  have hj:j<vs.length:=by
   rcases Nat.lt_or_ge j vs.length with h | h
   ·exact h
   ·simp [List.getElem?_eq_none h] at hv
  rw [addr_add,hc j hj]; exact hv)]
 rfl

theorem run_loadVar_one {t:TypeId}(hok:okT P t=true)(ha:aggT P t=false){a:Addr}{v:Value}(hc:w.cell? a=some v):(loadVar t a).run P w = .ok v w:=by
 unfold loadVar
 simp only [Sem.run_bind,run_isAgg hok,Result.andThen_ok,ha,Bool.false_eq_true,if_false]
 simp [load,Sem.run,hc]

theorem Sim.cell (hs:Sim g σ w){r:Nat}{cs:List V}(h:σ.objs[r]?=some (.cells cs)){j:Nat}{v:V}(hj:cs[j]?=some v) :
  ∃ cv,w.cell? ⟨(g.obj r).1,(g.obj r).2+j,none⟩=some cv∧oneC cv=true∧VR g σ.toks w v cv:=by
 obtain⟨_,c,e,fz,hb,_,hc⟩:=hs.cells r cs h
 obtain⟨cv,h1,h2,h3⟩:=hc j v hj
 exact⟨cv,by rw [cell_of_block hb,h1],h2,h3⟩

theorem Sim.stretch (hs:Sim g σ w){r:Nat}{cs:List V}(h:σ.objs[r]?=some (.cells cs))(off n:Nat)(hn:off+n≤cs.length) :
  ∃ vs:List Value,vs.length=n∧(∀ k,k<n→w.cell? ⟨(g.obj r).1,(g.obj r).2+off+k,none⟩=vs[k]?)∧(∀ v∈vs,oneC v=true)∧VRs g σ.toks w ((cs.drop off).take n) vs:=by
 induction n with
 | zero=>exact⟨[],rfl,fun k hk=>by omega,by simp,by simp [VRs]⟩
 | succ n ih =>
  obtain⟨vs,h1,h2,h4,h3⟩:=ih (by omega)
  obtain⟨v,hv⟩ : ∃ v,cs[off+n]?=some v:=⟨cs[off+n],by simp [List.getElem?_eq_getElem (show off+n<cs.length by omega)]⟩
  obtain⟨cv,hc,ho,hr⟩:=hs.cell h hv
  refine⟨vs++[cv],by simp [h1],fun k hk=>?_,fun v hv=>?_,?_⟩
  ·by_cases hkn:k<n
   ·rw [h2 k hkn,List.getElem?_append_left (by omega)]
   ·have:k=n:=by omega
    subst this
    rw [show(g.obj r).2+off+k=(g.obj r).2+(off+k) by omega,hc,List.getElem?_append_right (by omega),h1]
    simp
  ·rcases List.mem_append.1 hv with h | h
   ·exact h4 v h
   ·simp at h; subst h; exact ho
  ·have e:(cs.drop off).take (n+1)=(cs.drop off).take n++[v]:=by
    rw [List.take_add_one,List.getElem?_drop,hv]
    rfl
   rw [e]
   exact h3.append ⟨hr,trivial⟩

theorem loadAt_rel (hs:Sim g σ w){t:TypeId}(hok:okT P t=true){x v:V}{cx:Value}(hx:VR g σ.toks w x cx)(h:loadAt σ (aggT P t) (P.cellsOf t) x=some v) :
  ∃ cv,(Instr.loadAt t cx).run P w = .ok cv w∧VR g σ.toks w v cv:=by
 unfold loadAt at h
 split at h
 ·rename_i r off
  split at h
  ·rename_i cs hr
   cases hx with
   | ref _ _ hh =>
    split at h
    ·rename_i ha
     split at h
     ·rename_i hn
      cases h
      obtain⟨vs,h1,h2,h4,h3⟩:=hs.stretch hr off (P.cellsOf t) hn
      exact⟨.agg vs.toArray,by
       simp only [Instr.loadAt,Instr.sureAddr,Sem.run_bind,Sem.run_pure,Result.andThen_ok]
       exact run_loadVar_agg ha h1 (fun k hk=>h2 k (by omega)),VR.mkAgg_of (by simpa using h4) (by simpa using h3)⟩
     ·cases h
    ·rename_i ha
     obtain⟨cv,hc,_,hv⟩:=hs.cell hr h
     exact⟨cv,by
      simp only [Instr.loadAt,Instr.sureAddr,Sem.run_bind,Sem.run_pure,Result.andThen_ok]
      exact run_loadVar_one hok (by simpa using ha) hc,hv⟩
  ·cases h
 ·rename_i cs
  cases hx with
  | ro _ b o cv hf hc h1 hd =>
   split at h
   ·rename_i ha
    split at h
    ·rename_i hn
     cases h
     refine⟨.agg ((List.range (P.cellsOf t)).map cv).toArray,?_,.da _ _ (DR.agg_of (fun v hv=>?_) ?_)⟩
     ·simp only [Instr.loadAt,Instr.sureAddr,Sem.run_bind,Sem.run_pure,Result.andThen_ok]
      refine run_loadVar_agg ha (by simp) (fun k hk=>?_)
      simp at hk
      rw [hc k (by omega)]
      simp [hk]
     ·simp at hv
      obtain⟨k,hk,rfl⟩:=hv
      exact h1 k (by omega)
     ·refine DRs.of_get (by simp; omega) (fun i d v hi hv=>?_)
      rw [List.getElem?_take] at hi
      split at hi
      ·rename_i hlt
       simp [hlt] at hv
       subst hv
       exact hd i d hi
      ·cases hi
    ·cases h
   ·rename_i ha
    split at h
    ·rename_i c r
     cases h
     refine⟨cv 0,?_,.d _ _ (hd 0 c rfl) (h1 0 (by simp))⟩
     simp only [Instr.loadAt,Instr.sureAddr,Sem.run_bind,Sem.run_pure,Result.andThen_ok]
     exact run_loadVar_one hok (by simpa using ha) (by simpa using hc 0 (by simp))
    ·cases h
 ·cases h

theorem run_part_agg {t:TypeId}(ha:aggT P t=true){cs:Array Value}(off:Nat):(part t cs off).run P w = .ok (.agg (cs.extract off (off+P.cellsOf t))) w:=by
 have hok:=aggT_ok ha
 unfold part
 simp only [Sem.run_bind,run_isAgg hok,Result.andThen_ok,ha,if_true,run_sizeOf' hok,Sem.run_pure]

theorem run_part_one {t:TypeId}(hok:okT P t=true)(ha:aggT P t=false){cs:Array Value}{off:Nat}{v:Value}(h:cs[off]?=some v):(part t cs off).run P w = .ok v w:=by
 unfold part
 simp only [Sem.run_bind,run_isAgg hok,Result.andThen_ok,ha,Bool.false_eq_true,if_false,h,Sem.run_pure]

theorem one_extract {vs:Array Value}(h : ∀ v∈vs.toList,oneC v=true)(a b:Nat) : ∀ v∈(vs.extract a b).toList,oneC v=true:=fun v hv=>by
 rw [Array.toList_extract] at hv
 simp only [List.extract] at hv
 exact h v (List.mem_of_mem_drop (List.mem_of_mem_take hv))

theorem partOf_rel {t:TypeId}(hok:okT P t=true){off:Nat}{x v:V}{cx:Value}(hx:VR g tk w x cx)(h:partOf (aggT P t) off (P.cellsOf t) x=some v) :
  ∃ cs cv,cx = .agg cs∧(part t cs off).run P w = .ok cv w∧VR g tk w v cv:=by
 unfold partOf at h
 split at h
 ·rename_i l
  obtain⟨vs,rfl,h1,hd⟩:=hx.inv_da
  split at h
  ·rename_i ha
   split at h
   ·cases h
    refine⟨vs,_,rfl,run_part_agg ha off,.da _ _ (DR.agg_of (one_extract h1 _ _) ?_)⟩
    have:=VRs.of_d (g:=g) (tk:=tk) (w:=w) (ds:=(l.drop off).take (P.cellsOf t)) (vs:=(vs.toList.drop off).take (P.cellsOf t)) (by
     rw [List.map_take,List.map_drop]
     exact(VRs.drop off (DRs.to_v h1 hd)).take _)
    rw [Array.toList_extract]
    simpa [List.extract] using this
   ·cases h
  ·rename_i ha
   split at h
   ·rename_i c hc
    cases h
    obtain⟨u,hu⟩ : ∃ u,vs[off]?=some u:=by
     have hlt:off<l.length:=by
      rcases Nat.lt_or_ge off l.length with h | h
      ·exact h
      ·simp [List.getElem?_eq_none h] at hc
     have:off<vs.size:=by have:=hd.length; simp at this; omega
     exact⟨vs[off],by simp [this]⟩
    exact⟨vs,u,rfl,run_part_one hok (by simpa using ha) hu,.d _ _ (hd.get off c u hc (by simpa using hu)) (h1 u (List.mem_of_getElem? (by simpa using hu)))⟩
   ·cases h
 ·rename_i l
  obtain⟨vs,rfl,h1,hd⟩:=hx.inv_agg
  split at h
  ·rename_i ha
   split at h
   ·cases h
    refine⟨vs,_,rfl,run_part_agg ha off,VR.mkAgg_of (one_extract h1 _ _) ?_⟩
    rw [Array.toList_extract]
    simpa [List.extract] using (hd.drop off).take (P.cellsOf t)
   ·cases h
  ·rename_i ha
   obtain⟨u,hu⟩ : ∃ u,vs[off]?=some u:=by
    have hlt:off<l.length:=by
     rcases Nat.lt_or_ge off l.length with h' | h'
     ·exact h'
     ·simp [List.getElem?_eq_none h'] at h
    have:off<vs.size:=by have:=hd.length; simp at this; omega
    exact⟨vs[off],by simp [this]⟩
   exact⟨vs,u,rfl,run_part_one hok (by simpa using ha) hu,hd.get off v u h (by simpa using hu)⟩
 ·cases h

end Go.Dn

/- Slices, indexes, conversions, composite literals; every operation that leaves the store alone. -/
namespace Go.Dn

set_option linter.unusedSimpArgs false

variable {P:Program} {g:Gh} {σ:St} {tk:List Nat} {w:World}

theorem rowsOf_length (sz n:Nat)(l:List D):(rowsOf sz n l).length=n:=by
 induction n generalizing l with
 | zero=>rfl
 | succ n ih=>simp [rowsOf,ih]

theorem rowsOf_get (sz n:Nat)(l:List D)(i:Nat):(rowsOf sz n l)[i]?=if i<n then some ((l.drop (i*sz)).take sz) else none:=by
 induction n generalizing l i with
 | zero=>simp [rowsOf]
 | succ n ih =>
  cases i with
  | zero=>simp [rowsOf]
  | succ i =>
   simp only [rowsOf,List.getElem?_cons_succ,ih,List.drop_drop,Nat.add_lt_add_iff_right]
   rw [show sz+i*sz=(i+1)*sz by rw [Nat.add_mul]; omega]

structure RowsAt (f:Nat→Nat→Prop)(w:World)(rows:List (List D))(sz:Nat)(a:Addr)(cv:Nat→Value):Prop where
 hsz : ∀ (i:Nat) (row:List D),rows[i]?=some row→row.length=sz
 hc : ∀ k,k<rows.length*sz→w.cell? (a.add k)=some (cv k)
 h1 : ∀ k,k<rows.length*sz→oneC (cv k)=true
 hd : ∀ (i:Nat) (row:List D) (j:Nat) (d:D),rows[i]?=some row→row[j]?=some d→DR f w d (cv (i*sz+j))

def RowsR (f:Nat→Nat→Prop)(w:World)(rows:List (List D))(cx:Value):Prop :=
 (cx = .slice none 0 0∧rows=[])∨∃ a cap sz cv,cx = .slice (some a) rows.length cap∧rows.length≤cap∧RowsAt f w rows sz a cv

theorem DR.rows {f:Nat→Nat→Prop}{rows:List (List D)}{v:Value}(h:DR f w (.list rows) v) : ∃ a cap sz cv,v = .slice (some a) rows.length cap∧rows.length≤cap∧RowsAt f w rows sz a cv:=by
 cases h with
 | list _ b o cap sz cv hcap hsz hf hc h1 hd =>
  exact⟨_,cap,sz,cv,rfl,hcap,hsz,fun k hk=>by rw [addr_add]; exact hc k hk,h1,hd⟩
 | list0 a cap =>
  exact⟨a,cap,0,fun _=>undef,rfl,Nat.zero_le _,fun i row h=>by simp at h,fun k hk=>by simp at hk,fun k hk=>by simp at hk,fun i row j d h=>by simp at h⟩

theorem rows_rel (hs:Sim g σ w){x:V}{cx:Value}(hx:VR g σ.toks w x cx){rows:List (List D)}(h:V.rows σ x=some rows):RowsR g.frz w rows cx:=by
 unfold V.rows at h
 split at h
 ·cases h
  have:=hx.inv_d
  cases this
  exact .inl ⟨rfl,rfl⟩
 ·cases h; exact .inr hx.inv_d.rows
 ·cases h; cases hx with
  | fl _ a h=>exact .inr (by simpa using h.rows)
 ·cases h; cases hx with
  | tl _ t st sz k a cap hd ht hle hh hsz ha=>exact .inr hd.rows
 ·rename_i r off len sz
  split at h
  ·rename_i cs hr
   split at h
   ·rename_i l hl
    cases h
    cases hx with
    | sl _ _ _ _ cap a hh hcap hsz hin hout ha =>
     have hlen:cs.length=g.len r:=(hs.cells r cs hr).1
     obtain⟨vs,v1,v2,v3,v4⟩:=hs.stretch hr off (len*sz) (by omega)
     rw [ofD_some hl] at v4
     have hds:=v4.of_d
     have hll:l.length=len*sz:=by rw [hds.length,v1]
     refine .inr ⟨a,cap,sz,fun k=>vs.getD k undef,by rw [rowsOf_length],by rw [rowsOf_length]; exact hcap,?_,?_,?_,?_⟩
     ·intro i row hrow
      rw [rowsOf_get] at hrow
      split at hrow
      ·rename_i hi
       cases hrow
       have:i*sz+sz≤len*sz:=by
        have:=Nat.mul_le_mul_right sz (show i+1≤len from hi)
        rw [Nat.add_mul] at this; omega
       simp [hll]; omega
      ·cases hrow
     ·intro k hk
      rw [rowsOf_length] at hk
      rw [ha (by omega),addr_add,v2 k hk]
      simp [List.getElem?_eq_getElem (show k<vs.length by omega)]
     ·intro k hk
      rw [rowsOf_length] at hk
      have hlt:k<vs.length:=by omega
      refine v3 _ ?_
      simp [List.getD_eq_getElem?_getD,List.getElem?_eq_getElem hlt]
     ·intro i row j d hrow hd
      rw [rowsOf_get] at hrow
      split at hrow
      ·rename_i hi
       cases hrow
       rw [List.getElem?_take] at hd
       split at hd
       ·rename_i hj
        rw [List.getElem?_drop] at hd
        have hlt:i*sz+j<vs.length:=by
         have:=Nat.mul_le_mul_right sz (show i+1≤len from hi)
         rw [Nat.add_mul] at this; omega
        have:=hds.get (i*sz+j) d vs[i*sz+j] hd (by simp [List.getElem?_eq_getElem hlt])
        simpa [List.getD_eq_getElem?_getD,List.getElem?_eq_getElem hlt] using this
       ·cases hd
      ·cases hrow
   ·cases h
  ·cases h
 ·cases h

theorem asIdx_rel {x:V}{cx:Value}(hx:VR g tk w x cx){n:Int}(h:asIdx x=some n) : ∃ k,cx = .int k n:=by
 unfold asIdx at h
 split at h
 ·cases h; exact⟨_,hx.inv_int⟩
 ·cases h

theorem run_sizeOf_cells {e:TypeId}(hc:P.cellsOf e≠0):(sizeOf e).run P w = .ok (P.cellsOf e) w:=by
 unfold Program.cellsOf at hc
 cases hi:P.info? e with
 | none=>simp [hi] at hc
 | some i=>exact run_sizeOf w hi

theorem add_add (a:Addr)(m n:Nat):(a.add m).add n=a.add (m+n):=by
 unfold Addr.add
 by_cases h1:m=0 <;> by_cases h2:n=0 <;> simp [h1,h2] <;> omega

end Go.Dn

/- New blocks that stay as they are. -/
namespace Go.Dn

set_option linter.unusedSimpArgs false

variable {P:Program} {g:Gh} {σ:St} {tk:List Nat} {w:World}

theorem block_lt {b:Nat}{o:Go.Obj}(h:w.heap[b]?=some o):b<w.heap.size:=(Array.getElem?_eq_some_iff.1 h).1

theorem cell_lt {b o:Nat}{v:Value}(h:w.cell? ⟨b,o,none⟩=some v):b<w.heap.size:=by
 unfold World.cell? at h
 split at h
 ·rename_i hb; exact block_lt hb
 ·cases h

structure Grown1 (w:World)(o:Go.Obj)(w':World):Prop where
 heap:w'.heap=w.heap.push o
 os:w'.os=w.os
 tape:w'.tape=w.tape
 output:w'.output=w.output

theorem Grown1.old {o:Go.Obj}{w':World}(h:Grown1 w o w'){b:Nat}(hb:b<w.heap.size):w'.heap[b]?=w.heap[b]?:=by
 rw [h.heap,Array.getElem?_push]
 split
 ·omega
 ·rfl

theorem Grown1.new {o:Go.Obj}{w':World}(h:Grown1 w o w'):w'.heap[w.heap.size]?=some o:=by
 rw [h.heap]; simp

theorem Grown1.cell {o:Go.Obj}{w':World}(h:Grown1 w o w'){b:Nat}(hb:b<w.heap.size)(q:Nat):w'.cell? ⟨b,q,none⟩=w.cell? ⟨b,q,none⟩:=by
 unfold World.cell?
 rw [h.old hb]

theorem Grown1.size {o:Go.Obj}{w':World}(h:Grown1 w o w'):w'.heap.size=w.heap.size+1:=by
 rw [h.heap]; simp

def Gh.freeze (g:Gh)(b n:Nat):Gh:={ g with frz:=fun b' q=>g.frz b' q∨(b'=b∧q<n) }

theorem mine_lt (hs:Sim g σ w){b:Nat}(h:Mine g σ b):b<w.heap.size:=by
 rcases h with⟨r,o,ho,hl,rfl⟩ | ⟨t,k,ht,rfl⟩
 ·exact hs.blk ho hl
 ·obtain⟨_,c,e,fz,hb,_⟩:=hs.tok t k ht
  exact block_lt hb

theorem Sim.push_frz (hs:Sim g σ w){c:Array Value}{e:TypeId}{fz:Nat×Nat}{w':World}(h:Grown1 w (.cells c e fz) w') :
  Sim (g.freeze w.heap.size c.size) σ w'∧Ev g σ w (g.freeze w.heap.size c.size) σ w':=by
 have hcell : ∀ b q,g.frz b q→w'.cell? ⟨b,q,none⟩=w.cell? ⟨b,q,none⟩:=fun b q hf=>by
  obtain⟨v,hv⟩:=hs.frzb b q hf
  exact h.cell (cell_lt hv) q
 have hl:Later g σ.toks w (g.freeze w.heap.size c.size) σ.toks w' :=
  ⟨⟨fun b q hf=>.inl hf,hcell⟩,fun r hr=>⟨hr,rfl,rfl⟩,fun t k ht=>⟨k,ht,Nat.le_refl _,fun _=>rfl,rfl⟩,rfl,fun _ _=>rfl⟩
 refine⟨⟨hs.has,hs.bound,hs.free,fun r cs hr=>?_,fun r o hr ho=>?_,hs.dist,fun r o ho hlv q=>?_,fun t k ht=>?_,hs.tdist,hs.tobj,fun b q hf=>?_,fun r cs hr=>⟨(hs.lims r cs hr).1,fun c' e' fz' hb=>(hs.lims r cs hr).2 c' e' fz' (by rw [← h.old (hs.blk hr trivial)]; exact hb)⟩⟩,⟨hl,by rw [h.size]; omega,h.os,h.tape,h.output,fun b hb _=>h.old hb,fun b hb=>.inl hb,fun b q hf=>?_⟩⟩
 ·obtain⟨h1,c',e',fz',hb,hn,hc⟩:=hs.cells r cs hr
  refine⟨h1,c',e',fz',by rw [show((g.freeze w.heap.size c.size).obj r)=g.obj r from rfl,h.old (block_lt hb)]; exact hb,hn,fun j v hj=>?_⟩
  obtain⟨cv,h1,h2,h3⟩:=hc j v hj
  exact⟨cv,h1,h2,h3.later hl⟩
 ·obtain⟨x,h1,h2⟩:=hs.oth r o hr ho
  exact⟨x,by rw [show((g.freeze w.heap.size c.size).obj r)=g.obj r from rfl,h.old (block_lt h1)]; exact h1,h2.later hl⟩
 ·rintro (hf | ⟨hb,_⟩)
  ·exact hs.nofrz r o ho hlv q hf
  ·have:=hs.blk ho hlv
   have hb2:(g.obj r).1=w.heap.size:=hb
   omega
 ·obtain⟨h0,c',e',fz',hb,hn,hsz,hf⟩:=hs.tok t k ht
  refine⟨h0,c',e',fz',by rw [show((g.freeze w.heap.size c.size).tok t)=g.tok t from rfl,h.old (block_lt hb)]; exact hb,hn,hsz,fun q hq=>?_⟩
  rintro (hf' | ⟨hb',_⟩)
  ·exact hf q hq hf'
  ·have:=block_lt hb
   have hb2:(g.tok t).b=w.heap.size:=hb'
   omega
 ·rcases hf with hf | ⟨rfl,hq⟩
  ·obtain⟨v,hv⟩:=hs.frzb b q hf
   exact⟨v,by rw [hcell b q hf]; exact hv⟩
  ·exact⟨c[q],by rw [cell_of_block h.new]; simp [hq]⟩
 ·rcases hf with hf | ⟨rfl,hq⟩
  ·exact .inl hf
  ·exact .inr (.inr (Nat.le_refl _))

theorem list_new {f:Nat→Nat→Prop}{b:Nat}{c:Array Value}{e:TypeId}{fz:Nat×Nat}(hb:w.heap[b]?=some (.cells c e fz)){rows:List (List D)}{sz cap:Nat}(hcap:rows.length≤cap)
  (hsz : ∀ (i:Nat) (row:List D),rows[i]?=some row→row.length=sz) (hf : ∀ k,k<rows.length*sz→f b k) (hn:rows.length*sz≤c.size) (h1 : ∀ k,k<rows.length*sz→oneC (c.getD k undef)=true)
  (hd : ∀ (i:Nat) (row:List D) (j:Nat) (d:D),rows[i]?=some row→row[j]?=some d→DR f w d (c.getD (i*sz+j) undef)) :
  DR f w (.list rows) (.slice (some ⟨b,0,none⟩) rows.length cap):=by
 refine .list rows b 0 cap sz (fun k=>c.getD k undef) hcap hsz (fun k hk=>by rw [Nat.zero_add]; exact hf k hk) (fun k hk=>?_) h1 hd
 rw [Nat.zero_add,cell_of_block hb]
 simp [show k<c.size by omega]

theorem splice_length {α:Type}(cs:List α)(off:Nat)(xs:List α)(h:off+xs.length≤cs.length):(splice cs off xs).length=cs.length:=by
 simp [splice]; omega

theorem splice_get {α:Type}(cs:List α)(off:Nat)(xs:List α)(h:off+xs.length≤cs.length)(k:Nat) :
  (splice cs off xs)[k]?=if off≤k∧k<off+xs.length then xs[k-off]? else cs[k]?:=by
 unfold splice
 by_cases h1:k<off
 ·rw [List.append_assoc,List.getElem?_append_left (by simp; omega),List.getElem?_take]
  simp [h1,show ¬ off≤k by omega]
 ·by_cases h2:k<off+xs.length
  ·rw [List.append_assoc,List.getElem?_append_right (by simp; omega),List.getElem?_append_left (by simp; omega)]
   simp only [List.length_take,show off≤k by omega,h2,and_self,if_true]
   congr 1
   omega
  ·rw [List.getElem?_append_right (by simp; omega),List.getElem?_drop]
   simp only [List.length_append,List.length_take,show ¬ (k<off+xs.length) from h2,and_false,if_false]
   congr 1
   omega

theorem VRs.splice {cs:List V}{vs:List Value}{xs:List V}{us:List Value}(off:Nat)(h:VRs g tk w cs vs)(h':VRs g tk w xs us):VRs g tk w (Dn.splice cs off xs) (Dn.splice vs off us):=by
 unfold Dn.splice
 rw [h'.length]
 exact((h.take off).append h').append (h.drop _)

theorem foldl_set (l:List Value)(off:Nat) : ∀ (i:Nat)(cs:Array Value),off+i+l.length≤cs.size →
  ((l.zipIdx i).foldl (fun cs (p:Value×Nat)=>cs.setIfInBounds (off+p.2) p.1) cs).toList=splice cs.toList (off+i) l:=by
 induction l with
 | nil=>intro i cs h; simp [splice]
 | cons x l ih =>
  intro i cs h
  simp only [List.zipIdx_cons,List.foldl_cons]
  rw [ih (i+1) _ (by simp; simp at h; omega)]
  apply List.ext_getElem?
  intro k
  have e1:off+i+1+l.length≤(cs.setIfInBounds (off+i) x).toList.length:=by simp at h ⊢; omega
  rw [show off+(i+1)=off+i+1 by omega,splice_get _ _ _ (by simpa using e1),splice_get _ _ _ (by simpa using h)]
  simp only [List.length_cons,Array.toList_setIfInBounds]
  by_cases hk:off+i+1≤k∧k<off+i+1+l.length
  ·rw [if_pos hk,if_pos ⟨by omega,by omega⟩,show k-(off+i)=(k-(off+i+1))+1 by omega,List.getElem?_cons_succ]
  ·rw [if_neg hk]
   by_cases hk2:k=off+i
   ·subst hk2
    rw [if_pos ⟨by omega,by omega⟩]
    simp only [Nat.sub_self,List.getElem?_cons_zero]
    rw [List.getElem?_set_self (by simp at h ⊢; omega)]
   ·rw [if_neg (by omega),List.getElem?_set_ne (fun e=>hk2 e.symm)]

end Go.Dn

/- The single operations, one lemma each. -/
namespace Go.Dn
open Go.Lib

set_option linter.unusedSimpArgs false

variable {P:Program} {g:Gh} {σ:St} {tk:List Nat} {w:World}

def PStep (P:Program)(g:Gh) (σ:St)(w:World)(s:Sem Value)(v:V):Prop :=
 ∃ cv w' g',s.run P w = .ok cv w'∧Sim g' σ w'∧VR g' σ.toks w' v cv∧Ev g σ w g' σ w'

theorem PStep.still (hs:Sim g σ w){s:Sem Value}{v:V}{cv:Value}(h:s.run P w = .ok cv w)(hv:VR g σ.toks w v cv):PStep P g σ w s v :=
 ⟨cv,w,g,h,hs,hv,Ev.refl _ _ _⟩

theorem rowBytes_inv : ∀ {rows:List (List D)}{l:List UInt8},rowBytes rows=some l→(∀ (i:Nat)(row:List D),rows[i]?=some row→∃ n:Int,row=[.int .u8 n]) ∧
  ∃ ns:List Int,rows=ns.map (fun n=>[D.int .u8 n])∧l=ns.map (fun n=>UInt8.ofNat n.toNat)
 | [],l,h=>by simp [rowBytes] at h; subst h; exact⟨fun i row hr=>by simp at hr,[],rfl,rfl⟩
 | r::rs,l,h=>by
  unfold rowBytes at h
  split at h
  ·rename_i heq; cases heq
  ·rename_i n rest heq
   cases heq
   split at h
   ·rename_i m hm
    cases h
    obtain⟨h1,ns,h2,h3⟩:=rowBytes_inv hm
    refine⟨fun i row hr=>?_,n::ns,by simp [h2],by simp [h3]⟩
    cases i with
    | zero=>simp at hr; exact⟨n,hr.symm⟩
    | succ i=>simp at hr; exact h1 i row hr
   ·cases h
  ·cases h

theorem push_fold (ns:List Int)(s:ByteArray):ns.foldl (fun r n=>r.push (UInt8.ofNat n.toNat)) s=⟨(s.data.toList++ns.map (fun n=>UInt8.ofNat n.toNat)).toArray⟩:=by
 induction ns generalizing s with
 | nil=>simp
 | cons n ns ih =>
  simp only [List.foldl_cons,ih]
  apply ByteArray.ext
  simp [ByteArray.push]

theorem conv_rel (hs:Sim g σ w){src dst:TypeId}{k:Conv}(hk:compConv P src dst=some k){x v:V}{cx:Value}(hx:VR g σ.toks w x cx)(h:evalConv σ k x=some v):PStep P g σ w (Go.convert src dst cx) v:=by
 unfold compConv at hk
 split at hk
 ·rename_i k' hu1 hu2
  cases hk
  simp only [evalConv] at h
  split at h
  ·cases h
   have e:=hx.inv_int
   subst e
   exact PStep.still hs (by simp [Go.convert,run_underlying hu1,run_underlying hu2,Conv.intToInt]) (.int _ _)
  ·cases h
 ·rename_i hu1 hu2
  cases hk
  simp only [evalConv] at h
  split at h
  ·cases h
   have ec:=hx.inv_str
   subst ec
   exact PStep.still hs (by simp [Go.convert,run_underlying hu1,run_underlying hu2]) (.str _)
  ·cases h
 ·rename_i e hu1 hu2
  split at hk
  ·rename_i hu3
   cases hk
   simp only [evalConv] at h
   split at h
   ·rename_i s
    cases h
    have ec:=hx.inv_str
    subst ec
    have hrun:=Lib.run_convert_string_bytes (P:=P) w src dst e ⟨s.toArray⟩ hu1 hu2 hu3
    have hnew:=bytesWorld_at_new w e ⟨s.toArray⟩
    have hgr:Grown1 w (.cells (bytesCells w e ⟨s.toArray⟩) e ((bytesCells w e ⟨s.toArray⟩).size,(bytesCells w e ⟨s.toArray⟩).size+1)) (bytesWorld w e ⟨s.toArray⟩):=by
     refine⟨?_,rfl,rfl,rfl⟩
     apply Array.ext_getElem?
     intro i
     rcases Nat.lt_trichotomy i w.heap.size with h | h | h
     ·rw [bytesWorld_at_old w e _ i h,Array.getElem?_push]
      simp [show i≠w.heap.size by omega]
     ·subst h; rw [hnew]; simp
     ·rw [Array.getElem?_eq_none (by rw [bytesWorld_size]; omega),Array.getElem?_eq_none (by simp; omega)]
    obtain⟨h1,h2⟩:=hs.push_frz hgr
    have hsz:(bytesCells w e ⟨s.toArray⟩).size=s.length+(grownCap w s.length 0 e-s.length):=by
     simp [bytesCells,bytes_size]
    have hget : ∀ k,k<s.length→(bytesCells w e ⟨s.toArray⟩).getD k undef = .int .u8 ((s.getD k 0).toNat):=by
     intro k hk
     simp [bytesCells,Array.getD_eq_getD_getElem?,Array.getElem?_append,hk,List.getD_eq_getElem?_getD]
    refine⟨_,_,_,hrun,h1,.d _ _ ?_ rfl,h2⟩
    have hl:(byteRows s).length=s.length:=by simp [byteRows]
    rw [bytes_size,← hl]
    have hgc:=grownCap_ge w s.length 0 e
    refine list_new (sz:=1) hnew (by rw [hl]; exact hgc) (fun i row hr=>?_) (fun k hk=>?_) ?_ (fun k hk=>?_) (fun i row j d hr hd=>?_)
    ·simp only [byteRows,List.getElem?_map,Option.map_eq_some_iff] at hr
     obtain⟨b,_,rfl⟩:=hr
     rfl
    ·rw [hl] at hk
     exact .inr ⟨rfl,by rw [hsz]; omega⟩
    ·rw [hl,hsz]; omega
    ·rw [hl] at hk
     rw [hget k (by omega)]
     rfl
    ·simp only [byteRows,List.getElem?_map,Option.map_eq_some_iff] at hr
     obtain⟨b,hb,rfl⟩:=hr
     have hi:i<s.length:=by
      rcases Nat.lt_or_ge i s.length with h | h
      ·exact h
      ·simp [List.getElem?_eq_none h] at hb
     have hj:j=0:=by
      rcases Nat.eq_zero_or_pos j with h | h
      ·exact h
      ·rw [List.getElem?_eq_none (by simp; omega)] at hd; cases hd
     subst hj
     simp at hd
     subst hd
     rw [Nat.mul_one,Nat.add_zero,hget i hi,List.getD_eq_getElem?_getD,hb]
     exact .int _ _
   ·cases h
  ·cases hk
 ·rename_i e hu1 hu2
  split at hk
  ·rename_i hu3
   cases hk
   simp only [evalConv] at h
   split at h
   ·rename_i rows hr
    split at h
    ·rename_i l hl
     cases h
     obtain⟨hone,ns,hns,rfl⟩:=rowBytes_inv hl
     rcases rows_rel hs hx hr with⟨rfl,rfl⟩ | ⟨a,cap,sz,cv,rfl,hcap,hat⟩
     ·have:ns=[]:=by cases ns; rfl; simp at hns
      subst this
      refine PStep.still hs ?_ (.str [])
      rw [run_convert_bytes_string w src dst e none 0 0 hu1 hu3 hu2]
      simp [Conv.bytesToString]
      rfl
     ·refine PStep.still hs ?_ (.str _)
      have hlen:rows.length=ns.length:=by rw [hns]; simp
      rw [run_convert_bytes_string w src dst e (some a) _ cap hu1 hu3 hu2,run_bytesToString w a _ cap ns,push_fold]
      ·rfl
      ·by_cases hz:rows.length=0
       ·rw [hz]
        have:ns=[]:=List.eq_nil_of_length_eq_zero (by omega)
        subst this
        rfl
       ·have hsz1:sz=1:=by
         have h0:rows[0]?=some rows[0]:=by simp
         obtain⟨n,hn⟩:=hone 0 _ h0
         rw [← hat.hsz 0 _ h0,hn]
         rfl
        subst hsz1
        rw [hlen,← (show(ns.map (Value.int .u8)).length=ns.length by simp)]
        refine run_loadCells_list w a _ (fun j v hv=>?_)
        simp only [List.getElem?_map,Option.map_eq_some_iff] at hv
        obtain⟨n,hn,rfl⟩:=hv
        have hj:j<ns.length:=by
         rcases Nat.lt_or_ge j ns.length with h | h
         ·exact h
         ·simp [List.getElem?_eq_none h] at hn
        rw [hat.hc j (by omega)]
        have hrow:rows[j]?=some [D.int .u8 n]:=by rw [hns]; simp [hn]
        have:=hat.hd j _ 0 (.int .u8 n) hrow rfl
        rw [Nat.mul_one,Nat.add_zero] at this
        rw [this.inv_int]
    ·cases h
   ·cases h
  ·cases hk
 ·cases hk

end Go.Dn

/- Addresses, indexes, slices, lengths, least and greatest, interface values. -/
namespace Go.Dn
open Go.Lib

set_option linter.unusedSimpArgs false

variable {P:Program} {g:Gh} {σ:St} {tk:List Nat} {w:World}

theorem fieldOf_inv {t:TypeId}{i off:Nat}{ft:TypeId}(h:fieldOf P t i=some (off,ft)) : ∃ fs f,P.underlying t=some (.struct fs)∧fs[i]?=some f∧f.offset=off∧f.type=ft∧P.cellsOf ft≠0∧okT P ft=true:=by
 unfold fieldOf at h
 split at h
 ·rename_i fs hu
  split at h
  ·rename_i f hf
   split at h
   ·cases h
   ·rename_i hc
    cases h
    simp only [not_or,Bool.not_eq_false] at hc
    exact⟨fs,f,hu,hf,rfl,rfl,hc.1,hc.2⟩
  ·cases h
 ·cases h

theorem VR.ro_drop {cs:List D}{b o:Nat}{cv:Nat→Value}(hf : ∀ k,k<cs.length→g.frz b (o+k))(hc : ∀ k,k<cs.length→w.cell? ⟨b,o+k,none⟩=some (cv k))(h1 : ∀ k,k<cs.length→oneC (cv k)=true)
  (hd : ∀ (k:Nat) (d:D),cs[k]?=some d→DR g.frz w d (cv k)) (off:Nat):VR g tk w (.ro (cs.drop off)) (.pointer (some ⟨b,o+off,none⟩)):=by
 refine .ro _ b (o+off) (fun k=>cv (off+k)) (fun k hk=>?_) (fun k hk=>?_) (fun k hk=>?_) (fun k d hk=>?_)
 ·simp at hk; rw [Nat.add_assoc]; exact hf _ (by omega)
 ·simp at hk; rw [Nat.add_assoc]; exact hc _ (by omega)
 ·simp at hk; exact h1 _ (by omega)
 ·rw [List.getElem?_drop] at hk; exact hd _ d hk

theorem faddr_rel (hs:Sim g σ w){t:TypeId}{i off:Nat}{ft:TypeId}(hf:fieldOf P t i=some (off,ft)){x v:V}{cx:Value}(hx:VR g σ.toks w x cx)
  (h:faddrV off x=some v) :
  PStep P g σ w (Instr.fieldAt t cx i) v:=by
 obtain⟨fs,f,hu,hfi,rfl,rfl,hc,hok⟩:=fieldOf_inv hf
 have run : ∀ a:Addr,(Instr.fieldAt t (.pointer (some a)) i).run P w = .ok (.pointer (some (a.add f.offset))) w:=by
  intro a
  simp [Instr.fieldAt,run_underlying hu,hfi,Instr.sureAddr,fieldPlace,run_sizeOf' hok,hc]
 unfold faddrV at h
 split at h
 ·rename_i r o
  cases h
  cases hx with
  | ref _ _ hh =>
   refine PStep.still hs (run _) ?_
   rw [addr_add,Nat.add_assoc]
   exact .ref _ _ hh
 ·rename_i cs
  split at h
  ·cases h
   cases hx with
   | ro _ b o cv hf' hc' h1 hd =>
    refine PStep.still hs (run _) ?_
    rw [addr_add]
    exact VR.ro_drop hf' hc' h1 hd _
  ·cases h
 ·cases h

theorem field_rel (hs:Sim g σ w){t:TypeId}{i off:Nat}{ft:TypeId}(hf:fieldOf P t i=some (off,ft)){x v:V}{cx:Value}(hx:VR g σ.toks w x cx)(h:partOf (aggT P ft) off (P.cellsOf ft) x=some v) :
  PStep P g σ w (Instr.field t cx i) v:=by
 obtain⟨fs,f,hu,hfi,rfl,rfl,hc,hok⟩:=fieldOf_inv hf
 obtain⟨cs,cv,rfl,h1,h2⟩:=partOf_rel hok hx h
 exact PStep.still hs (by simp [Instr.field,run_underlying hu,hfi,asAgg,h1]) h2

theorem rows_dr {x:V}{cx:Value}(hx:VR g σ.toks w x cx)(hn : ∀ r off len sz,x ≠ .sl r off len sz){rows:List (List D)}(h:V.rows σ x=some rows):(cx = .slice none 0 0∧rows=[])∨DR g.frz w (.list rows) cx:=by
 unfold V.rows at h
 split at h
 ·cases h; have:=hx.inv_d; cases this; exact .inl ⟨rfl,rfl⟩
 ·cases h; exact .inr hx.inv_d
 ·cases h; cases hx with
  | fl _ a h=>exact .inr h
 ·cases h; cases hx with
  | tl _ t st sz k a cap hd ht hle hh hsz ha=>exact .inr hd
 ·exact absurd rfl (hn _ _ _ _)
 ·cases h

theorem iaddr_rel (hs:Sim g σ w){t e:TypeId}(hu:P.underlying t=some (.slice e))(hc:P.cellsOf e≠0){x i v:V}{cx ci:Value}(hx:VR g σ.toks w x cx)(hi:VR g σ.toks w i ci)
  (h:iaddrV σ (P.cellsOf e) x i=some v):PStep P g σ w (Instr.indexAt t cx ci) v:=by
 have run : ∀ (a:Addr) (len cap:Nat) (k:IntKind) (j:Int),0≤j→j<len→(Instr.indexAt t (.slice (some a) len cap) (.int k j)).run P w = .ok (.pointer (some (a.add (j.toNat*P.cellsOf e)))) w:=by
  intro a len cap k j h0 h1
  simp [Instr.indexAt,asIntOf,run_underlying hu,h0,h1,run_sizeOf_cells hc]
 unfold iaddrV at h
 split at h
 ·rename_i j hj
  obtain⟨k,rfl⟩:=asIdx_rel hi hj
  split at h
  ·rename_i r off len s
   split at h
   ·rename_i hb
    obtain⟨rfl,h0,h1⟩:=hb
    cases h
    cases hx with
    | sl _ _ _ _ cap a hh hcap hsz hin hout ha =>
     refine PStep.still hs (run a len cap k j h0 h1) ?_
     have hjl:j.toNat+1≤len:=by omega
     have:=Nat.mul_le_mul_right (P.cellsOf e) hjl
     rw [Nat.add_mul] at this
     rw [ha (by omega),addr_add,Nat.add_assoc]
     exact .ref _ _ hh
   ·cases h
  ·rename_i hn
   split at h
   ·rename_i rows hr
    split at h
    ·rename_i hb
     split at h
     ·rename_i row hrow
      split at h
      ·rename_i hlen
       cases h
       rcases rows_dr hx (fun r off len sz e=>hn r off len sz e) hr with⟨rfl,rfl⟩ | hd
       ·simp at hrow
       ·cases hd with
        | list0 _ _=>simp at hrow
        | list _ b o cap sz cv hcap hsz hf hc' h1 hd =>
         have hs1:=hsz _ row hrow
         have hi:j.toNat<rows.length:=by omega
         have hm:=Nat.mul_le_mul_right sz (show j.toNat+1≤rows.length from hi)
         rw [Nat.add_mul] at hm
         refine PStep.still hs (run ⟨b,o,none⟩ rows.length cap k j hb.1 hb.2) ?_
         rw [addr_add,← hlen,hs1]
         refine .ro row b (o+j.toNat*sz) (fun q=>cv (j.toNat*sz+q)) (fun q hq=>?_) (fun q hq=>?_) (fun q hq=>?_) (fun q d hq=>hd _ row q d hrow hq)
         ·rw [Nat.add_assoc]; exact hf _ (by omega)
         ·rw [Nat.add_assoc]; exact hc' _ (by omega)
         ·exact h1 _ (by omega)
      ·cases h
     ·cases h
    ·cases h
   ·cases h
 ·cases h

theorem iaddrArr_rel (hs:Sim g σ w){t e:TypeId}{n:Nat}(hu:P.underlying t=some (.array n e))(hc:P.cellsOf e≠0){x i v:V}{cx ci:Value}(hx:VR g σ.toks w x cx)(hi:VR g σ.toks w i ci)
  (h:iaddrArrV n (P.cellsOf e) x i=some v):PStep P g σ w (Instr.indexAt t cx ci) v:=by
 have run : ∀ (a:Addr) (k:IntKind) (j:Int),0≤j→j<n→(Instr.indexAt t (.pointer (some a)) (.int k j)).run P w = .ok (.pointer (some (a.add (j.toNat*P.cellsOf e)))) w:=by
  intro a k j h0 h1
  simp [Instr.indexAt,asIntOf,run_underlying hu,h0,h1,Instr.sureAddr,run_sizeOf_cells hc]
 unfold iaddrArrV at h
 split at h
 ·rename_i j hj
  obtain⟨k,rfl⟩:=asIdx_rel hi hj
  split at h
  ·rename_i hb
   split at h
   ·cases h
    cases hx with
    | ref _ _ hh =>
     refine PStep.still hs (run _ k j hb.1 hb.2) ?_
     rw [addr_add,Nat.add_assoc]
     exact .ref _ _ hh
   ·split at h
    ·cases h
     cases hx with
     | ro _ b o cv hf' hc' h1 hd =>
      refine PStep.still hs (run _ k j hb.1 hb.2) ?_
      rw [addr_add]
      exact VR.ro_drop hf' hc' h1 hd _
    ·cases h
   ·cases h
  ·cases h
 ·cases h

theorem index_rel (hs:Sim g σ w){t e:TypeId}{n:Nat}(hu:P.underlying t=some (.array n e))(hok:okT P e=true){x i v:V}{cx ci:Value}(hx:VR g σ.toks w x cx)(hi:VR g σ.toks w i ci)
  (h:indexV (aggT P e) n (P.cellsOf e) x i=some v):PStep P g σ w (Instr.index t cx ci) v:=by
 unfold indexV at h
 split at h
 ·rename_i j hj
  obtain⟨k,rfl⟩:=asIdx_rel hi hj
  split at h
  ·rename_i hb
   obtain⟨cs,cv,rfl,h1,h2⟩:=partOf_rel hok hx h
   exact PStep.still hs (by simp [Instr.index,asIntOf,run_underlying hu,hb.1,hb.2,run_sizeOf' hok,h1]) h2
  ·cases h
 ·cases h

theorem indexStr_rel (hs:Sim g σ w){t:TypeId}(hu:P.underlying t=some .string){x i v:V}{cx ci:Value}(hx:VR g σ.toks w x cx)(hi:VR g σ.toks w i ci)
  (h:indexStrV x i=some v):PStep P g σ w (Instr.index t cx ci) v:=by
 unfold indexStrV at h
 split at h
 ·rename_i s j hj
  obtain⟨k,rfl⟩:=asIdx_rel hi hj
  have:=hx.inv_str
  subst this
  split at h
  ·rename_i h0
   split at h
   ·rename_i b hb
    cases h
    refine PStep.still hs ?_ (.int _ _)
    have hlt:j.toNat<s.length:=by
     rcases Nat.lt_or_ge j.toNat s.length with h | h
     ·exact h
     ·simp [List.getElem?_eq_none h] at hb
    have hg:(⟨s.toArray⟩:ByteArray)[j.toNat]?=some b:=by
     have hsz:j.toNat<(⟨s.toArray⟩:ByteArray).size:=by rw [bytes_size]; exact hlt
     rw [getElem?_pos (⟨s.toArray⟩:ByteArray) j.toNat hsz]
     have:(⟨s.toArray⟩:ByteArray)[j.toNat]=s[j.toNat]:=rfl
     rw [this]
     simpa [List.getElem?_eq_getElem hlt] using hb
    simp [Instr.index,asIntOf,run_underlying hu,h0,hg]
   ·cases h
  ·cases h
 ·cases h

theorem run_sliceBound {x:V}{cx:Value}(hx:VR g tk w x cx){i:Int}(h:asIdx x=some i){y:Nat}(h0:0≤i)(h1:i≤y)(code:BoundsCode):(Instr.sliceBound cx y code).run P w = .ok i.toNat w:=by
 obtain⟨k,rfl⟩:=asIdx_rel hx h
 simp [Instr.sliceBound,asIntOf,h0,h1]

def OptR (g:Gh)(tk:List Nat)(w:World)(x:Option V)(c:Option Value):Prop :=
 match x,c with
 | none,none=>True
 | some v,some cv=>VR g tk w v cv
 | _,_=>False

theorem run_sliceBounds {lo hi:Option V}{clo chi:Option Value}(hlo:OptR g tk w lo clo)(hhi:OptR g tk w hi chi){len cap:Nat}{l h:Int}(isSlice:Bool)
  (hl:boundV 0 lo=some l) (hh:boundV len hi=some h) (h0:0≤l) (h1:l≤h) (h2:h≤cap) :
  (Instr.sliceBounds isSlice len cap clo chi none).run P w = .ok (l.toNat,h.toNat,cap) w:=by
 unfold Instr.sliceBounds
 cases hi with
 | none =>
  cases chi with
  | none =>
   simp [boundV] at hh
   subst hh
   cases lo with
   | none =>
    cases clo with
    | none=>simp [boundV] at hl; subst hl; simp
    | some c=>exact hlo.elim
   | some x =>
    cases clo with
    | none=>exact hlo.elim
    | some c =>
     simp only [Sem.run_bind,Sem.run_pure,Result.andThen_ok,run_sliceBound (P:=P) hlo hl h0 h1,Option.isSome_none,Bool.false_eq_true,if_false]
     simp
  | some c=>exact hhi.elim
 | some y =>
  cases chi with
  | none=>exact hhi.elim
  | some c =>
   have hb:=fun code=>run_sliceBound (P:=P) (y:=cap) hhi hh (by omega) h2 code
   cases lo with
   | none =>
    cases clo with
    | none=>simp [boundV] at hl; subst hl; simp [hb]
    | some c=>exact hlo.elim
   | some x =>
    cases clo with
    | none=>exact hlo.elim
    | some c' =>
     have hb2:=fun code=>run_sliceBound (P:=P) (y:=h.toNat) hlo hl h0 (by omega) code
     simp [hb,hb2]

theorem run_sliceBounds3 {lo hi:Option V}{clo chi:Option Value}(hlo:OptR g tk w lo clo)(hhi:OptR g tk w hi chi){m:V}{cm:Value}(hm:VR g tk w m cm){len cap:Nat}{l h k:Int}(isSlice:Bool)
  (hl:boundV 0 lo=some l) {y:V} (hy:hi=some y) (hh:asIdx y=some h) (hk:asIdx m=some k) (h0:0≤l) (h1:l≤h) (h2:h≤k) (h3:k≤cap) :
  (Instr.sliceBounds isSlice len cap clo chi (some cm)).run P w = .ok (l.toNat,h.toNat,k.toNat) w:=by
 unfold Instr.sliceBounds
 subst hy
 cases chi with
 | none=>exact hhi.elim
 | some c =>
  have hbm:=fun code=>run_sliceBound (P:=P) (y:=cap) hm hk (by omega) h3 code
  have hbh:=fun code=>run_sliceBound (P:=P) (y:=k.toNat) hhi hh (by omega) (by omega) code
  cases lo with
  | none =>
   cases clo with
   | none=>simp [boundV] at hl; subst hl; simp [hbm,hbh]
   | some c=>exact hlo.elim
  | some x =>
   cases clo with
   | none=>exact hlo.elim
   | some c' =>
    have hbl:=fun code=>run_sliceBound (P:=P) (y:=h.toNat) hlo hl h0 (by omega) code
    simp [hbm,hbh,hbl]

end Go.Dn

/- Slices of slices, of texts, of arrays; composite literals; lengths; interface values. -/
namespace Go.Dn
open Go.Lib

set_option linter.unusedSimpArgs false

variable {P:Program} {g:Gh} {σ:St} {tk:List Nat} {w:World}

theorem fitR_get {sz:Nat}{rows:List (List D)}(h:fitR sz rows=true){i:Nat}{row:List D}(hr:rows[i]?=some row):row.length=sz:=by
 unfold fitR at h
 have:=List.all_eq_true.1 h row (List.mem_of_getElem? hr)
 simpa using this

theorem DR.list_drop {f:Nat→Nat→Prop}{rows:List (List D)}{cap:Nat}{sz:Nat}(hfit : ∀ (i:Nat)(row:List D),rows[i]?=some row→row.length=sz){a:Addr}(h:DR f w (.list rows) (.slice (some a) rows.length cap))(lo n c:Nat)(hn:lo+n≤rows.length)(hc:n≤c) :
  DR f w (.list ((rows.drop lo).take n)) (.slice (some (a.add (lo*sz))) n c):=by
 cases h with
 | list0 a cap =>
  obtain rfl:n=0:=by simp at hn; omega
  simp only [List.take_zero]
  exact .list0 _ _
 | list _ b o _ sz' cv hcap hsz hf hcell h1 hd =>
  rw [addr_add]
  have hl:((rows.drop lo).take n).length=n:=by simp; omega
  by_cases hz:n=0
  ·subst hz
   simp only [List.take_zero]
   exact .list [] b _ c sz (fun _=>undef) (Nat.zero_le _) (fun i row h=>by simp at h) (fun k hk=>by simp at hk) (fun k hk=>by simp at hk) (fun k hk=>by simp at hk) (fun i row j d h=>by simp at h)
  ·have hs:sz'=sz:=by
    have h0:rows[lo]?=some (rows[lo]'(by omega)):=by simp
    rw [← hsz lo _ h0,hfit lo _ h0]
   subst hs
   have hbase : ∀ k,k<((rows.drop lo).take n).length*sz'→lo*sz'+k<rows.length*sz':=by
    intro k hk
    rw [hl] at hk
    have:=Nat.mul_le_mul_right sz' hn
    rw [Nat.add_mul] at this
    omega
   have get : ∀ (i:Nat) (row:List D),((rows.drop lo).take n)[i]?=some row→rows[lo+i]?=some row:=by
    intro i row hr
    rw [List.getElem?_take] at hr
    split at hr
    ·rwa [List.getElem?_drop] at hr
    ·cases hr
   have:=DR.list (frz:=f) (w:=w) ((rows.drop lo).take n) b (o+lo*sz') c sz' (fun k=>cv (lo*sz'+k)) (by rw [hl]; exact hc) (fun i row hr=>hsz _ row (get i row hr))
    (fun k hk=>by rw [Nat.add_assoc]; exact hf _ (hbase k hk)) (fun k hk=>by rw [Nat.add_assoc]; exact hcell _ (hbase k hk)) (fun k hk=>h1 _ (hbase k hk))
    (fun i row j d hr hj=>by
     have:=hd (lo+i) row j d (get i row hr) hj
     rw [Nat.add_mul] at this
     rw [← Nat.add_assoc]; exact this)
   rw [hl] at this
   exact this

theorem DR.list_empty {f:Nat→Nat→Prop}(a:Addr)(c:Nat)(ha:a.spot=none):DR f w (.list []) (.slice (some a) 0 c):=.list0 a c

theorem run_slice_expr {t e:TypeId}(hu:P.underlying t=some (.slice e))(hc:P.cellsOf e≠0){a:Option Addr}{len cap l h m:Nat}{clo chi cmx:Option Value}
  (hb:(Instr.sliceBounds true len cap clo chi cmx).run P w = .ok (l,h,m) w) :
  (Instr.sliceAt t (.slice a len cap) clo chi cmx).run P w = .ok (.slice (if m=l then a else a.map (·.add (l*P.cellsOf e))) (h-l) (m-l)) w:=by
 simp [Instr.sliceAt,run_underlying hu,Instr.slice,hb,run_sizeOf_cells hc]

theorem tl_dr {rows:List (List D)}{t st sz:Nat}{cx:Value}(h:VR g tk w (.tl rows t st sz) cx):DR g.frz w (.list rows) cx:=by
 cases h with
 | tl _ _ _ _ k a cap hd ht hle hh hsz ha=>exact hd
theorem fl_dr {rows:List (List D)}{cx:Value}(h:VR g tk w (.fl rows) cx):DR g.frz w (.list rows) cx:=by
 cases h with
 | fl _ a hd=>exact hd

theorem slice_len (hs:Sim g σ w){x:V}{cx:Value}(hx:VR g σ.toks w x cx){n:Nat}(h:lenV σ x=some n) : ∃ a c,cx = .slice a n c∧n≤c:=by
 unfold lenV at h
 split at h
 ·cases h; have:=hx.inv_d; cases this; exact⟨_,_,rfl,Nat.le_refl _⟩
 ·cases h; have:=hx.inv_d; cases this with | list _ b o cap sz cv hcap=>exact⟨_,_,rfl,hcap⟩ | list0 a cap=>exact⟨_,_,rfl,Nat.zero_le _⟩
 ·cases h; have:=fl_dr hx; cases this with | list _ b o cap sz cv hcap=>exact⟨_,_,rfl,hcap⟩ | list0 a cap=>exact⟨_,_,rfl,Nat.zero_le _⟩
 ·cases h; have:=tl_dr hx; cases this with | list _ b o cap sz cv hcap=>exact⟨_,_,rfl,hcap⟩ | list0 a cap=>exact⟨_,_,rfl,Nat.zero_le _⟩
 ·cases h; cases hx with | sl _ _ _ _ cap a hh hcap=>exact⟨_,_,rfl,hcap⟩
 ·cases h

end Go.Dn

/- The slice expression. -/
namespace Go.Dn
open Go.Lib

set_option linter.unusedSimpArgs false

variable {P:Program} {g:Gh} {σ:St} {tk:List Nat} {w:World}

theorem list_slice {f:Nat→Nat→Prop}{rows:List (List D)}{cap sz:Nat}{a:Addr}(hfit:fitR sz rows=true)(h:DR f w (.list rows) (.slice (some a) rows.length cap)){lo hi m:Nat}(h1:lo≤hi)(h2:hi≤rows.length)(h3:hi≤m) :
  DR f w (.list ((rows.drop lo).take (hi-lo))) (.slice (if m=lo then some a else(some a).map (·.add (lo*sz))) (hi-lo) (m-lo)):=by
 split
 ·have:hi-lo=0:=by omega
  rw [this]
  simp only [List.take_zero]
  exact .list0 _ _
 ·simp only [Option.map_some]
  exact DR.list_drop (fun i row hr=>fitR_get hfit hr) h lo (hi-lo) (m-lo) (by omega) (by omega)

theorem slice_shape {f:Nat→Nat→Prop}{rows:List (List D)}{cx:Value}(h:DR f w (.list rows) cx) : ∃ a cap,cx = .slice (some a) rows.length cap∧rows.length≤cap:=by
 cases h with
 | list _ b o cap sz cv hcap=>exact⟨_,cap,rfl,hcap⟩
 | list0 a cap=>exact⟨a,cap,rfl,Nat.zero_le _⟩

theorem take_all {α:Type}(l:List α)(lo:Nat):(l.drop lo).take (l.length-lo)=l.drop lo:=List.take_of_length_le (by simp)

theorem slice_rel (hs : Sim g σ w) {t e : TypeId} (hu : P.underlying t = some (.slice e)) (hc : P.cellsOf e ≠ 0) {x v : V} {cx : Value} (hx : VR g σ.toks w x cx) {lo hi mx : Option V} {clo chi cmx : Option Value}
    (hlo : OptR g σ.toks w lo clo) (hhi : OptR g σ.toks w hi chi) (hmx : OptR g σ.toks w mx cmx) (h : sliceX σ (P.cellsOf e) x lo hi mx = some v) : PStep P g σ w (Instr.sliceAt t cx clo chi cmx) v := by
  unfold sliceX at h
  split at h
  · rename_i len hlen
    split at h
    · rename_i l hh hl hh'
      split at h
      · rename_i hb
        obtain ⟨h0, h1⟩ := hb
        have main : ∀ (m : Nat) (a : Option Addr) (c : Nat), cx = .slice a len c → (Instr.sliceBounds true len c clo chi cmx).run P w = .ok (l.toNat, hh.toNat, m) w →
            (Instr.sliceAt t cx clo chi cmx).run P w = .ok (.slice (if m = l.toNat then a else a.map (·.add (l.toNat * P.cellsOf e))) (hh.toNat - l.toNat) (m - l.toNat)) w := by
          rintro m a c rfl hr
          exact run_slice_expr hu hc hr
        have hle : l.toNat ≤ hh.toNat := by omega
        split at h
        · -- no third index
          have hcm : cmx = none := by
            cases cmx with
            | none => rfl
            | some c => exact hmx.elim
          subst hcm
          unfold sliceV at h
          split at h
          · split at h
            · rename_i hz
              cases h
              have hd := hx.inv_d
              cases hd
              simp [lenV] at hlen
              subst hlen
              have hr := run_sliceBounds (P := P) hlo hhi (len := 0) (cap := 0) true hl hh' h0 h1 (by omega)
              refine PStep.still hs (main 0 none 0 rfl hr) ?_
              have : l.toNat = 0 := by omega
              rw [hz, this]
              exact .d _ _ .nils rfl
            · cases h
          · rename_i hm; cases hm
          · rename_i rows _
            split at h
            · rename_i hcnd
              cases h
              simp [lenV] at hlen
              subst hlen
              obtain ⟨a, cap, rfl, hcap⟩ := slice_shape hx.inv_d
              have hr := run_sliceBounds (P := P) hlo hhi (len := rows.length) (cap := cap) true hl hh' h0 h1 (by omega)
              exact PStep.still hs (main cap _ cap rfl hr) (.d _ _ (list_slice hcnd.1 hx.inv_d hle hcnd.2 (by omega)) (by simp [oneC]))
            · cases h
          · rename_i rows _
            simp [lenV] at hlen
            subst hlen
            split at h
            · cases h
            · rename_i hfit
              simp only [Bool.not_eq_false] at hfit
              have hd := fl_dr hx
              cases hx with
              | fl _ a hd' =>
              obtain ⟨a', cap, he, hcap⟩ := slice_shape hd
              cases he
              split at h
              · rename_i hhl
                cases h
                have hr := run_sliceBounds (P := P) hlo hhi (len := rows.length) (cap := rows.length) true hl hh' h0 h1 (by omega)
                refine PStep.still hs (main rows.length _ rows.length rfl hr) ?_
                have := list_slice hfit hd hle (by omega) (show hh.toNat ≤ rows.length by omega)
                rw [hhl, take_all] at this
                rw [hhl]
                split at this
                · rename_i e1
                  rw [if_pos e1]
                  have hln : rows.length - l.toNat = (rows.drop l.toNat).length := by simp
                  rw [hln] at this ⊢
                  exact .fl _ _ this
                · rename_i e1
                  rw [if_neg e1]
                  simp only [Option.map_some] at this ⊢
                  have hln : rows.length - l.toNat = (rows.drop l.toNat).length := by simp
                  rw [hln] at this ⊢
                  exact .fl _ _ this
              · split at h
                · rename_i hhl
                  cases h
                  have hr := run_sliceBounds (P := P) hlo hhi (len := rows.length) (cap := rows.length) true hl hh' h0 h1 (by omega)
                  exact PStep.still hs (main rows.length _ rows.length rfl hr) (.d _ _ (list_slice hfit hd hle hhl (by omega)) (by simp [oneC]))
                · cases h
          · rename_i rows tt st s _
            simp [lenV] at hlen
            subst hlen
            split at h
            · cases h
            · rename_i hfit
              simp only [not_or, Bool.not_eq_false, ne_eq, Decidable.not_not] at hfit
              obtain ⟨hfit, hsz⟩ := hfit
              have hd := tl_dr hx
              cases hx with
              | tl _ _ _ _ k a cap hd' ht hle' hhh htsz ha =>
              obtain ⟨a', cap0, he, hcap⟩ := slice_shape hd
              cases he
              split at h
              · rename_i hhl
                cases h
                have hr := run_sliceBounds (P := P) hlo hhi (len := rows.length) (cap := cap) true hl hh' h0 h1 (by omega)
                refine PStep.still hs (main cap _ cap rfl hr) ?_
                have := list_slice hfit hd hle (by omega) (show hh.toNat ≤ cap by omega)
                rw [hhl, take_all] at this
                rw [hhl]
                have hln : rows.length - l.toNat = (rows.drop l.toNat).length := by simp
                have hsub : ∀ row ∈ rows.drop l.toNat, row.length = s := fun row hr => hhh row (List.mem_of_mem_drop hr)
                split at this
                · rename_i e1
                  rw [if_pos e1]
                  rw [hln] at this ⊢
                  refine .tl _ tt (st + l.toNat) s k _ _ this ht (by simp; omega) hsub htsz (fun e2 hc2 => ?_)
                  simp at hc2
                  omega
                · rename_i e1
                  rw [if_neg e1]
                  simp only [Option.map_some] at this ⊢
                  rw [hln] at this ⊢
                  refine .tl _ tt (st + l.toNat) s k _ _ this ht (by simp; omega) hsub htsz (fun e2 hc2 => ?_)
                  simp at e2 hc2
                  obtain ⟨a0, a1, a2⟩ := ha (by omega) (by omega)
                  have hne : 0 < rows.length - l.toNat ∨ rows.length = l.toNat := by omega
                  subst a1
                  rw [addr_add]
                  refine ⟨by omega, ?_, by omega⟩
                  simp only [Addr.mk.injEq, and_true, true_and]
                  have hszs : l.toNat * P.cellsOf e = l.toNat * (g.tok tt).sz := by rw [htsz, hsz]
                  rw [hszs, show st + l.toNat - (g.tok tt).s0 = (st - (g.tok tt).s0) + l.toNat by omega, Nat.add_mul]
                  omega
              · split at h
                · rename_i hhl
                  cases h
                  have hr := run_sliceBounds (P := P) hlo hhi (len := rows.length) (cap := cap) true hl hh' h0 h1 (by omega)
                  exact PStep.still hs (main cap _ cap rfl hr) (.d _ _ (list_slice hfit hd hle hhl (by omega)) (by simp [oneC]))
                · cases h
          · rename_i r off len' s _
            simp [lenV] at hlen
            subst hlen
            split at h
            · rename_i hcnd
              obtain ⟨rfl, hhl⟩ := hcnd
              cases h
              cases hx with
              | sl _ _ _ _ cap a hh2 hcap hsz hin hout ha hsp hlim =>
              have hr := run_sliceBounds (P := P) hlo hhi (len := len') (cap := cap) true hl hh' h0 h1 (by omega)
              refine PStep.still hs (main cap _ cap rfl hr) ?_
              have m1 := Nat.mul_le_mul_right (P.cellsOf e) hhl
              have m2 : l.toNat * P.cellsOf e + (hh.toNat - l.toNat) * P.cellsOf e = hh.toNat * P.cellsOf e := by rw [← Nat.add_mul]; congr 1; omega
              have m3 : l.toNat * P.cellsOf e + (cap - l.toNat) * P.cellsOf e = cap * P.cellsOf e := by rw [← Nat.add_mul]; congr 1; omega
              split
              · rename_i e1
                refine .sl r _ _ _ _ _ hh2 (by omega) hsz (by omega) (by omega) (fun hlt => ?_) hsp (by omega)
                rw [e1] at hout
                omega
              · refine .sl r _ _ _ _ _ hh2 (by omega) hsz (by omega) (by omega) (fun hlt => ?_) (by show (Addr.add a _).spot = none; obtain ⟨ab, ao, asp⟩ := a; simp only at hsp; subst hsp; rw [addr_add]) (by omega)
                rw [ha (by omega)]
                show (Addr.add _ _) = _
                rw [addr_add, Nat.add_assoc]
            · cases h
          · rename_i hm; cases hm
          · rename_i hm; cases hm
          · rename_i hm; cases hm
          · cases h
        · -- the capacity given
          rename_i mv
          split at h
          · rename_i k hk
            split at h
            · rename_i hcnd
              obtain ⟨hsome, hhk⟩ := hcnd
              obtain ⟨y, rfl⟩ := Option.isSome_iff_exists.1 hsome
              cases cmx with
              | none => exact hmx.elim
              | some cm =>
              have bnd := fun (c : Nat) (hkc : k ≤ c) => run_sliceBounds3 (P := P) (len := len) hlo hhi hmx true hl rfl hh' hk h0 h1 hhk hkc
              unfold sliceV at h
              split at h
              · rename_i hm; cases hm
              · rename_i m' hm
                cases hm
                split at h
                · rename_i hz
                  cases h
                  have hd := hx.inv_d
                  cases hd
                  simp [lenV] at hlen
                  subst hlen
                  refine PStep.still hs (main k.toNat none 0 rfl (bnd 0 (by omega))) ?_
                  have e1 : l.toNat = 0 := by omega
                  have e2 : hh.toNat = 0 := by omega
                  rw [e1, e2, hz]
                  exact .d _ _ .nils rfl
                · cases h
              · rename_i hm; cases hm
              · rename_i hm; cases hm
              · rename_i hm; cases hm
              · rename_i hm; cases hm
              all_goals first
                | (rename_i rows m' hm
                   cases hm
                   simp [lenV] at hlen
                   subst hlen
                   split at h
                   · rename_i hcnd
                     obtain ⟨hfit, hkh, hhl⟩ := hcnd
                     cases h
                     have hd : DR g.frz w (.list rows) cx := by first | exact hx.inv_d | exact fl_dr hx
                     obtain ⟨a, cap, rfl, hcap⟩ := slice_shape hd
                     refine PStep.still hs (main k.toNat _ cap rfl (bnd cap (by omega))) ?_
                     have := list_slice hfit hd hle hhl (show hh.toNat ≤ k.toNat by omega)
                     have hln : ((rows.drop l.toNat).take (hh.toNat - l.toNat)).length = hh.toNat - l.toNat := by simp; omega
                     rw [hkh] at this ⊢
                     split at this
                     · rename_i e1
                       rw [if_pos e1]
                       rw [← hln] at this ⊢
                       rw [hln] at this ⊢
                       have := VR.fl (g := g) (tk := σ.toks) (w := w) _ _ (by rw [hln]; exact this)
                       rw [hln] at this
                       exact this
                     · rename_i e1
                       rw [if_neg e1]
                       simp only [Option.map_some] at this ⊢
                       have := VR.fl (g := g) (tk := σ.toks) (w := w) _ _ (by rw [hln]; exact this)
                       rw [hln] at this
                       exact this
                   · cases h)
                | (rename_i rows tt st s m' hm
                   cases hm
                   simp [lenV] at hlen
                   subst hlen
                   split at h
                   · rename_i hcnd
                     obtain ⟨hfit, hkh, hhl⟩ := hcnd
                     cases h
                     have hd : DR g.frz w (.list rows) cx := tl_dr hx
                     obtain ⟨a, cap, rfl, hcap⟩ := slice_shape hd
                     refine PStep.still hs (main k.toNat _ cap rfl (bnd cap (by omega))) ?_
                     have := list_slice hfit hd hle hhl (show hh.toNat ≤ k.toNat by omega)
                     have hln : ((rows.drop l.toNat).take (hh.toNat - l.toNat)).length = hh.toNat - l.toNat := by simp; omega
                     rw [hkh] at this ⊢
                     split at this
                     · rename_i e1
                       rw [if_pos e1]
                       have := VR.fl (g := g) (tk := σ.toks) (w := w) _ _ (by rw [hln]; exact this)
                       rw [hln] at this
                       exact this
                     · rename_i e1
                       rw [if_neg e1]
                       simp only [Option.map_some] at this ⊢
                       have := VR.fl (g := g) (tk := σ.toks) (w := w) _ _ (by rw [hln]; exact this)
                       rw [hln] at this
                       exact this
                   · cases h)
                | cases h
            · cases h
          · cases h
      · cases h
    · cases h
  · cases h

end Go.Dn

/- Slices of texts and arrays; composite literals; lengths; least and greatest; interface values. -/
namespace Go.Dn
open Go.Lib

set_option linter.unusedSimpArgs false

variable {P:Program} {g:Gh} {σ:St} {tk:List Nat} {w:World}

theorem extract_list (l:List UInt8)(a b:Nat):(⟨l.toArray⟩:ByteArray).extract a b=⟨((l.drop a).take (b-a)).toArray⟩:=by
 apply ByteArray.ext
 apply Array.toList_inj.1
 rw [Lib.extract_data]

theorem sliceStr_rel (hs:Sim g σ w){t:TypeId}(hu:P.underlying t=some .string){x v:V}{cx:Value}(hx:VR g σ.toks w x cx){lo hi:Option V}{clo chi:Option Value}
  (hlo:OptR g σ.toks w lo clo) (hhi:OptR g σ.toks w hi chi) (h:sliceStrV x lo hi=some v):PStep P g σ w (Instr.sliceAt t cx clo chi none) v:=by
 unfold sliceStrV at h
 split at h
 ·rename_i s
  have:=hx.inv_str
  subst this
  split at h
  ·rename_i l hh hl hh'
   split at h
   ·rename_i hb
    obtain⟨h0,h1,h2⟩:=hb
    cases h
    have hr:=run_sliceBounds (P:=P) hlo hhi (len:=s.length) (cap:=s.length) false hl hh' h0 h1 h2
    refine PStep.still hs ?_ (.str _)
    simp [Instr.sliceAt,run_underlying hu,Instr.slice,bytes_size,hr,extract_list]
   ·cases h
  ·cases h
 ·cases h

theorem sliceArr_rel (hs:Sim g σ w){t e:TypeId}{n:Nat}(hu:P.underlying t=some (.array n e))(hc:P.cellsOf e≠0){x v:V}{cx:Value}(hx:VR g σ.toks w x cx){lo hi:Option V}{clo chi:Option Value}
  (hlo:OptR g σ.toks w lo clo) (hhi:OptR g σ.toks w hi chi) (h:sliceArrV σ n (P.cellsOf e) x lo hi=some v):PStep P g σ w (Instr.sliceAt t cx clo chi none) v:=by
 unfold sliceArrV at h
 split at h
 ·rename_i l hh hl hh'
  split at h
  ·rename_i hb
   obtain⟨h0,h1,h2⟩:=hb
   have hr:=run_sliceBounds (P:=P) hlo hhi (len:=n) (cap:=n) false hl hh' h0 h1 h2
   have run : ∀ a:Addr,(Instr.sliceAt t (.pointer (some a)) clo chi none).run P w = .ok (.slice (some (if n=l.toNat then a else a.add (l.toNat*P.cellsOf e))) (hh.toNat-l.toNat) (n-l.toNat)) w:=by
    intro a
    simp [Instr.sliceAt,run_underlying hu,Instr.sureAddr,hr,run_sizeOf_cells hc]
   have m1:=Nat.mul_le_mul_right (P.cellsOf e) (show hh.toNat≤n by omega)
   have m2:l.toNat*P.cellsOf e+(hh.toNat-l.toNat)*P.cellsOf e=hh.toNat*P.cellsOf e:=by rw [← Nat.add_mul]; congr 1; omega
   have m3:l.toNat*P.cellsOf e+(n-l.toNat)*P.cellsOf e=n*P.cellsOf e:=by rw [← Nat.add_mul]; congr 1; omega
   split at h
   ·rename_i r o
    split at h
    ·rename_i cs hobj
     split at h
     ·rename_i hend
      cases h
      have hlen:=(hs.cells r cs hobj).1
      cases hx with
      | ref _ _ hh2 =>
       refine PStep.still hs (run _) ?_
       refine .sl r _ _ _ _ _ hh2 (by omega) (by omega) (by omega) (by omega) (fun hlt=>?_) (by split <;> first | rfl | rw [addr_add]) (by have:=(hs.lims r cs hobj).1; omega)
       split
       ·rename_i e1
        rw [e1] at hend
        omega
       ·rw [addr_add,Nat.add_assoc]
     ·cases h
    ·cases h
   ·rename_i cs
    split at h
    ·rename_i hcs
     cases h
     cases hx with
     | ro _ b o cv hf hc' h1' hd =>
      refine PStep.still hs (run _) (.d _ _ ?_ (by simp [oneC]))
      have hln:(rowsOf (P.cellsOf e) (hh.toNat-l.toNat) (cs.drop (l.toNat*P.cellsOf e))).length=hh.toNat-l.toNat:=rowsOf_length _ _ _
      by_cases he:n=l.toNat
      ·have:hh.toNat-l.toNat=0:=by omega
       rw [if_pos he,this]
       exact DR.list_empty _ _ rfl
      ·rw [if_neg he,addr_add]
       have:=DR.list (frz:=g.frz) (w:=w) (rowsOf (P.cellsOf e) (hh.toNat-l.toNat) (cs.drop (l.toNat*P.cellsOf e))) b (o+l.toNat*P.cellsOf e) (n-l.toNat) (P.cellsOf e) (fun k=>cv (l.toNat*P.cellsOf e+k)) (by rw [hln]; omega)
        (fun i row hr=>by
         rw [rowsOf_get] at hr
         split at hr
         ·rename_i hi
          cases hr
          have:=Nat.mul_le_mul_right (P.cellsOf e) (show i+1≤hh.toNat-l.toNat from hi)
          rw [Nat.add_mul] at this
          simp
          omega
         ·cases hr)
        (fun k hk=>by rw [hln] at hk; rw [Nat.add_assoc]; exact hf _ (by omega)) (fun k hk=>by rw [hln] at hk; rw [Nat.add_assoc]; exact hc' _ (by omega)) (fun k hk=>by rw [hln] at hk; exact h1' _ (by omega))
        (fun i row j d hr hj=>by
         rw [rowsOf_get] at hr
         split at hr
         ·cases hr
          rw [List.getElem?_take] at hj
          split at hj
          ·rw [List.getElem?_drop,List.getElem?_drop] at hj
           exact hd _ d hj
          ·cases hj
         ·cases hr)
       rw [hln] at this
       exact this
    ·cases h
   ·cases h
  ·cases h
 ·cases h

def PartsR (g:Gh)(tk:List Nat)(w:World)(place:Nat→Option (Nat×Nat)):List (Nat×Nat×V)→List (Nat×Value)→Prop
 | [],[]=>True
 | (off,n,v)::l,(i,cv)::l'=>place i=some (off,n)∧VR g tk w v cv∧PartsR g tk w place l l'
 | _,_=>False

theorem fill_rel {place:Nat→Option (Nat×Nat)} : ∀ {l:List (Nat×Nat×V)}{l':List (Nat×Value)}{cs cs':List V}{vs:Array Value},PartsR g tk w place l l'→VRs g tk w cs vs.toList→(∀ v∈vs.toList,oneC v=true)→fillV cs l=some cs' →
  ∃ vs',Instr.fill place vs l'=some vs'∧VRs g tk w cs' vs'.toList∧(∀ v∈vs'.toList,oneC v=true)
 | [],[],cs,cs',vs,_,h1,h2,h=>by simp [fillV] at h; subst h; exact⟨vs,rfl,h1,h2⟩
 | (off,n,v)::l,(i,cv)::l',cs,cs',vs,hp,h1,h2,h=>by
  obtain⟨hpl,hv,hrest⟩:=hp
  unfold fillV at h
  split at h
  ·rename_i us hus
   split at h
   ·rename_i hc
    obtain⟨hul,hoff⟩:=hc
    obtain⟨hvc,hvo⟩:=hv.cells hus
    have hcl:cv.cells.size=n:=by rw [← Array.length_toList,← hvc.length,hul]
    have hvl:vs.size=cs.length:=by rw [← Array.length_toList,← h1.length]
    have hfold:=foldl_set cv.cells.toList off 0 vs (by simp [hcl]; omega)
    have e:(cv.cells.zipIdx.foldl (fun cs (x:Value×Nat)=>cs.setIfInBounds (off+x.2) x.1) vs).toList=splice vs.toList off cv.cells.toList:=by
     rw [← Array.foldl_toList,Array.toList_zipIdx]
     simpa using hfold
    have ho : ∀ u∈splice vs.toList off cv.cells.toList,oneC u=true:=by
     intro u hu
     unfold splice at hu
     rcases List.mem_append.1 hu with hu | hu
     ·rcases List.mem_append.1 hu with hu | hu
      ·exact h2 u (List.mem_of_mem_take hu)
      ·exact hvo u hu
     ·exact h2 u (List.mem_of_mem_drop hu)
    obtain⟨vs',r1,r2,r3⟩:=fill_rel (vs:=cv.cells.zipIdx.foldl (fun cs (x:Value×Nat)=>cs.setIfInBounds (off+x.2) x.1) vs) hrest (by rw [e]; exact h1.splice off hvc) (by rw [e]; exact ho) h
    refine⟨vs',?_,r2,r3⟩
    unfold Instr.fill
    rw [hpl]
    simp only
    rw [if_neg (by simp [hcl]; omega)]
    exact r1
   ·cases h
  ·cases h
 | [],_::_,_,_,_,hp,_,_,_=>hp.elim
 | _::_,[],_,_,_,hp,_,_,_=>hp.elim

theorem zeroOf_inv {t:TypeId}{z:List D}(h:zeroOf P t=some z) : ∃ i zv,P.info? t=some i∧i.zero=some zv∧leafsD zv.cells.toList=some z:=by
 unfold zeroOf at h
 split at h
 ·rename_i i hi
  split at h
  ·rename_i zv hz
   exact⟨i,zv,hi,hz,h⟩
  ·cases h
 ·cases h

theorem leafsD_vrs {vs:List Value}{ds:List D}(h:leafsD vs=some ds):VRs g tk w (ds.map .d) vs∧(∀ v∈vs,oneC v=true):=by
 obtain⟨h1,h2⟩:=leafsD_rel h
 have ho : ∀ v∈vs,oneC v=true:=fun v hv=>by
  obtain⟨i,hi⟩:=List.getElem?_of_mem hv
  exact leafsD_one h i v hi
 exact⟨DRs.to_v ho (DRs.of_get h1 (fun i d v hd hv=>h2 g.frz w i d v hd hv)),ho⟩

theorem run_mapM_list {α β:Type}(f:α→Sem β)(h:α→β) : ∀ (l:List α),(∀ x∈l,(f x).run P w = .ok (h x) w)→(l.mapM f).run P w = .ok (l.map h) w
 | [],_=>by simp
 | x::r,hx=>by
  have ih:=run_mapM_list f h r (fun y hy=>hx y (by simp [hy]))
  simp [List.mapM_cons,hx x (by simp),ih]

theorem run_mapM {α β:Type}(f:α→Sem β)(h:α→β)(xs:Array α)(hx : ∀ x∈xs.toList,(f x).run P w = .ok (h x) w):(xs.mapM f).run P w = .ok (xs.map h) w:=by
 rw [Array.mapM_eq_mapM_toList]
 have:(xs.toList.map h).toArray=xs.map h:=by apply Array.ext'; simp
 simp [run_mapM_list f h xs.toList hx,this]

theorem hasInfo_size {t:TypeId}(h:hasInfo P t=true):(sizeOf t).run P w = .ok (P.cellsOf t) w:=by
 obtain⟨i,hi⟩:=Option.isSome_iff_exists.1 h
 exact run_sizeOf w hi

theorem run_zeroValue {t:TypeId}{i:TypeInfo}{z:Value}(hi:P.info? t=some i)(hz:i.zero=some z):(zeroValue t).run P w = .ok z w:=by
 simp [zeroValue,typeInfo,hi,hz]

theorem places_rel {n:Nat}{e:Env}{a:Act}(he:EnvR g tk w n e a.tmps){t:TypeId} : ∀ {ps:List (Nat×Operand)}{l:List (Nat×Nat×Opd)},placesOf P t ps=some l →
  PartsR g tk w (placeOf P t) (l.map fun x=>(x.1,x.2.1,x.2.2.ev e)) (ps.map fun x=>(x.1,a.eval x.2))
 | [],l,h=>by simp [placesOf] at h; subst h; trivial
 | (i,x)::r,l,h=>by
  unfold placesOf at h
  split at h
  ·rename_i o n' a' l' hp hx hr
   cases h
   exact⟨hp,opd_rel hx he,places_rel he hr⟩
  ·cases h

theorem PartsR.mono {place place':Nat→Option (Nat×Nat)}(hp : ∀ i x,place i=some x→place' i=some x) : ∀ {l:List (Nat×Nat×V)}{l':List (Nat×Value)},PartsR g tk w place l l'→PartsR g tk w place' l l'
 | [],[],_=>trivial
 | _::_,_::_,h=>⟨hp _ _ h.1,h.2.1,PartsR.mono hp h.2.2⟩
 | [],_::_,h=>h.elim
 | _::_,[],h=>h.elim

theorem build_rel (hs:Sim g σ w){n:Nat}{e:Env}{a:Act}(he:EnvR g σ.toks w n e a.tmps){t:TypeId}{z:List D}{ps:Array (Nat×Operand)}{l:List (Nat×Nat×Opd)}(hz:zeroOf P t=some z)(hl:placesOf P t ps.toList=some l)
  (hok:(match P.underlying t with | some (.struct fs)=>fs.toList.all (fun f=>hasInfo P f.type) | some (.array _ e)=>hasInfo P e | _=>false)=true) {cs:List V}
  (h:fillV (z.map .d) (l.map fun x=>(x.1,x.2.1,x.2.2.ev e))=some cs):PStep P g σ w (Instr.build t (ps.map fun x=>(x.1,a.eval x.2))) (mkAgg cs):=by
 obtain⟨i,zv,hi,hzv,hleaf⟩:=zeroOf_inv hz
 obtain⟨z1,z2⟩:=leafsD_vrs (g:=g) (tk:=σ.toks) (w:=w) hleaf
 have hpr:=places_rel (g:=g) (tk:=σ.toks) (w:=w) he hl
 have hps:(ps.map fun x=>(x.1,a.eval x.2)).toList=ps.toList.map fun x=>(x.1,a.eval x.2):=by simp
 split at hok
 ·rename_i fs hu
  have hall : ∀ f∈fs.toList,hasInfo P f.type=true:=List.all_eq_true.1 hok
  have hpl : ∀ i x,placeOf P t i=some x→(fs.map fun f=>(f.offset,P.cellsOf f.type))[i]?=some x:=by
   intro i x hx
   unfold placeOf at hx
   simp only [hu,hok,if_true] at hx
   split at hx
   ·rename_i f hf
    cases hx
    simp [hf]
   ·cases hx
  obtain⟨vs',r1,r2,r3⟩:=fill_rel (hpr.mono hpl) z1 z2 h
  refine PStep.still hs ?_ (VR.mkAgg_of r3 r2)
  have hm:=run_mapM (P:=P) (w:=w) (fun f:Field=>(do pure (f.offset,← sizeOf f.type):Sem (Nat×Nat))) (fun f=>(f.offset,P.cellsOf f.type)) fs (fun f hf=>by simp [hasInfo_size (hall f hf)])
  unfold Instr.build
  simp only [Sem.run_bind,run_zeroValue hi hzv,Result.andThen_ok,run_underlying hu,hm,hps]
  rw [r1]
  rfl
 ·rename_i n' el hu
  have hpl : ∀ i x,placeOf P t i=some x→(fun i=>some (i*P.cellsOf el,P.cellsOf el)) i=some x:=by
   intro i x hx
   unfold placeOf at hx
   simp only [hu,hok,if_true] at hx
   exact hx
  obtain⟨vs',r1,r2,r3⟩:=fill_rel (hpr.mono hpl) z1 z2 h
  refine PStep.still hs ?_ (VR.mkAgg_of r3 r2)
  unfold Instr.build
  simp only [Sem.run_bind,run_zeroValue hi hzv,Result.andThen_ok,run_underlying hu,hasInfo_size hok,hps]
  rw [r1]
  rfl
 ·cases hok

theorem len_rel (hs:Sim g σ w){t:TypeId}{ty:Ty}(ht:(ty = .str∧P.underlying t=some .string)∨(ty = .slice∧∃ e,P.underlying t=some (.slice e))∨(ty = .map∧∃ k e,P.underlying t=some (.map k e))){x:V}{cx:Value}(hx:VR g σ.toks w x cx){n:Nat}(h:lenT σ ty x=some n)(o:TypeId) :
  PStep P g σ w (Builtin.len_ #[t] o #[cx]) (.d (.int .i64 n)):=by
 rcases ht with⟨rfl,hu⟩ | ⟨rfl,e,hu⟩ | ⟨rfl,k,e,hu⟩
 ·simp only [lenT] at h
  split at h
  ·cases h
   have:=hx.inv_str
   subst this
   exact PStep.still hs (by simp [Builtin.len_,run_underlying hu,goInt,bytes_size]) (.int _ _)
  ·cases h
 ·obtain⟨a,c,rfl,hc⟩:=slice_len hs hx h
  exact PStep.still hs (by simp [Builtin.len_,run_underlying hu,goInt]) (.int _ _)
 ·simp only [lenT] at h
  split at h
  ·cases h
   have:=hx.inv_d
   cases this
   exact PStep.still hs (by simp [Builtin.len_,run_underlying hu,goInt]) (.int _ _)
  ·split at h
   ·rename_i es c he
    cases h
    obtain⟨ho,h1,h2⟩:=hs.oth _ _ he trivial
    cases hx with
    | map _ hh =>
     cases ho <;> try exact h2.elim
     rename_i es' c'
     obtain⟨_,h3,_⟩:=h2
     refine PStep.still hs ?_ (.int _ _)
     simp [Builtin.len_,run_underlying hu,getObj,Sem.run,h1,goInt,h3]
   ·cases h
  ·cases h

theorem minInts_rel : ∀ {r:List V}{cs:List Value}{m m':Int}{k:IntKind},VRs g tk w r cs→minInts m r k=some m'→(cs.foldlM Builtin.min2 (.int k m)).run P w = .ok (.int k m') w
 | [],[],m,m',k,_,h=>by simp [minInts] at h; subst h; simp
 | v::r,c::cs,m,m',k,hr,h=>by
  unfold minInts at h
  split at h
  ·rename_i hv; cases hv
  ·rename_i k' n r' k0 hv
   cases hv
   split at h
   ·rename_i hk
    subst hk
    have:=hr.1.inv_int
    subst this
    simp only [List.foldlM_cons,Builtin.min2,Sem.run_bind,Sem.run_pure,Result.andThen_ok]
    exact minInts_rel hr.2 h
   ·cases h
  ·cases h
 | [],_::_,_,_,_,hr,_=>hr.elim
 | _::_,[],_,_,_,hr,_=>hr.elim

theorem maxInts_rel : ∀ {r:List V}{cs:List Value}{m m':Int}{k:IntKind},VRs g tk w r cs→maxInts m r k=some m'→(cs.foldlM Builtin.max2 (.int k m)).run P w = .ok (.int k m') w
 | [],[],m,m',k,_,h=>by simp [maxInts] at h; subst h; simp
 | v::r,c::cs,m,m',k,hr,h=>by
  unfold maxInts at h
  split at h
  ·rename_i hv; cases hv
  ·rename_i k' n r' k0 hv
   cases hv
   split at h
   ·rename_i hk
    subst hk
    have:=hr.1.inv_int
    subst this
    simp only [List.foldlM_cons,Builtin.max2,Sem.run_bind,Sem.run_pure,Result.andThen_ok]
    exact maxInts_rel hr.2 h
   ·cases h
  ·cases h
 | [],_::_,_,_,_,hr,_=>hr.elim
 | _::_,[],_,_,_,hr,_=>hr.elim

theorem min_rel (hs:Sim g σ w){xs:List V}{cs:Array Value}(hr:VRs g σ.toks w xs cs.toList){v:V}(h:minAll xs=some v)(a:Array TypeId)(t:TypeId):PStep P g σ w (Builtin.min_ a t cs) v:=by
 unfold minAll at h
 split at h
 ·rename_i k n r
  split at h
  ·rename_i m hm
   cases h
   unfold Builtin.min_
   cases hc:cs.toList with
   | nil=>rw [hc] at hr; exact hr.elim
   | cons c cl =>
    rw [hc] at hr
    have:=hr.1.inv_int
    subst this
    exact PStep.still hs (minInts_rel hr.2 hm) (.int _ _)
  ·cases h
 ·cases h

theorem max_rel (hs:Sim g σ w){xs:List V}{cs:Array Value}(hr:VRs g σ.toks w xs cs.toList){v:V}(h:maxAll xs=some v)(a:Array TypeId)(t:TypeId):PStep P g σ w (Builtin.max_ a t cs) v:=by
 unfold maxAll at h
 split at h
 ·rename_i k n r
  split at h
  ·rename_i m hm
   cases h
   unfold Builtin.max_
   cases hc:cs.toList with
   | nil=>rw [hc] at hr; exact hr.elim
   | cons c cl =>
    rw [hc] at hr
    have:=hr.1.inv_int
    subst this
    exact PStep.still hs (maxInts_rel hr.2 hm) (.int _ _)
  ·cases h
 ·cases h

theorem concT_ok {t:TypeId}(h:concT P t=true):P.concrete t=true:=by
 unfold concT at h
 unfold Program.concrete
 split at h <;> simp_all

theorem mkif_rel (hs:Sim g σ w){t:TypeId}(hc:concT P t=true){x v:V}{cx:Value}(hx:VR g σ.toks w x cx)(h:mkifV t x=some v):PStep P g σ w (Instr.makeInterface t cx) v:=by
 have hr:=run_makeInterface (P:=P) w t cx (concT_ok hc)
 unfold mkifV at h
 split at h
 ·cases h; exact PStep.still hs hr (.d _ _ (.iface t _ _ hx.inv_d) rfl)
 ·cases h
  obtain⟨vs,rfl,h1,h2⟩:=hx.inv_da
  exact PStep.still hs hr (.d _ _ (.iface t _ _ (DR.agg_of h1 h2)) rfl)
 ·cases h
 ·cases h
 ·cases h
 ·cases h; exact PStep.still hs hr (.ifc t _ _ hx)

theorem unwrap_rel {d:D}{v:Value}(h:DR g.frz w d v):VR g tk w (unwrapD d) v:=by
 cases h with
 | agg cs vs hl h1 h=>exact .da _ _ (.agg cs vs hl h1 h)
 | int k n=>exact .d _ _ (.int k n) rfl
 | bool b=>exact .d _ _ (.bool b) rfl
 | str l=>exact .d _ _ (.str l) rfl
 | nilp=>exact .d _ _ .nilp rfl
 | nils=>exact .d _ _ .nils rfl
 | nilm=>exact .d _ _ .nilm rfl
 | nilf=>exact .d _ _ .nilf rfl
 | nili=>exact .d _ _ .nili rfl
 | iface t d v h=>exact .d _ _ (.iface t d v h) rfl
 | list rows b o cap sz cv hcap hsz hf hc h1 hd=>exact .d _ _ (.list rows b o cap sz cv hcap hsz hf hc h1 hd) rfl
 | list0 a cap=>exact .d _ _ (.list0 a cap) rfl

theorem extract_rel (hs:Sim g σ w){x v:V}{cx:Value}(hx:VR g σ.toks w x cx){i:Nat}(h:extractV x i=some v):PStep P g σ w (Instr.extract cx i) v:=by
 unfold extractV at h
 split at h
 ·rename_i vs
  cases hx with
  | tup _ cs hl hh =>
   have hi:i<vs.length:=by
    rcases Nat.lt_or_ge i vs.length with h' | h'
    ·exact h'
    ·simp [List.getElem?_eq_none h'] at h
   have hci:cs[i]?=some (cs[i]'(by omega)):=by simp [show i<cs.size by omega]
   exact PStep.still hs (by simp [Instr.extract,hci]) (hh i v _ h hci)
 ·cases h

end Go.Dn

/- Every operation that leaves the store alone does in the world what it does in the abstract: one theorem. -/
namespace Go.Dn
open Go.Lib

set_option linter.unusedSimpArgs false

variable {P:Program} {g:Gh} {σ:St} {tk:List Nat} {w:World}

theorem assert_rel (hs:Sim g σ w){t xt:TypeId}{z:Opd}(hz:zeroX P t=some z)(hc:concT P t=true){ok:Bool}{x v:V}{cx:Value}(hx:VR g σ.toks w x cx)(h:assertV t (z.ev []) ok x=some v) :
  PStep P g σ w (Instr.typeAssert cx xt t ok) v:=by
 have hu : ∃ d,P.underlying t=some d∧∀ ms,d ≠ .interface ms:=by
  unfold concT at hc
  split at hc
  ·cases hc
  ·cases hc
  ·rename_i h1 h2
   cases hd:P.underlying t with
   | none=>exact absurd hd h2
   | some d=>exact⟨d,rfl,fun ms e=>h1 ms (by rw [hd,e])⟩
 obtain⟨d,hu,hni⟩:=hu
 have hzero : ∃ zv,(zeroValue t).run P w = .ok zv w∧VR g σ.toks w (z.ev []) zv:=by
  unfold zeroX at hz
  split at hz
  ·rename_i i hi
   split at hz
   ·rename_i zv hzv
    exact⟨zv,run_zeroValue hi hzv,constO_rel hz []⟩
   ·cases hz
  ·cases hz
 obtain⟨zv,hzr,hzv⟩:=hzero
 have two : ∀ {a b:V} {ca cb:Value},VR g σ.toks w a ca→VR g σ.toks w b cb→VR g σ.toks w (.tup [a,b]) (.tuple #[ca,cb]):=by
  intro a b ca cb ha hb
  refine .tup _ _ rfl (fun i c v hi hv=>?_)
  match i,hi,hv with
  | 0,hi,hv=>simp at hi hv; subst hi hv; exact ha
  | 1,hi,hv=>simp at hi hv; subst hi hv; exact hb
  | n+2,hi,hv=>simp at hi
 have runNil:ok=true→(Instr.typeAssert .nilIface xt t ok).run P w = .ok (.tuple #[zv,.bool false]) w:=by
  rintro rfl
  unfold Instr.typeAssert
  simp only [Sem.run_bind,run_underlying hu,Result.andThen_ok]
  cases d <;> first | (exact absurd rfl (hni _)) | simp [hzr]
 have runHit : ∀ y,(Instr.typeAssert (.iface t y) xt t ok).run P w = .ok (if ok then .tuple #[y,.bool true] else y) w:=by
  intro y
  unfold Instr.typeAssert
  simp only [Sem.run_bind,run_underlying hu,Result.andThen_ok]
  cases d <;> first | (exact absurd rfl (hni _)) | simp
 have runMiss : ∀ t' y,¬ t'=t→ok=true→(Instr.typeAssert (.iface t' y) xt t ok).run P w = .ok (.tuple #[zv,.bool false]) w:=by
  rintro t' y hne rfl
  unfold Instr.typeAssert
  simp only [Sem.run_bind,run_underlying hu,Result.andThen_ok]
  cases d <;> first | (exact absurd rfl (hni _)) | simp [hzr,hne]
 unfold assertV at h
 split at h
 ·rename_i t' y
  have hd:=hx.inv_d
  cases hd with
  | iface _ _ cy hy =>
   split at h
   ·rename_i ht
    subst ht
    cases h
    refine PStep.still hs (runHit cy) ?_
    cases ok
    ·simpa using unwrap_rel hy
    ·simpa using two (unwrap_rel hy) (.bool true)
   ·rename_i hne
    split at h
    ·rename_i hok
     cases h
     exact PStep.still hs (runMiss t' cy hne hok) (two hzv (.bool false))
    ·cases h
 ·have hd:=hx.inv_d
  cases hd
  split at h
  ·rename_i hok
   cases h
   exact PStep.still hs (runNil hok) (two hzv (.bool false))
  ·cases h
 ·rename_i t' y
  cases hx with
  | ifc _ _ cy hy =>
   split at h
   ·rename_i ht
    subst ht
    cases h
    refine PStep.still hs (runHit cy) ?_
    cases ok
    ·simpa using hy
    ·simpa using two hy (.bool true)
   ·rename_i hne
    split at h
    ·rename_i hok
     cases h
     exact PStep.still hs (runMiss t' cy hne hok) (two hzv (.bool false))
    ·cases h
 ·cases h

theorem repl_length (n:Nat)(z:List D):(repl n z).length=n*z.length:=by
 induction n with
 | zero=>simp [repl]
 | succ n ih=>simp [repl,ih,Nat.add_mul]; omega

theorem repl_get (z:List D)(hz:0<z.length) : ∀ (n k:Nat),k<n*z.length→(repl n z)[k]?=(z.map V.d)[k % z.length]?
 | 0,k,h=>by simp at h
 | n+1,k,h=>by
  rw [Nat.add_mul,Nat.one_mul] at h
  unfold repl
  by_cases hk:k<z.length
  ·rw [List.getElem?_append_left (by simpa using hk),Nat.mod_eq_of_lt hk]
  ·rw [List.getElem?_append_right (by simp; omega)]
   simp only [List.length_map]
   rw [repl_get z hz n (k-z.length) (by omega),← Nat.mod_eq_sub_mod (by omega)]

theorem repl_rel {z:List D}{zs:Array Value}(hz:VRs g tk w (z.map .d) zs.toList)(ho : ∀ v∈zs.toList,oneC v=true)(hpos:0<z.length)(n:Nat) :
  VRs g tk w (repl n z) ((Array.range (n*z.length)).map (zs[· % zs.size]!)).toList∧(∀ v∈((Array.range (n*z.length)).map (zs[· % zs.size]!)).toList,oneC v=true):=by
 have hsz:zs.size=z.length:=by have:=hz.length; simp at this; exact this.symm
 have get : ∀ k,k<n*z.length→∃ u,zs[k % z.length]?=some u∧((Array.range (n*z.length)).map (zs[· % zs.size]!)).toList[k]?=some u:=by
  intro k hk
  have hm:k % z.length<zs.size:=by rw [hsz]; exact Nat.mod_lt _ hpos
  refine⟨zs[k % z.length],by simp [hm],?_⟩
  simp only [Array.toList_map,Array.toList_range,List.getElem?_map,List.getElem?_range hk,Option.map_some,hsz]
  rw [getElem!_pos zs _ hm]
 refine⟨VRs.of_get (by rw [repl_length]; simp) (fun i c v hc hv=>?_),fun v hv=>?_⟩
 ·have hi:i<n*z.length:=by
   rcases Nat.lt_or_ge i (n*z.length) with h | h
   ·exact h
   ·rw [List.getElem?_eq_none (by rw [repl_length]; exact h)] at hc; cases hc
  obtain⟨u,h1,h2⟩:=get i hi
  rw [h2] at hv
  cases hv
  rw [repl_get z hpos n i hi] at hc
  exact hz.get _ c v hc (by simpa using h1)
 ·obtain⟨i,hi⟩:=List.getElem?_of_mem hv
  have hlt:i<n*z.length:=by
   rcases Nat.lt_or_ge i (n*z.length) with h | h
   ·exact h
   ·rw [List.getElem?_eq_none (by simp; exact h)] at hi; cases hi
  obtain⟨u,h1,h2⟩:=get i hlt
  rw [h2] at hi
  cases hi
  exact ho v (List.mem_of_getElem? (by simpa using h1))

theorem parts_rel {n:Nat}{e:Env}{a:Act}(he:EnvR g tk w n e a.tmps)(sz:Nat) : ∀ {ps:List (Nat×Operand)}{l:List (Nat×Opd)},partsOf ps=some l →
  PartsR g tk w (fun i=>some (i*sz,sz)) (l.map fun x=>(x.1*sz,sz,x.2.ev e)) (ps.map fun x=>(x.1,a.eval x.2))
 | [],l,h=>by simp [partsOf] at h; subst h; trivial
 | (i,x)::r,l,h=>by
  unfold partsOf at h
  split at h
  ·rename_i a' l' hx hr
   cases h
   exact⟨rfl,opd_rel hx he,parts_rel he sz hr⟩
  ·cases h

theorem newRow_rel (hs:Sim g σ w){e:TypeId}{sz len:Nat}{l:List D}{c:Array Value}(hl:l.length=len*sz)(hd:DRs g.frz w l c.toList)(ho : ∀ v∈c.toList,oneC v=true){w':World}(hw:Grown1 w (.cells c e) w') :
  ∃ g',Sim g' σ w'∧VR g' σ.toks w' (.fl (rowsOf sz len l)) (.slice (some ⟨w.heap.size,0,none⟩) len len)∧Ev g σ w g' σ w':=by
 obtain⟨h1,h2⟩:=hs.push_frz hw
 refine⟨_,h1,?_,h2⟩
 have hcs:c.size=len*sz:=by rw [← hl,hd.length]; simp
 have hln:(rowsOf sz len l).length=len:=rowsOf_length _ _ _
 have cell : ∀ k,k<len*sz→∃ u,c[k]?=some u∧c.getD k undef=u∧oneC u=true:=by
  intro k hk
  have:k<c.size:=by omega
  exact⟨c[k],by simp [this],by simp [Array.getD_eq_getD_getElem?,this],ho _ (by simp)⟩
 have:=list_new (f:=(g.freeze w.heap.size c.size).frz) (rows:=rowsOf sz len l) (sz:=sz) (cap:=len) hw.new (by rw [hln]; exact Nat.le_refl _)
  (fun i row hr=>by
   rw [rowsOf_get] at hr
   split at hr
   ·rename_i hi
    cases hr
    have:=Nat.mul_le_mul_right sz (show i+1≤len from hi)
    rw [Nat.add_mul] at this
    simp [hl]; omega
   ·cases hr)
  (fun k hk=>by rw [hln] at hk; exact .inr ⟨rfl,by omega⟩) (by rw [hln]; omega)
  (fun k hk=>by
   rw [hln] at hk
   obtain⟨u,_,h2,h3⟩:=cell k hk
   rw [h2]; exact h3)
  (fun i row j d hr hj=>by
   rw [rowsOf_get] at hr
   split at hr
   ·rename_i hi
    cases hr
    rw [List.getElem?_take] at hj
    split at hj
    ·rename_i hjs
     rw [List.getElem?_drop] at hj
     have hlt:i*sz+j<len*sz:=by
      have:=Nat.mul_le_mul_right sz (show i+1≤len from hi)
      rw [Nat.add_mul] at this
      omega
     obtain⟨u,h1',h2',_⟩:=cell _ hlt
     rw [h2']
     exact(hd.get _ d u hj (by simpa using h1')).mono h2.later.stay
    ·cases hj
   ·cases hr)
 rw [hln] at this
 have r:=VR.fl (g:=g.freeze w.heap.size c.size) (tk:=σ.toks) (w:=w') (rowsOf sz len l) ⟨w.heap.size,0,none⟩ (by rw [hln]; exact this)
 rw [hln] at r
 exact r

theorem frzV_rel {v:V}{c:Value}(h:VR g tk w v c):VR g tk w (frzV v) c:=by
 cases h with
 | fl rows a h=>exact .d _ _ h rfl
 | tl rows t st sz k a cap hd=>exact .d _ _ hd rfl
 | _=>constructor <;> assumption

theorem frzVs_rel : ∀ {vs:List V}{cs:List Value},VRs g tk w vs cs→VRs g tk w (vs.map frzV) cs
 | [],[],_=>trivial
 | v::vs,c::cs,h=>⟨frzV_rel h.1,frzVs_rel h.2⟩
 | [],_::_,h=>h.elim
 | _::_,[],h=>h.elim

theorem bslice_run (hs:Sim g σ w){a:Act}{t el:TypeId}(hu:P.underlying t=some (.slice el)){z:List D}{len:Nat}{ps:Array (Nat×Operand)}{pl:List (Nat×Nat×V)}(hz:zeroOf P el=some z)
  (hpr:PartsR g σ.toks w (fun i=>some (i*P.cellsOf el,P.cellsOf el)) pl (ps.toList.map fun x=>(x.1,a.eval x.2))) (hc:P.cellsOf el≠0) (hbig : ¬ len*P.cellsOf el>2 ^ 24) (hzl:z.length=P.cellsOf el) {cs:List V} (h:fillV (repl len z) pl=some cs) :
  ∃ vs':Array Value,VRs g σ.toks w cs vs'.toList∧(∀ v∈vs'.toList,oneC v=true)∧cs.length=len*P.cellsOf el∧(Instr.buildSlice t len (ps.map fun x=>(x.1,a.eval x.2))).run P w = .ok (.slice (some ⟨w.heap.size,0,none⟩) len len) { w with heap:=w.heap.push (.cells vs' el) }:=by
 obtain⟨i,zv,hi,hzv,hleaf⟩:=zeroOf_inv hz
 obtain⟨z1,z2⟩:=leafsD_vrs (g:=g) (tk:=σ.toks) (w:=w) hleaf
 have hps:(ps.map fun x=>(x.1,a.eval x.2)).toList=ps.toList.map fun x=>(x.1,a.eval x.2):=by simp
 have hzs:zv.cells.size=P.cellsOf el:=by rw [← hzl]; have:=z1.length; simp at this; exact this.symm
 -- the zero cells
 have hrep:VRs g σ.toks w (repl len z) ((Array.range (len*P.cellsOf el)).map ((if len*P.cellsOf el=0 then(#[]:Array Value) else zv.cells)[· % (if len*P.cellsOf el=0 then(#[]:Array Value) else zv.cells).size]!)).toList ∧
   (∀ v∈((Array.range (len*P.cellsOf el)).map ((if len*P.cellsOf el=0 then(#[]:Array Value) else zv.cells)[· % (if len*P.cellsOf el=0 then(#[]:Array Value) else zv.cells).size]!)).toList,oneC v=true):=by
  by_cases h0:len*P.cellsOf el=0
  ·have hl0:len=0:=by
    rcases Nat.mul_eq_zero.1 h0 with h | h
    ·exact h
    ·exact absurd h hc
   subst hl0
   simp [repl,VRs]
  ·rw [if_neg h0]
   have:=repl_rel z1 z2 (by omega) len
   rw [hzl] at this
   exact this
 obtain⟨vs',r1,r2,r3⟩:=fill_rel hpr hrep.1 hrep.2 h
 have hcl:cs.length=len*P.cellsOf el:=by
  have : ∀ (l:List (Nat×Nat×V)) (cs cs':List V),fillV cs l=some cs'→cs'.length=cs.length:=by
   intro l
   induction l with
   | nil=>intro cs cs' h; simp [fillV] at h; rw [h]
   | cons p l ih =>
    intro cs cs' h
    obtain⟨off,sz,v⟩:=p
    unfold fillV at h
    split at h
    ·split at h
     ·rename_i hcnd
      rw [ih _ _ h,splice_length _ _ _ (by omega)]
     ·cases h
    ·cases h
  rw [this _ _ _ h,repl_length,hzl]
 refine⟨vs',r2,r3,hcl,?_⟩
 unfold Instr.buildSlice
 simp only [Sem.run_bind,run_underlying hu,Result.andThen_ok,run_sizeOf_cells hc,hbig,if_false]
 by_cases h0:len*P.cellsOf el=0
 ·simp only [h0,if_true] at r1 ⊢
  rw [Sem.run_bind]
  simp only [Sem.run_pure,Result.andThen_ok,hps]
  rw [r1]
  simp [newRow,newObj,Sem.run]
 ·simp only [h0,if_false,Sem.run_bind,run_zeroValue hi hzv,Result.andThen_ok,Sem.run_pure] at r1 ⊢
  simp only [hps]
  rw [r1]
  simp [newRow,newObj,Sem.run]

theorem bslice_relP (hs:Sim g σ w){a:Act}{t el:TypeId}(hu:P.underlying t=some (.slice el)){z:List D}{len:Nat}{ps:Array (Nat×Operand)}{pl:List (Nat×Nat×V)}(hz:zeroOf P el=some z)
  (hpr:PartsR g σ.toks w (fun i=>some (i*P.cellsOf el,P.cellsOf el)) pl (ps.toList.map fun x=>(x.1,a.eval x.2))) (hc:P.cellsOf el≠0) (hbig : ¬ len*P.cellsOf el>2 ^ 24) (hzl:z.length=P.cellsOf el) {cs:List V} (h:fillV (repl len z) pl=some cs) {ds:List D} (hds:ofD (cs.map frzV)=some ds) :
  PStep P g σ w (Instr.buildSlice t len (ps.map fun x=>(x.1,a.eval x.2))) (.fl (rowsOf (P.cellsOf el) len ds)):=by
 obtain⟨i,zv,hi,hzv,hleaf⟩:=zeroOf_inv hz
 obtain⟨z1,z2⟩:=leafsD_vrs (g:=g) (tk:=σ.toks) (w:=w) hleaf
 have hps:(ps.map fun x=>(x.1,a.eval x.2)).toList=ps.toList.map fun x=>(x.1,a.eval x.2):=by simp
 have hzs:zv.cells.size=P.cellsOf el:=by rw [← hzl]; have:=z1.length; simp at this; exact this.symm
 -- the zero cells
 have hrep:VRs g σ.toks w (repl len z) ((Array.range (len*P.cellsOf el)).map ((if len*P.cellsOf el=0 then(#[]:Array Value) else zv.cells)[· % (if len*P.cellsOf el=0 then(#[]:Array Value) else zv.cells).size]!)).toList ∧
   (∀ v∈((Array.range (len*P.cellsOf el)).map ((if len*P.cellsOf el=0 then(#[]:Array Value) else zv.cells)[· % (if len*P.cellsOf el=0 then(#[]:Array Value) else zv.cells).size]!)).toList,oneC v=true):=by
  by_cases h0:len*P.cellsOf el=0
  ·have hl0:len=0:=by
    rcases Nat.mul_eq_zero.1 h0 with h | h
    ·exact h
    ·exact absurd h hc
   subst hl0
   simp [repl,VRs]
  ·rw [if_neg h0]
   have:=repl_rel z1 z2 (by omega) len
   rw [hzl] at this
   exact this
 obtain⟨vs',r1,r2,r3⟩:=fill_rel hpr hrep.1 hrep.2 h
 have hcl:cs.length=len*P.cellsOf el:=by
  have : ∀ (l:List (Nat×Nat×V)) (cs cs':List V),fillV cs l=some cs'→cs'.length=cs.length:=by
   intro l
   induction l with
   | nil=>intro cs cs' h; simp [fillV] at h; rw [h]
   | cons p l ih =>
    intro cs cs' h
    obtain⟨off,sz,v⟩:=p
    unfold fillV at h
    split at h
    ·split at h
     ·rename_i hcnd
      rw [ih _ _ h,splice_length _ _ _ (by omega)]
     ·cases h
    ·cases h
  rw [this _ _ _ h,repl_length,hzl]
 replace r2:=frzVs_rel r2
 rw [ofD_some hds] at r2
 have hdl:ds.length=len*P.cellsOf el:=by rw [← hcl]; have:=congrArg List.length (ofD_some hds); simp at this; omega
 have hgr:Grown1 w (.cells vs' el) { w with heap:=w.heap.push (.cells vs' el) }:=⟨rfl,rfl,rfl,rfl⟩
 obtain⟨g',s1,s2,s3⟩:=newRow_rel hs hdl r2.of_d r3 hgr
 refine⟨_,_,g',?_,s1,s2,s3⟩
 unfold Instr.buildSlice
 simp only [Sem.run_bind,run_underlying hu,Result.andThen_ok,run_sizeOf_cells hc,hbig,if_false]
 by_cases h0:len*P.cellsOf el=0
 ·simp only [h0,if_true] at r1 ⊢
  rw [Sem.run_bind]
  simp only [Sem.run_pure,Result.andThen_ok,hps]
  rw [r1]
  simp [newRow,newObj,Sem.run]
 ·simp only [h0,if_false,Sem.run_bind,run_zeroValue hi hzv,Result.andThen_ok,Sem.run_pure] at r1 ⊢
  simp only [hps]
  rw [r1]
  simp [newRow,newObj,Sem.run]

theorem bslice_rel (hs:Sim g σ w){n:Nat}{e:Env}{a:Act}(he:EnvR g σ.toks w n e a.tmps){t el:TypeId}(hu:P.underlying t=some (.slice el)){z:List D}{len:Nat}{ps:Array (Nat×Operand)}{l:List (Nat×Opd)}(hz:zeroOf P el=some z)
  (hl:partsOf ps.toList=some l) (hc:P.cellsOf el≠0) (hbig : ¬ len*P.cellsOf el>2 ^ 24) (hzl:z.length=P.cellsOf el) {cs:List V} (h:fillV (repl len z) (l.map fun x=>(x.1*P.cellsOf el,P.cellsOf el,x.2.ev e))=some cs) {ds:List D} (hds:ofD (cs.map frzV)=some ds) :
  PStep P g σ w (Instr.buildSlice t len (ps.map fun x=>(x.1,a.eval x.2))) (.fl (rowsOf (P.cellsOf el) len ds)) :=
 bslice_relP hs hu hz (parts_rel he (P.cellsOf el) hl) hc hbig hzl h hds

end Go.Dn

/- Maps: keys. -/
namespace Go.Dn
open Go.Lib Go.Maps Go.MapKept

set_option linter.unusedSimpArgs false

variable {P:Program} {g:Gh} {σ:St} {tk:List Nat} {w:World}

theorem compKey_inv {t:TypeId}{ka:Bool}{ks:List Lf}(h:compKey P t=some (ka,ks)) :
  (ka=false∧∃ k,ks=[k]∧P.underlying t=some (match k with | .int q=>.int q | .bool=>.bool | .str=>.string)) ∨
  (ka=true∧(match P.underlying t with | some (.array _ _) | some (.struct _)=>true | _=>false)=true∧leavesOf P (P.types.size+1) t=some ks∧P.keyTypeAt (P.types.size+1) t=true∧P.tiled (P.types.size+1) t=true∧P.types.size+2≤10000∧P.cellsOf t=ks.length):=by
 have wide:compKey.wide P t=some (ka,ks)→ka=true∧leavesOf P (P.types.size+1) t=some ks∧P.keyTypeAt (P.types.size+1) t=true∧P.tiled (P.types.size+1) t=true∧P.types.size+2≤10000∧P.cellsOf t=ks.length:=by
  intro h
  unfold compKey.wide at h
  split at h
  ·rename_i ks' hl
   split at h
   ·rename_i hc
    cases h
    simp only [Bool.and_eq_true,decide_eq_true_eq,beq_iff_eq] at hc
    exact⟨rfl,hl,hc.1.1.1,hc.1.1.2,hc.1.2,hc.2⟩
   ·cases h
  ·cases h
 unfold compKey at h
 split at h
 ·rename_i k hu; cases h; exact .inl ⟨rfl,_,rfl,hu⟩
 ·rename_i hu; cases h; exact .inl ⟨rfl,_,rfl,hu⟩
 ·rename_i hu; cases h; exact .inl ⟨rfl,_,rfl,hu⟩
 ·rename_i hu; obtain⟨h1,h2⟩:=wide h; exact .inr ⟨h1,by simp [hu],h2⟩
 ·rename_i hu; obtain⟨h1,h2⟩:=wide h; exact .inr ⟨h1,by simp [hu],h2⟩
 ·cases h

theorem compKey_law {t:TypeId}{ka:Bool}{ks:List Lf}(h:compKey P t=some (ka,ks)):Keyed P t:=by
 rcases compKey_inv h with⟨rfl,k,rfl,hu⟩ | ⟨rfl,hw,hl,hk,ht,hz,hc⟩
 ·cases k with
  | int q=>exact int_keyed hu
  | bool=>exact bool_keyed hu
  | str=>exact string_keyed hu
 ·exact Keyed.of_law (Go.deep_law (m:=P.types.size+1) (by omega) hk ht hw)

theorem keyOk_inv {ka:Bool}{ks:List Lf}{k:V}(h:keyOk ka ks k=true):(ka=false∧∃ d,k = .d d∧fitsAll ks [d]=true)∨(ka=true∧∃ l,k = .da l∧fitsAll ks l=true):=by
 cases k <;> simp [keyOk] at h
 ·exact .inl ⟨h.1,_,rfl,h.2⟩
 ·exact .inr ⟨h.1,_,rfl,h.2⟩

theorem keyOk_lit {t:TypeId}{ka:Bool}{ks:List Lf}(h:compKey P t=some (ka,ks)){k:V}(hk:keyOk ka ks k=true){ck:Value}(hv:VR g tk w k ck) : ∃ l,keyOf P t ck=some l:=by
 rcases compKey_inv h with⟨rfl,f,rfl,hu⟩ | ⟨rfl,hw,hl,hkt,ht,hz,hc⟩
 ·rcases keyOk_inv hk with⟨_,d,rfl,hf⟩ | ⟨h,_⟩
  ·have hd:=hv.inv_d
   cases f with
   | int q =>
    cases d <;> simp [fitsAll,Lf.fits] at hf
    obtain⟨⟨rfl,h1⟩,h2⟩:=hf
    cases hd
    exact⟨_,by simp [keyOf,hu,mapKey,Lit.wf,h1,h2]; rfl⟩
   | bool =>
    cases d <;> simp [fitsAll,Lf.fits] at hf
    cases hd
    exact⟨_,by simp [keyOf,hu,mapKey]; rfl⟩
   | str =>
    cases d <;> simp [fitsAll,Lf.fits] at hf
    rename_i s
    cases hd
    have:(⟨s.toArray⟩:ByteArray).size≤maxLen:=by rw [bytes_size]; simp only [maxLen]; omega
    exact⟨_,by simp [keyOf,hu,mapKey,this]; rfl⟩
  ·cases h
 ·rcases keyOk_inv hk with⟨h,_⟩ | ⟨_,l,rfl,hf⟩
  ·cases h
  ·obtain⟨vs,rfl,h1,h2⟩:=hv.inv_da
   have hlits:=keyLits_leaves _ t ks hl l vs.toList hf h2
   have hz:vs.size=P.cellsOf t:=by rw [hc,fitsAll_length hf,h2.length]; simp
   have hform:(Value.agg vs).formed P t=true:=by
    unfold Value.formed
    split at hw <;> simp_all
   have hkt':P.keyType t=true:=hkt
   refine⟨.string (keyBytes (l.map litOf)),?_⟩
   unfold keyOf
   split at hw <;> simp_all [Value.cells]

theorem flat_val {f:Nat→Nat→Prop} : ∀ {ks:List Lf}{a:List D}{xs ys:List Value},fitsAll ks a=true→DRs f w a xs→DRs f w a ys→xs=ys
 | [],[],[],[],_,_,_=>rfl
 | k::ks,d::a,x::xs,y::ys,hf,h1,h2=>by
  simp only [fitsAll,Bool.and_eq_true] at hf
  have e:x=y:=by
   have a1:=h1.1
   have a2:=h2.1
   cases k <;> cases d <;> simp [Lf.fits] at hf <;> cases a1 <;> cases a2 <;> rfl
  rw [e,flat_val hf.2 h1.2 h2.2]
 | [],_::_,_,_,hf,_,_=>by simp [fitsAll] at hf
 | _::_,[],_,_,hf,_,_=>by simp [fitsAll] at hf
 | [],[],_::_,_,_,h,_=>h.elim
 | [],[],[],_::_,_,_,h=>h.elim
 | _::_,_::_,[],_,_,h,_=>h.elim
 | _::_,_::_,_::_,[],_,_,h=>h.elim

theorem flat_dat {f:Nat→Nat→Prop} : ∀ {ks:List Lf}{a b:List D}{xs:List Value},fitsAll ks a=true→fitsAll ks b=true→DRs f w a xs→DRs f w b xs→a=b
 | [],[],[],_,_,_,_,_=>rfl
 | k::ks,d::a,e::b,x::xs,hf,hg,h1,h2=>by
  simp only [fitsAll,Bool.and_eq_true] at hf hg
  have e:d=e:=by
   have a1:=h1.1
   have a2:=h2.1
   cases k <;> cases d <;> simp [Lf.fits] at hf <;> cases e <;> simp [Lf.fits] at hg <;> cases a1 <;> cases a2 <;> rfl
  rw [e,flat_dat hf.2 hg.2 h1.2 h2.2]
 | [],_::_,_,_,hf,_,_,_=>by simp [fitsAll] at hf
 | [],[],_::_,_,_,hf,_,_=>by simp [fitsAll] at hf
 | _::_,[],_,_,hf,_,_,_=>by simp [fitsAll] at hf
 | _::_,_::_,[],_,_,hf,_,_=>by simp [fitsAll] at hf
 | _::_,_::_,_::_,[],_,_,h,_=>h.elim

theorem key_eq {ka:Bool}{ks:List Lf}{k k':V}(h:keyOk ka ks k=true)(h':keyOk ka ks k'=true){x x':Value}(hx:VR g tk w k x)(hx':VR g tk w k' x'):x=x'↔k=k':=by
 rcases keyOk_inv h with⟨rfl,d,rfl,hf⟩ | ⟨rfl,l,rfl,hf⟩
 ·rcases keyOk_inv h' with⟨_,d',rfl,hf'⟩ | ⟨h,_⟩
  ·constructor
   ·rintro rfl
    have:=flat_dat (w:=w) (f:=g.frz) (xs:=[x]) hf hf' ⟨hx.inv_d,trivial⟩ ⟨hx'.inv_d,trivial⟩
    simp at this
    rw [this]
   ·intro e
    cases e
    have:=flat_val (w:=w) (f:=g.frz) (xs:=[x]) (ys:=[x']) hf ⟨hx.inv_d,trivial⟩ ⟨hx'.inv_d,trivial⟩
    simpa using this
  ·cases h
 ·rcases keyOk_inv h' with⟨h,_⟩ | ⟨_,l',rfl,hf'⟩
  ·cases h
  ·obtain⟨vs,rfl,_,h2⟩:=hx.inv_da
   obtain⟨vs',rfl,_,h2'⟩:=hx'.inv_da
   constructor
   ·intro e
    cases e
    rw [flat_dat (w:=w) hf hf' h2 h2']
   ·intro e
    cases e
    have:=flat_val (w:=w) hf h2 h2'
    congr 1
    apply Array.ext'
    exact this

theorem findM_none {k:V} : ∀ {es:List (Nat×V×V)},(∀ x∈es,x.2.1≠k)→findM k es=none∧delM k es=es
 | [],_=>⟨rfl,rfl⟩
 | (b,k',v)::r,h=>by
  have h0 : ¬ k'=k:=h (b,k',v) (by simp)
  obtain⟨h1,h2⟩:=findM_none (es:=r) fun x hx=>h x (by simp [hx])
  simp [findM,delM,h0,h1,h2]

theorem findM_at {k v:V}{b:Nat} : ∀ {es:List (Nat×V×V)}{j:Nat},(es.map fun x=>x.2.1).Nodup→es[j]?=some (b,k,v) →
  findM k es=some v∧(∀ x,putM k x es=es.set j (b,k,x))∧delM k es=es.eraseIdx j
 | [],j,_,h=>by simp at h
 | (b',k',v')::r,0,hn,h=>by
  simp at h
  obtain⟨rfl,rfl,rfl⟩:=h
  simp [findM,putM,delM]
 | (b',k',v')::r,j+1,hn,h=>by
  simp at h
  simp only [List.map_cons,List.nodup_cons] at hn
  have hne : ¬ k'=k:=fun e=>hn.1 (by
   rw [e]
   exact List.mem_map.2 ⟨_,List.mem_of_getElem? h,rfl⟩)
  obtain⟨h1,h2,h3⟩:=findM_at hn.2 h
  simp [findM,putM,delM,hne,h1,h2,h3]

theorem find_rel {t:TypeId}{ka:Bool}{ks:List Lf}(hc:compKey P t=some (ka,ks)){k:V}{ck:Value}(hk:keyOk ka ks k=true)(hv:VR g tk w k ck){es:List (Nat×V×V)}{clock:Nat}{es':Array MapEntry}{clock':Nat}
  (he:keysOk ka ks es) (h:OthR g tk w (.map es clock) (.map es' clock')) (w':World) :
  ((Instr.findKey t ck es'.toList).run P w' = .ok none w'∧∀ x∈es,x.2.1≠k) ∨
  ∃ (j b:Nat) (v:V) (x:MapEntry),(Instr.findKey t ck es'.toList).run P w' = .ok (some (j,x.val)) w'∧es[j]?=some (b,k,v)∧es'[j]?=some x∧x.born=b∧x.key=ck∧VR g tk w v x.val∧v.cells.isSome=true:=by
 obtain⟨_,hl,hn,hh⟩:=h
 obtain⟨lit,hlit⟩:=keyOk_lit hc hk hv
 have both : ∀ (i:Nat) (x:MapEntry),es'[i]?=some x→∃ b k' v,es[i]?=some (b,k',v)∧x.born=b∧VR g tk w k' x.key∧VR g tk w v x.val∧v.cells.isSome=true∧keyOk ka ks k'=true:=by
  intro i x hx
  have hi:i<es.length:=by rw [hl]; exact(Array.getElem?_eq_some_iff.1 hx).1
  obtain⟨y,a1,a2,a3,a4,a5⟩:=hh i es[i].1 es[i].2.1 es[i].2.2 (by simp [hi])
  rw [hx] at a1
  cases a1
  exact⟨es[i].1,es[i].2.1,es[i].2.2,by simp [hi],a2,a3,a4,a5,he _ (List.getElem_mem hi)⟩
 have hall : ∀ x∈es'.toList,∃ l,keyOf P t x.key=some l:=fun x hx=>by
  obtain⟨i,hi⟩:=List.getElem?_of_mem hx
  obtain⟨b,k',v,_,_,h3,_,_,h5⟩:=both i x (by simpa using hi)
  exact keyOk_lit hc h5 h3
 rcases (compKey_law hc).find w' hlit es'.toList hall with⟨h1,h2⟩ | ⟨j,x,h1,h2,h3⟩
 ·refine .inl ⟨h1,fun x hx e=>?_⟩
  obtain⟨i,hi⟩:=List.getElem?_of_mem hx
  obtain⟨y,a1,a2,a3,a4,a5⟩:=hh i x.1 x.2.1 x.2.2 hi
  have:=(key_eq (he x hx) hk a3 hv).2 e
  exact h2 y (by rw [Array.mem_toList_iff]; exact Array.mem_of_getElem? a1) this
 ·obtain⟨b,k',v,a1,a2,a3,a4,a5,a6⟩:=both j x (by simpa using h2)
  have e:k'=k:=(key_eq a6 hk a3 hv).1 h3
  subst e
  exact .inr ⟨j,b,v,x,h1,a1,by simpa using h2,a2,h3,a4,a5⟩

theorem check_key {t:TypeId}{ka:Bool}{ks:List Lf}(hc:compKey P t=some (ka,ks)){k:V}{ck:Value}(hk:keyOk ka ks k=true)(hv:VR g tk w k ck)(w':World)(em:Bool):(Instr.checkKey em 10000 t ck).run P w' = .ok () w':=by
 obtain⟨lit,hlit⟩:=keyOk_lit hc hk hv
 exact(compKey_law hc).check w' em hlit

theorem zeroX_rel {t:TypeId}{z:Opd}(hz:zeroX P t=some z)(w':World) : ∃ zv,(zeroValue t).run P w' = .ok zv w'∧VR g tk w (z.ev []) zv:=by
 unfold zeroX at hz
 split at hz
 ·rename_i i hi
  split at hz
  ·rename_i zv hzv
   exact⟨zv,run_zeroValue hi hzv,constO_rel hz []⟩
  ·cases hz
 ·cases hz

theorem VR.two {a b:V}{ca cb:Value}(ha:VR g tk w a ca)(hb:VR g tk w b cb):VR g tk w (.tup [a,b]) (.tuple #[ca,cb]):=by
 refine .tup _ _ rfl (fun i c v hi hv=>?_)
 match i,hi,hv with
 | 0,hi,hv=>simp at hi hv; subst hi hv; exact ha
 | 1,hi,hv=>simp at hi hv; subst hi hv; exact hb
 | n+2,hi,hv=>simp at hi

theorem lookup_rel (hs:Sim g σ w){t kt et:TypeId}(hu:P.underlying t=some (.map kt et)){ka:Bool}{ks:List Lf}(hc:compKey P kt=some (ka,ks)){z:Opd}(hz:zeroX P et=some z){ok:Bool}{x k v:V}{cx ck:Value}
  (hx:VR g σ.toks w x cx) (hk:VR g σ.toks w k ck) (h:lookupV σ ka ks (z.ev []) ok x k=some v):PStep P g σ w (Instr.lookup t cx ck ok) v:=by
 obtain⟨zv,z1,z2⟩:=zeroX_rel (g:=g) (tk:=σ.toks) (w:=w) hz w
 unfold lookupV at h
 cases hm:lookM σ ka ks x k with
 | none=>rw [hm] at h; cases h
 | some r =>
  rw [hm] at h
  unfold lookM at hm
  split at hm
  ·cases hm
  ·rename_i hko
   have hko:keyOk ka ks k=true:=by simpa using hko
   have fin : ∀ {u:V} {cu:Value} {b:Bool},VR g σ.toks w u cu→VR g σ.toks w (if ok then .tup [u,.d (.bool b)] else u) (if ok then .tuple #[cu,.bool b] else cu):=by
    intro u cu b hu
    cases ok
    ·exact hu
    ·exact VR.two hu (.bool b)
   split at hm
   ·cases hm
    cases h
    have:=hx.inv_d
    cases this
    refine⟨_,w,g,?_,hs,fin z2,Ev.refl _ _ _⟩
    simp [Instr.lookup,run_underlying hu,check_key hc hko hk w,z1,(by
     have:=find_rel (P:=P) (g:=g) (tk:=σ.toks) (w:=w) hc hko hk (es:=[]) (clock:=0) (es' := #[]) (clock':=0) (fun x hx=>by simp at hx) ⟨rfl,rfl,by simp,fun i b k v h=>by simp at h⟩ w
     rcases this with⟨h1,_⟩ | ⟨j,b,v,x,_,h2,_⟩
     ·exact h1
     ·simp at h2:(Instr.findKey kt ck []).run P w = .ok none w)]
   ·rename_i r'
    split at hm
    ·rename_i es clock ho
     split at hm
     ·rename_i hks
      cases hm
      cases hx with
      | map _ hh =>
       obtain⟨hob,h1,h2⟩:=hs.oth _ _ ho trivial
       cases hob <;> try exact h2.elim
       rename_i es' clock'
       rcases find_rel hc hko hk hks h2 w with⟨f1,f2⟩ | ⟨j,b,v',y,f1,f2,f3,f4,f5,f6,f7⟩
       ·rw [(findM_none f2).1] at h
        cases h
        refine⟨_,w,g,?_,hs,fin z2,Ev.refl _ _ _⟩
        simp [Instr.lookup,run_underlying hu,getObj,Sem.run,h1,check_key hc hko hk w,z1,f1]
       ·rw [(findM_at h2.2.2.1 f2).1] at h
        cases h
        refine⟨_,w,g,?_,hs,fin f6,Ev.refl _ _ _⟩
        simp [Instr.lookup,run_underlying hu,getObj,Sem.run,h1,check_key hc hko hk w,z1,f1]
     ·cases hm
    ·cases hm
   ·cases hm

end Go.Dn
