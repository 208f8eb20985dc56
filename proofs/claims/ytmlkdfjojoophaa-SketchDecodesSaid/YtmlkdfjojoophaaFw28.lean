import Derived.Test.YtmlkdfjojoophaaFw241
/- Slices of objects, taken over by a list of slices. -/
namespace Go.Dn
open Go.Lib

set_option linter.unusedSimpArgs false

variable {P:Program} {g:Gh} {σ:St} {w:World}

theorem PartsR.later {g g':Gh}{tk tk':List Nat}{w w':World}(hl:Later g tk w g' tk' w'){place:Nat→Option (Nat×Nat)} : ∀ {l:List (Nat×Nat×V)}{l':List (Nat×Value)},PartsR g tk w place l l'→PartsR g' tk' w' place l l'
 | [],[],_=>trivial
 | (_,_,_)::_,(_,_)::_,h=>⟨h.1,h.2.1.later hl,PartsR.later hl h.2.2⟩
 | [],_::_,h=>h.elim
 | _::_,[],h=>h.elim

theorem thaw_rel {place:Nat→Option (Nat×Nat)} : ∀ {l:List (Nat×Nat×V)}{l':List (Nat×Value)}{g:Gh} {σ σ':St}{w:World}{pl:List (Nat×Nat×V)},Sim g σ w→PartsR g σ.toks w place l l'→thaw σ l=some (pl,σ') →
  ∃ g',Sim g' σ' w∧Ev g σ w g' σ' w∧PartsR g' σ'.toks w place pl l'
 | [],[],g,σ,σ',w,pl,hs,hp,h=>by
  simp only [thaw,Option.some.injEq,Prod.mk.injEq] at h
  obtain⟨rfl,rfl⟩:=h
  exact⟨g,hs,Ev.refl _ _ _,trivial⟩
 | (o,n,v)::l,(i,cv)::l',g,σ,σ',w,pl,hs,hp,h=>by
  obtain⟨h1,h2,h3⟩:=hp
  have plain:(∀ {pl0:List (Nat×Nat×V)} {s:St},thaw σ l=some (pl0,s)→pl=(o,n,v)::pl0→σ'=s→∃ g',Sim g' σ' w∧Ev g σ w g' σ' w∧PartsR g' σ'.toks w place pl ((i,cv)::l')):=by
   intro pl0 s ht e1 e2
   subst e1 e2
   obtain⟨g',a1,a2,a3⟩:=thaw_rel hs h3 ht
   exact⟨g',a1,a2,h1,h2.later a2.later,a3⟩
  cases v with
  | sl r off len sz =>
   simp only [thaw] at h
   split at h
   ·rename_i rows hrows
    split at h
    ·rename_i l0 s ht
     simp only [Option.some.injEq,Prod.mk.injEq] at h
     obtain⟨rfl,rfl⟩:=h
     obtain⟨d1,d2,d3⟩:=hs.thaw1 h2 hrows
     obtain⟨g',a1,a2,a3⟩:=thaw_rel (σ:=σ.setObj r .dead) d1 (h3.later d2.later) ht
     exact⟨g',a1,d2.trans a2,h1,d3.later a2.later,a3⟩
    ·cases h
   ·cases h
  | _ =>
   simp only [thaw] at h
   split at h
   ·rename_i l0 s ht
    simp only [Option.some.injEq,Prod.mk.injEq] at h
    obtain⟨rfl,rfl⟩:=h
    exact plain ht rfl rfl
   ·cases h
 | [],_::_,_,_,_,_,_,_,h,_=>h.elim
 | _::_,[],_,_,_,_,_,_,h,_=>h.elim

theorem evalF_rel (hs:Sim g σ w){n:Nat}{e:Env}{a:Act}(he:EnvR g σ.toks w n e a.tmps){o:Oper}{dst:Option Nat}{op:POp}(hc:compOp P o=some (.p dst op)){v:V} {σ':St}(h:evalF op e σ=some (v,σ')) :
  dst=o.dst∧∃ cv w' g',(execOp a.eval o).run P w = .ok (.value cv) w'∧Sim g' σ' w'∧VR g' σ'.toks w' v cv∧Ev g σ w g' σ' w':=by
 cases op with
 | bslice t0 len0 sz0 zero0 parts0 =>
  obtain⟨od,oop,oty,opos,oaft,ogd⟩:=o
  cases oop <;> simp only [compOp] at hc
  case buildSlice t len parts =>
   split at hc
   ·rename_i el hu
    split at hc
    ·rename_i z l hz hl
     split at hc
     ·cases hc
     ·rename_i hcnd
      simp only [not_or,Decidable.not_not] at hcnd
      simp only [Option.some.injEq,Ins.p.injEq,POp.bslice.injEq] at hc
      obtain⟨rfl,rfl,rfl,rfl,rfl,rfl⟩:=hc
      simp only [evalF] at h
      split at h
      ·rename_i pl s hth
       split at h
       ·rename_i cs hcs
        split at h
        ·rename_i ds hds
         simp only [Option.some.injEq,Prod.mk.injEq] at h
         obtain⟨rfl,rfl⟩:=h
         obtain⟨g',a1,a2,a3⟩:=thaw_rel hs (parts_rel he _ hl) hth
         obtain⟨cv,w',g2,b1,b2,b3,b4⟩:=(bslice_relP (P:=P) (a:=a) a1 hu hz a3 hcnd.1 hcnd.2.1 hcnd.2.2 hcs hds).next
         exact⟨rfl,cv,w',g2,b1,b2,b3,a2.trans b4⟩
        ·cases h
       ·cases h
      ·cases h
    ·cases hc
   ·cases hc
  case call c =>
   exfalso
   revert hc
   unfold compCall compBuiltin
   (repeat' split) <;> simp
  all_goals (exfalso; (repeat' (split at hc)) <;> first | contradiction | (cases hc; done) | (simp at hc; done) | (rename_i hh _ _ _ _ _ _ _; cases hh; done) | (simp_all; done))
 | _=>simp [evalF] at h

theorem evalB_rel (hs:Sim g σ w){n:Nat}{e:Env}{a:Act}(he:EnvR g σ.toks w n e a.tmps){o:Oper}{dst:Option Nat}{op:POp}(hc:compOp P o=some (.p dst op)){v:V} {σ':St}(h:evalB op e σ=some (v,σ')) :
  dst=o.dst∧∃ cv w' g',(execOp a.eval o).run P w = .ok (.value cv) w'∧Sim g' σ' w'∧VR g' σ'.toks w' v cv∧Ev g σ w g' σ' w':=by
 cases op with
 | bslice t0 len0 sz0 zero0 parts0 =>
  obtain⟨od,oop,oty,opos,oaft,ogd⟩:=o
  cases oop <;> simp only [compOp] at hc
  case buildSlice t len parts =>
   split at hc
   ·rename_i el hu
    split at hc
    ·rename_i z l hz hl
     split at hc
     ·cases hc
     ·rename_i hcnd
      simp only [not_or,Decidable.not_not] at hcnd
      simp only [Option.some.injEq,Ins.p.injEq,POp.bslice.injEq] at hc
      obtain⟨rfl,rfl,rfl,rfl,rfl,rfl⟩:=hc
      simp only [evalB] at h
      split at h
      ·rename_i cs hcs
       obtain⟨hp,rfl⟩:=newObj_inv h
       obtain⟨vs',r1,r2,r3,r4⟩:=bslice_run (P:=P) (a:=a) hs hu hz (parts_rel he _ hl) hcnd.1 hcnd.2.1 hcnd.2.2 hcs
       obtain⟨s1,s2⟩:=hs.new_obj hp r1 r2 (grown_push w (.cells vs' el))
       have hsz:vs'.size=len*P.cellsOf el:=by have:=r1.length; simp at this; omega
       have hvr:=VR.sl (g:=g.add (σ.spot none) w.heap.size cs.length vs'.size) (tk:=σ'.toks) (w:={ w with heap:=w.heap.push (.cells vs' el) }) (σ.spot none) 0 len (P.cellsOf el) len ⟨w.heap.size,0,none⟩ (.inr rfl) (Nat.le_refl _) (by omega)
        (by simp [Gh.add]; omega) (by simp [Gh.add]; omega) (fun _=>by simp [Gh.add]) rfl (by simp [Gh.add]; omega)
       refine⟨rfl,_,_,_,?_,s1,hvr,s2⟩
       simp only [execOp,Sem.run_bind,r4,Result.andThen_ok,Sem.run_pure]
      ·cases h
    ·cases hc
   ·cases hc
  case call c =>
   exfalso
   revert hc
   unfold compCall compBuiltin
   (repeat' split) <;> simp
  all_goals (exfalso; (repeat' (split at hc)) <;> first | contradiction | (cases hc; done) | (simp at hc; done) | (rename_i hh _ _ _ _ _ _ _; cases hh; done) | (simp_all; done))
 | _=>simp [evalB] at h

end Go.Dn

/- Operations and regions are what they compile to. -/
namespace Go.Dn
open Go.Lib

set_option linter.unusedSimpArgs false

variable {P:Program}

def FW (ro:Option Nat):Fence:={ Fence.wide with round:=ro }
def Marks (g:Gh) (σ:St)(w0 w:World)(ds:List Deferred):Prop:=∃ rs:List Nat,ds=rs.map (fun r=>{ target:=.collected r,args := #[] })∧rs.Nodup∧∀ r∈rs,w0.heap.size≤r∧w.heap[r]?=some (.deferred (some []))∧¬ Mine g σ r

theorem Marks.ev {g g':Gh} {σ σ':St}{w0 w w':World}{ds:List Deferred}(h:Marks g σ w0 w ds)(hev:Ev g σ w g' σ' w'):Marks g' σ' w0 w' ds:=by
 obtain⟨rs,h1,hn,h⟩:=h
 refine⟨rs,h1,hn,fun r hr=>?_⟩
 obtain⟨h2,h3,h4⟩:=h r hr
 have hlt:r<w.heap.size:=(Array.getElem?_eq_some_iff.1 h3).1
 refine⟨h2,by rw [hev.frame r hlt h4]; exact h3,fun hm=>?_⟩
 rcases hev.mine r hm with h | h
 ·exact h4 h
 ·omega

structure Kx (P:Program)(cx:Cx)(g:Gh)(tk:List Nat)(w:World):Prop where
 prog:g.prog=P
 globs:GlobR cx.globs g tk w
theorem Kx.later {cx:Cx}{g g':Gh}{tk tk':List Nat}{w w':World}(h:Kx P cx g tk w)(hl:Later g tk w g' tk' w'):Kx P cx g' tk' w':=⟨hl.prog.trans h.prog,h.globs.later hl⟩

def At (P:Program)(cx:Cx)(n:Nat)(g0:Gh) (σ0:St)(w0:World)(e:Env) (σ:St)(a:Act)(w:World):Prop :=
 ∃ g,Sim g σ w∧EnvR g σ.toks w n e a.tmps∧(Marks g σ w0 w a.defers∧Kx P cx g σ.toks w)∧Ev g0 σ0 w0 g σ w

variable {n:Nat} {g0:Gh} {σ0:St} {w0:World} {ro:Option Nat}

theorem mk_ev {cx:Cx}{g g':Gh} {σ σ':St}{w w':World}{a:Act}{dst:Option Nat}{x:Value}(h:Marks g σ w0 w a.defers∧Kx P cx g σ.toks w)(hev:Ev g σ w g' σ' w'):Marks g' σ' w0 w' (a.put dst x).defers∧Kx P cx g' σ'.toks w':=by
 cases dst <;> exact⟨h.1.ev hev,h.2.later hev.later⟩

theorem compOp_defer {o:Oper}{i:Ins}(h:compOp P o=some i) : ∀ c,o.op ≠ .defer c:=by
 intro c e
 obtain⟨od,oop,oty,opos,oaft,ogd⟩:=o
 simp only at e
 subst e
 simp [compOp] at h

theorem EnvR.put {g:Gh}{tk:List Nat}{w:World}{e:Env}{a:Act}(h:EnvR g tk w n e a.tmps){dst:Option Nat}(hd:dst.all (· < n)=true){v:V}{x:Value}(hv:VR g tk w v x) :
  EnvR g tk w n (putE e dst v) (a.put dst x).tmps:=by
 cases dst with
 | none=>exact h
 | some s=>exact h.set (by simpa using hd) hv

theorem compCall_call {dst d':Option Nat}{ty:TypeId}{c:Go.Call}{f:Nat}{l:List Opd}(h:compCall P dst ty c=some (.call d' f l)) :
  c.callee = .value (.func f)∧compOpds c.args.toList=some l∧d'=dst:=by
 unfold compCall compBuiltin at h
 split at h
 case h_1 hc =>
  (repeat' (split at h)) <;> first | (cases h; done) | skip
  cases h
  exact⟨hc,by assumption,rfl⟩
 all_goals (exfalso; (repeat' (split at h)) <;> first | (cases h; done) | (simp at h; done))

theorem compCall_callv {dst d':Option Nat}{ty:TypeId}{c:Go.Call}{f:Opd}{l:List Opd}(h:compCall P dst ty c=some (.callv d' f l)) :
  ∃ t,c.callee = .value (.tmp t)∧f = .t t∧t<GB∧compOpds c.args.toList=some l∧d'=dst:=by
 unfold compCall compBuiltin at h
 split at h
 case h_2 t hc =>
  (repeat' (split at h)) <;> first | (cases h; done) | skip
  cases h
  exact⟨t,hc,rfl,by assumption,by assumption,rfl⟩
 all_goals (exfalso; (repeat' (split at h)) <;> first | (cases h; done) | (simp at h; done))

theorem compOp_call {o:Oper}{i:Ins}(h:compOp P o=some i)(hi:(∃ d f l,i = .call d f l)∨(∃ d f l,i = .callv d f l)) : ∃ c,o.op = .call c∧compCall P o.dst o.type c=some i:=by
 obtain⟨od,oop,oty,opos,oaft,ogd⟩:=o
 cases oop <;> simp only [compOp] at h
 case call c=>exact⟨c,rfl,h⟩
 case makeMap t r =>
  exfalso
  cases r with
  | none=>cases h; rcases hi with⟨_,_,_,h⟩ | ⟨_,_,_,h⟩ <;> cases h
  | some x=>cases h
 all_goals (exfalso; rcases hi with⟨_,_,_,rfl⟩ | ⟨_,_,_,rfl⟩ <;> (repeat' (split at h)) <;> first | (cases h; done) | (simp at h; done))

theorem compOp_next {o:Oper}{dst:Option Nat}{it:Opd}(h:compOp P o=some (.next dst it)) : ∃ x,o.op = .next x false∧compOpd x=some it∧dst=o.dst:=by
 obtain⟨od,oop,oty,opos,oaft,ogd⟩:=o
 cases oop <;> simp only [compOp] at h
 case next x str =>
  split at h
  ·rename_i a ha
   cases str
   ·simp at h
    obtain⟨rfl,rfl⟩:=h
    exact⟨x,rfl,ha,rfl⟩
   ·simp at h
  ·cases h
 case makeMap t r =>
  exfalso
  cases r with
  | none=>cases h
  | some x=>cases h
 case call c =>
  exfalso
  unfold compCall compBuiltin at h
  (repeat' (split at h)) <;> first | (cases h; done) | (simp at h; done)
 all_goals (exfalso; (repeat' (split at h)) <;> first | (cases h; done) | (simp at h; done))

theorem upon_enter_sound {o:Oper}{a:Act}{w1:World}{f:Nat}{args:Array Value}{K:Act→World→Prop}{R:Exit→Act→World→Prop}{next:Value→World→Prop}
  (hc:Calls P f args w1 (RetV next)) (hn : ∀ v w',next v w'→K (a.put o.dst v) w'):o.uponIn (FW ro) 0 P a K R (.ok (.enter f args) w1):=by
 rw [Oper.uponIn_enter]
 refine⟨fun h=>by simp [FW,Fence.wide] at h,?_⟩
 have hc':CallsIn (FW ro) (0-1) P f args w1 (RetV next):=callsIn_wide.2 hc
 refine hc'.mono fun e w' h=>?_
 cases e with
 | returned v=>exact hn _ _ h
 | panicked c=>exact h.elim
 | outgrown=>exact h.elim

theorem wone_sound {cx:Cx}{o:Oper}{i:Ins}(hc:compOp P o=some i)(hd:o.dst.all (· < n)=true){e:Env} {σ:St}{Q:Env→St→Prop}(h:wone (SK P cx) cx i e σ Q){a:Act}{w:World}(ha:At P cx n g0 σ0 w0 e σ a w)
  {K:Act→World→Prop} {R:Exit→Act→World→Prop} (hK : ∀ e' σ' a' w',Q e' σ'→At P cx n g0 σ0 w0 e' σ' a' w'→K a' w'):o.wpIn (FW ro) 0 P a w K R:=by
 obtain⟨g,hs,he,hdef,hev⟩:=ha
 unfold Oper.wpIn
 refine⟨fun _ _=>trivial,?_⟩
 rw [Oper.semAt_eq _ _ _ (compOp_defer hc)]
 cases i with
 | p dst op =>
  simp only [wone] at h
  split at h
  ·split at h
   ·rename_i v s hv
    obtain⟨rfl,cv,w',g',hrun,hs',hv',hev'⟩:=evalB_rel hs he hc hv
    rw [hrun,Oper.uponIn_value]
    exact hK _ _ _ _ h ⟨g',hs',(he.later hev'.later).put hd hv',mk_ev hdef hev',hev.trans hev'⟩
   ·exact h.elim
  split at h
  ·rename_i v hv
   obtain⟨rfl,cv,w',g',hrun,hs',hv',hev'⟩:=evalP_rel hs he hc hv
   rw [hrun,Oper.uponIn_value]
   exact hK _ _ _ _ h ⟨g',hs',(he.later hev'.later).put hd hv',mk_ev hdef hev',hev.trans hev'⟩
  ·split at h
   ·rename_i v s hv
    obtain⟨rfl,cv,w',g',hrun,hs',hv',hev'⟩:=evalF_rel hs he hc hv
    rw [hrun,Oper.uponIn_value]
    exact hK _ _ _ _ h ⟨g',hs',(he.later hev'.later).put hd hv',mk_ev hdef hev',hev.trans hev'⟩
   ·exact h.elim
 | e dst op =>
  simp only [wone] at h
  rcases h with h | h
  ·split at h
   ·rename_i v σ' hv
    obtain⟨rfl,cv,w',g',hrun,hs',hv',hev'⟩:=evalE_rel hs he hc hv
    rcases hrun with hrun | ⟨hrun,rfl⟩
    ·rw [hrun,Oper.uponIn_value]
     exact hK _ _ _ _ h ⟨g',hs',(he.later hev'.later).put hd hv',mk_ev hdef hev',hev.trans hev'⟩
    ·rw [hrun,Oper.uponIn_skip]
     exact hK _ _ _ _ h ⟨g',hs',(he.later hev'.later).put hd hv',mk_ev hdef hev',hev.trans hev'⟩
   ·exact h.elim
  ·split at h
   ·rename_i v σ' hv
    obtain⟨rfl,cv,w',g',hrun,hs',hv',hev'⟩:=evalM_rel hs he hc hv
    rcases hrun with hrun | ⟨hrun,rfl⟩
    ·rw [hrun,Oper.uponIn_value]
     exact hK _ _ _ _ h ⟨g',hs',(he.later hev'.later).put hd hv',mk_ev hdef hev',hev.trans hev'⟩
    ·rw [hrun,Oper.uponIn_skip]
     exact hK _ _ _ _ h ⟨g',hs',(he.later hev'.later).put hd hv',mk_ev hdef hev',hev.trans hev'⟩
   ·exact h.elim
 | call dst f args =>
  simp only [wone] at h
  obtain⟨c,hop,hcc⟩:=compOp_call hc (.inl ⟨_,_,_,rfl⟩)
  obtain⟨h1,h2,rfl⟩:=compCall_call hcc
  have hv:=opds_vrs he h2
  obtain⟨hg,hcalls⟩:=callK_sound h hs hdef.2.prog hdef.2.globs (args := #[]++c.args.map a.eval ++ #[]) (by simpa using hv)
  have hx:execOp a.eval o=callFunc f (#[]++c.args.map a.eval ++ #[]):=by
   obtain⟨od,oop,oty,opos,oaft,ogd⟩:=o
   obtain⟨cc,ca,ct⟩:=c
   simp only at hop h1
   subst hop h1
   rfl
  rw [hx,hg.run]
  exact upon_enter_sound hcalls fun v w' ⟨g',x,σ',q,hs',hv',hev'⟩ =>
   hK _ _ _ _ q ⟨g',hs',(he.later hev'.later).put hd hv',mk_ev hdef hev',hev.trans hev'⟩
 | callv dst f args =>
  simp only [wone] at h
  obtain⟨c,hop,hcc⟩:=compOp_call hc (.inr ⟨_,_,_,rfl⟩)
  obtain⟨t,h1,rfl,htl,h2,rfl⟩:=compCall_callv hcc
  split at h
  ·rename_i f first caps hf
   have hfn:=he.at htl
   simp only [Opd.ev] at hf
   rw [hf] at hfn
   generalize htv:a.tmps.getD t undef=tv at hfn
   cases hfn with
   | fn _ _ _ first' caps' hl hl' hh hh' =>
    have hv:=opds_vrs he h2
    have v1:VRs g σ.toks w first first'.toList:=VRs.of_get (by simpa using hl) (fun i c v h1 h2=>hh i c v h1 (by simpa using h2))
    have v2:VRs g σ.toks w caps caps'.toList:=VRs.of_get (by simpa using hl') (fun i c v h1 h2=>hh' i c v h1 (by simpa using h2))
    obtain⟨hg,hcalls⟩:=callK_sound h hs hdef.2.prog hdef.2.globs (args:=first'++c.args.map a.eval++caps') (by simpa using (v1.append (hv.append v2)))
    have hx:execOp a.eval o=callFunc f (first'++c.args.map a.eval++caps'):=by
     obtain⟨od,oop,oty,opos,oaft,ogd⟩:=o
     obtain⟨cc,ca,ct⟩:=c
     simp only at hop h1
     subst hop h1
     simp only [execOp,resolve,Act.eval,htv,Deferred.ofValue]
     rfl
    rw [hx,hg.run]
    exact upon_enter_sound hcalls fun v w' ⟨g',x,σ',q,hs',hv',hev'⟩ =>
     hK _ _ _ _ q ⟨g',hs',(he.later hev'.later).put hd hv',mk_ev hdef hev',hev.trans hev'⟩
  ·rename_i r hf
   have hfn:=he.at htl
   simp only [Opd.ev] at hf
   rw [hf] at hfn
   generalize htv:a.tmps.getD t undef=tv at hfn
   obtain⟨Q1,hk,hq⟩:=h
   have hv:=opds_vrs he h2
   obtain⟨l,l1,l2,l3⟩:=hk g w (c.args.map a.eval) hdef.2.prog hdef.2.globs hs (by simpa using hv)
   cases hfn with
   | yld _ hh =>
    have hx:execOp a.eval o=Instr.yield (g.obj r).1 (#[]++c.args.map a.eval):=by
     obtain⟨od,oop,oty,opos,oaft,ogd⟩:=o
     obtain⟨cc,ca,ct⟩:=c
     simp only at hop h1
     subst hop h1
     simp only [execOp,resolve,Act.eval,htv,Deferred.ofValue]
     rfl
    rw [hx,Array.empty_append,run_yield l1 l2,Oper.uponIn_round]
    refine⟨fun h=>by simp [FW,Fence.wide] at h,?_⟩
    have l4:RoundIn (FW ro) (0-1) P (g.obj r).1 l.fn ((l.params.zip (c.args.map a.eval)).foldl (fun tmps (t,a)=>tmps.setIfInBounds t a) l.tmps) l.assign l.body w _:=l3
    refine l4.mono fun e w' h=>?_
    cases e with
    | returned v =>
     obtain⟨g',x,σ',q,hs',hv',hev'⟩:=h
     exact hK _ _ _ _ (hq _ _ q) ⟨g',hs',(he.later hev'.later).put hd hv',mk_ev hdef hev',hev.trans hev'⟩
    | panicked c=>exact h.elim
    | outgrown=>exact h.elim
  ·exact h.elim
 | next dst it =>
  simp only [wone] at h
  obtain⟨it',hop,hci,rfl⟩:=compOp_next hc
  obtain⟨cv,w',g',x,σ',hrun,hq,hs',hv',hev'⟩:=next_rel (P:=P) (ty:=o.type) hs (opd_rel hci he) h
  have hx:execOp a.eval o=(do pure (.value (← Instr.next (a.eval it') false o.type))):=by
   obtain⟨od,oop,oty,opos,oaft,ogd⟩:=o
   simp only at hop
   subst hop
   rfl
  rw [hx]
  simp only [Sem.run_bind,hrun,Result.andThen_ok,Sem.run_pure]
  rw [Oper.uponIn_value]
  exact hK _ _ _ _ hq ⟨g',hs',(he.later hev'.later).put hd hv',mk_ev hdef hev',hev.trans hev'⟩
 | «when» s want body =>
  have:=(compOp_dst hc).1
  simp [Ins.simple] at this

theorem yielded_bool {g:Gh}{tk:List Nat}{w:World}{e:Env}{a:Act}(he:EnvR g tk w n e a.tmps){ops:Array Oper}{j s:Nat}(hj:(ops[j]?).bind (·.dst)=some s){b:Bool}(hb:e.get s = .d (.bool b)) :
  yielded ops a.tmps j=some b:=by
 have h:=he.2 s
 rw [hb] at h
 have h:=h.inv_bool
 unfold slotV at h
 split at h
 case isFalse=>cases h
 unfold yielded
 rw [hj]
 have:a.tmps[s]?=some (.bool b):=by
  rw [Array.getD_eq_getD_getElem?] at h
  cases ht:a.tmps[s]? with
  | none=>rw [ht] at h; simp [undef] at h
  | some x=>rw [ht] at h; simpa using h
 simp [this]

theorem yielded_gone {g:Gh}{tk:List Nat}{w:World}{e:Env}{a:Act}(he:EnvR g tk w n e a.tmps){ops:Array Oper}{j s:Nat}(hj:(ops[j]?).bind (·.dst)=some s)(hb:e.get s = .gone) :
  yielded ops a.tmps j=none:=by
 have h:=he.2 s
 rw [hb] at h
 unfold slotV at h
 split at h
 case isFalse=>cases h
 generalize htv:a.tmps.getD s undef=tv at h
 cases h
 unfold yielded
 rw [hj]
 rw [Array.getD_eq_getD_getElem?] at htv
 cases ht:a.tmps[s]? with
 | none=>simp [ht]
 | some x=>rw [ht] at htv; simp at htv; simp [ht,htv,undef]

theorem compOne_inv {ops:Array Oper}{o:Oper}{gd:Option (Nat×Bool)}{i:Ins}(h:compOne P n ops o=some (gd,i)) :
  compOp P o=some i∧o.dst.all (· < n)=true∧((o.guard=none∧gd=none)∨∃ j s w,o.guard=some (j,w)∧(ops[j]?).bind (·.dst)=some s∧gd=some (s,w)):=by
 unfold compOne at h
 split at h
 ·cases h
 ·rename_i i' hi
  split at h
  ·rename_i hd
   split at h
   ·rename_i hg
    cases h
    exact⟨hi,hd,.inl ⟨hg,rfl⟩⟩
   ·rename_i j w hg
    split at h
    ·rename_i s hs
     cases h
     exact⟨hi,hd,.inr ⟨j,s,w,hg,hs,rfl⟩⟩
    ·cases h
  ·cases h

def wgd (K:CallP)(cx:Cx)(gd:Option (Nat×Bool))(i:Ins)(e:Env) (σ:St)(Q:Env→St→Prop):Prop :=
 match gd with
 | none=>wone K cx i e σ Q
 | some (s,want)=>wone K cx (.when s want [i]) e σ Q

theorem wpOp_sound {cx:Cx}{ops:Array Oper}{o:Oper}{gd:Option (Nat×Bool)}{i:Ins}(hc:compOne P n ops o=some (gd,i)){k:Nat}(hk:ops[k]?=some o){e:Env} {σ:St}{Q:Env→St→Prop}
  (h:wgd (SK P cx) cx gd i e σ Q) {a:Act} {w:World} (ha:At P cx n g0 σ0 w0 e σ a w)
  {K:Act→World→Prop} {R:Exit→Act→World→Prop} (hK : ∀ e' σ' a' w',Q e' σ'→At P cx n g0 σ0 w0 e' σ' a' w'→K a' w'):wpOpIn (FW ro) 0 P ops R k K a w:=by
 obtain⟨h1,h2,h3⟩:=compOne_inv hc
 obtain⟨hsim,hdst⟩:=compOp_dst h1
 unfold wpOpIn
 rw [hk]
 simp only
 have skip : ∀ e':Env,e'=putE e o.dst .gone→Q e' σ→K (a.put o.dst undef) w:=fun e' he' hq=>by
  obtain⟨g,hs,he,hdef,hev⟩:=ha
  subst he'
  exact hK _ _ _ _ hq ⟨g,hs,he.put h2 .gone,mk_ev hdef (Ev.refl _ _ _),hev⟩
 rcases h3 with⟨hg,rfl⟩ | ⟨j,s,want,hg,hj,rfl⟩
 ·have hw:Region.wanted o (yielded ops a.tmps)=true:=by simp [Region.wanted,hg]
  rw [if_pos hw]
  exact wone_sound h1 h2 h ha hK
 ·simp only [wgd,wone,wins] at h
  have ha':=ha
  obtain⟨g,hs,he,hdef,hev⟩:=ha'
  split at h
  ·rename_i b hb
   have hy:=yielded_bool he hj hb
   have hw:Region.wanted o (yielded ops a.tmps)=(b==want):=by simp [Region.wanted,hg,hy]
   split at h
   ·rename_i hbw
    rw [hw,hbw,if_pos (by simp)]
    exact wone_sound h1 h2 h ha hK
   ·rename_i hbw
    rw [hw,if_neg (by simpa using hbw)]
    refine⟨fun _ _=>trivial,skip _ ?_ h⟩
    simp only [goneAll,goneOne_simple hsim,hdst]
  ·rename_i hb
   have hy:=yielded_gone he hj hb
   have hw:Region.wanted o (yielded ops a.tmps)=false:=by simp [Region.wanted,hg,hy]
   rw [hw,if_neg (by simp)]
   refine⟨fun _ _=>trivial,skip _ ?_ h⟩
   simp only [goneAll,goneOne_simple hsim,hdst]
  ·exact h.elim

theorem compList_simple {ops:Array Oper} : ∀ {os:List Oper}{l:List (Option (Nat×Bool)×Ins)},compList P n ops os=some l→∀ p∈l,p.2.simple=true
 | [],l,h=>by simp [compList] at h; subst h; simp
 | o::r,l,h=>by
  simp only [compList] at h
  split at h
  ·rename_i x l' hx hl
   cases h
   intro p hp
   rcases List.mem_cons.1 hp with rfl | hp
   ·exact(compOp_dst (compOne_inv (gd:=p.1) (i:=p.2) hx).1).1
   ·exact compList_simple hl p hp
  ·cases h

theorem wg_sound {cx:Cx}{ops:Array Oper}{Q:Env→St→Prop}{R:Exit→Act→World→Prop}(hQ : ∀ e σ a w,Q e σ→At P cx n g0 σ0 w0 e σ a w→R .normal a w) :
  ∀ (os:List Oper) (k:Nat),ops.toList.drop k=os→∀ (l:List (Option (Nat×Bool)×Ins)),compList P n ops os=some l→∀ (e:Env) (σ:St),wg (SK P cx) cx l e σ Q→∀ (a:Act) (w:World),At P cx n g0 σ0 w0 e σ a w →
   wpOpsIn (FW ro) 0 P ops R (List.range' k os.length) a w
 | [],k,hk,l,hl,e,σ,h,a,w,ha=>by
  simp [compList] at hl
  subst hl
  exact hQ _ _ _ _ h ha
 | o::r,k,hk,l,hl,e,σ,h,a,w,ha=>by
  simp only [compList] at hl
  split at hl
  ·rename_i x l' hx hl'
   cases hl
   have ho:ops[k]?=some o:=by
    have:=congrArg (·[0]?) hk
    simp only [List.getElem?_drop] at this
    simpa using this
   have hr:ops.toList.drop (k+1)=r:=by
    rw [← List.drop_drop,hk]; rfl
   rw [List.length_cons,List.range'_succ,wpOpsIn_cons]
   obtain⟨gd,i⟩:=x
   refine wpOp_sound (cx:=cx) (Q:=fun e' σ'=>wg (SK P cx) cx l' e' σ' Q) hx ho ?_ ha (fun e' σ' a' w' h' ha'=>wg_sound hQ r (k+1) hr l' hl' e' σ' h' a' w' ha')
   cases gd with
   | none=>exact h
   | some p=>exact h
  ·cases hl

theorem region_sound {cx:Cx}{id:Nat}{ops:Array Oper}{l:List (Option (Nat×Bool)×Ins)}(hl:compList P n ops ops.toList=some l){Q:Env→St→Prop}{e:Env} {σ:St}(h:wins (SK P cx) cx (group l) e σ Q){a:Act}{w:World}
  (ha:At P cx n g0 σ0 w0 e σ a w) {R:Exit→Act→World→Prop} (hQ : ∀ e σ a w,Q e σ→At P cx n g0 σ0 w0 e σ a w→R .normal a w):(Code.region id ops false).wpIn (FW ro) 0 P R a w:=by
 apply wpIn_region
 have:=wg_sound (ro:=ro) hQ ops.toList 0 rfl l hl e σ (group_wg l (compList_simple hl) e σ h) a w ha
 rw [List.range_eq_range']
 simpa using this

end Go.Dn

/- Regions that draw their order; code. -/
namespace Go.Dn
open Go.Lib

set_option linter.unusedSimpArgs false

variable {P:Program} {n:Nat} {g0:Gh} {σ0:St} {w0:World} {ro:Option Nat}

theorem room_get {σ:St}{m r:Nat}{o:Obj}(h:(σ.room m).objs[r]?=some o):σ.objs[r]?=some o∨(σ.objs.length≤r∧o = .free):=by
 simp only [St.room] at h
 rcases Nat.lt_or_ge r σ.objs.length with hlt | hge
 ·rw [List.getElem?_append_left hlt] at h; exact .inl h
 ·rw [List.getElem?_append_right hge,List.getElem?_replicate] at h
  split at h
  ·cases h; exact .inr ⟨hge,rfl⟩
  ·cases h

theorem room_live {σ:St}{m r:Nat}{o:Obj}(h:(σ.room m).objs[r]?=some o)(hl:o.live):σ.objs[r]?=some o:=by
 rcases room_get h with h | ⟨_,rfl⟩
 ·exact h
 ·exact hl.elim

theorem mine_room {g:Gh} {σ:St}{m b:Nat}(h:Mine g (σ.room m) b):Mine g σ b:=by
 rcases h with⟨r,o,h1,h2,h3⟩ | h
 ·exact .inl ⟨r,o,room_live h1 h2,h2,h3⟩
 ·exact .inr h

theorem Sim.room {g:Gh} {σ:St}{w:World}(hs:Sim g σ w)(m:Nat):Sim g (σ.room m) w∧Ev g σ w g (σ.room m) w:=by
 refine⟨⟨fun r o h hl=>hs.has r o (room_live h hl) hl,fun r h=>?_,fun r h=>?_,fun r cs h=>hs.cells r cs (room_live h trivial),fun r o h ho=>hs.oth r o (room_live h ho.live) ho,fun r r' o o' h hl h' hl'=>hs.dist r r' o o' (room_live h hl) hl (room_live h' hl') hl',
  fun r o h hl=>hs.nofrz r o (room_live h hl) hl,hs.tok,hs.tdist,fun t k r o ht h hl=>hs.tobj t k r o ht (room_live h hl) hl,hs.frzb,fun r cs h=>hs.lims r cs (room_live h trivial)⟩,Later.refl _ _ _,Nat.le_refl _,rfl,rfl,rfl,fun _ _ _=>rfl,fun b h=>.inl (mine_room h),fun _ _ h=>.inl h⟩
 ·have:=hs.bound r h
  simp only [St.room,List.length_append,List.length_replicate]
  omega
 ·intro hh
  rcases room_get h with h | ⟨h,_⟩
  ·exact hs.free r h hh
  ·have:=hs.bound r hh
   omega

def gdo (gd:Option (Nat×Bool))(i:Ins)(e:Env) (σ:St)(go:Prop)(Q:Env→St→Prop):Prop :=
 match gd with
 | none=>go
 | some (s,want)=>match e.get s with
  | .d (.bool b)=>if b=want then go else Q (goneOne i e) σ
  | .gone=>Q (goneOne i e) σ
  | _=>False

def dgo (K:CallP)(cx:Cx)(n0:Nat)(o:DOp)(e:Env) (σ:St)(Q:Env→St→Prop):Prop :=
 match o.ins with
 | .e dst op=>(match evalE op e σ (some (n0+o.al)) with
  | some (v,σ')=>Q (putE e dst v) σ'
  | none=>False)∨(match evalM op e σ (some (n0+o.al)) with
  | some (v,σ')=>Q (putE e dst v) σ'
  | none=>False)
 | .p dst op=>(match evalP op e σ with
  | some v=>Q (putE e dst v) σ
  | none=>False)
 | i=>wone K cx i e σ Q

theorem wdop_eq (K:CallP)(cx:Cx)(n0:Nat)(o:DOp)(e:Env) (σ:St)(Q:Env→St→Prop):wdop K cx n0 o e σ Q=gdo o.guard o.ins e σ (dgo K cx n0 o e σ Q) Q:=rfl

theorem dgo_sound {cx:Cx}{o:Oper}{d:DOp}{n0:Nat}(hc:compOp P o=some d.ins)(hd:o.dst.all (· < n)=true){e:Env} {σ:St}{Q:Env→St→Prop}(h:dgo (SK P cx) cx n0 d e σ Q){a:Act}{w:World}(ha:At P cx n g0 σ0 w0 e σ a w)
  {K:Act→World→Prop} {R:Exit→Act→World→Prop} (hK : ∀ e' σ' a' w',Q e' σ'→At P cx n g0 σ0 w0 e' σ' a' w'→K a' w'):o.wpIn (FW ro) 0 P a w K R:=by
 obtain⟨gd,i,af,al⟩:=d
 cases i with
 | e dst op =>
  simp only [dgo] at h
  obtain⟨g,hs,he,hdef,hev⟩:=ha
  unfold Oper.wpIn
  refine⟨fun _ _=>trivial,?_⟩
  rw [Oper.semAt_eq _ _ _ (compOp_defer hc)]
  rcases h with h | h
  ·split at h
   ·rename_i v σ' hv
    obtain⟨rfl,cv,w',g',hrun,hs',hv',hev'⟩:=evalE_rel hs he hc hv
    rcases hrun with hrun | ⟨hrun,rfl⟩
    ·rw [hrun,Oper.uponIn_value]
     exact hK _ _ _ _ h ⟨g',hs',(he.later hev'.later).put hd hv',mk_ev hdef hev',hev.trans hev'⟩
    ·rw [hrun,Oper.uponIn_skip]
     exact hK _ _ _ _ h ⟨g',hs',(he.later hev'.later).put hd hv',mk_ev hdef hev',hev.trans hev'⟩
   ·exact h.elim
  ·split at h
   ·rename_i v σ' hv
    obtain⟨rfl,cv,w',g',hrun,hs',hv',hev'⟩:=evalM_rel hs he hc hv
    rcases hrun with hrun | ⟨hrun,rfl⟩
    ·rw [hrun,Oper.uponIn_value]
     exact hK _ _ _ _ h ⟨g',hs',(he.later hev'.later).put hd hv',mk_ev hdef hev',hev.trans hev'⟩
    ·rw [hrun,Oper.uponIn_skip]
     exact hK _ _ _ _ h ⟨g',hs',(he.later hev'.later).put hd hv',mk_ev hdef hev',hev.trans hev'⟩
   ·exact h.elim
 | p dst op =>
  obtain⟨g,hs,he,hdef,hev⟩:=ha
  unfold Oper.wpIn
  refine⟨fun _ _=>trivial,?_⟩
  rw [Oper.semAt_eq _ _ _ (compOp_defer hc)]
  simp only [dgo] at h
  split at h
  ·rename_i v hv
   obtain⟨rfl,cv,w',g',hrun,hs',hv',hev'⟩:=evalP_rel hs he hc hv
   rw [hrun,Oper.uponIn_value]
   exact hK _ _ _ _ h ⟨g',hs',(he.later hev'.later).put hd hv',mk_ev hdef hev',hev.trans hev'⟩
  ·exact h.elim
 | call dst f args=>exact wone_sound (cx:=cx) hc hd h ha hK
 | callv dst f args=>exact wone_sound (cx:=cx) hc hd h ha hK
 | next dst it=>exact wone_sound (cx:=cx) hc hd h ha hK
 | «when» s want body=>exact wone_sound (cx:=cx) hc hd h ha hK

theorem wdop_sound {cx:Cx}{ops:Array Oper}{o:Oper}{d:DOp}{n0:Nat}(hc:compOne P n ops o=some (d.guard,d.ins)){k:Nat}(hk:ops[k]?=some o){e:Env} {σ:St}{Q:Env→St→Prop}
  (h:wdop (SK P cx) cx n0 d e σ Q) {a:Act} {w:World} (ha:At P cx n g0 σ0 w0 e σ a w)
  {K:Act→World→Prop} {R:Exit→Act→World→Prop} (hK : ∀ e' σ' a' w',Q e' σ'→At P cx n g0 σ0 w0 e' σ' a' w'→K a' w'):wpOpIn (FW ro) 0 P ops R k K a w:=by
 obtain⟨h1,h2,h3⟩:=compOne_inv hc
 obtain⟨hsim,hdst⟩:=compOp_dst h1
 rw [wdop_eq] at h
 unfold wpOpIn
 rw [hk]
 simp only
 have skip : ∀ e':Env,e'=putE e o.dst .gone→Q e' σ→K (a.put o.dst undef) w:=fun e' he' hq=>by
  obtain⟨g,hs,he,hdef,hev⟩:=ha
  subst he'
  exact hK _ _ _ _ hq ⟨g,hs,he.put h2 .gone,mk_ev hdef (Ev.refl _ _ _),hev⟩
 rcases h3 with⟨hg,hgd⟩ | ⟨j,s,want,hg,hj,hgd⟩
 ·rw [hgd] at h
  have hw:Region.wanted o (yielded ops a.tmps)=true:=by simp [Region.wanted,hg]
  rw [if_pos hw]
  exact dgo_sound (cx:=cx) h1 h2 h ha hK
 ·rw [hgd] at h
  simp only [gdo] at h
  have ha':=ha
  obtain⟨g,hs,he,hdef,hev⟩:=ha'
  split at h
  ·rename_i b hb
   have hy:=yielded_bool he hj hb
   have hw:Region.wanted o (yielded ops a.tmps)=(b==want):=by simp [Region.wanted,hg,hy]
   split at h
   ·rename_i hbw
    rw [hw,hbw,if_pos (by simp)]
    exact dgo_sound (cx:=cx) h1 h2 h ha hK
   ·rename_i hbw
    rw [hw,if_neg (by simpa using hbw)]
    refine⟨fun _ _=>trivial,skip _ ?_ h⟩
    rw [goneOne_simple hsim,hdst]
  ·rename_i hb
   have hy:=yielded_gone he hj hb
   have hw:Region.wanted o (yielded ops a.tmps)=false:=by simp [Region.wanted,hg,hy]
   rw [hw,if_neg (by simp)]
   refine⟨fun _ _=>trivial,skip _ ?_ h⟩
   rw [goneOne_simple hsim,hdst]
  ·exact h.elim

theorem compDraw_get {ops:Array Oper} : ∀ {os:List Oper}{k:Nat}{l:List DOp}{m:Nat},compDraw P n ops k os=some (l,m)→l.length=os.length ∧
  ∀ (i:Nat) (o:Oper),os[i]?=some o→∃ d,l[i]?=some d∧compOne P n ops o=some (d.guard,d.ins)∧d.after=afterOf o
 | [],k,l,m,h=>by simp [compDraw] at h; obtain⟨rfl,rfl⟩:=h; exact⟨rfl,fun i o h=>by simp at h⟩
 | o::r,k,l,m,h=>by
  simp only [compDraw] at h
  split at h
  ·rename_i gd i hc
   split at h
   ·rename_i l' m' hr
    cases h
    obtain⟨a1,a2⟩:=compDraw_get hr
    refine⟨by simp [a1],fun j o' hj=>?_⟩
    cases j with
    | zero=>simp at hj; subst hj; exact⟨_,rfl,hc,rfl⟩
    | succ j=>simp at hj; simpa using a2 j o' hj
   ·cases h
  ·cases h

theorem ready_eq {ops:Array Oper}{l:List DOp}{m:Nat}(hl:compDraw P n ops 0 ops.toList=some (l,m)){listedA:Array Bool}{listed:List Nat}(hsz:listedA.size=ops.size)(hrel : ∀ j,listedA.getD j false=listed.contains j) :
  Region.ready .any ops listedA=readyD l listed:=by
 obtain⟨h1,h2⟩:=compDraw_get hl
 unfold Region.ready readyD
 rw [h1]
 simp only [Array.length_toList]
 apply List.filter_congr
 intro i hi
 rw [List.mem_range] at hi
 have ho:ops[i]?=some ops[i]:=by simp [hi]
 obtain⟨d,d1,d2,d3⟩:=h2 i ops[i] (by simp [hi])
 rw [ho,d1]
 simp only [Option.map_some,Option.getD_some,d3]
 have e1:listedA.getD i true=listed.contains i:=by
  rw [← hrel i]
  have:i<listedA.size:=by omega
  simp [Array.getD_eq_getD_getElem?,this]
 rw [e1]
 congr 1
 unfold afterOf
 rw [List.all_map,List.all_filter,← Array.all_toList]
 apply List.all_congr rfl
 intro e
 simp only [Function.comp,hrel]

theorem wany_sound {cx:Cx}{ops:Array Oper}{l:List DOp}{m n0:Nat}(hl:compDraw P n ops 0 ops.toList=some (l,m)){Q:Env→St→Prop}{R:Exit→Act→World→Prop}(hQ : ∀ e σ a w,Q e σ→At P cx n g0 σ0 w0 e σ a w→R .normal a w) :
  ∀ (fuel:Nat) (listedA:Array Bool) (listed:List Nat),listedA.size=ops.size→(∀ j,listedA.getD j false=listed.contains j)→∀ (e:Env) (σ:St),wany (SK P cx) cx n0 l fuel listed e σ Q→∀ (a:Act) (w:World),At P cx n g0 σ0 w0 e σ a w →
   wpAnyIn (FW ro) 0 P .any ops R fuel listedA a w
 | 0,listedA,listed,hsz,hrel,e,σ,h,a,w,ha=>by
  obtain⟨h1,h2⟩:=h
  exact⟨by rw [ready_eq hl hsz hrel]; exact h1,hQ _ _ _ _ h2 ha⟩
 | fuel+1,listedA,listed,hsz,hrel,e,σ,h,a,w,ha=>by
  obtain⟨h1,h2⟩:=h
  refine⟨fun hr=>hQ _ _ _ _ (h1 (by rw [← ready_eq hl hsz hrel]; exact hr)) ha,fun i hi=>?_⟩
  rw [ready_eq hl hsz hrel] at hi
  obtain⟨d,hd,hw⟩:=h2 i hi
  obtain⟨c1,c2⟩:=compDraw_get hl
  have hlt:i<ops.size:=by
   have:=(List.getElem?_eq_some_iff.1 hd).1
   simpa [c1] using this
  obtain⟨d',d1,d2,d3⟩:=c2 i ops[i] (by simp [hlt])
  rw [hd] at d1
  cases d1
  refine wdop_sound (cx:=cx) (k:=i) d2 (by simp [hlt]) hw ha (fun e' σ' a' w' h' ha'=>?_)
  refine wany_sound (cx:=cx) hl hQ fuel _ (i::listed) (by simpa using hsz) (fun j=>?_) e' σ' h' a' w' ha'
  by_cases hij:i=j
  ·subst hij
   simp [Array.getD_eq_getD_getElem?,hsz,hlt]
  ·rw [getD_set_ne false hij,hrel j]
   have : ¬ j=i:=fun e=>hij e.symm
   simp [this]

theorem draw_sound {cx:Cx}(hm:P.follows .mixedOrders=true){id:Nat}{ops:Array Oper}{l:List DOp}{m:Nat}(hl:compDraw P n ops 0 ops.toList=some (l,m)){Q:Env→St→Prop}{e:Env} {σ:St}
  (h:Okay e σ→wany (SK P cx) cx σ.objs.length l l.length [] e (σ.room m) Q) {a:Act} {w:World}
  (ha:At P cx n g0 σ0 w0 e σ a w) {R:Exit→Act→World→Prop} (hQ : ∀ e σ a w,Q e σ→At P cx n g0 σ0 w0 e σ a w→R .normal a w):(Code.region id ops true).wpIn (FW ro) 0 P R a w:=by
 apply wpIn_region_any hm
 obtain⟨g,hs,he,hdef,hev⟩:=ha
 have h:=h (fun s r hr=>by
  have hv:=he.2 s
  generalize slotV a.tmps s=cv at hv
  generalize e.get s=ev at hv hr
  cases hv <;> simp only [dref,List.not_mem_nil,List.mem_singleton] at hr <;> (subst hr; exact hs.bound _ (by assumption)))
 obtain⟨r1,r2⟩:=hs.room m
 obtain⟨r3,r4⟩:=r1.drawn (w.drawn+1)
 rw [(compDraw_get hl).1,Array.length_toList] at h
 refine wany_sound (cx:=cx) hl hQ ops.size _ [] (by simp) (fun j=>?_) e _ h a _ ⟨g,r3,(he.later r2.later).later r4.later,⟨(hdef.1.ev r2).ev r4,(hdef.2.later r2.later).later r4.later⟩,(hev.trans r2).trans r4⟩
 simp only [Array.getD_eq_getD_getElem?,Array.getElem?_replicate,List.contains_nil]
 split <;> rfl

def exOf:Ex→Exit
 | .normal=>.normal
 | .exit id=>.exit id
 | .ret=>.ret

theorem At.pick {cx:Cx}{e:Env} {σ:St}{a:Act}{w:World}(h:At P cx n g0 σ0 w0 e σ a w)(ks:List Nat):At P cx n g0 σ0 w0 (e.pick ks) σ a w:=by
 obtain⟨g,hs,he,hd,hev⟩:=h
 exact⟨g,hs,he.pick ks,hd,hev⟩

theorem rangeF_sound {cx:Cx}{ks:List Nat}{f:Operand}{f':Opd}{ps:Array Tmp}{ac bc:Code}{a0 b0:C}(hf:compOpd f=some f')(hca:comp P n ac=some (erase a0))(hcb:comp P n bc=some (erase b0))(hpa:a0.plain=true)(hpb:b0.plain=true)(hps : ∀ p∈ps.toList,p<n)
  {e:Env} {σ:St} {Q:PostC} (h:wcode (SK P cx) cx (.rangeF ks f' ps.toList a0 b0) e σ Q) {a:Act} {w:World} (ha:At P cx n g0 σ0 w0 e σ a w) {R:Exit→Act→World→Prop}
  (hR : ∀ ex e' σ' a' w',Q ex e' σ'→At P cx n g0 σ0 w0 e' σ' a' w'→R (exOf ex) a' w'):(Code.rangeFunc f ps ac bc).wpIn (FW none) 0 P R a w:=by
 obtain⟨g,hs,he,hdef,hev⟩:=ha
 simp only [wcode] at h
 split at h
 case h_2=>exact h.elim
 rename_i fg first caps hfe
 refine wpIn_rangeFunc fun fn _=>?_
 -- the two blocks
 have w1h:Grown1 w (.deferred (some [])) (w.alloc (.deferred (some []))):=⟨rfl,rfl,rfl,rfl⟩
 obtain⟨d1,d2⟩:=hs.away (w':=w.alloc (.deferred (some []))) (f':=g.frz) (fun b hb=>w1h.old hb) (by rw [w1h.size]; omega) (fun _ _ h=>h) (fun _ _ h=>.inl h) (fun b q h=>by
  obtain⟨v,hv⟩:=hs.frzb b q h
  exact⟨v,by rw [w1h.cell (cell_lt hv)]; exact hv⟩) w1h.os w1h.tape w1h.output
 have hg0:({ g with frz:=g.frz }:Gh)=g:=rfl
 rw [hg0] at d1 d2
 let lp:Loop:={ state:=.ready,pending:=none,fn:=fn,tmps:=a.tmps,params:=ps,assign:=ac,body:=bc,defers:=w.heap.size }
 have w2h:Grown1 (w.alloc (.deferred (some []))) (.loop lp) ((w.alloc (.deferred (some []))).alloc (.loop lp)):=⟨rfl,rfl,rfl,rfl⟩
 have he1:=he.later d2.later
 have hoth:OthR g σ.toks (w.alloc (.deferred (some []))) (.loop (e.pick ks) ps.toList a0 b0 .ready) (.loop lp):=by
  refine⟨rfl,⟨rfl,rfl⟩,hpa,hpb,n,hps,?_,?_,he1.pick ks⟩
  ·rw [hdef.2.prog]; exact hca
  ·rw [hdef.2.prog]; exact hcb
 obtain⟨s1,s2⟩:=d1.new_oth (tg:=none) (o:=.loop (e.pick ks) ps.toList a0 b0 .ready) trivial rfl hoth w2h
 have hsz:(w.alloc (.deferred (some []))).heap.size=w.heap.size+1:=w1h.size
 rw [hsz] at s1 s2
 have hspot:σ.spot none=σ.objs.length:=rfl
 rw [hspot] at s1 s2
 have hσ:St.push σ (.loop (e.pick ks) ps.toList a0 b0 .ready)=σ.push (.loop (e.pick ks) ps.toList a0 b0 .ready):=rfl
 generalize hg1:g.add σ.objs.length (w.heap.size+1) 0 0=g1 at s1 s2
 have hob:g1.obj σ.objs.length=(w.heap.size+1,0):=by rw [← hg1]; exact Gh.add_obj _ _ _ _ _
 have hhas:g1.has σ.objs.length:=by rw [← hg1]; exact .inr rfl
 generalize hw2:(w.alloc (.deferred (some []))).alloc (.loop lp)=w2 at s1 s2
 have hmark:Marks g1 (σ.push (.loop (e.pick ks) ps.toList a0 b0 .ready)) w0 w2 ({ target:=.collected w.heap.size,args := #[] }::a.defers):=by
  obtain⟨rs,m1,m2,m3⟩:=hdef.1.ev (d2.trans s2)
  obtain⟨rs',m1',m2',m3'⟩:=hdef.1
  have hrs:rs=rs':=by
   exact(List.map_inj_right (fun x y h=>by simpa using h)).1 (m1.symm.trans m1')
  subst hrs
  refine⟨w.heap.size::rs,by rw [m1]; rfl,?_,fun d hd=>?_⟩
  ·rw [List.nodup_cons]
   refine⟨fun h=>?_,m2⟩
   have:=(Array.getElem?_eq_some_iff.1 (m3' _ h).2.1).1
   omega
  rcases List.mem_cons.1 hd with rfl | hd
  ·refine⟨hev.size,?_,fun hm=>?_⟩
   ·rw [← hw2,w2h.old (by rw [hsz]; omega)]
    exact w1h.new
   ·rcases s2.mine _ hm with h | h
    ·have:=mine_lt hs h
     omega
    ·rw [hsz] at h
     omega
  ·exact m3 d hd
 have hkx:=hdef.2.later (d2.trans s2).later
 have hfv:=(opd_rel hf he).later (d2.trans s2).later
 rw [hfe] at hfv
 generalize hfx:a.eval f=fx at hfv
 cases hfv with
 | fn _ _ _ first' caps' hl hl' hh hh' =>
  obtain⟨Q1,hk,hq⟩:=h
  have v1:VRs g1 (σ.push (.loop (e.pick ks) ps.toList a0 b0 .ready)).toks w2 first first'.toList:=VRs.of_get (by simpa using hl) (fun i c v h1 h2=>hh i c v h1 (by simpa using h2))
  have v2:VRs g1 (σ.push (.loop (e.pick ks) ps.toList a0 b0 .ready)).toks w2 caps caps'.toList:=VRs.of_get (by simpa using hl') (fun i c v h1 h2=>hh' i c v h1 (by simpa using h2))
  have vy:VR g1 (σ.push (.loop (e.pick ks) ps.toList a0 b0 .ready)).toks w2 (.yld σ.objs.length) (.func (.yield (w.heap.size+1)) #[] #[]):=by
   have:=VR.yld (tk:=(σ.push (.loop (e.pick ks) ps.toList a0 b0 .ready)).toks) (w:=w2) σ.objs.length hhas
   rwa [hob] at this
  have v3:VRs g1 (σ.push (.loop (e.pick ks) ps.toList a0 b0 .ready)).toks w2 [.yld σ.objs.length] [.func (.yield (w.heap.size+1)) #[] #[]]:=⟨vy,trivial⟩
  obtain⟨hgood,hcall⟩:=hk
  have hcalls:=hcall g1 w2 (first' ++ #[.func (.yield (w.heap.size+1)) #[] #[]]++caps') hkx.prog hkx.globs s1 (by
   simpa using v1.append (v3.append v2))
  refine⟨w.heap.size+1,[{ target:=.collected w.heap.size,args := #[] }],w2,{ target:=.fn (.func fg) caps',args:=first' ++ #[.func (.yield (w.heap.size+1)) #[] #[]] },w2,fg,first' ++ #[.func (.yield (w.heap.size+1)) #[] #[]]++caps',w2,?_,?_,fun _ _=>trivial,?_,fun h=>by simp [FW,Fence.wide] at h,?_⟩
  ·show(Instr.enterLoop fn a.tmps ps ac bc none).run P w=_
   rw [run_enterLoop_outer]
   rw [← hw2]
  ·simp only [resolve,hfx,Deferred.ofValue]
   simp [Act.eval]
  ·simp only [invoke]
   exact hgood.run _ _
  ·have hc':CallsIn (FW none) (0-1) P fg (first' ++ #[.func (.yield (w.heap.size+1)) #[] #[]]++caps') w2 _:=callsIn_wide.2 hcalls
   refine hc'.mono fun ex w3 hret=>?_
   cases ex with
   | panicked c=>exact hret.elim
   | outgrown=>exact hret.elim
   | returned v =>
    obtain⟨g3,x,σ3,hQ1,hs3,_,hev3⟩:=hret
    have hq3:=hq _ _ hQ1
    simp only at hq3
    have hob3:g3.obj σ.objs.length=(w.heap.size+1,0):=by rw [(hev3.later.has _ hhas).2.1,hob]
    have fin : ∀ (e':Env) (ps':List Nat) (a' b':C) (st:LSt) (y:Ex),σ3.objs[σ.objs.length]?=some (.loop e' ps' a' b' st)→((st = .ready∧y = .normal)∨st = .done y)→Q y (e.pick ks) (σ3.setObj σ.objs.length .dead) →
      rangePost (FW none) 0 P (w.heap.size+1) R { a with defers:=[{ target:=.collected w.heap.size,args := #[] }]++a.defers } (.returned v) w3:=by
     intro e' ps' a' b' st y hob4 hst hqy
     obtain⟨ho,o1,o2⟩:=hs3.oth _ _ hob4 trivial
     cases ho <;> try exact o2.elim
     rename_i l3
     rw [hob3] at o1
     obtain⟨_,hstl,_⟩:=o2
     have hnb:l3.state ≠ .busy:=by
      rcases hst with⟨rfl,_⟩ | rfl
      ·rw [hstl.1]; simp
      ·rw [hstl.2.1]; simp
     have hpend:l3.pending=exCode y:=by
      rcases hst with⟨rfl,rfl⟩ | rfl
      ·exact hstl.2
      ·exact hstl.2.2
     have hrun:=run_endLoop (P:=P) o1 hnb
     obtain⟨p1,p2⟩:=hs3.put_oth hob4 trivial (o':=.dead) (.inr rfl) (x:=.loop { l3 with state:=.exhausted }) (fun h=>h.elim)
     rw [hob3] at p1 p2
     have hat:At P cx n g0 σ0 w0 (e.pick ks) (σ3.setObj σ.objs.length .dead) { a with defers:=[{ target:=.collected w.heap.size,args := #[] }]++a.defers } (putB w3 (w.heap.size+1) (.loop { l3 with state:=.exhausted })) :=
      ⟨g3,p1,(((he.later (d2.trans s2).later).later hev3.later).later p2.later).pick ks,⟨(hmark.ev hev3).ev p2,(hkx.later hev3.later).later p2.later⟩,(hev.trans (d2.trans s2)).trans (hev3.trans p2)⟩
     refine⟨_,_,hrun,?_⟩
     have hRy:=hR y _ _ _ _ hqy hat
     rw [hpend] at hRy ⊢
     cases y with
     | normal=>exact hRy
     | exit id=>exact wpIn_exit hRy
     | ret=>exact wpIn_ret hRy
    cases hob4:σ3.objs[σ.objs.length]? with
    | none=>rw [hob4] at hq3; exact hq3.elim
    | some o4 =>
     rw [hob4] at hq3
     cases o4 with
     | loop e' ps' a' b' st =>
      cases st with
      | ready=>exact fin _ _ _ _ _ .normal hob4 (.inl ⟨rfl,rfl⟩) hq3
      | busy=>exact hq3.elim
      | done y=>exact fin _ _ _ _ _ y hob4 (.inr rfl) hq3
     | _=>exact hq3.elim

theorem wcode_sound {cx : Cx} (hm : P.follows .mixedOrders = true) : ∀ (c : Code) (x : C), comp P n c = some (erase x) → (ro = none ∨ x.plain = true) → ∀ (e : Env) (σ : St) (Q : PostC), wcode (SK P cx) cx x e σ Q → ∀ (a : Act) (w : World), At P cx n g0 σ0 w0 e σ a w →
  ∀ (R : Exit → Act → World → Prop), (∀ ex e' σ' a' w', Q ex e' σ' → At P cx n g0 σ0 w0 e' σ' a' w' → R (exOf ex) a' w') → c.wpIn (FW ro) 0 P R a w := by
 intro c
 induction c with
 | skip =>
  intro x hx hpl e σ Q h a w ha R hR
  simp only [comp, Option.some.injEq] at hx
  cases x <;> simp only [erase, reduceCtorEq] at hx
  simp only [wcode] at h
  exact wpIn_skip (hR .normal _ _ _ _ h ha)
 | exit id =>
  intro x hx hpl e σ Q h a w ha R hR
  simp only [comp, Option.some.injEq] at hx
  cases x <;> simp only [erase, reduceCtorEq, C.exit.injEq] at hx
  subst hx
  simp only [wcode] at h
  exact wpIn_exit (hR (.exit _) _ _ _ _ h ha)
 | ret =>
  intro x hx hpl e σ Q h a w ha R hR
  simp only [comp, Option.some.injEq] at hx
  cases x <;> simp only [erase, reduceCtorEq] at hx
  simp only [wcode] at h
  exact wpIn_ret (hR .ret _ _ _ _ h ha)
 | seq c1 c2 ih1 ih2 =>
  intro x hx hpl e σ Q h a w ha R hR
  simp only [comp] at hx
  split at hx
  ·rename_i x1 x2 h1 h2
   simp only [Option.some.injEq] at hx
   cases x <;> simp only [erase, reduceCtorEq, C.seq.injEq] at hx
   obtain ⟨rfl, rfl⟩ := hx
   simp only [wcode] at h
   refine wpIn_seq (ih1 _ h1 (hpl.imp (fun h => h) fun h => (by simp only [C.plain, Bool.and_eq_true] at h; exact h.1)) _ _ _ h _ _ ha _ fun ex e' σ' a' w' h' ha' => ?_)
   cases ex with
   | normal => exact ih2 _ h2 (hpl.imp (fun h => h) fun h => (by simp only [C.plain, Bool.and_eq_true] at h; exact h.2)) _ _ _ h' _ _ ha' _ hR
   | exit id => exact hR (.exit id) _ _ _ _ h' ha'
   | ret => exact hR .ret _ _ _ _ h' ha'
  ·cases hx
 | cond c t f ih1 ih2 =>
  intro x hx hpl e σ Q h a w ha R hR
  simp only [comp] at hx
  split at hx
  ·rename_i c' x1 x2 hc h1 h2
   simp only [Option.some.injEq] at hx
   cases x <;> simp only [erase, reduceCtorEq, C.cond.injEq] at hx
   obtain ⟨rfl, rfl, rfl⟩ := hx
   simp only [wcode] at h
   split at h
   ·rename_i b hb
    have ha' := ha
    obtain ⟨g, hs, he, hd, hev⟩ := ha'
    have hv := opd_rel hc he
    rw [hb] at hv
    refine wpIn_cond_split hv.inv_bool (fun ht => ?_) (fun ht => ?_)
    ·rw [if_pos ht] at h
     exact ih1 _ h1 (hpl.imp (fun h => h) fun h => (by simp only [C.plain, Bool.and_eq_true] at h; exact h.1)) _ _ _ h _ _ ha _ hR
    ·rw [if_neg (by simp [ht])] at h
     exact ih2 _ h2 (hpl.imp (fun h => h) fun h => (by simp only [C.plain, Bool.and_eq_true] at h; exact h.2)) _ _ _ h _ _ ha _ hR
   ·exact h.elim
  ·cases hx
 | block id c ih =>
  intro x hx hpl e σ Q h a w ha R hR
  simp only [comp] at hx
  split at hx
  ·rename_i x1 h1
   simp only [Option.some.injEq] at hx
   cases x <;> simp only [erase, reduceCtorEq, C.block.injEq] at hx
   obtain ⟨rfl, rfl⟩ := hx
   simp only [wcode] at h
   refine wpIn_block (ih _ h1 (hpl.imp (fun h => h) fun h => h) _ _ _ h _ _ ha _ fun ex e' σ' a' w' h' ha' => ?_)
   cases ex with
   | normal => exact hR .normal _ _ _ _ h' ha'
   | exit j =>
    simp only at h'
    show Exit.inBlock id R (.exit j) a' w'
    simp only [Exit.inBlock]
    split
    ·rename_i hj; rw [if_pos hj] at h'; exact hR .normal _ _ _ _ h' ha'
    ·rename_i hj; rw [if_neg hj] at h'; exact hR (.exit j) _ _ _ _ h' ha'
   | ret => exact hR .ret _ _ _ _ h' ha'
  ·cases hx
 | loop c ih =>
  intro x hx hpl e σ Q h a w ha R hR
  simp only [comp] at hx
  split at hx
  ·rename_i x1 h1
   simp only [Option.some.injEq] at hx
   cases x <;> simp only [erase, reduceCtorEq, C.loop.injEq] at hx
   rename_i ks y
   obtain ⟨_, rfl⟩ := hx
   simp only [wcode] at h
   intro b k cs hro hb hr
   have key := h (fun e σ => ∀ (a : Act) (w : World), At P cx n g0 σ0 w0 e σ a w → ∃ ex a' w', R ex a' w' ∧ ArrivesIn (Machine.fenced P (FW ro)) P (lone (b.atR a (.code c :: .inLoop c :: k)) cs w) b k cs ex a' w') (fun e σ hb' a w ha => by
    obtain ⟨ex, a1, w1, hq, harr⟩ := ih y h1 (hpl.imp (fun h => h) fun h => h) e σ _ hb' a w ha (Exit.then (fun a1 w1 => ∃ ex a' w', R ex a' w' ∧ ArrivesIn (Machine.fenced P (FW ro)) P (lone (b.atR a1 (.code c :: .inLoop c :: k)) cs w1) b k cs ex a' w') R) (fun ex e' σ' a' w' h' ha' => by
     cases ex with
     | normal => exact h' _ _ (ha'.pick ks)
     | exit id => exact hR (.exit id) _ _ _ _ h' ha'
     | ret => exact hR .ret _ _ _ _ h' ha') b (.inLoop c :: k) cs hro hb hr
    cases ex with
    | normal =>
     obtain ⟨ex2, a2, w2, hq2, harr2⟩ := hq
     exact ⟨ex2, a2, w2, hq2, .of_steps (StepsIn.trans harr (.one (fenced_calm hb hr rfl) stepR_inLoop)) harr2⟩
    | exit id => exact ⟨_, a1, w1, hq, .pass (x := .inLoop c) rfl (fun _ _ => .inl (by simp)) harr⟩
    | goto l => exact ⟨_, a1, w1, hq, .pass (x := .inLoop c) rfl (fun _ _ => .inl (by simp)) harr⟩
    | ret => exact ⟨_, a1, w1, hq, .pass (x := .inLoop c) rfl (fun _ _ => .inl (by simp)) harr⟩
    | panic ch => exact ⟨_, a1, w1, hq, .pass (x := .inLoop c) rfl (fun _ _ => .inl (by simp)) harr⟩
    | outgrown => exact ⟨_, a1, w1, hq, .pass (x := .inLoop c) rfl (fun _ _ => .inl (by simp)) harr⟩)
   obtain ⟨ex, a', w', hq, harr⟩ := key a w (ha.pick ks)
   exact ⟨ex, a', w', hq, .of_steps (.one (fenced_calm hb hr rfl) stepR_loop) harr⟩
  ·cases hx
 | region id ops draw =>
  intro x hx hpl e σ Q h a w ha R hR
  cases draw with
  | false =>
   simp only [comp] at hx
   split at hx
   ·rename_i l hl
    simp only [Option.some.injEq] at hx
    cases x <;> simp only [erase, reduceCtorEq, C.ops.injEq] at hx
    rename_i ks y
    obtain ⟨_, rfl⟩ := hx
    simp only [wcode] at h
    exact region_sound (Q := fun e' σ' => Q .normal (e'.pick ks) σ') hl h ha (fun e' σ' a' w' h' ha' => hR .normal _ _ _ _ h' (ha'.pick ks))
   ·cases hx
  | true =>
   simp only [comp] at hx
   split at hx
   ·rename_i l m hl
    simp only [Option.some.injEq] at hx
    cases x <;> simp only [erase, reduceCtorEq, C.drw.injEq] at hx
    rename_i ks m' y
    obtain ⟨_, rfl, rfl⟩ := hx
    simp only [wcode] at h
    exact draw_sound (Q := fun e' σ' => Q .normal (e'.pick ks) σ') hm hl h ha (fun e' σ' a' w' h' ha' => hR .normal _ _ _ _ h' (ha'.pick ks))
   ·cases hx
 | rangeFunc f ps ac bc iha ihb =>
  intro x hx hpl e σ Q h a w ha R hR
  simp only [comp] at hx
  split at hx
  ·rename_i f' xa xb hf hca hcb
   split at hx
   ·rename_i hc
    simp only [Option.some.injEq] at hx
    cases x <;> simp only [erase, reduceCtorEq, C.rangeF.injEq] at hx
    rename_i ks f2 ps2 a0 b0
    obtain ⟨_, rfl, rfl, rfl, rfl⟩ := hx
    simp only [Bool.and_eq_true, erase_plain, List.all_eq_true, decide_eq_true_eq] at hc
    rcases hpl with rfl | hp
    ·exact rangeF_sound hf hca hcb hc.1.1 hc.1.2 hc.2 h ha hR
    ·simp [C.plain] at hp
   ·cases hx
  ·cases hx
 | scope => intro x hx; simp [comp] at hx
 | label => intro x hx; simp [comp] at hx
 | goto => intro x hx; simp [comp] at hx
 | refuse => intro x hx; simp [comp] at hx

end Go.Dn

/- Function bodies: calls are what the small language says. -/
namespace Go.Dn
open Go.Lib

set_option linter.unusedSimpArgs false

variable {P:Program}

structure Fits (P:Program)(T:List (Nat×List D))(f:Nat)(fc:FnC) where
 fn:Func
 code:Code
 at_:P.funcs[f]?=some fn
 body:fn.body=some code
 name : (fn.name == "runtime.NumGoroutine") = false
 comp:comp P fn.ntmps code=some (erase fc.body)
 res:compRes P fn.results.toList=some fc.res
 tmps:fc.nparams≤fn.ntmps
 few:fn.ntmps≤GB
 globs : ∀ x∈fc.globs,x∈T

theorem initEnv_get : ∀ (vs:List V)(i s:Nat),(initEnv i vs).get s=if s<i then .any else(vs[s-i]?).getD .any
 | [],i,s=>by simp [initEnv,Env.get]
 | v::r,i,s=>by
  simp only [initEnv,Env.get]
  by_cases h:i=s
  ·subst h; simp
  ·rw [if_neg h,initEnv_get r (i+1) s]
   by_cases h2:s<i
   ·rw [if_pos h2,if_pos (by omega)]
   ·rw [if_neg h2,if_neg (by omega),show s-i=(s-(i+1))+1 by omega]
    simp

theorem env_app {g:Gh}{tk:List Nat}{w:World}{x:Value}{s:Nat} : ∀ {e e':Env},VR g tk w (e.get s) x→VR g tk w (e'.get s) x→VR g tk w (Env.get (e++e') s) x
 | [],e',_,h'=>h'
 | (t,v)::r,e',h,h'=>by
  simp only [List.cons_append,Env.get] at h ⊢
  by_cases hts:t=s
  ·rw [if_pos hts] at h ⊢; exact h
  ·rw [if_neg hts] at h ⊢; exact env_app h h'

theorem glob_env {g:Gh}{tk:List Nat}{w:World}{T:List (Nat×List D)}(hT:GlobR T g tk w) : ∀ {l:List (Nat×List D)},(∀ x∈l,x∈T)→∀ (tmps:Array Value)(s:Nat),VR g tk w ((globEnv l).get s) (slotV tmps s)
 | [],_,_,_=>.any _
 | (k,cs)::r,h,tmps,s=>by
  simp only [globEnv,List.map_cons,Env.get]
  by_cases hs:GB+k=s
  ·rw [if_pos hs]
   subst hs
   rw [slotV,if_neg (by omega),Nat.add_sub_cancel_left]
   exact hT k cs (h _ (by simp))
  ·rw [if_neg hs]
   exact glob_env hT (fun x hx=>h x (by simp [hx])) tmps s

theorem init_env {g:Gh}{tk:List Nat}{w:World}{vs:List V}{args:Array Value}(hv:VRs g tk w vs args.toList){n:Nat}(hn:vs.length≤n)(hgb:n≤GB){T l:List (Nat×List D)}(hT:GlobR T g tk w)(hl2 : ∀ x∈l,x∈T) :
  EnvR g tk w n (initEnv 0 vs++globEnv l) (args++Array.replicate (n-args.size) undef):=by
 have hl:=hv.length
 simp at hl
 refine⟨⟨by simp; omega,hgb⟩,fun s=>?_⟩
 refine env_app ?_ (glob_env hT hl2 _ s)
 rw [initEnv_get,if_neg (by omega),Nat.sub_zero]
 cases hs:vs[s]? with
 | none=>exact .any _
 | some v =>
  have hlt:s<vs.length:=(List.getElem?_eq_some_iff.1 hs).1
  rw [slotV,if_pos (by omega)]
  have:(args++Array.replicate (n-args.size) undef).getD s undef=args[s]'(by omega):=by
   rw [Array.getD_eq_getD_getElem?,Array.getElem?_append_left (by omega)]
   simp [show s<args.size by omega]
  rw [this]
  exact hv.get s v _ hs (by simp [show s<args.size by omega])

def resF (tmps:Array Value):ResultVar→Sem Value
 | .tmp t=>pure (tmps.getD t undef)
 | .cell a t=>do loadVar t (← asAddr (tmps.getD a undef))

def tupC:List Value→Value
 | [x]=>x
 | xs=>.tuple xs.toArray

theorem res_rel {g:Gh} {σ:St}{w:World}(hs:Sim g σ w){n:Nat}{e:Env}{tmps:Array Value}(he:EnvR g σ.toks w n e tmps) : ∀ {rs:List ResultVar}{l:List Res},compRes P rs=some l→∀ {vs:List V},resAll e σ l=some vs →
  ∃ xs:List Value,(List.mapM (m:=Sem) (resF tmps) rs).run P w = .ok xs w∧VRs g σ.toks w vs xs
 | [],l,h,vs,hv=>by
  simp [compRes] at h
  subst h
  simp [resAll] at hv
  subst hv
  exact⟨[],by simp,trivial⟩
 | .tmp s::r,l,h,vs,hv=>by
  simp only [compRes] at h
  split at h
  ·rename_i l' hl
   split at h
   case isFalse=>cases h
   rename_i hlt
   cases h
   simp only [resAll,Res.ev] at hv
   split at hv
   ·rename_i v vs' h1 h2
    cases hv
    cases h1
    obtain⟨xs,r1,r2⟩:=res_rel hs he hl h2
    exact⟨tmps.getD s undef::xs,by
     have:(resF tmps (.tmp s)).run P w = .ok (tmps.getD s undef) w:=rfl
     rw [List.mapM_cons]
     simp only [Sem.run_bind,Sem.run_pure,Result.andThen_ok,this,r1],he.at hlt,r2⟩
   ·cases hv
  ·cases h
 | .cell a t::r,l,h,vs,hv=>by
  simp only [compRes] at h
  split at h
  ·rename_i l' hl
   split at h
   ·rename_i hok
    cases h
    simp only [resAll,Res.ev] at hv
    split at hv
    ·rename_i v vs' h1 h2
     cases hv
     obtain⟨xs,r1,r2⟩:=res_rel hs he hl h2
     obtain⟨cv,c1,c2⟩:=loadAt_rel hs hok.1 (he.at hok.2) h1
     have hp : ∃ ad,tmps.getD a undef = .pointer (some ad):=by
      have:=he.at hok.2
      unfold loadAt at h1
      split at h1
      ·rename_i r o hr
       rw [hr] at this
       generalize tmps.getD a undef=tv at this
       cases this
       exact⟨_,rfl⟩
      ·rename_i cs hr
       rw [hr] at this
       generalize tmps.getD a undef=tv at this
       cases this
       exact⟨_,rfl⟩
      ·cases h1
     obtain⟨ad,had⟩:=hp
     refine⟨cv::xs,?_,c2,r2⟩
     rw [had] at c1
     simp only [Instr.loadAt,Instr.sureAddr,Sem.run_bind,Sem.run_pure,Result.andThen_ok] at c1
     have:(resF tmps (.cell a t)).run P w = .ok cv w:=by simp only [resF,had,asAddr,Sem.run_bind,Sem.run_pure,Result.andThen_ok,c1]
     rw [List.mapM_cons]
     simp only [Sem.run_bind,Sem.run_pure,Result.andThen_ok,this,r1]
    ·cases hv
   ·cases h
  ·cases h

theorem run_results {fn:Func}{tmps:Array Value}{w:World}{xs:List Value}
  (h:(List.mapM (m:=Sem) (resF tmps) fn.results.toList).run P w = .ok xs w) :
  (results fn tmps).run P w = .ok (tupC xs) w:=by
 have e:results fn tmps=(do let vs ← fn.results.mapM (resF tmps); pure (if h:vs.size=1 then vs[0] else .tuple vs)):=rfl
 rw [e,Array.mapM_eq_mapM_toList]
 simp only [map_eq_pure_bind,Sem.run_bind,h,Result.andThen_ok,Sem.run_pure]
 congr 1
 match xs with
 | []=>rfl
 | [x]=>rfl
 | _::_::_=>rfl

theorem tup_rel {g:Gh}{tk:List Nat}{w:World}{vs:List V}{xs:List Value}(h:VRs g tk w vs xs):VR g tk w (tupOf vs) (tupC xs):=by
 match vs,xs,h with
 | [v],[x],h=>exact h.1
 | [],[],h=>exact .tup [] #[] rfl (fun i c v h=>by simp at h)
 | v::v'::r,x::x'::s,h =>
  refine .tup _ _ (by simpa using h.length) (fun i c v hc hx=>h.get i c v hc (by simpa using hx))
 | [],_::_,h=>exact h.elim
 | _::_,[],h=>exact h.elim
 | [_],_::_::_,h=>exact h.2.elim
 | _::_::_,[_],h=>exact h.2.elim

theorem lent_mine {g:Gh} {σ:St}{x y:V}(h:x.byVal σ=some y){b q:Nat}(hl:Lent g x b q):Mine g σ b:=by
 cases x with
 | sl r off len sz =>
  obtain⟨rfl,_⟩:=hl
  simp only [V.byVal,V.rows] at h
  split at h
  ·rename_i rows hr
   split at hr
   ·rename_i cs hobj
    exact .inl ⟨r,_,hobj,trivial,rfl⟩
   ·cases hr
  ·cases h
 | _=>exact hl.elim

theorem lents_mine {g:Gh} {σ:St} : ∀ {xs ys:List V},byVals σ xs=some ys→∀ x∈xs,∀ b q,Lent g x b q→Mine g σ b
 | [],_,_,x,hx=>by simp at hx
 | x::xs,ys,h,z,hz=>by
  simp only [byVals] at h
  split at h
  ·rename_i y l hy hyl
   rcases List.mem_cons.1 hz with rfl | hz
   ·exact fun b q hl=>lent_mine hy hl
   ·exact lents_mine hyl z hz
  ·cases h

theorem VR.back {g g':Gh} {σ σ':St}{w w':World}(hl:Later g σ.toks w g' σ'.toks w')(hk : ∀ (t k:Nat),σ.toks[t]?=some k→σ'.toks[t]?=some k){f':Nat→Nat→Prop}(hf : ∀ b q,g'.frz b q→f' b q){v:V}{x0:Value}(h0:VR g σ.toks w v x0) :
  ∀ {x:Value},VR g' σ'.toks w' v x→VR { g with frz:=f' } σ.toks w' v x:=by
 have hst:Stay g'.frz f' w' w':=⟨hf,fun _ _ _=>rfl⟩
 induction h0 with
 | d y v h h1=>intro x hx; cases hx with | d _ _ a b=>exact .d _ _ (a.mono hst) b
 | da cs vs h=>intro x hx; cases hx with | da _ _ a=>exact .da _ _ (a.mono hst)
 | agg cs vs hs h1 hh ih =>
  intro x hx
  cases hx with
  | agg _ vs' hs' h1' hh' =>
   exact .agg cs vs' hs' h1' fun i c v hc hv=>by
    have hi:i<vs.size:=by rw [← hs]; exact(List.getElem?_eq_some_iff.1 hc).1
    exact ih i c vs[i] hc (by simp [hi]) (hh' i c v hc hv)
 | tup cs vs hs hh ih =>
  intro x hx
  cases hx with
  | tup _ vs' hs' hh' =>
   exact .tup cs vs' hs' fun i c v hc hv=>by
    have hi:i<vs.size:=by rw [← hs]; exact(List.getElem?_eq_some_iff.1 hc).1
    exact ih i c vs[i] hc (by simp [hi]) (hh' i c v hc hv)
 | ref r off h =>
  intro x hx
  cases hx with
  | ref _ _ h'=>rw [(hl.has r h).2.1]; exact VR.ref (g:={ g with frz:=f' }) r off h
 | ro cs b o cv hf1 hc h1 hd =>
  intro x hx
  cases hx with
  | ro _ b' o' cv' hf1' hc' h1' hd'=>exact .ro cs b' o' cv' (fun k hk=>hf _ _ (hf1' k hk)) hc' h1' (fun k d hk=>(hd' k d hk).mono hst)
 | sl r off len sz cap a h hcap hsz hin hout ha hsp hlim =>
  intro x hx
  cases hx with
  | sl _ _ _ _ cap' a' h' hcap' hsz' hin' hout' ha' hsp' hlim' =>
   obtain⟨_,e1,e2⟩:=hl.has r h
   exact VR.sl (g:={ g with frz:=f' }) r off len sz cap' a' h hcap' hsz' (by rw [← e2]; exact hin') (by rw [← e2]; exact hout') (by rw [← e2,← e1]; exact ha') hsp' (by show off+cap'*sz≤g.lim r; rw [← hl.lim r h]; exact hlim')
 | fl rows a h =>
  intro x hx
  cases hx with
  | fl _ a' h'=>exact .fl rows a' (h'.mono hst)
 | tl rows t st sz k a cap hd ht hle hh hsz ha =>
  intro x hx
  cases hx with
  | tl _ _ _ _ k' a' cap' hd' ht' hle' hh' hsz' ha' =>
   have hkk:=hk t k ht
   rw [ht'] at hkk
   cases hkk
   obtain⟨k2,e1,e2,e3,e4⟩:=hl.tok t k ht
   rw [ht'] at e1
   cases e1
   have e5:=e3 rfl
   exact VR.tl (g:={ g with frz:=f' }) rows t st sz k a' cap' (hd'.mono hst) ht hle' hh' (by show(g.tok t).sz=sz; rw [← e5]; exact hsz') (fun p q=>by show(g.tok t).s0≤st∧a'=⟨(g.tok t).b,_,none⟩∧_; rw [← e5]; exact ha' p q)
 | map r h =>
  intro x hx
  cases hx with
  | map _ h'=>rw [(hl.has r h).2.1]; exact VR.map (g:={ g with frz:=f' }) r h
 | yld r h =>
  intro x hx
  cases hx with
  | yld _ h'=>rw [(hl.has r h).2.1]; exact VR.yld (g:={ g with frz:=f' }) r h
 | iter r h =>
  intro x hx
  cases hx with
  | iter _ h'=>rw [(hl.has r h).2.1]; exact VR.iter (g:={ g with frz:=f' }) r h
 | fn f first caps first' caps' h1 h2 hh hh' ih ih' =>
  intro x hx
  cases hx with
  | fn _ _ _ xf xc a1 a2 b1 b2 =>
   exact .fn f first caps xf xc a1 a2 (fun i c v hc hv=>by
    have hi:i<first'.size:=by rw [← h1]; exact(List.getElem?_eq_some_iff.1 hc).1
    exact ih i c first'[i] hc (by simp [hi]) (b1 i c v hc hv)) (fun i c v hc hv=>by
    have hi:i<caps'.size:=by rw [← h2]; exact(List.getElem?_eq_some_iff.1 hc).1
    exact ih' i c caps'[i] hc (by simp [hi]) (b2 i c v hc hv))
 | ifc t v y hh ih =>
  intro x hx
  cases hx with
  | ifc _ _ y' h'=>exact .ifc t v y' (ih h')
 | gone=>intro x hx; cases hx; exact .gone
 | any v=>intro x hx; exact .any x

theorem OthR.back {g g':Gh} {σ σ':St}{w w':World}(hl:Later g σ.toks w g' σ'.toks w')(hk : ∀ (t k:Nat),σ.toks[t]?=some k→σ'.toks[t]?=some k){f':Nat→Nat→Prop}(hf : ∀ b q,g'.frz b q→f' b q){o:Obj}{x0 x:Go.Obj}(h0:OthR g σ.toks w o x0)(h:OthR g' σ'.toks w' o x):OthR { g with frz:=f' } σ.toks w' o x:=by
 cases o <;> cases x0 <;> (try exact h0.elim) <;> cases x <;> try exact h.elim
 case map =>
  obtain⟨a1,a2,a3,a4⟩:=h0
  obtain⟨b1,b2,b3,b4⟩:=h
  refine⟨b1,b2,b3,fun i b k v hi=>?_⟩
  obtain⟨x,c1,c2,c3,c4,c5⟩:=a4 i b k v hi
  obtain⟨y,d1,d2,d3,d4,d5⟩:=b4 i b k v hi
  exact⟨y,d1,d2,VR.back hl hk hf c3 d3,VR.back hl hk hf c4 d4,d5⟩
 case iter m _ _ _ _ _ _ _ _ _ _ _ =>
  obtain⟨a1,a2,a3⟩:=h0
  obtain⟨b1,b2,b3⟩:=h
  refine⟨?_,a2,b3⟩
  rw [b1]
  cases m with
  | none=>rfl
  | some r=>simp [(hl.has r (a2 r rfl)).2.1]
 case loop =>
  obtain⟨a1,a2,a3,a4,n,a5,a6,a7,a8⟩:=h0
  obtain⟨b1,b2,b3,b4,m,b5,b6,b7,b8⟩:=h
  exact⟨b1,b2,b3,b4,m,b5,by rw [← hl.prog]; exact b6,by rw [← hl.prog]; exact b7,b8.1,fun s=>VR.back hl hk hf (a8.2 s) (b8.2 s)⟩

theorem Sim.restrict {g g':Gh} {σ σ':St}{w w':World}(hs:Sim g σ w)(hs':Sim g' σ' w')(hev:Ev g σ w g' σ' w')(hk:Keeps σ σ'){f':Nat→Nat→Prop}(hf : ∀ b q,g'.frz b q→f' b q)
  (hnew : ∀ b q,f' b q→g'.frz b q∨((∃ u,w'.cell? ⟨b,q,none⟩=some u)∧(∃ (r:Nat) (o:Obj),σ.objs.length≤r∧σ'.objs[r]?=some o∧o.live∧(g'.obj r).1=b))) :
  Sim { g with frz:=f' } σ w'∧Ev g σ w { g with frz:=f' } σ w':=by
 obtain⟨ko,kt⟩:=hk
 have keep : ∀ (r:Nat) (o:Obj),σ.objs[r]?=some o→σ'.objs[r]?=some o:=fun r o h=>by
  rw [ko r (List.getElem?_eq_some_iff.1 h).1]; exact h
 have hobj : ∀ r,g.has r→g'.obj r=g.obj r:=fun r h=>(hev.later.has r h).2.1
 have hlen : ∀ r,g.has r→g'.len r=g.len r:=fun r h=>(hev.later.has r h).2.2
 have htok : ∀ (t k:Nat),σ.toks[t]?=some k→g'.tok t=g.tok t:=fun t k h=>by
  obtain⟨k2,e1,e2,e3,e4⟩:=hev.later.tok t k h
  have:=kt t k h
  rw [e1] at this
  cases this
  exact e3 rfl
 have free : ∀ (r:Nat) (o:Obj),σ.objs[r]?=some o→o.live→∀ q,¬ f' (g.obj r).1 q:=fun r o h hl q hq=>by
  have hh:=hs.has r o h hl
  rcases hnew _ _ hq with h1 | ⟨_,r2,o2,h2,h3,h4,h5⟩
  ·exact hs'.nofrz r o (keep r o h) hl q (by rw [hobj r hh]; exact h1)
  ·have hne:r2≠r:=fun e=>by
    have:=(List.getElem?_eq_some_iff.1 h).1
    omega
   exact hs'.dist r2 r o2 o h3 h4 (keep r o h) hl hne (by rw [h5,hobj r hh])
 refine⟨⟨hs.has,hs.bound,hs.free,fun r cs h=>?_,fun r o h ho=>?_,hs.dist,free,fun t k h=>?_,hs.tdist,hs.tobj,fun b q h=>?_,fun r cs h=>?_⟩,⟨⟨⟨fun b q h=>hf b q (hev.later.stay.frz b q h),hev.later.stay.cell⟩,fun r h=>⟨h,rfl,rfl⟩,fun t k h=>⟨k,h,Nat.le_refl _,fun _=>rfl,rfl⟩,rfl,fun _ _=>rfl⟩,
  hev.size,hev.os,hev.tape,hev.output,hev.frame,fun b h=>.inl h,fun b q h=>?_⟩⟩
 ·have hh:=hs.has r _ h trivial
  obtain⟨h1,c,e,fz,h2,h3,h4⟩:=hs'.cells r cs (keep r _ h)
  obtain⟨o1,oc,oe,ofz,o2,o3,o4⟩:=hs.cells r cs h
  refine⟨o1,c,e,fz,by rw [← hobj r hh]; exact h2,h3,fun j v hj=>?_⟩
  obtain⟨cv,a1,a2,a3⟩:=h4 j v hj
  obtain⟨cv0,b1,b2,b3⟩:=o4 j v hj
  exact⟨cv,by rw [← hobj r hh]; exact a1,a2,VR.back hev.later kt hf b3 a3⟩
 ·have hh:=hs.has r _ h ho.live
  obtain⟨x,a1,a2⟩:=hs'.oth r o (keep r o h) ho
  obtain⟨x0,b1,b2⟩:=hs.oth r o h ho
  exact⟨x,by show w'.heap[(g.obj r).1]?=_; rw [← hobj r hh]; exact a1,OthR.back hev.later kt hf b2 a2⟩
 ·obtain⟨h0,c,e,fz,hb,hn,hsz,hz⟩:=hs'.tok t k (kt t k h)
  have et:=htok t k h
  rw [et] at h0 hb hsz hz
  refine⟨h0,c,e,fz,hb,hn,hsz,fun q hq hfr=>?_⟩
  rcases hnew _ _ hfr with h1 | ⟨_,r2,o2,h2,h3,h4,h5⟩
  ·exact hz q hq h1
  ·exact hs'.tobj t k r2 o2 (kt t k h) h3 h4 (by rw [et,h5])
 ·rcases hnew b q h with h1 | ⟨h1,_⟩
  ·exact hs'.frzb b q h1
  ·exact h1
 ·have hh:=hs.has r _ h trivial
  obtain⟨l1,l2⟩:=hs'.lims r cs (keep r _ h)
  rw [hlen r hh,hev.later.lim r hh] at l1
  rw [hobj r hh,hev.later.lim r hh] at l2
  exact⟨l1,l2⟩
 ·rcases hnew b q h with h1 | ⟨_,r2,o2,h2,h3,h4,h5⟩
  ·exact hev.newf b q h1
  ·rcases hev.mine b (.inl ⟨r2,o2,h3,h4,h5⟩) with h6 | h6
   ·exact .inr (.inl h6)
   ·exact .inr (.inr h6)

theorem lents_row {σ:St} : ∀ {xs ys:List V},byVals σ xs=some ys→∀ x∈xs,x.byVal σ≠none
 | [],_,_,x,hx=>by simp at hx
 | x::xs,ys,h,z,hz=>by
  simp only [byVals] at h
  split at h
  ·rename_i y l hy hyl
   rcases List.mem_cons.1 hz with rfl | hz
   ·rw [hy]; simp
   ·exact lents_row hyl z hz
  ·cases h

theorem byValsN_inv {lo:Nat} {σ:St} : ∀ {vs ds:List V},byValsN lo σ vs=some ds→byVals σ vs=some ds∧∀ x∈vs,∀ r off len sz,x = .sl r off len sz→lo≤r
 | [],ds,h=>by simp only [byValsN] at h; cases h; exact⟨rfl,by simp⟩
 | v::r,ds,h=>by
  simp only [byValsN] at h
  split at h
  ·rename_i y l hy hl
   cases h
   obtain⟨a,b⟩:=byValsN_inv hl
   have:v.byVal σ=some y∧∀ r off len sz,v = .sl r off len sz→lo≤r:=by
    cases v with
    | sl q off len sz =>
     simp only [V.byValN] at hy
     split at hy
     ·rename_i hlo
      exact⟨hy,fun r off len sz e=>by cases e; exact hlo⟩
     ·cases hy
    | _=>exact⟨hy,fun r off len sz e=>by cases e⟩
   refine⟨by simp [byVals,this.1,a],fun x hx=>?_⟩
   rcases List.mem_cons.1 hx with rfl | hx
   ·exact this.2
   ·exact b x hx
  ·cases h

theorem Sim.put_un {g:Gh} {σ:St}{w:World}(hs:Sim g σ w){r:Nat}(hm : ¬ Mine g σ r){ds:Option (List Deferred)}(hr:w.heap[r]?=some (.deferred ds))(x:Go.Obj):Sim g σ (putB w r x)∧Later g σ.toks w g σ.toks (putB w r x):=by
 have hne : ∀ b q,g.frz b q→r≠b:=fun b q hf e=>by
  obtain⟨v,hv⟩:=hs.frzb b q hf
  unfold World.cell? at hv
  rw [← e,hr] at hv
  simp at hv
 have hcell : ∀ b q,g.frz b q→(putB w r x).cell? ⟨b,q,none⟩=w.cell? ⟨b,q,none⟩:=fun b q hf=>putB_cell w _ (hne b q hf) q
 have hl:Later g σ.toks w g σ.toks (putB w r x):=⟨⟨fun b q hf=>hf,hcell⟩,fun q hq=>⟨hq,rfl,rfl⟩,fun t k ht=>⟨k,ht,Nat.le_refl _,fun _=>rfl,rfl⟩,rfl,fun _ _=>rfl⟩
 have hob : ∀ (q:Nat) (o:Obj),σ.objs[q]?=some o→o.live→r≠(g.obj q).1:=fun q o h1 h2 e=>hm (.inl ⟨q,o,h1,h2,e.symm⟩)
 refine⟨⟨hs.has,hs.bound,hs.free,fun q cs h=>?_,fun q o h ho=>?_,hs.dist,hs.nofrz,fun t k ht=>?_,hs.tdist,hs.tobj,fun b q hf=>?_,fun q cs h=>⟨(hs.lims q cs h).1,fun c e fz hb=>(hs.lims q cs h).2 c e fz (by rw [← putB_other w _ (hob q _ h trivial)]; exact hb)⟩⟩,hl⟩
 ·obtain⟨h1,c,e,fz,h2,h3,h4⟩:=hs.cells q cs h
  refine⟨h1,c,e,fz,by rw [putB_other w _ (hob q _ h trivial)]; exact h2,h3,fun j v hj=>?_⟩
  obtain⟨cv,a1,a2,a3⟩:=h4 j v hj
  exact⟨cv,a1,a2,a3.later hl⟩
 ·obtain⟨y,a1,a2⟩:=hs.oth q o h ho
  exact⟨y,by rw [putB_other w _ (hob q _ h ho.live)]; exact a1,a2.later hl⟩
 ·obtain⟨h0,c,e,fz,hb,rest⟩:=hs.tok t k ht
  exact⟨h0,c,e,fz,by rw [putB_other w _ (fun e=>hm (.inr ⟨t,k,ht,e.symm⟩))]; exact hb,rest⟩
 ·obtain⟨v,hv⟩:=hs.frzb b q hf
  exact⟨v,by rw [hcell b q hf]; exact hv⟩

theorem take_mark {cx:Cx}{n:Nat}{g0:Gh} {σ0:St}{w0:World}{e:Env} {σ:St}{tmps:Array Value}{r:Nat}{ds:List Deferred}{w:World}(h:At P cx n g0 σ0 w0 e σ { tmps:=tmps,defers:={ target:=.collected r,args := #[] }::ds } w) :
  (Instr.takeDeferred r).run P w = .ok [] (putB w r (.deferred none))∧At P cx n g0 σ0 w0 e σ { tmps:=tmps,defers:=ds } (putB w r (.deferred none)):=by
 obtain⟨g,hs,he,⟨⟨rs,m1,m2,m3⟩,hkx⟩,hev⟩:=h
 cases rs with
 | nil=>simp at m1
 | cons q rs =>
  simp at m1
  obtain⟨rfl,rfl⟩:=m1
  obtain⟨k1,k2,k3⟩:=m3 r (by simp)
  rw [List.nodup_cons] at m2
  obtain⟨s1,s2⟩:=hs.put_un k3 k2 (.deferred none)
  refine⟨run_takeDeferred k2,g,s1,he.later s2,⟨⟨rs,rfl,m2.2,fun q hq=>?_⟩,hkx.later s2⟩,?_⟩
  ·obtain⟨a1,a2,a3⟩:=m3 q (by simp [hq])
   exact⟨a1,by rw [putB_other w _ (fun e=>m2.1 (by rw [e]; exact hq))]; exact a2,a3⟩
  ·refine⟨hev.later.trans s2,by simp [putB]; exact hev.size,hev.os,hev.tape,hev.output,fun b hb hm=>?_,hev.mine,hev.newf⟩
   rw [putB_other w _ (fun e=>by omega)]
   exact hev.frame b hb hm

theorem leave_marks {cx:Cx}{n:Nat}{g0:Gh} {σ0:St}{w0:World}{e:Env} {σ:St}{tmps:Array Value}{fn:Func}{R:Value→World→Prop}(hq : ∀ w,At P cx n g0 σ0 w0 e σ { tmps:=tmps,defers:=[] } w→∃ v,(results fn tmps).run P w = .ok v w∧R v w) :
  ∀ (ds:List Deferred) (w:World),At P cx n g0 σ0 w0 e σ { tmps:=tmps,defers:=ds } w→LeavesInM Fence.wide 0 P fn tmps (RetV R) ds .returning w
 | [],w,h=>by
  obtain⟨v,h1,h2⟩:=hq w h
  exact⟨v,h1,h2⟩
 | d::ds,w,h=>by
  have hd : ∃ r,d={ target:=.collected r,args := #[] }:=by
   obtain⟨g,hs,he,⟨⟨rs,m1,m2,m3⟩,hkx⟩,hev⟩:=h
   cases rs with
   | nil=>simp at m1
   | cons q rs=>simp at m1; exact⟨q,m1.1⟩
  obtain⟨r,rfl⟩:=hd
  obtain⟨h1,h2⟩:=take_mark h
  exact⟨by simp,.inl ⟨r,_,rfl,h1,leave_marks hq ds _ h2⟩⟩

theorem fn_sound {cx:Cx}(hm:P.follows .mixedOrders=true){f:Nat}{fc:FnC}(hf:Fits P cx.globs f fc){vs:List V}(hlen:vs.length=fc.nparams) {σ:St}{Q:PostC}(h:wcode (SK P cx) cx fc.body (initEnv 0 vs++globEnv fc.globs) σ Q){g:Gh}{w:World}{args:Array Value}
  (hp:g.prog=P) (hgl:GlobR cx.globs g σ.toks w) (hs:Sim g σ w) (hv:VRs g σ.toks w vs args.toList) {R:Value→World→Prop} (hex : ∀ id e s,¬ Q (.exit id) e s)
  (hq : ∀ ex e' σ' tmps' w',Q ex e' σ'→At P cx hf.fn.ntmps g σ w e' σ' { tmps:=tmps',defers:=[] } w'→∃ v,(results hf.fn tmps').run P w' = .ok v w'∧R v w'):Calls P f args w (RetV R):=by
 have h0:At P cx hf.fn.ntmps g σ w (initEnv 0 vs++globEnv fc.globs) σ { tmps:=args++Array.replicate (hf.fn.ntmps-args.size) undef,defers:=[] } w :=
  ⟨g,hs,init_env hv (by rw [hlen]; exact hf.tmps) hf.few hgl hf.globs,⟨⟨[],rfl,by simp,by simp⟩,hp,hgl⟩,Ev.refl _ _ _⟩
 refine callsIn_wide.1 (callsIn_of_wp_marks (F:=Fence.wide) (n:=0) hf.at_ hf.body trivial ?_)
 refine wcode_sound (ro:=none) hm _ _ hf.comp (.inl rfl) _ _ _ h _ _ h0 _ fun ex e' σ' a' w' h' ha'=>?_
 have main:LeavesInM Fence.wide 0 P hf.fn a'.tmps (RetV R) a'.defers .returning w':=leave_marks (fun w2 hat=>hq ex e' σ' a'.tmps w2 h' hat) a'.defers w' ha'
 cases ex with
 | normal=>exact main
 | ret=>exact main
 | exit id=>exact(hex _ _ _ h').elim

theorem body_sound {cx:Cx}(hm:P.follows .mixedOrders=true){f:Nat}{fc:FnC}(hf:Fits P cx.globs f fc){vs:List V} {σ:St}{Q:Post}{m:Mode}(hmd:m ≠ .rnd)(h:bodyP (SK P cx) cx m fc vs σ Q):SK P cx m f vs σ Q:=by
 obtain⟨hlen,h⟩:=h
 have good:GoodF P f:=⟨hf.fn,hf.code,hf.at_,hf.body,hf.name⟩
 have fin : ∀ {g:Gh} {w:World} {e':Env} {σ':St} {tmps':Array Value} {w':World},At P cx hf.fn.ntmps g σ w e' σ' { tmps:=tmps',defers:=[] } w'→∀ {vs':List V},resAll e' σ' fc.res=some vs'→∃ xs g',(results hf.fn tmps').run P w' = .ok (tupC xs) w'∧VRs g' σ'.toks w' vs' xs ∧
   Sim g' σ' w'∧Ev g σ w g' σ' w':=fun ha vs' hr=>by
  obtain⟨g',hs',he',hd',hev'⟩:=ha
  obtain⟨xs,r1,r2⟩:=res_rel hs' he' hf.res hr
  exact⟨xs,g',run_results r1,r2,hs',hev'⟩
 cases m with
 | rnd=>exact absurd rfl hmd
 | raw =>
  refine⟨good,fun g w args hp hgl hs hv=>fn_sound hm hf hlen h hp hgl hs hv (fun id e s h=>h) fun ex e' σ' tmps' w' h' ha'=>?_⟩
  have main:(∃ v,retV .raw σ.objs.length e' σ' fc.res=some v∧(Mode.raw = .rd→Keeps σ σ')∧Q v σ')→∃ v,(results hf.fn tmps').run P w' = .ok v w'∧∃ g' x σ',Q x σ'∧Sim g' σ' w'∧VR g' σ'.toks w' x v∧Ev g σ w g' σ' w':=fun⟨v,hv,_,hq⟩=>by
   unfold retV at hv
   split at hv
   ·rename_i vs' hr
    simp only [Option.some.injEq] at hv
    subst hv
    obtain⟨xs,g',r1,r2,r3,r4⟩:=fin ha' hr
    exact⟨_,r1,g',_,σ',hq,r3,tup_rel r2,r4⟩
   ·cases hv
  cases ex with
  | exit id=>exact h'.elim
  | normal=>exact main h'
  | ret=>exact main h'
 | rd =>
  refine⟨good,fun g w args hp hgl hs hv=>fn_sound hm hf hlen h hp hgl hs hv (fun id e s h=>h) fun ex e' σ' tmps' w' h' ha'=>?_⟩
  have main:(∃ v,retV .rd σ.objs.length e' σ' fc.res=some v∧(Mode.rd = .rd→Keeps σ σ')∧Q v σ')→∃ v,(results hf.fn tmps').run P w' = .ok v w'∧∃ g' x σ',Q x σ'∧Sim g' σ w'∧VR g' σ.toks w' x v∧Ev g σ w g' σ w':=fun⟨v,hv,hkp,hq⟩=>by
   unfold retV at hv
   split at hv
   ·rename_i vs' hr
    simp only at hv
    split at hv
    ·rename_i ds hdsN
     simp only [Option.some.injEq] at hv
     subst hv
     obtain⟨hds,hlo⟩:=byValsN_inv hdsN
     obtain⟨xs,g',r1,r2,r3,r4⟩:=fin ha' hr
     let f':Nat→Nat→Prop:=fun b q=>g'.frz b q∨∃ x∈vs',Lent g' x b q
     obtain⟨b1,b2⟩:=byVals_rel (tk:=σ.toks) (g':={ g with frz:=f' }) r3 (f:=f') (fun b q h=>.inl h) rfl r2 hds (fun x hx b q hl=>.inr ⟨x,hx,hl⟩)
     obtain⟨q1,q2⟩:=Sim.restrict hs r3 r4 (hkp rfl) (f':=f') (fun b q h=>.inl h) (fun b q h=>by
      rcases h with h | ⟨x,hx,hl⟩
      ·exact .inl h
      ·refine .inr ⟨lents_cell r3 r2 hds x hx b q hl,?_⟩
       cases x with
       | sl r off len sz =>
        have hle:=hlo _ hx r off len sz rfl
        have hm:=lents_row hds _ hx
        simp only [V.byVal,V.rows] at hm
        obtain⟨hb,_,_⟩:=hl
        split at hm
        ·rename_i rows hrw
         split at hrw
         ·rename_i cs hobj
          exact⟨r,_,hle,hobj,trivial,hb.symm⟩
         ·cases hrw
        ·exact absurd rfl hm
       | _=>exact hl.elim)
     exact⟨_,r1,_,_,σ',hq,q1,tup_rel b1,q2⟩
    ·cases hv
   ·cases hv
  cases ex with
  | exit id=>exact h'.elim
  | normal=>exact main h'
  | ret=>exact main h'
 | val =>
  refine⟨good,fun g w args hp hgl hs hv hσ=>?_⟩
  subst hσ
  refine fn_sound hm hf hlen h hp hgl hs hv (fun id e s h=>h) fun ex e' σ' tmps' w' h' ha'=>?_
  have main:(∃ v,retV .val St.empty.objs.length e' σ' fc.res=some v∧(Mode.val = .rd→Keeps St.empty σ')∧Q v σ')→∃ v,(results hf.fn tmps').run P w' = .ok v w'∧∃ f' x σ',Q x σ'∧(∀ b q,f' b q→∃ u,w'.cell? ⟨b,q,none⟩=some u)∧VR (Gh.bare P f') [] w' x v∧Ev g St.empty w (Gh.bare P f') St.empty w':=fun⟨v,hv,_,hq⟩=>by
   unfold retV at hv
   split at hv
   ·rename_i vs' hr
    simp only at hv
    split at hv
    ·rename_i ds hds
     simp only [Option.some.injEq] at hv
     subst hv
     obtain⟨xs,g',r1,r2,r3,r4⟩:=fin ha' hr
     let f':Nat→Nat→Prop:=fun b q=>g'.frz b q∨∃ x∈vs',Lent g' x b q
     obtain⟨b1,b2⟩:=byVals_rel (tk:=[]) (g':=Gh.bare P f') r3 (f:=f') (fun b q h=>.inl h) rfl r2 hds (fun x hx b q hl=>.inr ⟨x,hx,hl⟩)
     refine⟨_,r1,f',_,σ',hq,fun b q h=>?_,tup_rel b1,?_⟩
     ·rcases h with h | ⟨x,hx,hl⟩
      ·exact r3.frzb b q h
      ·exact lents_cell r3 r2 hds x hx b q hl
     ·refine⟨⟨⟨fun b q h=>.inl (r4.later.stay.frz b q h),r4.later.stay.cell⟩,fun r h=>?_,fun t k h=>by simp [St.empty] at h,hp.symm,fun r h=>by
       have:=hs.bound r h
       simp [St.empty] at this⟩,r4.size,r4.os,r4.tape,r4.output,fun b hb hm=>r4.frame b hb hm,fun b h=>(not_mine_empty h).elim,fun b q h=>?_⟩
      ·have:=hs.bound r h
       simp [St.empty] at this
      ·rcases h with h | ⟨x,hx,hl⟩
       ·exact r4.newf b q h
       ·rcases r4.mine b (lents_mine hds x hx b q hl) with h | h
        ·exact .inr (.inl h)
        ·exact .inr (.inr h)
    ·cases hv
   ·cases hv
  cases ex with
  | exit id=>exact h'.elim
  | normal=>exact main h'
  | ret=>exact main h'

theorem setAll_env {g:Gh}{tk:List Nat}{w:World}{n:Nat} : ∀ {ps:List Nat}{vs:List V}{cs:List Value}{e:Env}{tmps:Array Value},EnvR g tk w n e tmps→(∀ p∈ps,p<n)→VRs g tk w vs cs→EnvR g tk w n (setAll e ps vs) ((ps.zip cs).foldl (fun tmps (x:Nat×Value)=>tmps.setIfInBounds x.1 x.2) tmps)
 | [],vs,cs,e,tmps,h,_,_=>by cases vs <;> simpa [setAll] using h
 | p::ps,[],[],e,tmps,h,_,_=>by simpa [setAll] using h
 | p::ps,v::vs,c::cs,e,tmps,h,hp,hv=>by
  simp only [setAll,List.zip_cons_cons,List.foldl_cons]
  exact setAll_env (h.set (hp p (by simp)) hv.1) (fun q hq=>hp q (by simp [hq])) hv.2
 | _::_,[],_::_,_,_,_,_,hv=>hv.elim
 | _::_,_::_,[],_,_,_,_,hv=>hv.elim

theorem round_sound {cx:Cx}(hm:P.follows .mixedOrders=true){r:Nat}{vs:List V} {σ:St}{Q:Post}(h:roundP (SK P cx) cx r vs σ Q):SK P cx .rnd r vs σ Q:=by
 intro g w args hp hgl hs hv
 obtain⟨e,ps,a,b,hob,hlen,h⟩:=h
 obtain⟨x,b1,b2⟩:=hs.oth _ _ hob trivial
 cases x <;> try exact b2.elim
 rename_i l
 obtain⟨hps,⟨hst,hpd⟩,hpa,hpb,n,hpn,hca,hcb,henv⟩:=b2
 rw [hp] at hca hcb
 have hal:=hv.length
 have has:args.size=l.params.size:=by
  rw [← Array.length_toList,← Array.length_toList,← hal,hlen,hps]
 refine⟨l,b1,has,?_⟩
 refine roundIn_of_wpIn trivial ?_
 have hhas:=hs.has _ _ hob trivial
 have hz:(l.params.zip args).foldl (fun tmps (x:Nat×Value)=>tmps.setIfInBounds x.1 x.2) l.tmps=(ps.zip args.toList).foldl (fun tmps (x:Nat×Value)=>tmps.setIfInBounds x.1 x.2) l.tmps:=by
  rw [← Array.foldl_toList,Array.toList_zip,hps]
 have h0:At P cx n g σ w (setAll e ps vs) σ { tmps:=(l.params.zip args).foldl (fun tmps (x:Nat×Value)=>tmps.setIfInBounds x.1 x.2) l.tmps,defers:=[] } w :=
  ⟨g,hs,by rw [hz]; exact setAll_env henv hpn hv,⟨⟨[],rfl,by simp,by simp⟩,hp,hgl⟩,Ev.refl _ _ _⟩
 have hF:Fence.wide.inRound (g.obj r).1=FW (some (g.obj r).1):=rfl
 rw [hF]
 refine wcode_sound (ro:=some (g.obj r).1) hm _ _ hca (.inr hpa) _ _ _ h _ _ h0 _ fun ex e1 s1 a1 w1 h1 ha1=>?_
 cases ex with
 | exit id=>exact h1.elim
 | ret=>exact h1.elim
 | normal =>
  obtain⟨o1,h1⟩:=h1
  obtain⟨g1,hs1,he1,⟨hm1,hk1⟩,hev1⟩:=ha1
  obtain⟨x1,c1,c2⟩:=hs1.oth _ _ o1 trivial
  cases x1 <;> try exact c2.elim
  rename_i l1
  have hobj1:g1.obj r=g.obj r:=(hev1.later.has _ hhas).2.1
  rw [hobj1] at c1
  obtain⟨q1,⟨q2,q3⟩,q4⟩:=c2
  obtain⟨p1,p2⟩:=hs1.put_oth o1 trivial (o':=.loop e ps a b .busy) (.inl trivial) (x:=.loop { l1 with state:=.busy }) (fun _=>⟨q1,rfl,q4⟩)
  rw [hobj1] at p1 p2
  refine⟨putB w1 (g.obj r).1 (.loop { l1 with state:=.busy }),run_beginRound c1 q2,?_⟩
  have hat:At P cx n g σ w e1 (s1.setObj r (.loop e ps a b .busy)) a1 (putB w1 (g.obj r).1 (.loop { l1 with state:=.busy })):=⟨g1,p1,he1.later p2.later,⟨hm1.ev p2,hk1.later p2.later⟩,hev1.trans p2⟩
  refine wcode_sound (ro:=some (g.obj r).1) hm _ _ hcb (.inr hpb) _ _ _ h1 _ _ hat _ fun ex e2 s2 a2 w2 h2 ha2=>?_
  obtain⟨g2,hs2,he2,⟨hm2,hk2⟩,hev2⟩:=ha2
  obtain⟨o2,h2⟩:=h2
  obtain⟨x2,d1,d2⟩:=hs2.oth _ _ o2 trivial
  cases x2 <;> try exact d2.elim
  rename_i l2
  have hobj2:g2.obj r=g.obj r:=(hev2.later.has _ hhas).2.1
  rw [hobj2] at d1
  obtain⟨t1,t2,t4⟩:=d2
  cases ex with
  | normal =>
   obtain⟨p3,p4⟩:=hs2.put_oth o2 trivial (o':=.loop e ps a b .ready) (.inl trivial) (x:=.loop { l2 with state:=.ready,pending:=none }) (fun _=>⟨t1,⟨rfl,rfl⟩,t4⟩)
   rw [hobj2] at p3 p4
   exact⟨_,_,run_endRound none d1,g2,_,_,h2,p3,.bool true,hev2.trans p4⟩
  | exit id =>
   obtain⟨p3,p4⟩:=hs2.put_oth o2 trivial (o':=.loop e ps a b (.done (.exit id))) (.inl trivial) (x:=.loop { l2 with state:=.done,pending:=some (.exit id) }) (fun _=>⟨t1,⟨by simp,rfl,rfl⟩,t4⟩)
   rw [hobj2] at p3 p4
   exact⟨_,_,run_endRound (some (.exit id)) d1,g2,_,_,h2,p3,.bool false,hev2.trans p4⟩
  | ret =>
   obtain⟨p3,p4⟩:=hs2.put_oth o2 trivial (o':=.loop e ps a b (.done .ret)) (.inl trivial) (x:=.loop { l2 with state:=.done,pending:=some .ret }) (fun _=>⟨t1,⟨by simp,rfl,rfl⟩,t4⟩)
   rw [hobj2] at p3 p4
   exact⟨_,_,run_endRound (some .ret) d1,g2,_,_,h2,p3,.bool false,hev2.trans p4⟩

theorem call_sound {cx:Cx}(hm:P.follows .mixedOrders=true) {Γ:Nat→Option FnC}(hΓ : ∀ f fc,Γ f=some fc→Nonempty (Fits P cx.globs f fc)){f:Nat}{vs:List V} {σ:St}{Q:Post}{m:Mode}(h:Call Γ cx m f vs σ Q):SK P cx m f vs σ Q :=
 h (SK P cx) fun m f vs σ Q hst=>by
  unfold stepP at hst
  cases m with
  | rnd=>exact round_sound hm hst
  | _ =>
   obtain⟨fc,hf,hb⟩:=hst
   obtain⟨ft⟩:=hΓ f fc hf
   exact body_sound hm ft (by simp) hb

end Go.Dn

/- What an operation looks at. -/
namespace Go.Dn

set_option linter.unusedSimpArgs false

def Opd.slots:Opd→List Nat
 | .t n=>[n]
 | _=>[]

def optSlots:Option Opd→List Nat
 | some x=>x.slots
 | none=>[]

def POp.reads:POp→List Nat
 | .move x=>x.slots
 | .pick c a b=>c.slots++(a.slots++b.slots)
 | .bin _ _ _ x y=>x.slots++y.slots
 | .una _ x=>x.slots
 | .conv _ x=>x.slots
 | .load _ _ x=>x.slots
 | .nilCheck x=>x.slots
 | .faddr _ x=>x.slots
 | .field _ _ _ x=>x.slots
 | .iaddr _ x i=>x.slots++i.slots
 | .iaddrArr _ _ x i=>x.slots++i.slots
 | .index _ _ _ x i=>x.slots++i.slots
 | .indexStr x i=>x.slots++i.slots
 | .slice _ x lo hi mx=>x.slots++(optSlots lo++(optSlots hi++optSlots mx))
 | .sliceStr x lo hi=>x.slots++(optSlots lo++optSlots hi)
 | .sliceArr _ _ x lo hi=>x.slots++(optSlots lo++optSlots hi)
 | .bslice _ _ _ _ parts=>parts.flatMap fun p=>p.2.slots
 | .build _ parts=>parts.flatMap fun p=>p.2.2.slots
 | .len _ x=>x.slots
 | .lenArr _=>[]
 | .cap x=>x.slots
 | .min xs=>xs.flatMap Opd.slots
 | .max xs=>xs.flatMap Opd.slots
 | .mkif _ x=>x.slots
 | .assert _ _ _ x=>x.slots
 | .extract x _=>x.slots
 | .mkfn _ first caps=>first.flatMap Opd.slots++caps.flatMap Opd.slots
 | .lookup _ _ _ _ x k=>x.slots++k.slots
 | .mkfl _ _ _ a b=>a.slots++b.slots

def Same (rd:List Nat)(e:Env) (σ:St)(e':Env) (σ':St):Prop :=
 ∀ s∈rd,e.get s=e'.get s∧∀ r∈dref (e.get s),σ.objs[r]?=σ'.objs[r]?

variable {e e':Env} {σ σ':St}

theorem Same.left {a b:List Nat}(h:Same (a++b) e σ e' σ'):Same a e σ e' σ':=fun s hs=>h s (List.mem_append_left _ hs)
theorem Same.right {a b:List Nat}(h:Same (a++b) e σ e' σ'):Same b e σ e' σ':=fun s hs=>h s (List.mem_append_right _ hs)

theorem Same.opd {x:Opd}(h:Same x.slots e σ e' σ'):x.ev e=x.ev e'∧∀ r∈dref (x.ev e),σ.objs[r]?=σ'.objs[r]?:=by
 cases x with
 | t n=>exact h n (by simp [Opd.slots])
 | c x=>exact⟨rfl,fun r hr=>by simp [Opd.ev,dref] at hr⟩
 | ca l=>exact⟨rfl,fun r hr=>by simp [Opd.ev,dref] at hr⟩
 | f k=>exact⟨rfl,fun r hr=>by simp [Opd.ev,dref] at hr⟩

theorem Same.opt {x:Option Opd}(h:Same (optSlots x) e σ e' σ'):x.map (Opd.ev e)=x.map (Opd.ev e'):=by
 cases x with
 | none=>rfl
 | some x=>simp [(Same.opd (x:=x) h).1]

theorem Same.opds {xs:List Opd}(h:Same (xs.flatMap Opd.slots) e σ e' σ'):xs.map (Opd.ev e)=xs.map (Opd.ev e'):=by
 apply List.map_congr_left
 intro x hx
 exact(Same.opd (x:=x) fun s hs=>h s (List.mem_flatMap.2 ⟨x,hx,hs⟩)).1

theorem rows_same {x:V}(h : ∀ r∈dref x,σ.objs[r]?=σ'.objs[r]?):V.rows σ x=V.rows σ' x:=by
 cases x with
 | sl r off len sz=>simp only [V.rows]; rw [h r (by simp [dref])]
 | d x=>cases x <;> rfl
 | _=>rfl

theorem byVal_same {x:V}(h : ∀ r∈dref x,σ.objs[r]?=σ'.objs[r]?):x.byVal σ=x.byVal σ':=by
 cases x with
 | sl r off len sz=>simp only [V.byVal]; rw [rows_same h]
 | _=>rfl

theorem load_same {agg:Bool}{n:Nat}{x:V}(h : ∀ r∈dref x,σ.objs[r]?=σ'.objs[r]?):loadAt σ agg n x=loadAt σ' agg n x:=by
 cases x with
 | ref r off=>simp only [loadAt]; rw [h r (by simp [dref])]
 | _=>rfl

theorem lenT_same {ty:Ty}{x:V}(h : ∀ r∈dref x,σ.objs[r]?=σ'.objs[r]?):lenT σ ty x=lenT σ' ty x:=by
 cases ty
 case map =>
  cases x with
  | map r=>simp only [lenT]; rw [h r (by simp [dref])]
  | d x=>cases x <;> rfl
  | _=>rfl
 case slice =>
  cases x with
  | d x=>cases x <;> rfl
  | _=>rfl
 case str =>
  cases x with
  | d x=>cases x <;> rfl
  | _=>rfl
 all_goals rfl

theorem sliceArr_same {n sz:Nat}{x:V}{lo hi:Option V}(h : ∀ r∈dref x,σ.objs[r]?=σ'.objs[r]?):sliceArrV σ n sz x lo hi=sliceArrV σ' n sz x lo hi:=by
 cases x with
 | ref r off=>simp only [sliceArrV]; rw [h r (by simp [dref])]
 | _=>rfl

theorem iaddr_same {sz:Nat}{x i:V}(h : ∀ r∈dref x,σ.objs[r]?=σ'.objs[r]?):iaddrV σ sz x i=iaddrV σ' sz x i:=by
 cases x with
 | sl r off len s=>rfl
 | d x=>simp only [iaddrV]; rw [rows_same h]
 | _=>simp only [iaddrV]; rw [rows_same h]

theorem conv_same {k:Conv}{x:V}(h : ∀ r∈dref x,σ.objs[r]?=σ'.objs[r]?):evalConv σ k x=evalConv σ' k x:=by
 unfold evalConv
 rw [rows_same h]

theorem lookup_same {ka:Bool}{ks:List Lf}{z:V}{ok:Bool}{x k:V}(h : ∀ r∈dref x,σ.objs[r]?=σ'.objs[r]?):lookupV σ ka ks z ok x k=lookupV σ' ka ks z ok x k:=by
 cases x with
 | map r=>simp only [lookupV,lookM]; rw [h r (by simp [dref])]
 | d y=>cases y <;> rfl
 | _=>rfl

theorem evalP_same {op:POp}(h:Same op.reads e σ e' σ'):evalP op e σ=evalP op e' σ':=by
 cases op with
 | move x=>simp only [evalP]; rw [(Same.opd (x:=x) h).1]
 | pick c a b=>simp only [evalP]; rw [(Same.opd (x:=c) h.left).1,(Same.opd (x:=a) h.right.left).1,(Same.opd (x:=b) h.right.right).1]
 | bin op ty ks x y=>simp only [evalP]; rw [(Same.opd (x:=x) h.left).1,(Same.opd (x:=y) h.right).1]
 | una op x=>simp only [evalP]; rw [(Same.opd (x:=x) h).1]
 | conv k x=>simp only [evalP]; rw [conv_same (Same.opd (x:=x) h).2,(Same.opd (x:=x) h).1]
 | load agg n x=>simp only [evalP]; rw [load_same (Same.opd (x:=x) h).2,(Same.opd (x:=x) h).1]
 | nilCheck x=>simp only [evalP]; rw [(Same.opd (x:=x) h).1]
 | faddr off x=>simp only [evalP]; rw [(Same.opd (x:=x) h).1]
 | field agg off n x=>simp only [evalP]; rw [(Same.opd (x:=x) h).1]
 | iaddr sz x i=>simp only [evalP]; rw [iaddr_same (Same.opd (x:=x) h.left).2,(Same.opd (x:=x) h.left).1,(Same.opd (x:=i) h.right).1]
 | iaddrArr len sz x i=>simp only [evalP]; rw [(Same.opd (x:=x) h.left).1,(Same.opd (x:=i) h.right).1]
 | index agg len sz x i=>simp only [evalP]; rw [(Same.opd (x:=x) h.left).1,(Same.opd (x:=i) h.right).1]
 | indexStr x i=>simp only [evalP]; rw [(Same.opd (x:=x) h.left).1,(Same.opd (x:=i) h.right).1]
 | slice sz x lo hi mx =>
  simp only [evalP]
  rw [(Same.opd (x:=x) h.left).1,Same.opt (x:=lo) h.right.left,Same.opt (x:=hi) h.right.right.left,Same.opt (x:=mx) h.right.right.right]
  rfl
 | sliceStr x lo hi=>simp only [evalP]; rw [(Same.opd (x:=x) h.left).1,Same.opt (x:=lo) h.right.left,Same.opt (x:=hi) h.right.right]
 | sliceArr n sz x lo hi=>simp only [evalP]; rw [sliceArr_same (Same.opd (x:=x) h.left).2,(Same.opd (x:=x) h.left).1,Same.opt (x:=lo) h.right.left,Same.opt (x:=hi) h.right.right]
 | bslice t len sz zero parts =>
  have:(parts.map fun(p:Nat×Opd)=>(p.1*sz,sz,p.2.ev e))=parts.map fun(p:Nat×Opd)=>(p.1*sz,sz,p.2.ev e') :=
   List.map_congr_left fun p hp=>by rw [(Same.opd (x:=p.2) fun s hs=>h s (List.mem_flatMap.2 ⟨p,hp,hs⟩)).1]
  simp only [evalP]
  rw [this]
 | build zero parts =>
  have:(parts.map fun(p:Nat×Nat×Opd)=>(p.1,p.2.1,p.2.2.ev e))=parts.map fun(p:Nat×Nat×Opd)=>(p.1,p.2.1,p.2.2.ev e') :=
   List.map_congr_left fun p hp=>by rw [(Same.opd (x:=p.2.2) fun s hs=>h s (List.mem_flatMap.2 ⟨p,hp,hs⟩)).1]
  simp only [evalP]
  rw [this]
 | len ty x=>simp only [evalP]; rw [lenT_same (Same.opd (x:=x) h).2,(Same.opd (x:=x) h).1]
 | lenArr n=>rfl
 | cap x=>simp only [evalP]; rw [(Same.opd (x:=x) h).1]
 | min xs=>simp only [evalP]; rw [Same.opds (xs:=xs) h]
 | max xs=>simp only [evalP]; rw [Same.opds (xs:=xs) h]
 | mkif t x=>simp only [evalP]; rw [(Same.opd (x:=x) h).1]
 | assert t zero ok x=>simp only [evalP]; rw [(Same.opd (x:=x) h).1]
 | extract x i=>simp only [evalP]; rw [(Same.opd (x:=x) h).1]
 | mkfn f first caps=>simp only [evalP]; rw [Same.opds (xs:=first) h.left,Same.opds (xs:=caps) h.right]
 | mkfl sz bytes zero a b=>simp only [evalP]; rw [(Same.opd (x:=a) h.left).1,(Same.opd (x:=b) h.right).1]
 | lookup ka ks zero ok x k=>simp only [evalP]; rw [lookup_same (Same.opd (x:=x) h.left).2,(Same.opd (x:=x) h.left).1,(Same.opd (x:=k) h.right).1]

theorem byVals_same {xs:List Opd}(h:Same (xs.flatMap Opd.slots) e σ e' σ'):byVals σ (xs.map (Opd.ev e))=byVals σ' (xs.map (Opd.ev e')):=by
 induction xs with
 | nil=>rfl
 | cons x r ih =>
  simp only [List.flatMap_cons] at h
  simp only [List.map_cons,byVals]
  rw [ih h.right,byVal_same (Same.opd (x:=x) h.left).2,(Same.opd (x:=x) h.left).1]

theorem set_other {q r:Nat}{o:Obj}(h:r≠q):σ.objs[r]?=(σ.setObj q o).objs[r]?:=by
 simp only [St.setObj]
 rw [List.getElem?_set_ne (Ne.symm h)]

theorem rows_free {q:Nat}{o:Obj}(hf:σ.objs[q]?=some .free){x:V}{l:List (List D)}(h:V.rows σ x=some l):V.rows (σ.setObj q o) x=some l:=by
 rw [← rows_same (σ:=σ) (fun r hr=>?_)]
 ·exact h
 by_cases e:r=q
 ·subst e
  exfalso
  cases x with
  | sl r' off len sz=>simp [dref] at hr; subst hr; simp [V.rows,hf] at h
  | ref r' off=>simp [V.rows] at h
  | map r'=>simp [V.rows] at h
  | yld r'=>simp [V.rows] at h
  | iter r'=>simp [V.rows] at h
  | _=>simp [dref] at hr
 ·exact set_other e

theorem byVal_free {q:Nat}{o:Obj}(hf:σ.objs[q]?=some .free){x y:V}(h:V.byVal σ x=some y):V.byVal (σ.setObj q o) x=some y:=by
 cases x with
 | sl r off len sz =>
  simp only [V.byVal] at h ⊢
  cases hr:V.rows σ (.sl r off len sz) with
  | none=>rw [hr] at h; cases h
  | some l=>rw [hr] at h; rw [rows_free hf hr]; exact h
 | _=>exact h
theorem byVals_free {q:Nat}{o:Obj}(hf:σ.objs[q]?=some .free) : ∀ {xs ys:List V},byVals σ xs=some ys→byVals (σ.setObj q o) xs=some ys
 | [],ys,h=>h
 | x::xs,ys,h=>by
  simp only [byVals] at h ⊢
  cases hx:V.byVal σ x with
  | none=>rw [hx] at h; cases h
  | some y =>
   rw [hx] at h
   cases hxs:byVals σ xs with
   | none=>rw [hxs] at h; cases h
   | some l =>
    rw [hxs] at h
    rw [byVal_free hf hx,byVals_free hf hxs]
    exact h

theorem evalP_free {q:Nat}{o:Obj}(hf:σ.objs[q]?=some .free){op:POp}{v:V}(h:evalP op e σ=some v):evalP op e (σ.setObj q o)=some v:=by
 cases op with
 | conv k x =>
  cases k with
  | bytesStr =>
   simp only [evalP,evalConv] at h ⊢
   split at h
   ·rename_i rows hr
    rw [rows_free hf hr]
    exact h
   ·cases h
  | _=>exact h
 | load agg n x =>
  simp only [evalP] at h ⊢
  rw [← load_same (σ:=σ) (fun r hr=>?_)]
  ·exact h
  by_cases e':r=q
  ·subst e'
   exfalso
   generalize x.ev e=y at *
   cases y with
   | ref r' off=>simp [dref] at hr; subst hr; simp [loadAt,hf] at h
   | sl r' off len sz=>simp [loadAt] at h
   | map r'=>simp [loadAt] at h
   | yld r'=>simp [loadAt] at h
   | iter r'=>simp [loadAt] at h
   | _=>simp [dref] at hr
  ·exact set_other e'
 | iaddr sz x i =>
  simp only [evalP,iaddrV] at h ⊢
  split at h
  ·rename_i j hj
   generalize x.ev e=y at *
   cases y with
   | sl r' off len s=>exact h
   | d y =>
    split at h
    ·rename_i h1; cases h1
    ·rename_i y' _
     split at h
     ·rename_i rows hr
      simp only [rows_free hf hr]
      exact h
     ·cases h
   | _ =>
    split at h
    ·rename_i h1; cases h1
    ·rename_i y' _
     split at h
     ·rename_i rows hr
      simp only [rows_free hf hr]
      exact h
     ·cases h
  ·cases h
 | sliceArr n sz x lo hi =>
  simp only [evalP] at h ⊢
  rw [← sliceArr_same (σ:=σ) (fun r hr=>?_)]
  ·exact h
  by_cases e':r=q
  ·subst e'
   exfalso
   generalize x.ev e=y at *
   unfold sliceArrV at h
   split at h
   ·split at h
    ·cases y with
     | ref r' off=>simp [dref] at hr; subst hr; simp [hf] at h
     | sl r' off len sz=>simp at h
     | map r'=>simp at h
     | yld r'=>simp at h
     | iter r'=>simp at h
     | _=>simp [dref] at hr
    ·cases h
   ·cases h
  ·exact set_other e'
 | len ty x =>
  simp only [evalP] at h ⊢
  cases hl:lenT σ ty (x.ev e) with
  | none=>rw [hl] at h; cases h
  | some n =>
   rw [hl] at h
   have:lenT (σ.setObj q o) ty (x.ev e)=some n:=by
    generalize x.ev e=y at *
    cases ty with
    | map =>
     cases y with
     | map r' =>
      have hne:r'≠q:=by
       rintro rfl
       simp [lenT,hf] at hl
      simp only [lenT] at hl ⊢
      rw [← set_other hne]
      exact hl
     | d y=>cases y <;> exact hl
     | _=>exact hl
    | slice=>cases y <;> first | exact hl | (rename_i d; cases d <;> exact hl)
    | _=>exact hl
   rw [this]
   exact h
 | lookup ka ks zero ok x k =>
  simp only [evalP] at h ⊢
  rw [← lookup_same (σ:=σ) (fun r hr=>?_)]
  ·exact h
  by_cases e':r=q
  ·subst e'
   exfalso
   generalize x.ev e=y at *
   cases y with
   | map r' =>
    simp [dref] at hr
    subst hr
    simp only [lookupV,lookM,hf] at h
    split at h
    ·rename_i h1; split at h1 <;> cases h1
    ·rename_i h1; split at h1 <;> cases h1
    ·cases h
   | ref r' off=>simp [lookupV,lookM] at h
   | sl r' off len sz=>simp [lookupV,lookM] at h
   | yld r'=>simp [lookupV,lookM] at h
   | iter r'=>simp [lookupV,lookM] at h
   | _=>simp [dref] at hr
  ·exact set_other e'
 | slice sz x lo hi mx=>exact h
 | _=>exact h

end Go.Dn
