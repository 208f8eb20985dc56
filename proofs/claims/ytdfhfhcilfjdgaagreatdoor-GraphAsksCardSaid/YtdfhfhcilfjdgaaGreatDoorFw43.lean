import Derived.Test.YtdfhfhcilfjdgaaGreatDoorFw33
import Derived.OpenShut
import Derived.FnData
import Derived.LaidLaws
set_option linter.unusedVariables false
set_option linter.unusedSimpArgs false
open List renaming reduceReplicate → aA,getElem?_eq_some_iff → aB,getElem?_append_left → aC,replicate → aD,cons_append → aE,getElem?_set_ne → aF,append_nil → aG,nil_append → aH,map_cons → aI,take_of_length_le → aK,mem_of_getElem? → aL,map_nil → aM,getElem?_set_self → aO,length_map → aQ,getElem?_eq_none → aR,mem_map → aT,mem_append → aW,length_append → aX,mem_filter → aY,take_append_getElem → aZ,getD_eq_getElem?_getD → bA,take_length → bC,drop_zero → bF,getElem?_map → bG,getElem?_append_right → bH,mem_singleton → bI,getElem?_eq_getElem → bO,eq_nil_of_length_eq_zero → bP,getElem?_of_mem → bQ,length_replicate → bS,drop_of_length_le → bT,mem_cons → bU,append_assoc → bV,mem_append_right → bX
open Go.IntKind renaming i64 → aJ,u64 → bL
open Option renaming some → aN
open Bool renaming false_eq_true → aP,and_eq_true → aS
open Go.Builtin renaming zeroCells → aU,append_ → bD,firstCells → bM
open Go.Result renaming andThen_ok → aV
open Nat renaming le_refl → bB,mul_le_mul_right → bE,add_mul → bJ,lt_or_ge → bR
open Array renaming getElem?_eq_some_iff → bW
/- Steps, in a form that a simplifier takes without going ahead of itself. -/
namespace Go.Dn

variable {K:iI} {cx:Cx}

def oC (K:iI)(cx:Cx)(b:C)(Q:gT):gT:=fun ex e' σ'=>match ex with
 | .normal=>gF K cx b e' σ' Q
 | x=>Q x e' σ'
def pA (id:Nat)(Q:gT):gT:=fun ex e' σ'=>match ex with
 | .exit j=>if j=id then Q .normal e' σ' else Q (.exit j) e' σ'
 | x=>Q x e' σ'
def aFz (ks:List Nat)(Q:gT):Env→St→Prop:=fun e σ=>Q .normal (e.pick ks) σ
def aCv (K:iI)(cx:Cx)(r:List Ins)(e:Env)(dst:Option Nat)(Q:Env→St→Prop):jD:=fun v σ=>iD K cx r (eK e dst v) σ Q
def tY (m:Mode) (σ0:St)(rs:List Res)(Q:jD):gT:=fun ex e s=>match ex with
 | .exit _=>False
 | _=>∃ v,gO m σ0.objs.length e s rs=some v∧(m = .rd→lI σ0 s)∧Q v s

theorem dO {m:Mode}{fc:FnC}{vs:List V} {σ:St}{Q:jD}:tP K cx m fc vs σ Q=(vs.length=fc.nparams∧gF K cx fc.body (dE 0 vs++dF fc.globs) σ (tY m σ fc.res Q)):=rfl
theorem fD {e:Env} {σ:St}{Q:gT}:gF K cx .skip e σ Q=Q .normal e σ:=rfl
theorem gD {ks:List Nat}{l:List Ins}{e:Env} {σ:St}{Q:gT}:gF K cx (.ops ks l) e σ Q=iD K cx l e σ (aFz ks Q):=rfl
theorem fQ {a b:C}{e:Env} {σ:St}{Q:gT}:gF K cx (.seq a b) e σ Q=gF K cx a e σ (oC K cx b Q):=rfl
theorem fB {c:Opd}{a b:C}{e:Env} {σ:St}{Q:gT}:gF K cx (.cond c a b) e σ Q=(match c.ev e with
 | .d (.bool t)=>if t=true then gF K cx a e σ Q else gF K cx b e σ Q
 | _=>False):=rfl
theorem dK {id:Nat}{c:C}{e:Env} {σ:St}{Q:gT}:gF K cx (.block id c) e σ Q=gF K cx c e σ (pA id Q):=rfl
theorem fC {id:Nat}{e:Env} {σ:St}{Q:gT}:gF K cx (.exit id) e σ Q=Q (.exit id) e σ:=rfl
theorem gE {e:Env} {σ:St}{Q:gT}:gF K cx .ret e σ Q=Q .ret e σ:=rfl

theorem cJ {b:C}{Q:gT}{e:Env} {σ:St}:oC K cx b Q .normal e σ=gF K cx b e σ Q:=rfl
theorem cY {b:C}{Q:gT}{id:Nat}{e:Env} {σ:St}:oC K cx b Q (.exit id) e σ=Q (.exit id) e σ:=rfl
theorem cZ {b:C}{Q:gT}{e:Env} {σ:St}:oC K cx b Q .ret e σ=Q .ret e σ:=rfl
theorem dN {id:Nat}{Q:gT}{e:Env} {σ:St}:pA id Q .normal e σ=Q .normal e σ:=rfl
theorem eB {id j:Nat}{Q:gT}{e:Env} {σ:St}:pA id Q (.exit j) e σ=if j=id then Q .normal e σ else Q (.exit j) e σ:=rfl
theorem eC {id:Nat}{Q:gT}{e:Env} {σ:St}:pA id Q .ret e σ=Q .ret e σ:=rfl
theorem gA {ks:List Nat}{Q:gT}{e:Env} {σ:St}:aFz ks Q e σ=Q .normal (e.pick ks) σ:=rfl
theorem eR {r:List Ins}{e:Env}{dst:Option Nat}{Q:Env→St→Prop}{v:V} {σ:St}:aCv K cx r e dst Q v σ=iD K cx r (eK e dst v) σ Q:=rfl
theorem eE {m:Mode} {σ0:St}{rs:List Res}{Q:jD}{e:Env} {σ:St}:tY m σ0 rs Q .normal e σ = ∃ v,gO m σ0.objs.length e σ rs=some v∧(m = .rd→lI σ0 σ)∧Q v σ:=rfl
theorem eF {m:Mode} {σ0:St}{rs:List Res}{Q:jD}{e:Env} {σ:St}:tY m σ0 rs Q .ret e σ = ∃ v,gO m σ0.objs.length e σ rs=some v∧(m = .rd→lI σ0 σ)∧Q v σ:=rfl
theorem eD {m:Mode} {σ0:St}{rs:List Res}{Q:jD}{id:Nat}{e:Env} {σ:St}:tY m σ0 rs Q (.exit id) e σ=False:=rfl

theorem fZ {e:Env} {σ:St}{Q:Env→St→Prop}:iD K cx [] e σ Q=Q e σ:=rfl
theorem i_p {dst:Option Nat}{op:POp}{r:List Ins}{e:Env} {σ:St}{Q:Env→St→Prop}:iD K cx (.p dst op::r) e σ Q=(if fR cx dst op=true then(match fO op e σ with
  | some (v,s)=>iD K cx r (eK e dst v) s Q
  | none=>False)
 else match dC op e σ with
 | some v=>iD K cx r (eK e dst v) σ Q
 | none=>match fP op e σ with
  | some (v,s)=>iD K cx r (eK e dst v) s Q
  | none=>False):=rfl
theorem dU {dst:Option Nat}{z:List V}{r:List Ins}{e:Env} {σ:St}{Q:Env→St→Prop}:iD K cx (.e dst (.alloc z)::r) e σ Q=(match dM (.alloc z) e σ none with
 | some (v,σ')=>iD K cx r (eK e dst v) σ' Q
 | none=>False):=by
 simp only [iD,jG,iB,or_false]
 rfl
theorem fY {dst:Option Nat}{x:Opd}{r:List Ins}{e:Env} {σ:St}{Q:Env→St→Prop}:iD K cx (.e dst (.box x)::r) e σ Q=(match dM (.box x) e σ none with
 | some (v,σ')=>iD K cx r (eK e dst v) σ' Q
 | none=>False):=by
 simp only [iD,jG,iB,or_false]
 rfl
theorem eA {dst:Option Nat}{n:Nat}{a x:Opd}{r:List Ins}{e:Env} {σ:St}{Q:Env→St→Prop}:iD K cx (.e dst (.store n a x)::r) e σ Q=(match dM (.store n a x) e σ none with
 | some (v,σ')=>iD K cx r (eK e dst v) σ' Q
 | none=>False):=by
 simp only [iD,jG,iB,or_false]
 rfl
theorem eV {dst:Option Nat}{sz:Nat}{a x:Opd}{r:List Ins}{e:Env} {σ:St}{Q:Env→St→Prop}:iD K cx (.e dst (.copy sz a x)::r) e σ Q=(match dM (.copy sz a x) e σ none with
 | some (v,σ')=>iD K cx r (eK e dst v) σ' Q
 | none=>False):=by
 simp only [iD,jG,iB,or_false]
 rfl
theorem dW {dst:Option Nat}{sz:Nat}{z:List D}{a:Opd}{r:List Ins}{e:Env} {σ:St}{Q:Env→St→Prop}:iD K cx (.e dst (.clear sz z a)::r) e σ Q=(match dM (.clear sz z a) e σ none with
 | some (v,σ')=>iD K cx r (eK e dst v) σ' Q
 | none=>False):=by
 simp only [iD,jG,iB,or_false]
 rfl
theorem gN {dst:Option Nat}{op:EOp}{r:List Ins}{e:Env} {σ:St}{Q:Env→St→Prop}{v:V}{s:St}(h:dM op e σ none=some (v,s))(hq:iD K cx r (eK e dst v) s Q):iD K cx (.e dst op::r) e σ Q:=by
 simp only [iD,jG]
 left
 rw [h]
 exact hq
theorem sM {dst:Option Nat}{op:EOp}{r:List Ins}{e:Env} {σ:St}{Q:Env→St→Prop}{v:V}{s:St}(h:iB op e σ none=some (v,s))(hq:iD K cx r (eK e dst v) s Q):iD K cx (.e dst op::r) e σ Q:=by
 simp only [iD,jG]
 right
 rw [h]
 exact hq
theorem dV {dst:Option Nat}{f:Opd}{args:List Opd}{r:List Ins}{e:Env} {σ:St}{Q:Env→St→Prop}:iD K cx (.callv dst f args::r) e σ Q=(match f.ev e with
 | .fn (.func g) first caps=>callK K cx g (first++args.map (Opd.ev e)++caps) σ (aCv K cx r e dst Q)
 | .yld q=>∃ Q',K .rnd q (args.map (Opd.ev e)) σ Q'∧∀ v s,Q' v s→aCv K cx r e dst Q v s
 | _=>False):=rfl
theorem eW {dst:Option Nat}{it:Opd}{r:List Ins}{e:Env} {σ:St}{Q:Env→St→Prop}:iD K cx (.next dst it::r) e σ Q=uH (it.ev e) σ (aCv K cx r e dst Q):=rfl
theorem cE {dst:Option Nat}{r:List Ins}{e:Env} {σ:St}{Q:Env→St→Prop}:iD K cx (.e dst .makeMap::r) e σ Q=(match dM .makeMap e σ none with
 | some (v,σ')=>iD K cx r (eK e dst v) σ' Q
 | none=>False):=by
 simp only [iD,jG,iB,or_false]
 rfl
theorem dZ {dst:Option Nat}{x:Opd}{r:List Ins}{e:Env} {σ:St}{Q:Env→St→Prop}:iD K cx (.e dst (.range x)::r) e σ Q=(match dM (.range x) e σ none with
 | some (v,σ')=>iD K cx r (eK e dst v) σ' Q
 | none=>False):=by
 simp only [iD,jG,iB,or_false]
 rfl
theorem dY {dst:Option Nat}{x:Opd}{r:List Ins}{e:Env} {σ:St}{Q:Env→St→Prop}:iD K cx (.e dst (.entry x)::r) e σ Q=(match dM (.entry x) e σ none with
 | some (v,σ')=>iD K cx r (eK e dst v) σ' Q
 | none=>False):=by
 simp only [iD,jG,iB,or_false]
 rfl
theorem dX {dst:Option Nat}{x:Opd}{r:List Ins}{e:Env} {σ:St}{Q:Env→St→Prop}:iD K cx (.e dst (.cloneMap x)::r) e σ Q=(match dM (.cloneMap x) e σ none with
 | some (v,σ')=>iD K cx r (eK e dst v) σ' Q
 | none=>False):=by
 simp only [iD,jG,iB,or_false]
 rfl
theorem cS {dst:Option Nat}{ka:Bool}{ks:List Lf}{m k x:Opd}{r:List Ins}{e:Env} {σ:St}{Q:Env→St→Prop}:iD K cx (.e dst (.mapUpdate ka ks m k x)::r) e σ Q=(match dM (.mapUpdate ka ks m k x) e σ none with
 | some (v,σ')=>iD K cx r (eK e dst v) σ' Q
 | none=>False):=by
 simp only [iD,jG,iB,or_false]
 rfl
theorem cK {dst:Option Nat}{ka:Bool}{ks:List Lf}{m k:Opd}{r:List Ins}{e:Env} {σ:St}{Q:Env→St→Prop}:iD K cx (.e dst (.mapDelete ka ks m k)::r) e σ Q=(match dM (.mapDelete ka ks m k) e σ none with
 | some (v,σ')=>iD K cx r (eK e dst v) σ' Q
 | none=>False):=by
 simp only [iD,jG,iB,or_false]
 rfl
theorem eU {dst:Option Nat}{f:Nat}{args:List Opd}{r:List Ins}{e:Env} {σ:St}{Q:Env→St→Prop}:iD K cx (.call dst f args::r) e σ Q=callK K cx f (args.map (Opd.ev e)) σ (aCv K cx r e dst Q):=rfl

theorem aDq {Q:Env→St→Prop} : ∀ (a b:List Ins) (e:Env) (σ:St),iD K cx (a++b) e σ Q=iD K cx a e σ fun e' σ'=>iD K cx b e' σ' Q
 | [],b,e,σ=>rfl
 | i::a,b,e,σ=>by
  simp only [aE,iD]
  congr 1
  funext e' σ'
  exact aDq a b e' σ'

theorem eX {s:Nat}{want:Bool}{body r:List Ins}{e:Env} {σ:St}{Q:Env→St→Prop}:iD K cx (.when s want body::r) e σ Q=(match e.get s with
 | .d (.bool b)=>if b=want then iD K cx (body++r) e σ Q else iD K cx r (dD body e) σ Q
 | .gone=>iD K cx r (dD body e) σ Q
 | _=>False):=by
 simp only [iD,jG,aDq]
 generalize e.get s=x
 cases x <;> first | rfl | (rename_i d; cases d <;> rfl)

def rS (I:Nat→Env→St→Prop)(m:Nat)(ks:List Nat)(Q:gT):gT:=fun ex e' σ'=>match ex with
 | .normal=>∃ m',m'<m∧I m' (e'.pick ks) σ'
 | x=>Q x e' σ'
theorem cL {I:Nat→Env→St→Prop}{m:Nat}{ks:List Nat}{Q:gT}{e:Env} {σ:St}:rS I m ks Q .normal e σ = ∃ m',m'<m∧I m' (e.pick ks) σ:=rfl
theorem cU {I:Nat→Env→St→Prop}{m:Nat}{ks:List Nat}{Q:gT}{id:Nat}{e:Env} {σ:St}:rS I m ks Q (.exit id) e σ=Q (.exit id) e σ:=rfl
theorem cV {I:Nat→Env→St→Prop}{m:Nat}{ks:List Nat}{Q:gT}{e:Env} {σ:St}:rS I m ks Q .ret e σ=Q .ret e σ:=rfl
theorem fK {ks:List Nat}{c:C}{e:Env} {σ:St}{Q:gT}(I:Nat→Env→St→Prop){m:Nat}(h0:I m (e.pick ks) σ)(hs : ∀ m e σ,I m e σ→gF K cx c e σ (rS I m ks Q)):gF K cx (.loop ks c) e σ Q :=
 aLz I h0 hs

def aEb (K:iI)(cx:Cx)(n0:Nat)(ks:List Nat)(r:List DOp)(e:Env)(dst:Option Nat)(Q:Env→St→Prop):jD:=fun v s=>wtx K cx n0 ks r (eK e dst v) s Q

def tV (K:iI)(cx:Cx)(n0:Nat)(ks:List Nat)(e:Env)(f:Nat)(vs:List V) (σ:St)(Q:jD):Prop :=
 match cx.mode f with
 | .rnd=>False
 | .raw=>∃ Q',K .raw f vs σ Q'∧(∃ v s,Q' v s)∧∀ v s,Q' v s→Kept ks e σ s∧Q v s
 | .val=>match cN σ vs with
  | some ds=>∃ Q',K .val f ds St.empty Q'∧(∃ v s,Q' v s)∧∀ v s,Q' v s→v.pure=true∧(vs.any V.borrows=true→v.scalars=true)∧Q v σ
  | none=>False
 | .rd=>∀ σ1,Agr n0 σ σ1→∃ Q',K .rd f vs σ1 Q'∧(∃ v s,Q' v s)∧∀ v s,Q' v s→Q v σ

theorem gC {n0:Nat}{ks:List Nat}{e:Env} {σ:St}{Q:Env→St→Prop}:wtx K cx n0 ks [] e σ Q=Q e σ:=rfl

theorem t_p {n0:Nat}{ks:List Nat}{gd:Option (Nat×Bool)}{dst:Option Nat}{op:POp}{af:List Nat}{al:Nat}{r:List DOp}{e:Env} {σ:St}{Q:Env→St→Prop}:wtx K cx n0 ks (⟨gd,.p dst op,af,al⟩::r) e σ Q=((∀ s∈cx.dry,s∈DOp.reads ⟨gd,.p dst op,af,al⟩→jP (e.get s)=[])∧(match gM gd e with
 | some true=>(match dC op e σ with
  | some v=>wtx K cx n0 ks r (eK e dst v) σ Q
  | none=>False)
 | some false=>wtx K cx n0 ks r (eK e dst .gone) σ Q
 | none=>False)):=by
 simp only [wtx,Adm,Dry,DOp.isP,Adm0,true_implies]
 rfl
theorem eY {n0:Nat}{ks:List Nat}{gd:Option (Nat×Bool)}{dst:Option Nat}{f:Nat}{args:List Opd}{af:List Nat}{al:Nat}{r:List DOp}{e:Env} {σ:St}{Q:Env→St→Prop}:wtx K cx n0 ks (⟨gd,.call dst f args,af,al⟩::r) e σ Q=(match gM gd e with
 | some true=>tV K cx n0 ks e f (args.map (Opd.ev e)) σ (aEb K cx n0 ks r e dst Q)
 | some false=>wtx K cx n0 ks r (eK e dst .gone) σ Q
 | none=>False):=by
 simp only [wtx,Adm,Dry,DOp.isP,aP,false_implies,true_and,Adm0,DOp.isN,Ins.dst]
 cases hm:cx.mode f with
 | rnd=>simp only [AdmX,xGo,xCall,tV,hm] <;> rfl
 | raw=>simp only [AdmX,xGo,xCall,tV,hm] <;> rfl
 | val=>simp only [AdmN,nGo,tV,hm] <;> rfl
 | rd=>simp only [AdmN,nGo,tV,hm] <;> rfl
theorem eH {n0:Nat}{ks:List Nat}{gd:Option (Nat×Bool)}{dst:Option Nat}{z:List V}{af:List Nat}{al:Nat}{r:List DOp}{e:Env} {σ:St}{Q:Env→St→Prop}:wtx K cx n0 ks (⟨gd,.e dst (.alloc z),af,al⟩::r) e σ Q=(match gM gd e with
 | some true=>(match dM (.alloc z) e σ (some (n0+al)) with
  | some (v,s)=>wtx K cx n0 ks r (eK e dst v) s Q
  | none=>False)
 | some false=>wtx K cx n0 ks r (eK e dst .gone) σ Q
 | none=>False):=by
 simp only [wtx,Adm,Dry,DOp.isP,aP,false_implies,true_and,Adm0,DOp.isN,AdmX,xGo,iB,or_false,Ins.dst,EOp.isStore,aP,false_implies,true_and] <;> rfl
theorem gB {n0:Nat}{ks:List Nat}{gd:Option (Nat×Bool)}{dst:Option Nat}{x:Opd}{af:List Nat}{al:Nat}{r:List DOp}{e:Env} {σ:St}{Q:Env→St→Prop}:wtx K cx n0 ks (⟨gd,.e dst (.box x),af,al⟩::r) e σ Q=(match gM gd e with
 | some true=>(match dM (.box x) e σ (some (n0+al)) with
  | some (v,s)=>wtx K cx n0 ks r (eK e dst v) s Q
  | none=>False)
 | some false=>wtx K cx n0 ks r (eK e dst .gone) σ Q
 | none=>False):=by
 simp only [wtx,Adm,Dry,DOp.isP,aP,false_implies,true_and,Adm0,DOp.isN,AdmX,xGo,iB,or_false,Ins.dst,EOp.isStore,aP,false_implies,true_and] <;> rfl
theorem cT {e:Env} {σ s:St}:Kept [] e σ s=True:=by simp [Kept]
theorem eJ {n0:Nat}{ks:List Nat}{gd:Option (Nat×Bool)}{dst:Option Nat}{n:Nat}{a x:Opd}{af:List Nat}{al:Nat}{r:List DOp}{e:Env} {σ:St}{Q:Env→St→Prop}:wtx K cx n0 ks (⟨gd,.e dst (.store n a x),af,al⟩::r) e σ Q=(match gM gd e with
 | some true=>(match dM (.store n a x) e σ (some (n0+al)) with
  | some (v,s)=>Kept ks e σ s∧wtx K cx n0 ks r (eK e dst v) s Q
  | none=>False)
 | some false=>wtx K cx n0 ks r (eK e dst .gone) σ Q
 | none=>False):=by
 simp only [wtx,Adm,Dry,DOp.isP,aP,false_implies,true_and,Adm0,DOp.isN,AdmX,xGo,iB,or_false,Ins.dst,EOp.isStore,forall_const] <;> rfl
theorem eZ {n0:Nat}{ks:List Nat}{gd:Option (Nat×Bool)}{dst:Option Nat}{sz:Nat}{a x:Opd}{af:List Nat}{al:Nat}{r:List DOp}{e:Env} {σ:St}{Q:Env→St→Prop}:wtx K cx n0 ks (⟨gd,.e dst (.copy sz a x),af,al⟩::r) e σ Q=(match gM gd e with
 | some true=>(match dM (.copy sz a x) e σ (some (n0+al)) with
  | some (v,s)=>wtx K cx n0 ks r (eK e dst v) s Q
  | none=>False)
 | some false=>wtx K cx n0 ks r (eK e dst .gone) σ Q
 | none=>False):=by
 simp only [wtx,Adm,Dry,DOp.isP,aP,false_implies,true_and,Adm0,DOp.isN,AdmX,xGo,iB,or_false,Ins.dst,EOp.isStore,aP,false_implies,true_and] <;> rfl
theorem eI {n0:Nat}{ks:List Nat}{gd:Option (Nat×Bool)}{dst:Option Nat}{sz:Nat}{z:List D}{a:Opd}{af:List Nat}{al:Nat}{r:List DOp}{e:Env} {σ:St}{Q:Env→St→Prop}:wtx K cx n0 ks (⟨gd,.e dst (.clear sz z a),af,al⟩::r) e σ Q=(match gM gd e with
 | some true=>(match dM (.clear sz z a) e σ (some (n0+al)) with
  | some (v,s)=>wtx K cx n0 ks r (eK e dst v) s Q
  | none=>False)
 | some false=>wtx K cx n0 ks r (eK e dst .gone) σ Q
 | none=>False):=by
 simp only [wtx,Adm,Dry,DOp.isP,aP,false_implies,true_and,Adm0,DOp.isN,AdmX,xGo,iB,or_false,Ins.dst,EOp.isStore,aP,false_implies,true_and] <;> rfl
theorem yE {n0:Nat}{ks:List Nat}{dst:Option Nat}{op:EOp}{af:List Nat}{al:Nat}{r:List DOp}{e:Env} {σ:St}{Q:Env→St→Prop}{v:V}{s:St}(h:dM op e σ (some (n0+al))=some (v,s))(hq:wtx K cx n0 ks r (eK e dst v) s Q)(hs:op.isStore=true→Kept ks e σ s:=by first | (intro h; cases h; done) | (intro _ t ht; cases ht)):wtx K cx n0 ks (⟨none,.e dst op,af,al⟩::r) e σ Q:=by
 simp only [wtx,Adm,Dry,DOp.isP,aP,false_implies,true_and,Adm0,DOp.isN,AdmX,gM,xGo,Ins.dst]
 left
 rw [h]
 exact⟨hs,hq⟩
theorem eG {n0:Nat}{ks:List Nat}{r:List DOp}{e:Env}{dst:Option Nat}{Q:Env→St→Prop}{v:V} {σ:St}:aEb K cx n0 ks r e dst Q v σ=wtx K cx n0 ks r (eK e dst v) σ Q:=rfl

theorem gY {cx0:Cx} {Γ:Nat→Option FnC}{n0:Nat}{ks:List Nat}{e:Env}{f:Nat}(hm:cx.mode f = .val){vs ds:List V} {σ:St}(hds:cN σ vs=some ds){r:V}(h:Call Γ cx0 .val f ds St.empty fun v _=>v=r)(hp:(r.pure&&(!vs.any V.borrows||r.scalars))=true){Q:jD}(hq:Q r σ) :
  tV (Call Γ cx0) cx n0 ks e f vs σ Q:=by
 simp only [aS,Bool.or_eq_true,Bool.not_eq_true'] at hp
 unfold tV
 rw [hm]
 simp only
 rw [hds]
 exact⟨_,h,⟨r,St.empty,rfl⟩,fun v s hv=>by
  subst hv
  exact⟨hp.1,fun hb=>hp.2.resolve_left (by simp [hb]),hq⟩⟩
theorem oH {cx0:Cx} {Γ:Nat→Option FnC}{n0:Nat}{ks:List Nat}{e:Env}{f:Nat}(hm:cx.mode f = .rd){vs:List V} {σ:St}{r:V}(h : ∀ σ1,Agr n0 σ σ1→Call Γ cx0 .rd f vs σ1 fun v _=>v=r){Q:jD}(hq:Q r σ):tV (Call Γ cx0) cx n0 ks e f vs σ Q:=by
 unfold tV
 rw [hm]
 exact fun σ1 h1=>⟨_,h σ1 h1,⟨r,St.empty,rfl⟩,fun v s hv=>by subst hv; exact hq⟩
theorem aKH (md:Nat→Mode)(dr kl:List Nat){ks:List Nat}{na:Nat}{l:List DOp}(hC:(wP md dr l&&aBJ dr l==kl)=true){e:Env} {σ:St}{Q:gT}(h:wtx K { mode:=md,dry:=dr } σ.objs.length kl l e (σ.room na) (aFz ks Q)):gF K cx (.drw ks na l) e σ Q:=by
 simp only [aS,beq_iff_eq] at hC
 refine aLL (cx:={ mode:=md,dry:=dr }) hC.1 ?_
 rw [hC.2]
 exact h
theorem mR (md:Nat→Mode)(kl:List Nat){ks:List Nat}{na:Nat}{l:List DOp}(hC:(wP md [] l&&aBJ [] l==kl)=true){e:Env} {σ:St}{Q:gT}(h:wtx K { mode:=md } σ.objs.length kl l e (σ.room na) (aFz ks Q)):gF K cx (.drw ks na l) e σ Q :=
 aKH md [] kl hC h

theorem gP (md:Nat→Mode)(kl:List Nat){ks:List Nat}{na:Nat}{l:List DOp}(hC:(wP md [] l&&aEF md [] l==kl)=true){e:Env} {σ:St}{Q:gT}(h:wtx K { mode:=md } σ.objs.length kl l e (σ.room na) (aFz ks Q)):gF K cx (.drw ks na l) e σ Q:=by
 simp only [aS,beq_iff_eq] at hC
 refine aLy (cx:={ mode:=md }) hC.1 ?_
 rw [hC.2]
 exact h
end Go.Dn

/- Arguments of any data: numbers, strings, arrays, structs, slices of these. -/
namespace Go.Dn
open Go.Lib Go.RowKit

inductive Lk where
 | int (k:IntKind) | bool | str | list (ls:List Lk)

mutual
def Lk.fits:Lk→D→Prop
 | .int k,d=>∃ n,d = .int k n∧k.min≤n∧n≤k.max
 | .bool,d=>∃ b,d = .bool b
 | .str,d=>∃ s,d = .str s∧s.length≤9223372036854775807
 | .list ls,d=>d = .nils∨∃ rows,d = .list rows∧rows.length≤9223372036854775807∧∀ row∈rows,Lks ls row
def Lks:List Lk→List D→Prop
 | [],ds=>ds=[]
 | k::ks,ds=>∃ d r,ds=d::r∧k.fits d∧Lks ks r
end

variable {P:Program} {w:World} {H:Type} {enc:TypeId×Value→H} {base:Nat} {spare:Nat→Bool} {held:Bool}

theorem Lks.mk : ∀ {a b:List Lk} {x y:List D},Lks a x→Lks b y→Lks (a++b) (x++y)
 | [],_,x,y,h,h'=>by simp only [Lks] at h; subst h; exact h'
 | k::a,b,x,y,h,h'=>by
  simp only [Lks,aE] at h ⊢
  obtain⟨d,r,rfl,h1,h2⟩:=h
  exact⟨d,r++y,rfl,h1,Lks.mk h2 h'⟩

theorem Lks.length : ∀ {a:List Lk} {x:List D},Lks a x→x.length=a.length
 | [],x,h=>by simp only [Lks] at h; subst h; rfl
 | k::a,x,h=>by
  simp only [Lks] at h
  obtain⟨d,r,rfl,h1,h2⟩:=h
  simp [Lks.length h2]

def rQ (P : Program) (f : TypeId → Option (List Lk)) : Nat → List Field → Option (List Lk)
  | _, [] => some []
  | off, x :: r => match f x.type with
    | some l => if x.offset = off ∧ P.cellsOf x.type = l.length then
        (match rQ P f (off + l.length) r with
         | some b => some (l ++ b)
         | none => none) else none
    | none => none

def pG (P:Program):Nat→TypeId→Option (List Lk)
 | 0,_=>none
 | n+1,t=>match P.underlying t with
  | some (.int k)=>some [.int k]
  | some .bool=>some [.bool]
  | some .string=>some [.str]
  | some (.slice e)=>match pG P n e with
   | some l=>if P.cellsOf e=l.length∧0<l.length then some [.list l] else none
   | none=>none
  | some (.array len e)=>match pG P n e with
   | some l=>if P.cellsOf e=l.length∧P.cellsOf t=len*l.length then some ((aD len l).flatten) else none
   | none=>none
  | some (.struct fs)=>match rQ P (pG P n) 0 fs.toList with
   | some l=>if P.cellsOf t=l.length then some l else none
   | none=>none
  | _=>none

def Data (F:Nat→Nat→Prop)(w:World)(ks:List Lk)(cs:List Value):Prop:=∃ ds,DRs F w ds cs∧Lks ks ds∧∀ v∈cs,iE v=true

theorem Data.append {F:Nat→Nat→Prop}{a b:List Lk}{x y:List Value}(h:Data F w a x)(h':Data F w b y):Data F w (a++b) (x++y):=by
 obtain⟨d,h1,h2,h3⟩:=h
 obtain⟨d',h1',h2',h3'⟩:=h'
 exact⟨d++d',h1.append h1',Lks.mk h2 h2',fun v hv=>by
  rcases aW.1 hv with h | h
  ·exact h3 v h
  ·exact h3' v h⟩

theorem Data.nil {F:Nat→Nat→Prop}:Data F w [] []:=⟨[],trivial,by simp only [Lks],by simp⟩

theorem wN {F:Nat→Nat→Prop}{l:List Lk} : ∀ (n:Nat) (cs:List Value),cs.length=n*l.length→(∀ i,i<n→Data F w l ((cs.drop (i*l.length)).take l.length))→Data F w ((aD n l).flatten) cs
 | 0,cs,hl,h=>by
  have:cs=[]:=bP (by simpa using hl)
  subst this
  exact Data.nil
 | n+1,cs,hl,h=>by
  rw [List.replicate_succ,List.flatten_cons]
  have e:cs=cs.take l.length++cs.drop l.length:=(List.take_append_drop _ _).symm
  rw [e]
  refine Data.append (by simpa using h 0 (by omega)) (wN n _ (by simp [hl,bJ]) fun i hi=>?_)
  have:=h (i+1) (by omega)
  rw [List.drop_drop,show l.length+i*l.length=(i+1)*l.length by rw [bJ]; omega]
  exact this

theorem wO {F:Nat→Nat→Prop}{lv:TypeId→Option (List Lk)}{cs:List Value} : ∀ (fs:List Field) (off:Nat) (ks:List Lk),rQ P lv off fs=some ks→off+ks.length=cs.length →
  (∀ f∈fs,∀ l,lv f.type=some l→Data F w l ((cs.drop f.offset).take (P.cellsOf f.type)))→Data F w ks (cs.drop off)
 | [],off,ks,h,hl,hf=>by
  simp [rQ] at h
  subst h
  have:cs.drop off=[]:=bP (by simp at hl ⊢; omega)
  rw [this]
  exact Data.nil
 | x::fs,off,ks,h,hl,hf=>by
  unfold rQ at h
  split at h
  ·rename_i l hlv
   split at h
   ·rename_i hc
    obtain⟨ho,hcell⟩:=hc
    split at h
    ·rename_i b hb
     cases h
     have e:cs.drop off=(cs.drop off).take l.length++cs.drop (off+l.length):=by
      rw [← List.drop_drop]
      exact(List.take_append_drop _ _).symm
     rw [e]
     refine Data.append ?_ (wO fs (off+l.length) b hb (by simp at hl; omega) fun f hm=>hf f (List.mem_cons_of_mem _ hm))
     have:=hf x (by simp) l hlv
     rw [ho,hcell] at this
     exact this
    ·cases h
   ·cases h
  ·cases h

theorem aBX {l:List Lk}{f:Nat→List D}(n:Nat)(i:Nat)(row:List D)(h:((List.range n).map f)[i]?=some row):i<n∧row=f i:=by
 rw [bG] at h
 simp only [Option.map_eq_some_iff] at h
 obtain⟨a,h1,h2⟩:=h
 obtain⟨h3,rfl⟩:=aB.1 h1
 simp at h3 h2
 exact⟨h3,h2.symm⟩

theorem qI {F:Nat→Nat→Prop}(hF : ∀ b q v,w.cell? ⟨b,q,none⟩=some v→F b q) : ∀ (n:Nat) (t:TypeId) (ks:List Lk),pG P n t=some ks→∀ {fuel:Nat} {cs:List Value} {x:DataW H×List MemPlace},DataW.trod enc P w base spare held fuel t cs=some x→Data F w ks cs
 | 0,t,ks,h,_,_,_,_=>by simp [pG] at h
 | n+1,t,ks,h,fuel,cs,x,ht=>by
  unfold pG at h
  split at h
  ·rename_i k hu
   cases h
   obtain⟨m,rfl,_,hw⟩:=DataW.trod_int hu ht
   refine⟨[.int k m],⟨.int k m,trivial⟩,?_,by simp [iE]⟩
   simp only [Lit.wf,aS] at hw
   simp only [Lks]
   refine⟨_,_,rfl,?_,rfl⟩
   simp only [Lk.fits]
   exact⟨m,rfl,by simpa using hw.1,by simpa using hw.2⟩
  ·rename_i hu
   cases h
   obtain⟨b,rfl,_⟩:=DataW.trod_bool hu ht
   refine⟨[.bool b],⟨.bool b,trivial⟩,?_,by simp [iE]⟩
   simp only [Lks]
   refine⟨_,_,rfl,?_,rfl⟩
   simp only [Lk.fits]
   exact⟨b,rfl⟩
  ·rename_i hu
   cases h
   obtain⟨s,rfl,_,hs⟩:=DataW.trod_string hu ht
   have:Value.string s = .string ⟨s.data.toList.toArray⟩:=by cases s; rfl
   refine⟨[.str s.data.toList],⟨by rw [this]; exact .str _,trivial⟩,?_,by simp [iE]⟩
   simp only [Lks]
   refine⟨_,_,rfl,?_,rfl⟩
   simp only [Lk.fits]
   have e1:s.data.toList.length=s.size:=Array.length_toList
   exact⟨_,rfl,by rw [e1]; exact hs⟩
  ·rename_i e hu
   split at h
   ·rename_i l hl
    obtain⟨⟨hc,hpos⟩,h⟩:=oT h
    cases h
    rcases DataW.trod_slice hu ht with⟨rfl,_⟩ | ⟨a,len,cap,elems,rest,m,_,rfl,_,hb,hlc,hcm,hlen,hel,_,_⟩
    ·refine⟨[.nils],⟨.nils,trivial⟩,?_,by simp [iE]⟩
     simp only [Lks]
     refine⟨_,_,rfl,?_,rfl⟩
     simp only [Lk.fits]
     exact .inl trivial
    ·have each : ∀ i,∃ row:List D,i<len→Lks l row∧∀ j d,row[j]?=some d→∃ v,w.cell? (a.add (i*l.length+j))=some v∧iE v=true∧DR F w d v:=by
      intro i
      by_cases hi:i<len
      ·have h1:=hel i hi
       rw [hc] at h1
       have h2:elems[i]?=some (elems[i]'(by omega)):=by simp [show i<elems.length by omega]
       rw [h2,Option.bind_eq_some_iff] at h1
       obtain⟨ci,h3,h4⟩:=h1
       obtain⟨ds,d1,d2,d3⟩:=qI hF n e l hl h4
       refine⟨ds,fun _=>⟨d2,fun j d hj=>?_⟩⟩
       unfold World.cells? at h3
       split at h3
       ·have hln:=mapM_some_length h3
        have hj':j<ci.length:=by
         rw [← d1.length]
         exact(aB.1 hj).1
        have hr:(List.range l.length)[j]?=some j:=by
         rw [List.length_range] at hln
         rw [List.getElem?_range (by omega)]
        have h5:=mapM_some_get h3 j j hr
        have h6:ci[j]?=some ci[j]:=by simp [hj']
        rw [h6] at h5
        refine⟨ci[j],?_,d3 _ (List.getElem_mem hj'),d1.get j d _ hj h6⟩
        rw [← h5]
        exact congrArg w.cell? (aH3 a _ _).symm
       ·cases h3
      ·exact⟨[],fun h=>(hi h).elim⟩
     have hz : ∃ f:Nat→List D,∀ i,i<len→Lks l (f i)∧∀ j d,(f i)[j]?=some d→∃ v,w.cell? (a.add (i*l.length+j))=some v∧iE v=true∧DR F w d v :=
      ⟨fun i=>(each i).choose,fun i hi=>(each i).choose_spec hi⟩
     obtain⟨f,hf⟩:=hz
     have hrl:((List.range len).map f).length=len:=by simp
     refine⟨[.list ((List.range len).map f)],⟨?_,trivial⟩,?_,by simp [iE]⟩
     ·by_cases h0:len=0
      ·subst h0; exact .list0 a cap
      ·have cellAt : ∀ k,k<len*l.length→∃ v,w.cell? (a.add k)=some v∧iE v=true:=by
        intro k hk
        have hkl:k / l.length<len:=Nat.div_lt_of_lt_mul (by rw [Nat.mul_comm]; exact hk)
        obtain⟨g1,g2⟩:=hf _ hkl
        have hm:k % l.length<(f (k / l.length)).length:=by rw [g1.length]; exact Nat.mod_lt _ hpos
        obtain⟨v,v1,v2,_⟩:=g2 (k % l.length) _ (by simp [hm]; rfl)
        rw [Nat.mul_comm,Nat.div_add_mod] at v1
        exact⟨v,v1,v2⟩
       have hsp:a.spot=none:=by
        obtain⟨v,hv,_⟩:=cellAt 0 (Nat.mul_pos (by omega) hpos)
        unfold World.cell? at hv
        split at hv
        ·cases hs:a.spot with
         | none=>rfl
         | some s=>simp [Addr.add,hs] at hv
        ·cases hv
       obtain⟨ab,ao,asp⟩:=a
       simp only at hsp
       subst hsp
       simp only [iJ] at cellAt hf
       have:=DR.list (frz:=F) (w:=w) ((List.range len).map f) ab ao cap l.length (fun k=>(w.cell? ⟨ab,ao+k,none⟩).getD undef) (by rw [hrl]; exact hlc)
        (fun i row hr=>by obtain⟨hi,rfl⟩:=aBX (l:=l) len i row hr; exact(hf i hi).1.length)
        (fun k hk=>by rw [hrl] at hk; obtain⟨v,hv,_⟩:=cellAt k hk; exact hF _ _ _ hv)
        (fun k hk=>by rw [hrl] at hk; obtain⟨v,hv,_⟩:=cellAt k hk; simp [hv])
        (fun k hk=>by rw [hrl] at hk; obtain⟨v,hv,h1⟩:=cellAt k hk; simp [hv,h1])
        (fun i row j d hr hj=>by
         obtain⟨hi,rfl⟩:=aBX (l:=l) len i row hr
         obtain⟨v,v1,_,v2⟩:=(hf i hi).2 j d hj
         simp [v1,v2])
       rw [hrl] at this
       exact this
     ·simp only [Lks]
      refine⟨_,_,rfl,?_,rfl⟩
      simp only [Lk.fits]
      refine .inr ⟨_,rfl,?_,fun row hr=>?_⟩
      ·rw [hrl]
       unfold maxLen at hcm
       omega
      ·obtain⟨i,hi⟩:=bQ hr
       obtain⟨hi',rfl⟩:=aBX (l:=l) len i row hi
       exact(hf i hi').1
   ·cases h
  ·rename_i len e hu
   split at h
   ·rename_i l hl
    obtain⟨⟨hc,hct⟩,h⟩:=oT h
    cases h
    obtain⟨xs,m,rfl,_,h1,h2,h3⟩:=DataW.trod_array hu ht
    refine wN len cs (by rw [h1,hct]) fun i hi=>?_
    have:=h3 i hi
    rw [hc] at this
    have hx:xs[i]?=some (xs[i]'(by omega)):=by simp [show i<xs.length by omega]
    rw [hx] at this
    exact qI hF n e l hl this
   ·cases h
  ·rename_i fs hu
   split at h
   ·rename_i l hl
    obtain⟨hct,h⟩:=oT h
    cases h
    obtain⟨xs,m,rfl,_,h1,h2,h3⟩:=DataW.trod_struct hu ht
    have:=wO (F:=F) (w:=w) (cs:=cs) fs.toList 0 ks hl (by rw [h1,hct]; omega) fun f hf l hlv=>by
     obtain⟨i,hi⟩:=bQ hf
     have hfi:fs[i]?=some f:=by simpa using hi
     have hi2:i<xs.length:=by
      have:=(bW.1 hfi).1
      omega
     have:=h3 i f hfi
     rw [show xs[i]?=some xs[i] by simp [hi2]] at this
     exact qI hF n f.type l hlv this
    simpa using this
   ·cases h
  ·cases h

abbrev Has (W:World):Nat→Nat→Prop:=fun b q=>∃ v,W.cell? ⟨b,q,none⟩=some v

theorem aJX {g:Gh}{tk:List Nat}(hg:g.frz=Has w){t:TypeId}{ks:List Lk}(hk:pG P 12 t=some ks)(hagg:oN P t=true){v:Value}(hv:Value.okWide P w .any base t v){d:DataW H}{p:List MemPlace}
  (h:DataW.Trod enc P w 0 spare held t v d p) : ∃ ds,VR g tk w (.da ds) v∧Lks ks ds:=by
 obtain⟨fuel,ht⟩:=h
 obtain⟨ds,h1,h2,h3⟩:=qI (F:=Has w) (fun b q v h=>⟨v,h⟩) 12 t ks hk ht
 have : ∃ cs,v = .agg cs:=by
  unfold Value.okWide at hv
  unfold oN at hagg
  split at hagg
  ·rename_i hu; rw [hu] at hv; obtain⟨cs,rfl,_⟩:=hv; exact⟨cs,rfl⟩
  ·rename_i hu; rw [hu] at hv; obtain⟨cs,rfl,_⟩:=hv; exact⟨cs,rfl⟩
  ·cases hagg
 obtain⟨cs,rfl⟩:=this
 simp only [Value.cells] at h1 h3
 exact⟨ds,.da ds cs (by rw [hg]; exact DR.agg_of h3 h1),h2⟩

def aKf (P:Program)(t:TypeId):Bool :=
 match P.underlying t with
 | some (.int _) | some .bool | some .string | some (.slice _)=>true
 | _=>false

theorem Cell.ok_one {W:World}{t:TypeId}(h1:aKf P t=true){v:Value}(hv:Value.okWide P W .any base t v):v.cells = #[v]:=by
 unfold aKf at h1
 unfold Value.okWide Go.Cell.okWide Go.Cell.ok at hv
 split at h1 <;> rename_i hu <;> simp only [hu] at hv
 ·cases v <;> first | rfl | exact hv.elim
 ·cases v <;> first | rfl | exact hv.elim
 ·cases v <;> first | rfl | exact hv.elim
 ·cases v <;> first | rfl | exact hv.elim
 ·cases h1

theorem aJe {g:Gh}{tk:List Nat}(hg:g.frz=Has w){t:TypeId}{k:Lk}(hk:pG P 12 t=some [k])(h1:aKf P t=true){v:Value}(hv:Value.okWide P w .any base t v){d:DataW H}{p:List MemPlace}
  (h:DataW.Trod enc P w 0 spare held t v d p) : ∃ x,VR g tk w (.d x) v∧k.fits x:=by
 obtain⟨fuel,ht⟩:=h
 obtain⟨ds,d1,d2,d3⟩:=qI (F:=Has w) (fun b q v h=>⟨v,h⟩) 12 t [k] hk ht
 rw [Cell.ok_one h1 hv] at d1 d3
 simp only [Lks] at d2
 obtain⟨x,_,rfl,d2,rfl⟩:=d2
 exact⟨x,.d _ _ (by rw [hg]; exact d1.1) (d3 v (by simp)),d2⟩

end Go.Dn

/- Lists in the store: what reads as rows, what may be appended to; bytes. -/
namespace Go.Dn

inductive LV:V→List (List D)→Prop
 | nil:LV (.d .nils) []
 | list (rows:List (List D)):LV (.d (.list rows)) rows
 | fl (rows:List (List D)):LV (.fl rows) rows
 | tl (rows:List (List D)) (t st sz:Nat):LV (.tl rows t st sz) rows

theorem LV.len {v:V}{rows:List (List D)}(h:LV v rows) (σ:St):gZ σ .slice v=some rows.length:=by cases h <;> rfl
theorem LV.lenV {v:V}{rows:List (List D)}(h:LV v rows) (σ:St):Dn.lenV σ v=some rows.length:=by cases h <;> rfl
theorem LV.rows {v:V}{rows:List (List D)}(h:LV v rows) (σ:St):V.rows σ v=some rows:=by cases h <;> rfl
theorem LV.iaddr {v:V}{rows:List (List D)}(h:LV v rows) (σ:St){k:IntKind}{sz i:Nat}{row:List D}(hr:rows[i]?=some row)(hs:row.length=sz):jA σ sz v (.d (.int k i))=some (.ro row):=by
 have hl:i<rows.length:=by
  rw [aB] at hr; exact hr.1
 have hg:rows[i]=row:=by
  rw [aB] at hr; exact hr.2
 cases h with
 | nil=>simp at hl
 | _=>simp [jA,jX,V.rows,hl,hg,hs]
theorem LV.byVal {v:V}{rows:List (List D)}(h:LV v rows) (σ:St) : ∃ d,V.byVal σ v=some (.d d)∧LV (.d d) rows:=by
 cases h with
 | nil=>exact⟨_,rfl,.nil⟩
 | _=>exact⟨_,rfl,.list _⟩
theorem LV.borrows {v:V}{rows:List (List D)}(h:LV v rows):v.borrows=false:=by cases h <;> rfl
theorem LV.isNil {v:V}{rows:List (List D)}(h:LV v rows) : ∃ b,V.isNil .slice v=some b∧(b=true→v = .d .nils∧rows=[]):=by
 cases h with
 | nil=>exact⟨true,rfl,fun _=>⟨rfl,rfl⟩⟩
 | _=>exact⟨false,rfl,fun h=>by cases h⟩

theorem fitR_iff {sz:Nat}{rows:List (List D)}:kV sz rows=true↔∀ r∈rows,r.length=sz:=by
 simp [kV]

theorem LV.slice {v:V}{rows:List (List D)}(h:LV v rows) (σ:St){sz:Nat}(hf : ∀ r∈rows,r.length=sz)(hts : ∀ r t st s,v = .tl r t st s→s=sz){lo hi:Nat}(h1:lo≤hi)(h2:hi≤rows.length) :
  ∃ v',kL sz v lo hi none=some v'∧LV v' ((rows.drop lo).take (hi-lo))∧(∀ r t st s,v' = .tl r t st s→s=sz):=by
 have hf':=fitR_iff.2 hf
 cases h with
 | nil =>
  obtain rfl:hi=0:=by simpa using h2
  obtain rfl:lo=0:=by omega
  exact⟨_,rfl,.nil,fun r t st s h=>by cases h⟩
 | list rows=>exact⟨_,by simp [kL,hf',h2],.list _,fun r t st s h=>by cases h⟩
 | fl rows =>
  by_cases he:hi=rows.length
  ·subst he
   refine⟨.fl (rows.drop lo),by simp [kL,hf'],?_,fun r t st s h=>by cases h⟩
   rw [aK (by simp)]
   exact .fl _
  ·exact⟨_,by simp [kL,hf',he,h2],.list _,fun r t st s h=>by cases h⟩
 | tl rows t st s =>
  obtain rfl:=hts _ _ _ _ rfl
  by_cases he:hi=rows.length
  ·subst he
   refine⟨.tl (rows.drop lo) t (st+lo) s,by simp [kL,hf'],?_,fun r t st s h=>by cases h; rfl⟩
   rw [aK (by simp)]
   exact .tl _ _ _ _
  ·exact⟨_,by simp [kL,hf',he,h2],.list _,fun r t st s h=>by cases h⟩

def dv:V→V
 | .fl rows=>.d (.list rows)
 | .tl rows _ _ _=>.d (.list rows)
 | v=>v
theorem LV.dv {v:V}{rows:List (List D)}(h:LV v rows) (σ:St):V.byVal σ v=some (Dn.dv v)∧LV (Dn.dv v) rows∧(∃ x,Dn.dv v = .d x)∧(Dn.dv v).borrows=false∧(Dn.dv v).pure=true:=by
 cases h with
 | nil=>exact⟨rfl,.nil,⟨_,rfl⟩,rfl,rfl⟩
 | list=>exact⟨rfl,.list _,⟨_,rfl⟩,rfl,rfl⟩
 | fl=>exact⟨rfl,.list _,⟨_,rfl⟩,rfl,rfl⟩
 | tl=>exact⟨rfl,.list _,⟨_,rfl⟩,rfl,rfl⟩

def own:V→Option Nat
 | .tl _ t _ _=>some t
 | _=>none

inductive App (σ:St) (sz:Nat):V→List (List D)→Prop
 | nil:App σ sz (.d .nils) []
 | fl (rows:List (List D)):App σ sz (.fl rows) rows
 | tl (rows:List (List D)) (t st:Nat) (h:σ.toks[t]?=some (st+rows.length)):App σ sz (.tl rows t st sz) rows

theorem App.lv {σ:St}{sz:Nat}{v:V}{rows:List (List D)}(h:App σ sz v rows):LV v rows:=by
 cases h with
 | nil=>exact .nil
 | fl=>exact .fl _
 | tl rows t st h=>exact .tl _ _ _ _
structure Toks (l l':List Nat)(o o':Option Nat):Prop where
 len:l.length≤l'.length
 other : ∀ (t k:Nat),l[t]?=some k→o≠some t→l'[t]?=some k
 own:o'=o∨∃ t,o'=some t∧l.length≤t

theorem Toks.refl (l:List Nat)(o:Option Nat):Toks l l o o:=⟨bB _,fun _ _ h _=>h,.inl rfl⟩
theorem Toks.trans {l l' l'':List Nat}{o o' o'':Option Nat}(h:Toks l l' o o')(h':Toks l' l'' o' o''):Toks l l'' o o'':=by
 refine⟨Nat.le_trans h.len h'.len,fun t k ht hne=>h'.other t k (h.other t k ht hne) (fun e=>?_),?_⟩
 ·rcases h.own with h1 | ⟨t',h1,h2⟩
  ·exact hne (by rw [← h1,e])
  ·rw [h1] at e
   cases e
   have:=(aB.1 ht).1
   omega
 ·rcases h'.own with h1 | ⟨t',h1,h2⟩
  ·rw [h1]; exact h.own
  ·exact .inr ⟨t',h1,Nat.le_trans h.len h2⟩

theorem App.other {σ σ':St}{sz:Nat}{v:V}{rows:List (List D)}(h:App σ sz v rows){o o':Option Nat}(ht:Toks σ.toks σ'.toks o o')(hne : ∀ t,Dn.own v=some t→o≠some t):App σ' sz v rows:=by
 cases h with
 | nil=>exact .nil
 | fl=>exact .fl _
 | tl rows t st h=>exact .tl _ _ _ (ht.other t _ h (hne t rfl))

theorem App.toks {σ σ':St}{sz:Nat}{v:V}{rows:List (List D)}(h:App σ sz v rows)(ht:σ'.toks=σ.toks):App σ' sz v rows:=by
 cases h with
 | nil=>exact .nil
 | fl=>exact .fl _
 | tl rows t st h=>exact .tl _ _ _ (by rw [ht]; exact h)

theorem App.push {σ:St}{sz bytes:Nat}{v:V}{rows:List (List D)}(hv:App σ sz v rows)(hpos:0<sz)(hfr : ∀ r∈rows,r.length=sz){ys:List (List D)}(hfy : ∀ r∈ys,r.length=sz)
  (hb:(rows.length+ys.length)*bytes≤140737488355328) (h63:rows.length+ys.length≤9223372036854775807) :
  ∃ v' σ',(∀ tg,jE σ tg sz bytes v ys=some (v',σ'))∧App σ' sz v' (rows++ys)∧σ'.objs=σ.objs∧Toks σ.toks σ'.toks (Dn.own v) (Dn.own v')∧(v ≠ .d .nils∨ys≠[]→Dn.dv v' = .d (.list (rows++ys))):=by
 have h1:=fitR_iff.2 hfr
 have h2:=fitR_iff.2 hfy
 by_cases hy:ys=[]
 ·subst hy
  refine⟨v,σ,fun tg=>?_,by rw [aG]; exact hv,rfl,Toks.refl _ _,fun h=>?_⟩
  ·cases hv <;> simp [jE,h2,V.rows]
  ·cases hv <;> simp_all [Dn.dv]
 ·cases hv with
  | nil =>
   refine⟨.tl ys σ.toks.length 0 sz,σ.pushTok ys.length,fun tg=>?_,?_,rfl,?_,fun _=>rfl⟩
   ·simp at hb h63
    simp [jE,h2,hy,hpos,hb,h63]
   ·rw [aH]
    exact .tl _ _ _ (by simp [St.pushTok])
   ·exact⟨by simp [St.pushTok],fun t k ht _=>by
     simp only [St.pushTok]
     rw [aC (aB.1 ht).1]; exact ht,.inr ⟨_,rfl,bB _⟩⟩
  | fl rows =>
   refine⟨.tl (rows++ys) σ.toks.length 0 sz,σ.pushTok (rows.length+ys.length),fun tg=>?_,?_,rfl,?_,fun _=>rfl⟩
   ·simp [jE,h2,hy,hpos,hb,h63,h1]
   ·exact .tl _ _ _ (by simp [St.pushTok])
   ·exact⟨by simp [St.pushTok],fun t k ht _=>by
     simp only [St.pushTok]
     rw [aC (aB.1 ht).1]; exact ht,.inr ⟨_,rfl,bB _⟩⟩
  | tl rows t st ht =>
   have hl:=(aB.1 ht).1
   refine⟨.tl (rows++ys) t st sz,σ.setTok t (st+rows.length+ys.length),fun tg=>?_,?_,rfl,?_,fun _=>rfl⟩
   ·simp [jE,h2,hy,hpos,hb,h63,h1,ht]
   ·exact .tl _ _ _ (by simp [St.setTok,hl]; omega)
   ·exact⟨by simp [St.setTok],fun t' k ht' hne=>by
     simp only [St.setTok]
     rw [aF (fun e=>hne (by rw [e]; rfl))]; exact ht',.inl rfl⟩

theorem yJ {σ:St}{sz bytes:Nat}{rows ys:List (List D)}(hpos:0<sz)(hfr : ∀ r∈rows,r.length=sz)(hfy : ∀ r∈ys,r.length=sz)(hne:ys≠[])(hb:(rows.length+ys.length)*bytes≤140737488355328)(h63:rows.length+ys.length≤9223372036854775807) :
  kQ σ none sz bytes (.fl rows) ys=some (.sl σ.objs.length 0 (rows.length+ys.length) sz,σ.push (.cells ((rows++ys).flatten.map .d))):=by
 simp [kQ,fitR_iff.2 hfr,fitR_iff.2 hfy,hne,hpos,hb,h63,newObj,St.place,St.spot]

theorem dJ (l:List UInt8):(cC l).length=l.length:=by simp [cC]
theorem fJ (l:List UInt8) : ∀ r∈cC l,r.length=1:=by
 intro r hr
 simp only [cC,aT] at hr
 obtain⟨b,_,rfl⟩:=hr
 rfl
theorem iC (a b:List UInt8):cC (a++b)=cC a++cC b:=by simp [cC]
theorem sZ (l:List UInt8)(n:Nat):(cC l).drop n=cC (l.drop n):=by simp [cC]
theorem tA (l:List UInt8)(n:Nat):(cC l).take n=cC (l.take n):=by simp [cC]
theorem nQ {l:List UInt8}{i:Nat}{b:UInt8}(h:l[i]?=some b):(cC l)[i]?=some [.int .u8 b.toNat]:=by simp [cC,h]

theorem bY {n:Int}(h : -9223372036854775808≤n)(h':n≤9223372036854775807):aJ.wrap n=n:=by
 simp only [IntKind.wrap,IntKind.signed,IntKind.bits]
 simp
 omega
theorem lZ {n:Int}(h:0≤n)(h':n≤18446744073709551615):bL.wrap n=n:=by
 simp only [IntKind.wrap,IntKind.signed,IntKind.bits]
 simp
 omega

theorem lS {σ:St}{m r:Nat}{o:Obj}(h:σ.objs[r]?=some o):(σ.room m).objs[r]?=some o:=by
 simp only [St.room]
 rw [aC (aB.1 h).1]; exact h
theorem aBe (σ:St)(m:Nat):(σ.room m).toks=σ.toks:=rfl
structure Fr (F:List Nat) (σ σ':St):Prop where
 len:σ.objs.length≤σ'.objs.length
 at_ : ∀ r,r∉F→r<σ.objs.length→σ'.objs[r]?=σ.objs[r]?

theorem Fr.refl (F:List Nat) (σ:St):Fr F σ σ:=⟨bB _,fun _ _ _=>rfl⟩
theorem Fr.trans {F:List Nat}{a b c:St}(h:Fr F a b)(h':Fr F b c):Fr F a c :=
 ⟨Nat.le_trans h.len h'.len,fun r hr hl=>(h'.at_ r hr (Nat.lt_of_lt_of_le hl h.len)).trans (h.at_ r hr hl)⟩
theorem Fr.mono {F F':List Nat}{a b:St}(h:Fr F a b)(hs : ∀ r∈F,r∈F'):Fr F' a b:=⟨h.len,fun r hr=>h.at_ r fun h=>hr (hs r h)⟩
theorem Fr.get {F:List Nat}{a b:St}(h:Fr F a b){r:Nat}{o:Obj}(ho:a.objs[r]?=some o)(hr:r∉F):b.objs[r]?=some o:=by
 rw [h.at_ r hr (aB.1 ho).1]; exact ho
theorem Fr.keeps {a b:St}(h:Fr [] a b)(ht : ∀ (t k:Nat),a.toks[t]?=some k→b.toks[t]?=some k):lI a b:=⟨fun i hi=>h.at_ i (by simp) hi,ht⟩

theorem eT (x:D):(V.d x).cells=some [.d x]:=rfl
theorem dP (l:List D):(V.da l).cells=some (l.map .d):=rfl
theorem cO (l:List V):(V.agg l).cells=some l:=rfl
theorem cR (r o:Nat):(V.ref r o).cells=some [.ref r o]:=rfl
theorem dS (r o l s:Nat):(V.sl r o l s).cells=some [.sl r o l s]:=rfl
theorem dQ (r:List (List D)):(V.fl r).cells=some [.fl r]:=rfl
theorem dT (r:List (List D))(t st s:Nat):(V.tl r t st s).cells=some [.tl r t st s]:=rfl
theorem cQ (r:Nat):(V.map r).cells=some [.map r]:=rfl
theorem dR (f:Fn)(a b:List V):(V.fn f a b).cells=some [.fn f a b]:=rfl
theorem cP (t:Nat)(v:V):(V.ifc t v).cells=some [.ifc t v]:=rfl
theorem LV.cells {v:V}{rows:List (List D)}(h:LV v rows):v.cells=some [v]:=by cases h <;> rfl
theorem gS (σ:St)(x:D):V.byVal σ (.d x)=some (.d x):=rfl
theorem fN (σ:St)(l:List D):V.byVal σ (.da l)=some (.da l):=rfl
theorem fW (σ:St)(r:List (List D)):V.byVal σ (.fl r)=some (.d (.list r)):=rfl
theorem fX (σ:St)(r:List (List D))(t st s:Nat):V.byVal σ (.tl r t st s)=some (.d (.list r)):=rfl
theorem gW (lo:Nat) (σ:St)(x:D):V.byValN lo σ (.d x)=some (.d x):=rfl
theorem fT (lo:Nat) (σ:St)(l:List D):V.byValN lo σ (.da l)=some (.da l):=rfl
theorem fU (lo:Nat) (σ:St)(r:List (List D)):V.byValN lo σ (.fl r)=some (.d (.list r)):=rfl
theorem fV (lo:Nat) (σ:St)(r:List (List D))(t st s:Nat):V.byValN lo σ (.tl r t st s)=some (.d (.list r)):=rfl
theorem LV.byValN {v:V}{rows:List (List D)}(h:LV v rows)(lo:Nat) (σ:St):V.byValN lo σ v=V.byVal σ v:=by cases h <;> rfl

theorem Kept.set {ks:List Nat}{e:Env} {σ:St}{r:Nat}{o:Obj}(h : ∀ t∈ks,r∉jP (e.get t)):Kept ks e σ ⟨σ.objs.set r o,σ.toks⟩:=fun t ht q hq=>by
 simp only
 rw [aF (fun he=>h t ht (by rw [he]; exact hq))]
end Go.Dn

/- A contract with the store as it stands, turned to other modes. -/
namespace Go.Dn

variable {cx:Cx}

theorem Call.inv {Γ:Nat→Option FnC}{m:Mode}{f:Nat}{vs:List V} {σ:St}{Q:jD}(h:Call Γ cx m f vs σ Q)(hm:m ≠ .rnd:=by decide) : ∃ fc,Γ f=some fc∧tP (Call Γ cx) cx m fc vs σ Q:=by
 refine(h (fun m f vs σ Q=>Call Γ cx m f vs σ Q∧(m ≠ .rnd→∃ fc,Γ f=some fc∧tP (Call Γ cx) cx m fc vs σ Q)) ?_).2 hm
 intro m f vs σ Q hs
 by_cases hr:m = .rnd
 ·subst hr
  have hs':uW Γ (Call Γ cx) cx .rnd f vs σ Q:=aAv (fun m f vs σ Q h=>h.1) (fun v s h=>h) hs
  exact⟨Call.round hs',fun h=>absurd rfl h⟩
 ·have hs':uW Γ (Call Γ cx) cx m f vs σ Q:=aAv (fun m f vs σ Q h=>h.1) (fun v s h=>h) hs
  have : ∃ fc,Γ f=some fc∧tP (Call Γ cx) cx m fc vs σ Q:=by
   unfold uW at hs'
   cases m with
   | rnd=>exact absurd rfl hr
   | _=>exact hs'
  obtain⟨fc,hf,hb⟩:=this
  exact⟨Call.body hf hb hr,fun _=>⟨fc,hf,hb⟩⟩

theorem Call.as_val {Γ:Nat→Option FnC}{f:Nat}{fc:FnC}(hf:Γ f=some fc)(h1:fc.res.length=1){vs:List V}{Q Q':jD}(h:Call Γ cx .raw f vs St.empty Q)(hq : ∀ v s,Q v s→∃ d,V.byVal s v=some d∧Q' d s):Call Γ cx .val f vs St.empty Q':=by
 obtain⟨fc',hf',hl,hb⟩:=h.inv
 rw [hf] at hf'
 cases hf'
 refine Call.body hf ⟨hl,kM (fun m f vs σ Q h=>h) _ (fun ex e s hx=>?_) hb⟩
 have key:(∃ v,gO .raw St.empty.objs.length e s fc.res=some v∧(Mode.raw = .rd→lI St.empty s)∧Q v s)→∃ v,gO .val St.empty.objs.length e s fc.res=some v∧(Mode.val = .rd→lI St.empty s)∧Q' v s:=by
  rintro ⟨v,hr,_,hv⟩
  obtain⟨d,hd,hd'⟩:=hq v s hv
  unfold gO at hr ⊢
  match hv2:fc.res,h1 with
  | [x],_ =>
   rw [hv2] at hr
   unfold eL at hr ⊢
   cases hx:Res.ev e s x with
   | none=>simp [hx] at hr
   | some y =>
    simp [hx,eL,fL] at hr
    subst hr
    simp [eL,cN,hd,fL]
    exact hd'
 cases ex with
 | exit id=>exact hx
 | normal=>exact key hx
 | ret=>exact key hx

theorem dB (σ:St):σ.room 0=σ:=by simp [St.room]
end Go.Dn

/- For those who prove: loops aG1 functions, rounds, maps. -/
namespace Go.Dn

variable {K:iI} {cx:Cx}

def rfQ (r:Nat)(ks:List Nat)(e:Env)(Q:gT)(s:St):Prop:=match s.objs[r]? with
 | some (.loop _ _ _ _ .ready)=>Q .normal (e.pick ks) (s.setObj r .dead)
 | some (.loop _ _ _ _ (.done x))=>Q x (e.pick ks) (s.setObj r .dead)
 | _=>False

theorem dA {ks:List Nat}{f:Opd}{ps:List Nat}{a b:C}{e:Env} {σ:St}{Q:gT}:gF K cx (.rangeF ks f ps a b) e σ Q=(match f.ev e with
 | .fn (.func g) first caps=>∃ Q',K .raw g (first++[.yld σ.objs.length]++caps) (σ.push (.loop (e.pick ks) ps a b .ready)) Q'∧∀ v s,Q' v s→rfQ σ.objs.length ks e Q s
 | _=>False):=rfl

theorem aBd {r:Nat}{ks:List Nat}{e:Env}{Q:gT}{s:St}{e':Env}{ps:List Nat}{a b:C}(h:s.objs[r]?=some (.loop e' ps a b .ready))(hq:Q .normal (e.pick ks) (s.setObj r .dead)):rfQ r ks e Q s:=by
 unfold rfQ
 rw [h]
 exact hq

def aHe (r:Nat)(e:Env)(ps:List Nat)(a b:C)(Q:jD):gT:=fun ex e2 s2=>s2.objs[r]?=some (.loop e ps a b .busy)∧match ex with
 | .normal=>Q (.d (.bool true)) (s2.setObj r (.loop e ps a b .ready))
 | x=>Q (.d (.bool false)) (s2.setObj r (.loop e ps a b (.done x)))
def aLm (K:iI)(cx:Cx)(r:Nat)(e:Env)(ps:List Nat)(a b:C)(Q:jD):gT:=fun ex e1 s1=>match ex with
 | .normal=>s1.objs[r]?=some (.loop e ps a b .ready)∧gF K cx b e1 (s1.setObj r (.loop e ps a b .busy)) (aHe r e ps a b Q)
 | _=>False

theorem eS {r:Nat}{e:Env}{ps:List Nat}{a b:C}{Q:jD}{e1:Env}{s1:St}:aLm K cx r e ps a b Q .normal e1 s1=(s1.objs[r]?=some (.loop e ps a b .ready)∧gF K cx b e1 (s1.setObj r (.loop e ps a b .busy)) (aHe r e ps a b Q)):=rfl
theorem cM {r:Nat}{e:Env}{ps:List Nat}{a b:C}{Q:jD}{e1:Env}{s1:St}:aHe r e ps a b Q .normal e1 s1=(s1.objs[r]?=some (.loop e ps a b .busy)∧Q (.d (.bool true)) (s1.setObj r (.loop e ps a b .ready))):=rfl
theorem cW {r:Nat}{e:Env}{ps:List Nat}{a b:C}{Q:jD}{e1:Env}{s1:St}{id:Nat}:aHe r e ps a b Q (.exit id) e1 s1=(s1.objs[r]?=some (.loop e ps a b .busy)∧Q (.d (.bool false)) (s1.setObj r (.loop e ps a b (.done (.exit id))))):=rfl
theorem cX {r:Nat}{e:Env}{ps:List Nat}{a b:C}{Q:jD}{e1:Env}{s1:St}:aHe r e ps a b Q .ret e1 s1=(s1.objs[r]?=some (.loop e ps a b .busy)∧Q (.d (.bool false)) (s1.setObj r (.loop e ps a b (.done .ret)))):=rfl

theorem Call.rnd {Γ:Nat→Option FnC}{r:Nat}{e:Env}{ps:List Nat}{a b:C}{vs:List V} {σ:St}{Q:jD}(ho:σ.objs[r]?=some (.loop e ps a b .ready))(hl:vs.length=ps.length)
  (h:gF (Call Γ cx) cx a (eN e ps vs) σ (aLm (Call Γ cx) cx r e ps a b Q)):Call Γ cx .rnd r vs σ Q :=
 Call.round ⟨e,ps,a,b,ho,hl,h⟩

theorem aCT {σ:St}{r m:Nat}{since:Nat}{seen:List Nat}{es:List (Nat×V×V)}(hr:σ.objs[r]?=some (.iter (some m) since seen since))(hm:σ.objs[m]?=some (.map es since))(hlt : ∀ x∈es,x.1<since){Q:jD}
  (h1 : ∀ x∈es,seen.contains x.1=false→Q (.tup [.d (.bool true),x.2.1,x.2.2]) (σ.setObj r (.iter (some m) since (seen++[x.1]) since)))
  (h2:(∀ x∈es,seen.contains x.1=true)→Q (.tup [.d (.bool false)]) σ):uH (.iter r) σ Q:=by
 simp only [uH,hr,hm]
 exact⟨trivial,trivial,hlt,h1,h2⟩

end Go.Dn

/- Numbers of 32 and 64 bits, as bit vectors. -/
namespace Go.Dn

abbrev W32:=BitVec 32
abbrev W64:=BitVec 64

def un {k:Nat}(x:BitVec k):Int:=(x.toNat:Int)

namespace Raw
theorem wrap_u32 (n:Nat):IntKind.u32.wrap (n:Int)=((BitVec.ofNat 32 n).toNat:Int):=by
 simp only [IntKind.wrap,IntKind.signed,IntKind.bits,BitVec.toNat_ofNat]
 simp
theorem wrap_u64n (n:Nat):bL.wrap (n:Int)=((BitVec.ofNat 64 n).toNat:Int):=by
 simp only [IntKind.wrap,IntKind.signed,IntKind.bits,BitVec.toNat_ofNat]
 simp
theorem wrap_u8n (n:Nat):IntKind.u8.wrap (n:Int)=((n % 256:Nat):Int):=by
 simp only [IntKind.wrap,IntKind.signed,IntKind.bits]
 simp

theorem add_u32 (x y:W32):IntKind.u32.wrap ((x.toNat:Int)+(y.toNat:Int))=((x+y).toNat:Int):=by
 rw [← Int.natCast_add,wrap_u32]
 simp
theorem ofInt_nat {k:Nat}(x:BitVec k):BitVec.ofInt k (x.toNat:Int)=x:=by
 rw [BitVec.ofInt_natCast]
 simp

theorem xor_u32 (x y:W32):bits .xor .u32 (x.toNat:Int) (y.toNat:Int)=((x^^^y).toNat:Int):=by
 show IntKind.u32.wrap (((BitVec.ofInt 32 (x.toNat:Int)^^^BitVec.ofInt 32 (y.toNat:Int)).toNat:Nat):Int)=_
 rw [ofInt_nat,ofInt_nat,wrap_u32,BitVec.ofNat_toNat,BitVec.setWidth_eq]
theorem and_u32 (x y:W32):bits .and .u32 (x.toNat:Int) (y.toNat:Int)=((x&&&y).toNat:Int):=by
 show IntKind.u32.wrap (((BitVec.ofInt 32 (x.toNat:Int)&&&BitVec.ofInt 32 (y.toNat:Int)).toNat:Nat):Int)=_
 rw [ofInt_nat,ofInt_nat,wrap_u32,BitVec.ofNat_toNat,BitVec.setWidth_eq]
theorem or_u32 (x y:W32):bits .or .u32 (x.toNat:Int) (y.toNat:Int)=((x|||y).toNat:Int):=by
 show IntKind.u32.wrap (((BitVec.ofInt 32 (x.toNat:Int)|||BitVec.ofInt 32 (y.toNat:Int)).toNat:Nat):Int)=_
 rw [ofInt_nat,ofInt_nat,wrap_u32,BitVec.ofNat_toNat,BitVec.setWidth_eq]
theorem xor_u64 (x y:W64):bits .xor .u64 (x.toNat:Int) (y.toNat:Int)=((x^^^y).toNat:Int):=by
 show bL.wrap (((BitVec.ofInt 64 (x.toNat:Int)^^^BitVec.ofInt 64 (y.toNat:Int)).toNat:Nat):Int)=_
 rw [ofInt_nat,ofInt_nat,wrap_u64n,BitVec.ofNat_toNat,BitVec.setWidth_eq]
theorem and_u64 (x y:W64):bits .and .u64 (x.toNat:Int) (y.toNat:Int)=((x&&&y).toNat:Int):=by
 show bL.wrap (((BitVec.ofInt 64 (x.toNat:Int)&&&BitVec.ofInt 64 (y.toNat:Int)).toNat:Nat):Int)=_
 rw [ofInt_nat,ofInt_nat,wrap_u64n,BitVec.ofNat_toNat,BitVec.setWidth_eq]
theorem not_u32 (x:W32):bits .xor .u32 (IntKind.u32.max) (x.toNat:Int)=((~~~ x).toNat:Int):=by
 have:(IntKind.u32.max:Int)=((BitVec.allOnes 32).toNat:Int):=by decide
 rw [this,xor_u32,BitVec.xor_comm,BitVec.xor_allOnes]
theorem sub_max32 (x:W32):IntKind.u32.wrap (4294967295-(x.toNat:Int))=((~~~ x).toNat:Int):=by
 have hx:=x.isLt
 simp only [IntKind.wrap,IntKind.signed,IntKind.bits,BitVec.toNat_not]
 simp
 omega

theorem shl_u32 (x:W32)(n:Nat):IntKind.u32.wrap ((x.toNat:Int)*2 ^ n)=((x <<< n).toNat:Int):=by
 have:(x.toNat:Int)*2 ^ n=((x.toNat*2 ^ n:Nat):Int):=by simp
 rw [this,wrap_u32]
 congr 1
 simp [BitVec.toNat_shiftLeft,Nat.shiftLeft_eq]
theorem shr_u32 (x:W32)(n:Nat):(x.toNat:Int) / 2 ^ n=((x >>> n).toNat:Int):=by
 have:(x.toNat:Int) / 2 ^ n=((x.toNat / 2 ^ n:Nat):Int):=by simp
 rw [this]
 congr 1
 simp [BitVec.toNat_ushiftRight,Nat.shiftRight_eq_div_pow]
theorem shl_u64 (x:W64)(n:Nat):bL.wrap ((x.toNat:Int)*2 ^ n)=((x <<< n).toNat:Int):=by
 have:(x.toNat:Int)*2 ^ n=((x.toNat*2 ^ n:Nat):Int):=by simp
 rw [this,wrap_u64n]
 congr 1
 simp [BitVec.toNat_shiftLeft,Nat.shiftLeft_eq]
theorem shr_u64 (x:W64)(n:Nat):(x.toNat:Int) / 2 ^ n=((x >>> n).toNat:Int):=by
 have:(x.toNat:Int) / 2 ^ n=((x.toNat / 2 ^ n:Nat):Int):=by simp
 rw [this]
 congr 1
 simp [BitVec.toNat_ushiftRight,Nat.shiftRight_eq_div_pow]

end Raw

theorem wrap_u32 (n:Nat):IntKind.u32.wrap (n:Int)=(un (BitVec.ofNat 32 n)):=Raw.wrap_u32 n
theorem wrap_u64n (n:Nat):bL.wrap (n:Int)=(un (BitVec.ofNat 64 n)):=Raw.wrap_u64n n
theorem add_u32 (x y:W32):IntKind.u32.wrap ((un x)+(un y))=(un (x+y)):=Raw.add_u32 x y
theorem ofInt_nat {k:Nat}(x:BitVec k):BitVec.ofInt k (un x)=x:=Raw.ofInt_nat x
theorem xor_u32 (x y:W32):bits .xor .u32 (un x) (un y)=(un (x^^^y)):=Raw.xor_u32 x y
theorem and_u32 (x y:W32):bits .and .u32 (un x) (un y)=(un (x&&&y)):=Raw.and_u32 x y
theorem or_u32 (x y:W32):bits .or .u32 (un x) (un y)=(un (x|||y)):=Raw.or_u32 x y
theorem xor_u64 (x y:W64):bits .xor .u64 (un x) (un y)=(un (x^^^y)):=Raw.xor_u64 x y
theorem and_u64 (x y:W64):bits .and .u64 (un x) (un y)=(un (x&&&y)):=Raw.and_u64 x y
theorem not_u32 (x:W32):bits .xor .u32 (IntKind.u32.max) (un x)=(un (~~~ x)):=Raw.not_u32 x
theorem sub_max32 (x:W32):IntKind.u32.wrap (4294967295-(un x))=(un (~~~ x)):=Raw.sub_max32 x
theorem shl_u32 (x:W32)(n:Nat):IntKind.u32.wrap ((un x)*2 ^ n)=(un (x <<< n)):=Raw.shl_u32 x n
theorem shr_u32 (x:W32)(n:Nat):(un x) / 2 ^ n=(un (x >>> n)):=Raw.shr_u32 x n
theorem shl_u64 (x:W64)(n:Nat):bL.wrap ((un x)*2 ^ n)=(un (x <<< n)):=Raw.shl_u64 x n
theorem shr_u64 (x:W64)(n:Nat):(un x) / 2 ^ n=(un (x >>> n)):=Raw.shr_u64 x n
theorem wrap_u8n (n:Nat):IntKind.u8.wrap (n:Int)=((n % 256:Nat):Int):=Raw.wrap_u8n n

def wds (l:List W32):List D:=l.map fun x=>.int .u32 (un x)
theorem nN (l:List W32):(wds l).length=l.length:=by simp [wds]
theorem aI6 {l:List W32}{i:Nat}{x:W32}(h:l[i]?=some x):(wds l)[i]?=some (.int .u32 (un x)):=by simp [wds,h]
theorem kF {l:List W32}{i:Nat}{x:W32}(h:l[i]?=some x):((wds l).map V.d)[i]?=some (.d (.int .u32 (un x))):=by simp [wds,h]
theorem aI7 (l:List W32)(i:Nat)(hi:i<l.length)(x:W32):splice ((wds l).map V.d) i [.d (.int .u32 (un x))]=(wds (l.set i x)).map V.d:=by
 unfold splice wds
 apply List.ext_getElem?
 intro j
 simp only [List.map_map,List.length_singleton]
 rw [bV]
 rcases Nat.lt_trichotomy j i with h | h | h
 ·rw [aC (by simp; omega)]
  simp [List.getElem?_take,h,aF (show i≠j by omega)]
 ·subst h
  rw [bH (by simp; omega)]
  have:(l.map (V.d ∘ fun x=>D.int .u32 (un x))).length=l.length:=by simp
  simp only [List.length_take,this,Nat.min_eq_left (Nat.le_of_lt hi),Nat.sub_self]
  rw [bG,aO hi]
  rfl
 ·rw [bH (by simp; omega)]
  have:(l.map (V.d ∘ fun x=>D.int .u32 (un x))).length=l.length:=by simp
  simp only [List.length_take,this,Nat.min_eq_left (Nat.le_of_lt hi)]
  rw [show j-i=(j-i-1)+1 by omega,List.singleton_append,List.getElem?_cons_succ,List.getElem?_drop]
  rw [show i+1+(j-i-1)=j by omega]
  simp [aF (show i≠j by omega)]
theorem aIy (l:List W32):ofD ((wds l).map V.d)=some (wds l):=by
 induction l with
 | nil=>rfl
 | cons a r ih=>simp only [wds,aI,ofD] at ih ⊢; rw [ih]
end Go.Dn

/- SHA-256, plain. -/
namespace Go.Dn.Sha

def rotr (x:W32)(n:Nat):W32:=(x >>> n)|||(x <<< (32-n))
def sg0 (x:W32):W32:=rotr x 7^^^rotr x 18^^^(x >>> 3)
def sg1 (x:W32):W32:=rotr x 17^^^rotr x 19^^^(x >>> 10)
def Sg0 (x:W32):W32:=rotr x 2^^^rotr x 13^^^rotr x 22
def Sg1 (x:W32):W32:=rotr x 6^^^rotr x 11^^^rotr x 25
def ch (e f g:W32):W32:=(e&&&f)^^^(~~~e&&&g)
def maj (a b c:W32):W32:=(a&&&b)^^^(a&&&c)^^^(b&&&c)

def beW (b:List UInt8):W32:=b.foldl (fun o c=>(o <<< 8)|||BitVec.ofNat 32 c.toNat) 0

def wsN (blk:List UInt8):Nat→List W32
 | 0=>[]
 | i+1=>wsN blk i++[if i<16 then beW ((blk.drop (4*i)).take 4) else sg1 ((wsN blk i).getD (i-2) 0)+(wsN blk i).getD (i-7) 0+sg0 ((wsN blk i).getD (i-15) 0)+(wsN blk i).getD (i-16) 0]
theorem wsN_len (blk:List UInt8) : ∀ i,(wsN blk i).length=i
 | 0=>rfl
 | i+1=>by simp [wsN,wsN_len blk i]
def sched (blk:List UInt8):List W32:=wsN blk 64

structure S8 where
 a:W32
 b:W32
 c:W32
 d:W32
 e:W32
 f:W32
 g:W32
 h:W32
def S8.l (x:S8):List W32:=[x.a,x.b,x.c,x.d,x.e,x.f,x.g,x.h]

def one (x:S8)(k w:W32):W32:=x.h+Sg1 x.e+ch x.e x.f x.g+k+w
def two (x:S8):W32:=Sg0 x.a+maj x.a x.b x.c
def rnd (x:S8)(k w:W32):S8:=⟨one x k w+two x,x.a,x.b,x.c,x.d+one x k w,x.e,x.f,x.g⟩

def K256:List W32:=[
 0x428a2f98,0x71374491,0xb5c0fbcf,0xe9b5dba5,0x3956c25b,0x59f111f1,0x923f82a4,0xab1c5ed5,
 0xd807aa98,0x12835b01,0x243185be,0x550c7dc3,0x72be5d74,0x80deb1fe,0x9bdc06a7,0xc19bf174,
 0xe49b69c1,0xefbe4786,0x0fc19dc6,0x240ca1cc,0x2de92c6f,0x4a7484aa,0x5cb0a9dc,0x76f988da,
 0x983e5152,0xa831c66d,0xb00327c8,0xbf597fc7,0xc6e00bf3,0xd5a79147,0x06ca6351,0x14292967,
 0x27b70a85,0x2e1b2138,0x4d2c6dfc,0x53380d13,0x650a7354,0x766a0abb,0x81c2c92e,0x92722c85,
 0xa2bfe8a1,0xa81a664b,0xc24b8b70,0xc76c51a3,0xd192e819,0xd6990624,0xf40e3585,0x106aa070,
 0x19a4c116,0x1e376c08,0x2748774c,0x34b0bcb5,0x391c0cb3,0x4ed8aa4a,0x5b9cca4f,0x682e6ff3,
 0x748f82ee,0x78a5636f,0x84c87814,0x8cc70208,0x90befffa,0xa4506ceb,0xbef9a3f7,0xc67178f2]
theorem K256_len:K256.length=64:=rfl
def H0:S8:=⟨0x6a09e667,0xbb67ae85,0x3c6ef372,0xa54ff53a,0x510e527f,0x9b05688c,0x1f83d9ab,0x5be0cd19⟩

def rN (h:S8)(w:List W32):Nat→S8
 | 0=>h
 | i+1=>rnd (rN h w i) (K256.getD i 0) (w.getD i 0)
def plus (x y:S8):S8:=⟨x.a+y.a,x.b+y.b,x.c+y.c,x.d+y.d,x.e+y.e,x.f+y.f,x.g+y.g,x.h+y.h⟩
def take (h:S8)(blk:List UInt8):S8:=plus h (rN h (sched blk) 64)

def zs (n:Nat):Nat:=(64-(n+9) % 64) % 64
def be8 (n:W64):List UInt8:=(List.range 8).map fun i=>UInt8.ofNat ((n >>> (8*(7-i))).toNat % 256)
def pad (l:List UInt8):List UInt8:=l++[128]++aD (zs l.length) 0++be8 (BitVec.ofNat 64 (l.length*8))

def hN (p:List UInt8):Nat→S8
 | 0=>H0
 | i+1=>take (hN p i) ((p.drop (64*i)).take 64)
def out (h:S8):List UInt8:=(List.range 32).map fun i=>UInt8.ofNat ((h.l.getD (i / 4) 0 >>> (8*(3-i % 4))).toNat % 256)
def sha (l:List UInt8):List UInt8:=out (hN (pad l) ((pad l).length / 64))
def dbl (l:List UInt8):List UInt8:=sha (sha l)

theorem sha_len (l:List UInt8):(sha l).length=32:=by simp [sha,out]
theorem aIa (n:W64):(be8 n).length=8:=by simp [be8]
theorem pad_len (l:List UInt8):(pad l).length=l.length+1+zs l.length+8:=by simp [pad,aIa]; omega
theorem pad_mod (l:List UInt8):(pad l).length % 64=0:=by
 rw [pad_len]
 unfold zs
 omega
theorem rotl (x:W32)(n:Nat):(x <<< (32-n))|||(x >>> n)=rotr x n:=BitVec.or_comm _ _
theorem rotr_r (x:W32)(n:Nat):(x >>> n)|||(x <<< (32-n))=rotr x n:=rfl

end Go.Dn.Sha

/- Laid variables that are rows of numbers. -/
namespace Go.Dn

variable {P:Program} {w:World}

theorem aBM {n:String}{g N:Nat}{t e:TypeId}{k:IntKind}{cs:Array Value}{fuel:Nat}{zs:List Int}{p:List MemPlace}(hg:P.globalNamed n=some g)(ht:P.underlying t=some (.array N e))(he:P.underlying e=some (.int k))(hce:P.cellsOf e=1)(hct:P.cellsOf t=N)
  (hv:w.var? P n=some cs) (hd:DataW.trod (fun _=>()) P w 0 (fun _=>true) false fuel t cs.toList=some (.agg (zs.map fun z=>.lit (.int k z)),p)) :
  VR (Gh.bare P fun b q=>∃ v,w.cell? ⟨b,q,none⟩=some v) [] w (.ro (zs.map fun z=>.int k z)) (.pointer (some ⟨g,0,none⟩)):=by
 obtain⟨xs,m,rfl,hx,hl,hxl,hat⟩:=DataW.trod_array ht hd
 simp only [Prod.mk.injEq,DataW.agg.injEq] at hx
 obtain⟨hx1,-⟩:=hx
 have hzl:zs.length=N:=by rw [← hxl]; have:=congrArg List.length hx1; simpa using this
 have hcell : ∀ i (hi:i<zs.length),cs[i]?=some (.int k zs[i]):=by
  intro i hi
  have h1:=hat i (by omega)
  rw [hce,Nat.mul_one] at h1
  have hxi:xs[i]?=some (xs[i]'(by omega)):=by simp [hxl,← hzl,hi]
  rw [hxi] at h1
  obtain⟨n',h2,h3,-⟩:=DataW.trod_int he h1
  have h4:(xs.map (·.1))[i]?=some (DataW.lit (.int k zs[i])):=by rw [← hx1]; simp [hi]
  rw [bG,hxi] at h4
  simp only [Option.map_some,aN.injEq] at h4
  rw [h3] at h4
  simp only [DataW.lit.injEq,Lit.int.injEq,true_and] at h4
  subst h4
  have h5:((cs.toList.drop i).take 1)[0]?=some (.int k zs[i]):=by rw [h2]; rfl
  rw [List.getElem?_take,if_pos (by omega),List.getElem?_drop,Nat.add_zero] at h5
  simpa using h5
 have hw : ∀ i (hi:i<zs.length),w.cell? ⟨g,0+i,none⟩=some (.int k zs[i]):=fun i hi=>by
  rw [Nat.zero_add,World.var?_cell hg hv i,hcell i hi]
 refine .ro _ g 0 (fun i=>.int k (zs.getD i 0)) (fun i hi=>?_) (fun i hi=>?_) (fun i hi=>rfl) (fun i d hd=>?_)
 ·simp only [aQ] at hi
  exact⟨_,hw i hi⟩
 ·simp only [aQ] at hi
  rw [hw i hi]
  simp [bA,hi]
 ·rw [bG] at hd
  cases hz:zs[i]? with
  | none=>rw [hz] at hd; cases hd
  | some z =>
   rw [hz] at hd
   cases hd
   simp only [bA,hz,Option.getD_some]
   exact .int _ _

end Go.Dn

/- A map's object as a list of keys and values, whatever their kind. -/
namespace Go.Dn

noncomputable section
open Classical

structure MpG (ka:Bool)(ks:List Lf)(es:List (Nat×V×V))(clock:Nat)(L:List (V×V)):Prop where
 bd:(es.map (·.1)).Nodup
 lt : ∀ x∈es,x.1<clock
 pm:(es.map (·.2)).Perm L
 nd:(L.map (·.1)).Nodup
 ko : ∀ p∈L,jB ka ks p.1=true
def lkG (k:V):List (V×V)→Option V
 | []=>none
 | p::r=>if p.1=k then some p.2 else lkG k r
theorem aEH {k v:V} : ∀ {L:List (V×V)},lkG k L=some v→(k,v)∈L
 | [],h=>by cases h
 | p::r,h=>by
  simp only [lkG] at h
  split at h
  ·rename_i hp
   cases h
   rw [← hp]
   exact List.mem_cons_self ..
  ·exact List.mem_cons_of_mem _ (aEH h)
theorem lkG_none {k:V} : ∀ {L:List (V×V)},lkG k L=none↔∀ p∈L,p.1≠k
 | []=>by simp [lkG]
 | p::r=>by
  simp only [lkG,bU,forall_eq_or_imp]
  split
  ·rename_i hp; simp [hp]
  ·rename_i hp; rw [lkG_none (L:=r)]; simp [hp]
theorem aDS {k v:V}{L:List (V×V)}(hn:(L.map (·.1)).Nodup)(h:(k,v)∈L):lkG k L=some v:=by
 induction L with
 | nil=>cases h
 | cons p r ih =>
  simp only [aI,List.nodup_cons] at hn
  simp only [lkG]
  rcases bU.1 h with rfl | h
  ·rw [if_pos rfl]
  ·have : ¬ p.1=k:=fun e=>hn.1 (aT.2 ⟨(k,v),h,e.symm⟩)
   rw [if_neg this]
   exact ih hn.2 h
variable {ka:Bool} {ks:List Lf} {es:List (Nat×V×V)} {clock:Nat} {L:List (V×V)}
theorem MpG.keys (h:MpG ka ks es clock L):(es.map fun x=>x.2.1).Nodup:=by
 have:=(h.pm.map (·.1)).nodup_iff.2 h.nd
 rwa [List.map_map] at this
theorem MpG.ent (h:MpG ka ks es clock L){k v:V}(hm:(k,v)∈L) : ∃ j b:Nat,es[j]?=some (b,k,v):=by
 obtain⟨x,hx,hx2⟩:=aT.1 (h.pm.mem_iff.2 hm)
 obtain⟨j,hj,rfl⟩:=List.getElem_of_mem hx
 refine⟨j,es[j].1,?_⟩
 rw [bO hj,← hx2]
theorem MpG.of_ent (h:MpG ka ks es clock L){x:Nat×V×V}(hx:x∈es):x.2∈L:=h.pm.mem_iff.1 (aT.2 ⟨x,hx,rfl⟩)
theorem MpG.kok (h:MpG ka ks es clock L):zK ka ks es:=fun x hx=>h.ko _ (h.of_ent hx)
theorem MpG.find (h:MpG ka ks es clock L)(k:V):uB k es=lkG k L:=by
 cases hg:lkG k L with
 | none=>exact(oP fun x hx=>(lkG_none.1 hg) _ (h.of_ent hx)).1
 | some v =>
  obtain⟨j,b,hj⟩:=h.ent (aEH hg)
  exact(rK h.keys hj).1
theorem MpG.len (h:MpG ka ks es clock L):es.length=L.length:=by simpa using h.pm.length_eq
theorem MpG.look (h:MpG ka ks es clock L) {σ:St}{q:Nat}(hm:σ.objs[q]?=some (.map es clock)){k:V}(hk:jB ka ks k=true)(z:V)(ok:Bool) :
  jH σ ka ks z ok (.map q) k=some (match lkG k L with
   | some v=>if ok then .tup [v,.d (.bool true)] else v
   | none=>if ok then .tup [z,.d (.bool false)] else z):=by
 simp only [jH,rR,hk,hm,h.kok,h.find]
 cases lkG k L <;> simp
theorem mY {α:Type}{l:List α}{a:α}(h:l.Nodup)(ha:a∉l):(l++[a]).Nodup:=by
 rw [List.nodup_append]
 exact⟨h,by simp,fun x hx y hy=>by simp only [bI] at hy; subst hy; exact fun e=>ha (e▸hx)⟩
theorem MpG.ins (h:MpG ka ks es clock L) {σ:St}{q:Nat}(hm:σ.objs[q]?=some (.map es clock)){k x:V}(hk:jB ka ks k=true)(hx:x.cells.isSome=true)(hn:lkG k L=none) :
  mA σ ka ks (.map q) k x=some (.gone,σ.setObj q (.map (es++[(clock,k,x)]) (clock+1)))∧MpG ka ks (es++[(clock,k,x)]) (clock+1) (L++[(k,x)]):=by
 refine⟨?_,⟨?_,?_,?_,?_,?_⟩⟩
 ·simp only [mA,hm,hk,h.kok,hx,h.find,hn,and_self,if_true]
 ·rw [List.map_append]
  exact mY h.bd fun hc=>by
   obtain⟨y,hy,e⟩:=aT.1 hc
   have:=h.lt y hy
   simp only at e
   omega
 ·intro y hy
  rcases aW.1 hy with hy | hy
  ·exact Nat.lt_succ_of_lt (h.lt y hy)
  ·simp only [bI] at hy
   subst hy
   exact Nat.lt_succ_self _
 ·rw [List.map_append]
  exact h.pm.append_right _
 ·rw [List.map_append]
  exact mY h.nd fun hc=>by
   obtain⟨y,hy,e⟩:=aT.1 hc
   exact lkG_none.1 hn y hy e
 ·intro p hp
  rcases aW.1 hp with hp | hp
  ·exact h.ko p hp
  ·simp only [bI] at hp
   subst hp
   exact hk
def aDe (k x:V)(L:List (V×V)):List (V×V):=L.map fun p=>if p.1=k then(k,x) else p
theorem aFY (k x:V)(L:List (V×V)):(aDe k x L).map (·.1)=L.map (·.1):=by
 unfold aDe
 rw [List.map_map]
 refine List.map_congr_left fun p _=>?_
 simp only [Function.comp]
 split
 ·rename_i h; exact h.symm
 ·rfl
theorem aC0 {k x:V} : ∀ {es:List (Nat×V×V)},(es.map fun x=>x.2.1).Nodup→(aAF k x es).map (·.1)=es.map (·.1)∧(aAF k x es).map (·.2)=aDe k x (es.map (·.2))
 | [],_=>⟨rfl,rfl⟩
 | (b,k',v')::r,hn=>by
  simp only [aI,List.nodup_cons] at hn
  obtain⟨i1,i2⟩:=aC0 (k:=k) (x:=x) hn.2
  simp only [aAF]
  split
  ·rename_i hk
   refine⟨rfl,?_⟩
   simp only [aI,aDe,hk,if_true]
   congr 1
   rw [List.map_map]
   refine(List.map_congr_left fun y hy=>?_).symm
   simp only [Function.comp]
   rw [if_neg]
   intro e
   exact hn.1 (by rw [hk]; exact aT.2 ⟨y,hy,e⟩)
  ·rename_i hk
   refine⟨by simp only [aI,i1],?_⟩
   simp only [aI,i2,aDe,if_neg hk]
theorem MpG.set (h:MpG ka ks es clock L) {σ:St}{q:Nat}(hm:σ.objs[q]?=some (.map es clock)){k x v:V}(hk:jB ka ks k=true)(hx:x.cells.isSome=true)(hn:lkG k L=some v) :
  mA σ ka ks (.map q) k x=some (.gone,σ.setObj q (.map (aAF k x es) clock))∧MpG ka ks (aAF k x es) clock (aDe k x L):=by
 obtain⟨p1,p2⟩:=aC0 (k:=k) (x:=x) h.keys
 refine⟨?_,⟨by rw [p1]; exact h.bd,?_,?_,by rw [aFY]; exact h.nd,?_⟩⟩
 ·simp only [mA,hm,hk,h.kok,hx,h.find,hn,and_self,if_true]
 ·intro y hy
  have:y.1∈es.map (·.1):=by rw [← p1]; exact aT.2 ⟨y,hy,rfl⟩
  obtain⟨z,hz,e⟩:=aT.1 this
  rw [← e]
  exact h.lt z hz
 ·rw [p2]
  exact h.pm.map _
 ·intro p hp
  obtain⟨y,hy,rfl⟩:=aT.1 hp
  split
  ·exact hk
  ·exact h.ko y hy
theorem aCw {k:V} : ∀ {es:List (Nat×V×V)},(es.map fun x=>x.2.1).Nodup→(tX k es).map (·.2)=(es.map (·.2)).filter (fun p=>decide (p.1≠k))∧(tX k es).Sublist es
 | [],_=>⟨rfl,List.Sublist.refl _⟩
 | (b,k',v')::r,hn=>by
  simp only [aI,List.nodup_cons] at hn
  obtain⟨i1,i2⟩:=aCw (k:=k) hn.2
  simp only [tX]
  split
  ·rename_i hk
   refine⟨?_,List.sublist_cons_self _ _⟩
   rw [aI,List.filter_cons_of_neg (by simp [hk])]
   refine(List.filter_eq_self.2 fun p hp=>?_).symm
   obtain⟨y,hy,e⟩:=aT.1 hp
   refine decide_eq_true fun e2=>hn.1 ?_
   rw [hk,← e2,← e]
   exact aT.2 ⟨y,hy,rfl⟩
  ·rename_i hk
   refine⟨?_,i2.cons_cons _⟩
   rw [aI,aI,List.filter_cons_of_pos (by simpa using hk),i1]
theorem MpG.del (h:MpG ka ks es clock L) {σ:St}{q:Nat}(hm:σ.objs[q]?=some (.map es clock)){k:V}(hk:jB ka ks k=true) :
  pE σ ka ks (.map q) k=some (.tup [],σ.setObj q (.map (tX k es) clock))∧MpG ka ks (tX k es) clock (L.filter fun p=>decide (p.1≠k)):=by
 obtain⟨d1,d2⟩:=aCw (k:=k) h.keys
 refine⟨?_,⟨h.bd.sublist (d2.map _),fun x hx=>h.lt x (d2.subset hx),?_,h.nd.sublist (List.filter_sublist.map _),fun p hp=>h.ko p (aY.1 hp).1⟩⟩
 ·simp only [pE,hk,hm,h.kok,if_true,Bool.true_eq_false,if_false]
 ·rw [d1]
  exact h.pm.filter _
theorem MpG.nil:MpG ka ks [] 0 []:=⟨List.nodup_nil,by simp,List.Perm.refl _,List.nodup_nil,by simp⟩
theorem MpG.perm (h:MpG ka ks es clock L){L':List (V×V)}(hp:L.Perm L'):MpG ka ks es clock L' :=
 ⟨h.bd,h.lt,h.pm.trans hp,(hp.map _).nodup_iff.1 h.nd,fun p hp'=>h.ko p (hp.mem_iff.2 hp')⟩
end
end Go.Dn
