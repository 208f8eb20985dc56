import Derived.Test.YtmlkdfjojoophaaFw28
import Derived.WideShapes
import Derived.OpenShut
import Derived.Deep.Slices
import Derived.Below
/- Regions that draw their order: the order of the text is enough. -/
namespace Go.Dn

set_option linter.unusedSimpArgs false

def EOp.reads:EOp→List Nat
 | .alloc _ | .makeMap=>[]
 | .box x=>x.slots
 | .store _ a x=>a.slots++x.slots
 | .append _ _ _ a x=>a.slots++x.slots
 | .appendStr _ a x=>a.slots++x.slots
 | .appendZero _ _ _ _ a x=>a.slots++x.slots
 | .copy _ a x=>a.slots++x.slots
 | .clear _ _ a=>a.slots
 | .makeSlice _ _ _ _ a x=>a.slots++x.slots
 | .mapUpdate _ _ a b c=>a.slots++(b.slots++c.slots)
 | .mapDelete _ _ a b=>a.slots++b.slots
 | .range x=>x.slots
 | .entry x=>x.slots
 | .cloneMap x=>x.slots

def Ins.reads:Ins→List Nat
 | .p _ op=>op.reads
 | .e _ op=>op.reads
 | .call _ _ args=>args.flatMap Opd.slots
 | .callv _ f args=>f.slots++args.flatMap Opd.slots
 | .next _ it=>it.slots
 | _=>[]

def POp.blind:POp→Bool
 | .load .. => false
 | .conv .bytesStr _=>false
 | .sliceArr .. => false
 | .lookup .. => false
 | .len .map _=>false
 | _=>true

def DOp.gslot (d:DOp):List Nat:=match d.guard with | some (s,_)=>[s] | none=>[]
def DOp.reads (d:DOp):List Nat:=d.gslot++d.ins.reads

def DOp.isP (d:DOp):Bool:=match d.ins with | .p _ _=>true | _=>false
def DOp.isB (d:DOp):Bool:=match d.ins with | .p _ op=>op.blind | _=>false
def DOp.isN (md:Nat→Mode)(d:DOp):Bool:=match d.ins with
 | .p _ _=>true
 | .call _ f _=>match md f with | .raw=>false | .rnd=>false | _=>true
 | _=>false
def DOp.isNew (d:DOp):Bool:=d.guard.isNone&&match d.ins with | .e (some _) (.alloc _)=>true | .e (some _) (.box _)=>true | _=>false
def DOp.isSto (l:List DOp)(d:DOp):Bool:=d.guard.isNone&&match d.ins with
 | .e none (.store _ (.t s) _)=>d.after.any fun m=>match l[m]? with | some m=>m.isNew&&m.ins.dst==some s | none=>false
 | _=>false
def DOp.one (d:DOp):Bool:=match d.ins with | .when .. => false | _=>true

def DOp.faOf (l:List DOp)(d:DOp):Option (Nat×Nat):=if d.guard.isNone then(match d.ins with
 | .p (some s) (.faddr _ (.t q))=>if l.all (fun d'=>d'.ins.dst != some q) then some (s,q) else none
 | _=>none) else none

def rootD (l:List DOp)(d:DOp)(s:Nat):Option Nat:=if l.all (fun d'=>d'.ins.dst != some s) then some s else
 d.after.findSome? fun m=>match l[m]? with
  | some dm=>(match dm.faOf l with | some (s',q)=>if s'=s then some q else none | none=>none)
  | none=>none

def DOp.near (l:List DOp)(dr:List Nat)(d:DOp):Bool:=d.reads.all fun s=>(d.isP&&dr.contains s)||(rootD l d s).isSome

def DOp.isNF (l:List DOp)(d:DOp):Bool:=d.isNew||(d.faOf l).isSome

def EOp.isStore:EOp→Bool
 | .store .. | .append .. | .appendStr .. | .appendZero .. => true
 | _=>false

def apartD (x y:DOp):Bool :=
 (match x.ins.dst with | some d=>!(y.reads.contains d)&&y.ins.dst != some d | none=>true) &&
 (match y.ins.dst with | some d=>!(x.reads.contains d) | none=>true)

def DOp.isXc (md:Nat→Mode)(d:DOp):Bool:=match d.ins with
 | .e _ op=>op.isStore
 | .call _ f _=>match md f with | .raw=>true | _=>false
 | .callv .. => true
 | _=>false

def keepOf (dr:List Nat)(l:List DOp):List Nat:=(l.filter fun d=>d.isP && !d.isB&&d.near l dr).flatMap fun d=>d.reads.filterMap (rootD l d)

def okPair (md : Nat → Mode) (dr : List Nat) (l : List DOp) (x y : DOp) : Bool := apartD x y &&
  (x.isB || y.isB || (x.isP && y.isN md) || (x.isN md && y.isP) ||
   ((x.isNew || x.isSto l) && y.isN md && y.near l dr) ||
   (x.isN md && x.near l dr && (y.isNew || y.isSto l)) ||
   (x.isNew && y.isNew && x.al != y.al) ||
   (x.isP && x.near l dr && y.isXc md) || (x.isXc md && y.isP && y.near l dr) ||
   (x.isN md && y.isNew))

def closeT:List DOp→List (List Nat)→List (List Nat)
 | [],acc=>acc
 | d::r,acc=>closeT r (acc++[(d.after++d.after.flatMap fun a=>acc.getD a []).eraseDups])

def pairsOk (md:Nat→Mode)(dr:List Nat)(l:List DOp)(T:List (List Nat)):Bool :=
 (List.range l.length).all fun j=>match l[j]? with
  | some y=>y.one&&y.after.all (· < j) &&
   (List.range j).all fun i=>match l[i]? with
    | some x=>((T.getD j []).contains i||okPair md dr l x y)&&(!(x.isNF l||y.isNF l)||x.ins.dst != y.ins.dst)
    | none=>false
  | none=>false

def drwOk (md:Nat→Mode)(dr:List Nat)(l:List DOp):Bool:=pairsOk md dr l (closeT l [])

def gsel (gd:Option (Nat×Bool))(e:Env):Option Bool :=
 match gd with
 | none=>some true
 | some (s,want)=>match e.get s with
  | .d (.bool b)=>some (decide (b=want))
  | .gone=>some false
  | _=>none

def Agr (n0:Nat) (σ σ':St):Prop:=(∀ r,r<n0→σ'.objs[r]?=σ.objs[r]?)∧σ'.toks=σ.toks

theorem Agr.refl (n0:Nat) (σ:St):Agr n0 σ σ:=⟨fun _ _=>rfl,rfl⟩
theorem Agr.trans {n0:Nat}{a b c:St}(h:Agr n0 a b)(h':Agr n0 b c):Agr n0 a c:=⟨fun r hr=>(h'.1 r hr).trans (h.1 r hr),h'.2.trans h.2⟩
theorem Agr.symm {n0:Nat}{a b:St}(h:Agr n0 a b):Agr n0 b a:=⟨fun r hr=>(h.1 r hr).symm,h.2.symm⟩

def nGo (K:CallP)(cx:Cx)(n0:Nat)(i:Ins)(e:Env) (σ:St)(R:V→Prop):Prop :=
 match i with
 | .p _ op=>match evalP op e σ with
  | some v=>R v
  | none=>False
 | .call _ f args=>match cx.mode f with
  | .raw=>False
  | .rnd=>False
  | .val=>match byVals σ (args.map (Opd.ev e)) with
   | some ds=>∃ Q',K .val f ds St.empty Q'∧(∃ v s,Q' v s)∧∀ v s,Q' v s→v.pure=true∧((args.map (Opd.ev e)).any V.borrows=true→v.scalars=true)∧R v
   | none=>False
  | .rd=>∀ σ1,Agr n0 σ σ1→∃ Q',K .rd f (args.map (Opd.ev e)) σ1 Q'∧(∃ v s,Q' v s)∧∀ v s,Q' v s→R v
 | _=>False

def AdmN (K:CallP)(cx:Cx)(n0:Nat)(d:DOp)(e:Env) (σ:St)(R:V→Prop):Prop :=
 match gsel d.guard e with
 | some true=>nGo K cx n0 d.ins e σ R
 | some false=>R .gone
 | none=>False

def Kept (ks:List Nat)(e:Env) (σ s:St):Prop:=∀ t∈ks,∀ r∈dref (e.get t),s.objs[r]?=σ.objs[r]?

theorem Kept.refl (ks:List Nat)(e:Env) (σ:St):Kept ks e σ σ:=fun _ _ _ _=>rfl

def xCall (K:CallP)(cx:Cx)(ks:List Nat)(e:Env)(f:Nat)(vs:List V) (σ:St)(R:V→St→Prop):Prop :=
 match cx.mode f with
 | .rnd=>False
 | .raw=>∃ Q',K .raw f vs σ Q'∧(∃ v s,Q' v s)∧∀ v s,Q' v s→Kept ks e σ s∧R v s
 | .rd=>∃ Q',K .rd f vs σ Q'∧(∃ v s,Q' v s)∧∀ v s,Q' v s→R v σ
 | .val=>match byVals σ vs with
  | some ds=>∃ Q',K .val f ds St.empty Q'∧(∃ v s,Q' v s)∧∀ v s,Q' v s→v.pure=true∧(vs.any V.borrows=true→v.scalars=true)∧R v σ
  | none=>False

def xGo (K:CallP)(cx:Cx)(n0:Nat)(ks:List Nat)(al:Nat)(i:Ins)(e:Env) (σ:St)(R:V→St→Prop):Prop :=
 match i with
 | .e _ op=>(match evalE op e σ (some (n0+al)) with
  | some (v,s)=>(op.isStore=true→Kept ks e σ s)∧R v s
  | none=>False)∨(match evalM op e σ (some (n0+al)) with
  | some (v,s)=>(op.isStore=true→Kept ks e σ s)∧R v s
  | none=>False)
 | .call _ f args=>xCall K cx ks e f (args.map (Opd.ev e)) σ R
 | .callv _ f args=>match f.ev e with
  | .fn (.func g) first caps=>xCall K cx ks e g (first++args.map (Opd.ev e)++caps) σ R
  | _=>False
 | _=>False

def AdmX (K:CallP)(cx:Cx)(n0:Nat)(ks:List Nat)(d:DOp)(e:Env) (σ:St)(R:V→St→Prop):Prop :=
 match gsel d.guard e with
 | some true=>xGo K cx n0 ks d.al d.ins e σ R
 | some false=>R .gone σ
 | none=>False

def Adm0 (K:CallP)(cx:Cx)(n0:Nat)(ks:List Nat)(d:DOp)(e:Env) (σ:St)(R:V→St→Prop):Prop :=
 match d.isN cx.mode with
 | true=>AdmN K cx n0 d e σ fun v=>R v σ
 | false=>AdmX K cx n0 ks d e σ R

def Dry (cx:Cx)(d:DOp)(e:Env):Prop:=d.isP=true→∀ s∈cx.dry,s∈d.reads→dref (e.get s)=[]

def Adm (K:CallP)(cx:Cx)(n0:Nat)(ks:List Nat)(d:DOp)(e:Env) (σ:St)(R:V→St→Prop):Prop :=
 Dry cx d e∧Adm0 K cx n0 ks d e σ R

def wtx (K:CallP)(cx:Cx)(n0:Nat)(ks:List Nat):List DOp→Env→St→(Env→St→Prop)→Prop
 | [],e,σ,Q=>Q e σ
 | d::r,e,σ,Q=>Adm K cx n0 ks d e σ fun v s=>wtx K cx n0 ks r (putE e d.ins.dst v) s Q

variable {K:CallP} {cx:Cx} {n0:Nat} {ks:List Nat}

theorem nGo.mono {i:Ins}{e:Env} {σ:St}{R R':V→Prop}(hr : ∀ v,R v→R' v)(h:nGo K cx n0 i e σ R):nGo K cx n0 i e σ R':=by
 cases i with
 | p dst op =>
  simp only [nGo] at *
  split
  ·rename_i v hv; rw [hv] at h; exact hr _ h
  ·rename_i hv; rw [hv] at h; exact h
 | call dst f args =>
  simp only [nGo] at *
  cases hm:cx.mode f with
  | raw=>simp only [hm] at h
  | rnd=>simp only [hm] at h
  | val =>
   simp only [hm] at h ⊢
   split
   ·rename_i ds hds
    rw [hds] at h
    obtain⟨Q',a,b,c⟩:=h
    exact⟨Q',a,b,fun v s hq=>⟨(c v s hq).1,(c v s hq).2.1,hr _ (c v s hq).2.2⟩⟩
   ·rename_i hds; rw [hds] at h; exact h
  | rd =>
   simp only [hm] at h ⊢
   intro σ1 ha
   obtain⟨Q',a,b,c⟩:=h σ1 ha
   exact⟨Q',a,b,fun v s hq=>hr _ (c v s hq)⟩
 | _=>exact h

theorem AdmN.mono {d:DOp}{e:Env} {σ:St}{R R':V→Prop}(hr : ∀ v,R v→R' v)(h:AdmN K cx n0 d e σ R):AdmN K cx n0 d e σ R':=by
 unfold AdmN at *
 split
 ·rename_i hg; rw [hg] at h; exact nGo.mono hr h
 ·rename_i hg; rw [hg] at h; exact hr _ h
 ·rename_i hg; rw [hg] at h; exact h

theorem nGo.some {i:Ins}{e:Env} {σ:St}{R:V→Prop}(h:nGo K cx n0 i e σ R) : ∃ v,R v:=by
 cases i with
 | p dst op =>
  simp only [nGo] at h
  split at h
  ·exact⟨_,h⟩
  ·exact h.elim
 | call dst f args =>
  simp only [nGo] at h
  cases hm:cx.mode f with
  | raw=>simp only [hm] at h
  | rnd=>simp only [hm] at h
  | val =>
   simp only [hm] at h
   split at h
   ·obtain⟨Q',a,⟨v,s,hv⟩,c⟩:=h
    exact⟨v,(c v s hv).2.2⟩
   ·exact h.elim
  | rd =>
   simp only [hm] at h
   obtain⟨Q',a,⟨v,s,hv⟩,c⟩:=h σ (Agr.refl _ _)
   exact⟨v,c v s hv⟩
 | _=>exact h.elim

theorem AdmN.some {d:DOp}{e:Env} {σ:St}{R:V→Prop}(h:AdmN K cx n0 d e σ R) : ∃ v,R v:=by
 unfold AdmN at h
 split at h
 ·exact nGo.some h
 ·exact⟨_,h⟩
 ·exact h.elim

theorem gsel_same {d:DOp}{e e':Env}(h : ∀ s∈d.reads,e.get s=e'.get s):gsel d.guard e=gsel d.guard e':=by
 unfold gsel
 cases hg:d.guard with
 | none=>rfl
 | some p =>
  obtain⟨s,w⟩:=p
  simp only
  rw [h s (by simp [DOp.reads,DOp.gslot,hg])]

theorem AdmN.same {d:DOp}{e e':Env} {σ σ':St}(h:Same d.reads e σ e' σ')(hag:Agr n0 σ σ'){R:V→Prop}(ha:AdmN K cx n0 d e σ R):AdmN K cx n0 d e' σ' R:=by
 have hr:Same d.ins.reads e σ e' σ':=Same.right (a:=d.gslot) h
 unfold AdmN at *
 rw [← gsel_same (fun s hs=>(h s hs).1)]
 split
 ·rename_i hg
  rw [hg] at ha
  simp only at ha
  generalize d.ins=i at *
  cases i with
  | p dst op =>
   simp only [nGo] at *
   rw [← evalP_same hr]
   exact ha
  | call dst f args =>
   simp only [nGo] at *
   cases hm:cx.mode f with
   | raw=>simp only [hm] at ha
   | rnd=>simp only [hm] at ha
   | val =>
    simp only [hm] at ha ⊢
    rw [← byVals_same hr,← Same.opds hr]
    exact ha
   | rd =>
    simp only [hm] at ha ⊢
    intro σ1 h1
    rw [← Same.opds hr]
    exact ha σ1 (hag.trans h1)
  | _=>exact ha
 ·rename_i hg; rw [hg] at ha; exact ha
 ·rename_i hg; rw [hg] at ha; exact ha

theorem AdmN.free {d:DOp}{e e':Env} {σ:St}{q:Nat}{o:Obj}{R:V→Prop}(ha:AdmN K cx n0 d e σ R)(h : ∀ s∈d.reads,e.get s=e'.get s)(hf:σ.objs[q]?=Option.some Obj.free)(hq:n0≤q):AdmN K cx n0 d e' (σ.setObj q o) R:=by
 have hs:Same d.reads e σ e' σ:=fun s hs=>⟨h s hs,fun _ _=>rfl⟩
 have h2:=ha.same hs (Agr.refl n0 σ)
 have hag:Agr n0 σ (σ.setObj q o):=⟨fun r hr=>(set_other (by omega)).symm,rfl⟩
 unfold AdmN at h2 ⊢
 split
 ·rename_i hg
  rw [hg] at h2
  simp only at h2
  generalize d.ins=i at *
  cases i with
  | p dst op =>
   simp only [nGo] at h2 ⊢
   split at h2
   ·rename_i v hv; rw [evalP_free hf hv]; exact h2
   ·exact h2.elim
  | call dst f args =>
   simp only [nGo] at h2 ⊢
   cases hm:cx.mode f with
   | raw=>simp only [hm] at h2
   | rnd=>simp only [hm] at h2
   | val =>
    simp only [hm] at h2 ⊢
    split at h2
    ·rename_i ds hds; rw [byVals_free hf hds]; exact h2
    ·exact h2.elim
   | rd =>
    simp only [hm] at h2 ⊢
    intro σ1 h1
    exact h2 σ1 (hag.trans h1)
  | _=>exact h2
 ·rename_i hg; rw [hg] at h2; exact h2
 ·rename_i hg; rw [hg] at h2; exact h2

theorem AdmN.single {d:DOp}(hp:d.isP=true){e:Env} {σ:St}{R:V→Prop}(h:AdmN K cx n0 d e σ R) : ∃ v,∀ R',AdmN K cx n0 d e σ R'↔R' v:=by
 unfold DOp.isP at hp
 split at hp
 ·rename_i dst op hi
  unfold AdmN at h
  simp only [AdmN]
  rw [hi] at h ⊢
  split at h
  ·simp only [nGo] at h ⊢
   split at h
   ·rename_i v hv
    exact⟨v,fun R'=>Iff.rfl⟩
   ·exact h.elim
  ·exact⟨.gone,fun R'=>Iff.rfl⟩
  ·exact h.elim
 ·cases hp

theorem opd_slots {x:Opd}{e e':Env}(h : ∀ s∈x.slots,e.get s=e'.get s):x.ev e=x.ev e':=by
 cases x with
 | t n=>exact h n (by simp [Opd.slots])
 | _=>rfl
theorem opds_slots {xs:List Opd}{e e':Env}(h : ∀ s∈xs.flatMap Opd.slots,e.get s=e'.get s):xs.map (Opd.ev e)=xs.map (Opd.ev e') :=
 List.map_congr_left fun x hx=>opd_slots fun s hs=>h s (List.mem_flatMap.2 ⟨x,hx,hs⟩)

theorem same_slots {rd:List Nat}{e e':Env}(h : ∀ s∈rd,e.get s=e'.get s) (σ:St):Same rd e σ e' σ:=fun s hs=>⟨h s hs,fun _ _=>rfl⟩

theorem rows_blind {x:V}(h : ∀ r off len sz,x ≠ .sl r off len sz) (σ σ':St):V.rows σ x=V.rows σ' x:=by
 cases x with
 | sl r off len sz=>exact absurd rfl (h _ _ _ _)
 | d x=>cases x <;> rfl
 | _=>rfl

theorem iaddr_blind (sz:Nat)(x i:V) (σ σ':St):iaddrV σ sz x i=iaddrV σ' sz x i:=by
 cases x with
 | sl r off len s=>rfl
 | d x=>simp only [iaddrV]; rw [rows_blind (by simp) σ σ']
 | _=>simp only [iaddrV]; rw [rows_blind (by simp) σ σ']

theorem evalP_blind {op:POp}(hb:op.blind=true){e e':Env}(h : ∀ s∈op.reads,e.get s=e'.get s) (σ σ':St):evalP op e σ=evalP op e' σ':=by
 rw [evalP_same (same_slots h σ)]
 cases op with
 | load=>simp [POp.blind] at hb
 | sliceArr=>simp [POp.blind] at hb
 | lookup=>simp [POp.blind] at hb
 | conv k x=>cases k <;> first | (simp [POp.blind] at hb; done) | rfl
 | len ty x=>cases ty <;> first | (simp [POp.blind] at hb; done) | rfl
 | iaddr sz x i=>simp only [evalP]; exact iaddr_blind _ _ _ _ _
 | _=>rfl

theorem AdmN.blind {d:DOp}(hb:d.isB=true){e:Env} {σ:St}{R:V→Prop}(h:AdmN K cx n0 d e σ R) : ∃ v,∀ (e':Env) (σ':St),(∀ s∈d.reads,e.get s=e'.get s)→∀ R',AdmN K cx n0 d e' σ' R'↔R' v:=by
 unfold DOp.isB at hb
 split at hb
 ·rename_i dst op hi
  have hg : ∀ e':Env,(∀ s∈d.reads,e.get s=e'.get s)→gsel d.guard e=gsel d.guard e':=fun e' he=>gsel_same he
  have hrd : ∀ s∈op.reads,s∈d.reads:=fun s hs=>by
   unfold DOp.reads
   rw [hi]
   exact List.mem_append_right _ hs
  unfold AdmN at *
  cases hs:gsel d.guard e with
  | none=>rw [hs] at h; exact h.elim
  | some b =>
   rw [hs] at h
   cases b with
   | true =>
    rw [hi] at *
    simp only [nGo] at h
    split at h
    ·rename_i v hv
     refine⟨v,fun e' σ' he R'=>?_⟩
     rw [← hg e' he,hs]
     simp only [nGo]
     rw [← evalP_blind hb (fun s hs=>he s (hrd s hs)) σ σ',hv]
    ·exact h.elim
   | false =>
    refine⟨.gone,fun e' σ' he R'=>?_⟩
    rw [← hg e' he,hs]
 ·cases hb

theorem evalE_slots {op:EOp}{e e':Env}(h : ∀ s∈op.reads,e.get s=e'.get s) (σ:St)(tg:Option Nat):evalE op e σ tg=evalE op e' σ tg∧evalM op e σ tg=evalM op e' σ tg:=by
 cases op with
 | alloc z=>exact⟨rfl,rfl⟩
 | makeMap=>exact⟨rfl,rfl⟩
 | box x=>simp only [evalE,evalM,opd_slots (x:=x) h,and_self]
 | clear sz z x=>simp only [evalE,evalM,opd_slots (x:=x) h,and_self]
 | mapUpdate ka ks a b c=>simp only [evalE,evalM,opd_slots (x:=a) (fun s hs=>h s (List.mem_append_left _ hs)),opd_slots (x:=b) (fun s hs=>h s (List.mem_append_right _ (List.mem_append_left _ hs))),opd_slots (x:=c) (fun s hs=>h s (List.mem_append_right _ (List.mem_append_right _ hs))),and_self]
 | mapDelete ka ks a b=>simp only [evalE,evalM,opd_slots (x:=a) (fun s hs=>h s (List.mem_append_left _ hs)),opd_slots (x:=b) (fun s hs=>h s (List.mem_append_right _ hs)),and_self]
 | range x=>simp only [evalE,evalM,opd_slots (x:=x) h,and_self]
 | entry x=>simp only [evalE,evalM,opd_slots (x:=x) h,and_self]
 | cloneMap x=>simp only [evalE,evalM,opd_slots (x:=x) h,and_self]
 | appendZero t sz b z a x=>simp only [evalE,evalM,opd_slots (x:=a) (fun s hs=>h s (List.mem_append_left _ hs)),opd_slots (x:=x) (fun s hs=>h s (List.mem_append_right _ hs)),and_self]
 | store n a x=>simp only [evalE,evalM,opd_slots (x:=a) (fun s hs=>h s (List.mem_append_left _ hs)),opd_slots (x:=x) (fun s hs=>h s (List.mem_append_right _ hs)),and_self]
 | append t sz b a x=>simp only [evalE,evalM,opd_slots (x:=a) (fun s hs=>h s (List.mem_append_left _ hs)),opd_slots (x:=x) (fun s hs=>h s (List.mem_append_right _ hs)),and_self]
 | appendStr t a x=>simp only [evalE,evalM,opd_slots (x:=a) (fun s hs=>h s (List.mem_append_left _ hs)),opd_slots (x:=x) (fun s hs=>h s (List.mem_append_right _ hs)),and_self]
 | copy sz a x=>simp only [evalE,evalM,opd_slots (x:=a) (fun s hs=>h s (List.mem_append_left _ hs)),opd_slots (x:=x) (fun s hs=>h s (List.mem_append_right _ hs)),and_self]
 | makeSlice t sz b z a x=>simp only [evalE,evalM,opd_slots (x:=a) (fun s hs=>h s (List.mem_append_left _ hs)),opd_slots (x:=x) (fun s hs=>h s (List.mem_append_right _ hs)),and_self]

theorem xCall.mono {e:Env}{f:Nat}{vs:List V} {σ:St}{R R':V→St→Prop}(hr : ∀ v s,R v s→R' v s)(h:xCall K cx ks e f vs σ R):xCall K cx ks e f vs σ R':=by
 unfold xCall at *
 cases hm:cx.mode f with
 | rnd=>simp only [hm] at h
 | raw=>simp only [hm] at h ⊢; obtain⟨Q',a,b,c⟩:=h; exact⟨Q',a,b,fun v s hq=>⟨(c v s hq).1,hr _ _ (c v s hq).2⟩⟩
 | rd=>simp only [hm] at h ⊢; obtain⟨Q',a,b,c⟩:=h; exact⟨Q',a,b,fun v s hq=>hr _ _ (c v s hq)⟩
 | val =>
  simp only [hm] at h ⊢
  split
  ·rename_i ds hds
   rw [hds] at h
   obtain⟨Q',a,b,c⟩:=h
   exact⟨Q',a,b,fun v s hq=>⟨(c v s hq).1,(c v s hq).2.1,hr _ _ (c v s hq).2.2⟩⟩
  ·rename_i hds; rw [hds] at h; exact h

theorem xCall.some {e:Env}{f:Nat}{vs:List V} {σ:St}{R:V→St→Prop}(h:xCall K cx ks e f vs σ R) : ∃ v s,R v s:=by
 unfold xCall at h
 cases hm:cx.mode f with
 | rnd=>simp only [hm] at h
 | raw=>simp only [hm] at h; obtain⟨Q',a,⟨v,s,b⟩,c⟩:=h; exact⟨v,s,(c v s b).2⟩
 | rd=>simp only [hm] at h; obtain⟨Q',a,⟨v,s,b⟩,c⟩:=h; exact⟨v,σ,c v s b⟩
 | val =>
  simp only [hm] at h
  split at h
  ·obtain⟨Q',a,⟨v,s,b⟩,c⟩:=h; exact⟨v,σ,(c v s b).2.2⟩
  ·exact h.elim

theorem xCall.callK {e:Env}{f:Nat}{vs:List V} {σ:St}{R:V→St→Prop}(h:xCall K cx ks e f vs σ R)(cx':Cx):Dn.callK K cx' f vs σ R:=by
 unfold xCall at h
 refine .inl ⟨cx.mode f,?_⟩
 cases hm:cx.mode f with
 | rnd=>simp only [hm] at h
 | raw=>simp only [hm] at h; obtain⟨Q',a,b,c⟩:=h; exact⟨Q',a,fun v s hq=>(c v s hq).2⟩
 | rd=>simp only [hm] at h; obtain⟨Q',a,b,c⟩:=h; exact⟨Q',a,c⟩
 | val =>
  simp only [hm] at h
  simp only [callM]
  split at h
  ·rename_i ds hds
   rw [hds]
   obtain⟨Q',a,b,c⟩:=h; exact⟨Q',a,c⟩
  ·exact h.elim

theorem AdmX.mono {d:DOp}{e:Env} {σ:St}{R R':V→St→Prop}(hr : ∀ v s,R v s→R' v s)(h:AdmX K cx n0 ks d e σ R):AdmX K cx n0 ks d e σ R':=by
 unfold AdmX at *
 split
 ·rename_i hg
  rw [hg] at h
  simp only at h
  generalize d.ins=i at *
  cases i with
  | e dst op =>
   simp only [xGo] at *
   refine h.imp (fun h=>?_) (fun h=>?_)
   ·split
    ·rename_i v s hv; rw [hv] at h; exact⟨h.1,hr _ _ h.2⟩
    ·rename_i hv; rw [hv] at h; exact h
   ·split
    ·rename_i v s hv; rw [hv] at h; exact⟨h.1,hr _ _ h.2⟩
    ·rename_i hv; rw [hv] at h; exact h
  | call dst f args=>exact xCall.mono hr h
  | callv dst f args =>
   simp only [xGo] at *
   split
   ·rename_i g first caps hf; rw [hf] at h; exact xCall.mono hr h
   ·rename_i hn
    split at h
    ·rename_i g first caps hf; exact(hn _ _ _ hf).elim
    ·exact h
  | _=>exact h
 ·rename_i hg; rw [hg] at h; exact hr _ _ h
 ·rename_i hg; rw [hg] at h; exact h

theorem AdmX.some {d:DOp}{e:Env} {σ:St}{R:V→St→Prop}(h:AdmX K cx n0 ks d e σ R) : ∃ v s,R v s:=by
 unfold AdmX at h
 split at h
 ·generalize d.ins=i at *
  cases i with
  | e dst op =>
   simp only [xGo] at h
   rcases h with h | h
   ·split at h
    ·exact⟨_,_,h.2⟩
    ·exact h.elim
   ·split at h
    ·exact⟨_,_,h.2⟩
    ·exact h.elim
  | call dst f args=>exact xCall.some h
  | callv dst f args =>
   simp only [xGo] at h
   split at h
   ·exact xCall.some h
   ·exact h.elim
  | _=>exact h.elim
 ·exact⟨_,_,h⟩
 ·exact h.elim

theorem kept_slots {e e':Env}(hk : ∀ s∈ks,e.get s=e'.get s) (σ s:St):Kept ks e σ s↔Kept ks e' σ s:=by
 constructor
 ·intro h t ht r hr; exact h t ht r (by rw [hk t ht]; exact hr)
 ·intro h t ht r hr; exact h t ht r (by rw [← hk t ht]; exact hr)

theorem xCall.slots {e e':Env}(hk : ∀ s∈ks,e.get s=e'.get s){f:Nat}{vs:List V} {σ:St}{R:V→St→Prop}(h:xCall K cx ks e f vs σ R):xCall K cx ks e' f vs σ R:=by
 unfold xCall at *
 cases hm:cx.mode f with
 | rnd=>simp only [hm] at h
 | raw=>simp only [hm] at h ⊢; obtain⟨Q',a,b,c⟩:=h; exact⟨Q',a,b,fun v s hq=>⟨(kept_slots hk σ s).1 (c v s hq).1,(c v s hq).2⟩⟩
 | rd=>simp only [hm] at h ⊢; exact h
 | val=>simp only [hm] at h ⊢; exact h

theorem AdmX.slots {d:DOp}{e e':Env}(he : ∀ s∈d.reads,e.get s=e'.get s)(hk : ∀ s∈ks,e.get s=e'.get s) {σ:St}{R:V→St→Prop}(h:AdmX K cx n0 ks d e σ R):AdmX K cx n0 ks d e' σ R:=by
 have hr : ∀ s∈d.ins.reads,e.get s=e'.get s:=fun s hs=>he s (List.mem_append_right _ hs)
 unfold AdmX at *
 rw [← gsel_same he]
 split
 ·rename_i hg
  rw [hg] at h
  simp only at h
  generalize d.ins=i at *
  cases i with
  | e dst op =>
   simp only [xGo] at *
   rw [← (evalE_slots hr σ _).1,← (evalE_slots hr σ _).2]
   refine h.imp (fun h=>?_) (fun h=>?_)
   ·split
    ·rename_i v s hv; rw [hv] at h; exact⟨fun hs=>(kept_slots hk σ s).1 (h.1 hs),h.2⟩
    ·rename_i hv; rw [hv] at h; exact h
   ·split
    ·rename_i v s hv; rw [hv] at h; exact⟨fun hs=>(kept_slots hk σ s).1 (h.1 hs),h.2⟩
    ·rename_i hv; rw [hv] at h; exact h
  | call dst f args =>
   simp only [xGo] at *
   rw [← opds_slots hr]
   exact h.slots hk
  | callv dst f args =>
   simp only [xGo] at *
   rw [← opds_slots (xs:=args) (fun s hs=>hr s (List.mem_append_right _ hs)),← opd_slots (x:=f) (fun s hs=>hr s (List.mem_append_left _ hs))]
   split
   ·rename_i g first caps hf
    rw [hf] at h
    exact h.slots hk
   ·rename_i hn
    split at h
    ·rename_i g first caps hf; exact(hn _ _ _ hf).elim
    ·exact h
  | _=>exact h
 ·rename_i hg; rw [hg] at h; exact h
 ·rename_i hg; rw [hg] at h; exact h

theorem Adm0.mono {d:DOp}{e:Env} {σ:St}{R R':V→St→Prop}(hr : ∀ v s,R v s→R' v s)(h:Adm0 K cx n0 ks d e σ R):Adm0 K cx n0 ks d e σ R':=by
 unfold Adm0 at *
 split
 ·rename_i he; rw [he] at h; exact AdmN.mono (fun v=>hr v σ) h
 ·rename_i he; rw [he] at h; exact AdmX.mono hr h

theorem Adm0.some {d:DOp}{e:Env} {σ:St}{R:V→St→Prop}(h:Adm0 K cx n0 ks d e σ R) : ∃ v s,R v s:=by
 unfold Adm0 at h
 split at h
 ·obtain⟨v,hv⟩:=h.some; exact⟨v,σ,hv⟩
 ·exact AdmX.some h

theorem Adm0.slots {d:DOp}{e e':Env}(he : ∀ s∈d.reads,e.get s=e'.get s)(hk : ∀ s∈ks,e.get s=e'.get s) {σ:St}{R:V→St→Prop}(h:Adm0 K cx n0 ks d e σ R):Adm0 K cx n0 ks d e' σ R:=by
 unfold Adm0 at *
 split
 ·rename_i hn; rw [hn] at h; exact AdmN.same (same_slots he σ) (Agr.refl _ _) h
 ·rename_i hn; rw [hn] at h; exact AdmX.slots he hk h

theorem Dry.slots {d:DOp}{e e':Env}(he : ∀ s∈d.reads,e.get s=e'.get s)(h:Dry cx d e):Dry cx d e':=fun hp s hs hr=>by
 rw [← he s hr]
 exact h hp s hs hr

theorem Adm.slots {d:DOp}{e e':Env}(he : ∀ s∈d.reads,e.get s=e'.get s)(hk : ∀ s∈ks,e.get s=e'.get s) {σ:St}{R:V→St→Prop}(h:Adm K cx n0 ks d e σ R):Adm K cx n0 ks d e' σ R:=⟨h.1.slots he,h.2.slots he hk⟩
theorem Adm.mono {d:DOp}{e:Env} {σ:St}{R R':V→St→Prop}(hr : ∀ v s,R v s→R' v s)(h:Adm K cx n0 ks d e σ R):Adm K cx n0 ks d e σ R':=⟨h.1,h.2.mono hr⟩

theorem Adm_N {d:DOp}(h:d.isN cx.mode=true)(e:Env) (σ:St)(R:V→St→Prop):Adm0 K cx n0 ks d e σ R=AdmN K cx n0 d e σ (fun v=>R v σ):=by
 unfold Adm0; rw [h]

theorem AdmN.sameP {d:DOp}(hp:d.isP=true){e e':Env} {σ σ':St}(h:Same d.reads e σ e' σ'){R:V→Prop}(ha:AdmN K cx n0 d e σ R):AdmN K cx n0 d e' σ' R:=by
 have hr:Same d.ins.reads e σ e' σ':=Same.right (a:=d.gslot) h
 unfold DOp.isP at hp
 unfold AdmN at *
 rw [← gsel_same (fun s hs=>(h s hs).1)]
 split
 ·rename_i hg
  rw [hg] at ha
  simp only at ha
  generalize d.ins=i at *
  cases i with
  | p dst op =>
   simp only [nGo] at *
   rw [← evalP_same hr]
   exact ha
  | _=>cases hp
 ·rename_i hg; rw [hg] at ha; exact ha
 ·rename_i hg; rw [hg] at ha; exact ha

theorem AdmX.kept {d:DOp}(hx:d.isXc cx.mode=true){e:Env} {σ:St}{R:V→St→Prop}(h:AdmX K cx n0 ks d e σ R):AdmX K cx n0 ks d e σ fun v s=>Kept ks e σ s∧R v s:=by
 have xc : ∀ {f:Nat} {vs:List V},xCall K cx ks e f vs σ R→xCall K cx ks e f vs σ fun v s=>Kept ks e σ s∧R v s:=fun {f vs} h=>by
  unfold xCall at *
  cases hm:cx.mode f with
  | rnd=>simp only [hm] at h
  | raw=>simp only [hm] at h ⊢; obtain⟨Q',a,b,c⟩:=h; exact⟨Q',a,b,fun v s hq=>⟨(c v s hq).1,(c v s hq).1,(c v s hq).2⟩⟩
  | rd=>simp only [hm] at h ⊢; obtain⟨Q',a,b,c⟩:=h; exact⟨Q',a,b,fun v s hq=>⟨Kept.refl _ _ _,c v s hq⟩⟩
  | val =>
   simp only [hm] at h ⊢
   split
   ·rename_i ds hds
    rw [hds] at h
    obtain⟨Q',a,b,c⟩:=h
    exact⟨Q',a,b,fun v s hq=>⟨(c v s hq).1,(c v s hq).2.1,Kept.refl _ _ _,(c v s hq).2.2⟩⟩
   ·rename_i hds; rw [hds] at h; exact h
 unfold DOp.isXc at hx
 unfold AdmX at *
 split
 ·rename_i hg
  rw [hg] at h
  simp only at h
  generalize d.ins=i at *
  cases i with
  | e dst op =>
   simp only [xGo] at *
   refine h.imp (fun h=>?_) (fun h=>?_)
   ·split
    ·rename_i v s hv; rw [hv] at h; exact⟨h.1,h.1 hx,h.2⟩
    ·rename_i hv; rw [hv] at h; exact h
   ·split
    ·rename_i v s hv; rw [hv] at h; exact⟨h.1,h.1 hx,h.2⟩
    ·rename_i hv; rw [hv] at h; exact h
  | call dst f args=>exact xc h
  | callv dst f args =>
   simp only [xGo] at *
   split
   ·rename_i g first caps hf; rw [hf] at h; exact xc h
   ·rename_i hn
    split at h
    ·rename_i g first caps hf; exact(hn _ _ _ hf).elim
    ·exact h
  | _=>cases hx
 ·rename_i hg; rw [hg] at h; exact⟨Kept.refl _ _ _,h⟩
 ·rename_i hg; rw [hg] at h; exact h

theorem isN_Xc {md:Nat→Mode}{d:DOp}(h:d.isXc md=true):d.isN md=false:=by
 unfold DOp.isXc at h; unfold DOp.isN
 generalize d.ins=i at *
 cases i with
 | call dst f args =>
  simp only at h ⊢
  cases hm:md f <;> simp only [hm] at h ⊢ <;> cases h
 | callv dst f args=>rfl
 | e dst op=>rfl
 | _=>cases h

theorem isN_P {md:Nat→Mode}{d:DOp}(h:d.isP=true):d.isN md=true:=by
 unfold DOp.isP at h; unfold DOp.isN
 generalize d.ins=i at *
 cases i <;> first | rfl | cases h
theorem isP_B {d:DOp}(h:d.isB=true):d.isP=true:=by
 unfold DOp.isB at h; unfold DOp.isP
 generalize d.ins=i at *
 cases i <;> first | rfl | cases h

theorem get_put2 {e:Env}{d d':Option Nat}{v u:V}(h : ∀ s,d=some s→d'≠some s) : ∀ s,(putE (putE e d v) d' u).get s=(putE (putE e d' u) d v).get s:=fun s=>by
 by_cases h1:d=some s
 ·have h2:=h s h1
  rw [get_put_ne h2]
  subst h1
  simp [putE,Env.get_set]
 ·by_cases h2:d'=some s
  ·rw [get_put_ne (e:=putE e d' u) h1]
   subst h2
   simp [putE,Env.get_set]
  ·rw [get_put_ne h2,get_put_ne h1,get_put_ne h1,get_put_ne h2]

theorem same_put {rd:List Nat}{e:Env} {σ:St}{d:Option Nat}{v:V}(h : ∀ s,d=some s→s∉rd):Same rd e σ (putE e d v) σ:=fun s hs =>
 ⟨(get_put_ne (fun hd=>h s hd hs) v).symm,fun _ _=>rfl⟩

theorem Same.symm {rd:List Nat}{e e':Env} {σ σ':St}(h:Same rd e σ e' σ'):Same rd e' σ' e σ:=fun s hs =>
 ⟨(h s hs).1.symm,fun r hr=>((h s hs).2 r (by rw [(h s hs).1]; exact hr)).symm⟩

end Go.Dn

/- Neighbours that may change places. -/
namespace Go.Dn

set_option linter.unusedSimpArgs false

variable {K:CallP} {cx:Cx} {n0:Nat} {ks:List Nat}

def newCells (op:EOp)(e:Env):Option (List V) :=
 match op with
 | .alloc zero=>some zero
 | .box x=>(x.ev e).cells
 | _=>none

theorem isNew_inv {d:DOp}(h:d.isNew=true):d.guard=none∧∃ s op,d.ins = .e (some s) op∧(∀ e σ r,evalE op e σ (some r)=match newCells op e with
  | some cs=>newObj σ (some r) (.cells cs) (fun r=>.ref r 0)
  | none=>none)∧(∀ e e',(∀ s∈op.reads,e.get s=e'.get s)→newCells op e=newCells op e'):=by
 unfold DOp.isNew at h
 simp only [Bool.and_eq_true] at h
 obtain⟨h1,h2⟩:=h
 refine⟨by simpa using h1,?_⟩
 split at h2
 ·rename_i s z hi
  exact⟨s,_,hi,fun e σ r=>rfl,fun _ _ _=>rfl⟩
 ·rename_i s x hi
  refine⟨s,_,hi,fun e σ r=>by simp only [evalE,newCells]; split <;> simp_all,fun e e' h=>?_⟩
  simp only [newCells]
  have:x.ev e=x.ev e':=by
   cases x with
   | t n=>exact h n (by simp [EOp.reads,Opd.slots])
   | _=>rfl
  rw [this]
 ·cases h2

theorem isSto_inv {l:List DOp}{d:DOp}(h:d.isSto l=true):d.guard=none∧∃ n s x,d.ins = .e none (.store n (.t s) x)∧∃ m∈d.after,∃ dm,l[m]?=some dm∧dm.isNew=true∧dm.ins.dst=some s:=by
 unfold DOp.isSto at h
 simp only [Bool.and_eq_true] at h
 obtain⟨h1,h2⟩:=h
 refine⟨by simpa using h1,?_⟩
 split at h2
 ·rename_i n s x hi
  refine⟨n,s,x,hi,?_⟩
  rw [List.any_eq_true] at h2
  obtain⟨m,hm,h3⟩:=h2
  split at h3
  ·rename_i dm hdm
   simp only [Bool.and_eq_true,beq_iff_eq] at h3
   exact⟨m,hm,dm,hdm,h3.1,h3.2⟩
  ·cases h3
 ·cases h2

theorem isN_new {md:Nat→Mode}{d:DOp}(h:d.isNew=true):d.isN md=false:=by
 obtain⟨_,s,op,hi,_⟩:=isNew_inv h
 simp [DOp.isN,hi]
theorem isN_sto {md:Nat→Mode}{l:List DOp}{d:DOp}(h:d.isSto l=true):d.isN md=false:=by
 obtain⟨_,n,s,x,hi,_⟩:=isSto_inv h
 simp [DOp.isN,hi]
theorem new_M {d:DOp}(h:d.isNew=true){dst:Option Nat}{op:EOp}(hi:d.ins = .e dst op)(e:Env) (σ:St)(tg:Option Nat):evalM op e σ tg=none:=by
 unfold DOp.isNew at h
 rw [hi] at h
 cases op <;> first | rfl | (simp at h; done)
theorem sto_M {l:List DOp}{d:DOp}(h:d.isSto l=true){dst:Option Nat}{op:EOp}(hi:d.ins = .e dst op)(e:Env) (σ:St)(tg:Option Nat):evalM op e σ tg=none:=by
 obtain⟨_,n,s,x,hi',_⟩:=isSto_inv h
 rw [hi] at hi'
 cases hi'
 rfl

def Low (n0:Nat) (σ σ':St):Prop:=∀ r,r<n0→σ'.objs[r]?=σ.objs[r]?

structure Inv (l:List DOp)(n0:Nat)(S:List Nat)(e:Env):Prop where
 low : ∀ s,(∀ d∈l,d.ins.dst≠some s)→∀ r∈dref (e.get s),r<n0
 new : ∀ m∈S,∀ d,l[m]?=some d→d.isNew=true→∀ s,d.ins.dst=some s→e.get s = .ref (n0+d.al) 0
 fa : ∀ m∈S,∀ d,l[m]?=some d→∀ s q,d.faOf l=some (s,q)→∀ r∈dref (e.get s),r∈dref (e.get q)

theorem all_ne {l:List DOp}{s:Nat}(h:l.all (fun d'=>d'.ins.dst != some s)=true) : ∀ d∈l,d.ins.dst≠some s:=fun d hd=>by
 rw [List.all_eq_true] at h
 simpa using h d hd

theorem faOf_inv {l:List DOp}{d:DOp}{s q:Nat}(h:d.faOf l=some (s,q)):d.guard=none∧(∃ k,d.ins = .p (some s) (.faddr k (.t q)))∧∀ d'∈l,d'.ins.dst≠some q:=by
 unfold DOp.faOf at h
 split at h
 ·rename_i hg
  split at h
  ·rename_i s' k q' hi
   split at h
   ·rename_i hq
    cases h
    exact⟨by simpa using hg,⟨k,hi⟩,all_ne hq⟩
   ·cases h
  ·cases h
 ·cases h

theorem root_dref {l:List DOp}{S:List Nat}{e:Env}(hi:Inv l n0 S e){d:DOp}(haf : ∀ a∈d.after,a∈S){s q:Nat}(h:rootD l d s=some q):(∀ d'∈l,d'.ins.dst≠some q)∧∀ r∈dref (e.get s),r∈dref (e.get q):=by
 unfold rootD at h
 split at h
 ·rename_i hs
  cases h
  exact⟨all_ne hs,fun r hr=>hr⟩
 ·obtain⟨m,hm,h1⟩:=List.exists_of_findSome?_eq_some h
  split at h1
  ·rename_i dm hdm
   split at h1
   ·rename_i s' q' hf
    split at h1
    ·rename_i hss
     cases h1
     subst hss
     exact⟨(faOf_inv hf).2.2,hi.fa m (haf m hm) dm hdm _ _ hf⟩
    ·cases h1
   ·cases h1
  ·cases h1

theorem near_root {l:List DOp}{dr:List Nat}{d:DOp}(h:d.near l dr=true){s:Nat}(hs:s∈d.reads):(d.isP=true∧s∈dr)∨∃ q,rootD l d s=some q:=by
 unfold DOp.near at h
 rw [List.all_eq_true] at h
 have:=h s hs
 rw [Bool.or_eq_true,Bool.and_eq_true] at this
 exact this.imp (fun h=>⟨h.1,by simpa using h.2⟩) Option.isSome_iff_exists.1

theorem early_same {l:List DOp}{S:List Nat}{e:Env}(hi:Inv l n0 S e){d:DOp}(haf : ∀ a∈d.after,a∈S)(hdry:Dry cx d e)(hd:d.near l cx.dry=true) {σ σ':St}(hlow:Low n0 σ σ'):Same d.reads e σ e σ':=fun s hs=>by
 rcases near_root hd hs with⟨hp,hdr⟩ | ⟨q,hq⟩
 ·exact⟨rfl,fun r hr=>by rw [hdry hp s hdr hs] at hr; cases hr⟩
 obtain⟨h1,h2⟩:=root_dref hi haf hq
 exact⟨rfl,fun r hr=>(hlow r (hi.low q h1 r (h2 r hr))).symm⟩

theorem new_low {d:DOp}(hn:d.isNew=true){e:Env} {σ:St}{v:V}{s':St}{op:EOp}{dst:Option Nat}(hi:d.ins = .e dst op)(h:evalE op e σ (some (n0+d.al))=some (v,s')) :
  v = .ref (n0+d.al) 0∧∃ cs,newCells op e=some cs∧σ.objs[n0+d.al]?=some .free∧s'=σ.setObj (n0+d.al) (.cells cs):=by
 obtain⟨_,s,op',hi',h1,_⟩:=isNew_inv hn
 rw [hi] at hi'
 cases hi'
 rw [h1] at h
 split at h
 ·rename_i cs hcs
  unfold newObj St.place at h
  simp only [St.spot] at h
  split at h
  ·rename_i σ' hp
   split at hp
   ·rename_i hf
    simp only [Option.some.injEq] at hp
    simp only [Option.some.injEq,Prod.mk.injEq] at h
    obtain⟨rfl,rfl⟩:=h
    exact⟨rfl,cs,hcs,hf,hp.symm⟩
   ·cases hp
  ·cases h
 ·cases h

theorem agr_set {σ:St}{r:Nat}{o:Obj}(h:n0≤r):Agr n0 σ (σ.setObj r o):=⟨fun q hq=>by
 simp only [St.setObj]
 rw [List.getElem?_set_ne (by omega)],rfl⟩

theorem sto_low {l:List DOp}{S:List Nat}{e:Env}(hi:Inv l n0 S e){d:DOp}(hs:d.isSto l=true)(haf : ∀ a∈d.after,a∈S) {σ:St}{v:V}{s':St}{op:EOp}{dst:Option Nat}(hd:d.ins = .e dst op)
  {tg:Option Nat} (h:evalE op e σ tg=some (v,s')):Agr n0 σ s':=by
 obtain⟨_,n,s,x,hi',m,hm,dm,h1,h2,h3⟩:=isSto_inv hs
 rw [hd] at hi'
 cases hi'
 have hg:=hi.new m (haf m hm) dm h1 h2 s h3
 simp only [evalE,Opd.ev,hg] at h
 split at h
 ·split at h
  ·split at h
   ·simp only [Option.some.injEq,Prod.mk.injEq] at h
    obtain⟨_,rfl⟩:=h
    exact agr_set (by omega)
   ·cases h
  ·cases h
 ·cases h

theorem evalE_same {l:List DOp}{d:DOp}(h:d.isNew=true∨d.isSto l=true){op:EOp}{dst:Option Nat}(hi:d.ins = .e dst op){e e':Env}(hr : ∀ s∈op.reads,e.get s=e'.get s) (σ:St) :
  evalE op e σ (some (n0+d.al))=evalE op e' σ (some (n0+d.al)):=by
 rcases h with h | h
 ·obtain⟨_,s,op',hi',h1,h2⟩:=isNew_inv h
  rw [hi] at hi'
  cases hi'
  rw [h1,h1,h2 e e' hr]
 ·obtain⟨_,n,s,x,hi',_⟩:=isSto_inv h
  rw [hi] at hi'
  cases hi'
  have e1:e.get s=e'.get s:=hr s (by simp [EOp.reads,Opd.slots])
  have e2:x.ev e=x.ev e':=by
   cases x with
   | t k=>exact hr k (by simp [EOp.reads,Opd.slots])
   | _=>rfl
  simp only [evalE,e2]
  simp only [Opd.ev,e1]

structure Apart (x y:DOp):Prop where
 rd : ∀ s,x.ins.dst=some s→s∉y.reads
 ne : ∀ s,x.ins.dst=some s→y.ins.dst≠some s
 dr : ∀ s,y.ins.dst=some s→s∉x.reads

theorem apart_inv {x y:DOp}(h:apartD x y=true):Apart x y:=by
 unfold apartD at h
 simp only [Bool.and_eq_true] at h
 obtain⟨h1,h2⟩:=h
 refine⟨fun s hs=>?_,fun s hs=>?_,fun s hs=>?_⟩
 ·rw [hs] at h1; simp at h1; exact h1.1
 ·rw [hs] at h1; simp at h1; exact h1.2
 ·rw [hs] at h2; simp at h2; exact h2

def Ext (Q:Env→St→Prop):Prop:=∀ e e' σ,(∀ s,e.get s=e'.get s)→Q e σ→Q e' σ

theorem Apart.swap {x y:DOp}(h:Apart x y){Q:Env→St→Prop}(hq:Ext Q){e:Env}{v u:V} {σ:St}(hQ:Q (putE (putE e x.ins.dst v) y.ins.dst u) σ):Q (putE (putE e y.ins.dst u) x.ins.dst v) σ :=
 hq _ _ _ (get_put2 h.ne) hQ

theorem ins_reads {d:DOp}{s:Nat}(h:s∈d.ins.reads):s∈d.reads:=List.mem_append_right _ h

theorem Adm0_E {l:List DOp}{d:DOp}(h:d.isNew=true∨d.isSto l=true)(e:Env) (σ:St)(R:V→St→Prop):Adm0 K cx n0 ks d e σ R↔d.guard=none∧∃ dst op v s,d.ins = .e dst op∧evalE op e σ (some (n0+d.al))=some (v,s)∧(op.isStore=true→Kept ks e σ s)∧R v s:=by
 have hN:d.isN cx.mode=false:=h.elim isN_new isN_sto
 have hg:d.guard=none:=h.elim (fun h=>(isNew_inv h).1) (fun h=>(isSto_inv h).1)
 have hins : ∃ dst op,d.ins = .e dst op:=by
  rcases h with h | h
  ·obtain⟨_,s,op,hi,_⟩:=isNew_inv h; exact⟨_,_,hi⟩
  ·obtain⟨_,n,s,x,hi,_⟩:=isSto_inv h; exact⟨_,_,hi⟩
 obtain⟨dst,op,hi⟩:=hins
 have hM:evalM op e σ (some (n0+d.al))=none:=h.elim (fun h=>new_M h hi _ _ _) (fun h=>sto_M h hi _ _ _)
 unfold Adm0 AdmX
 rw [hN,hg]
 simp only [gsel,true_and]
 rw [hi]
 simp only [xGo,hM,or_false]
 constructor
 ·intro h
  split at h
  ·rename_i v s hv; exact⟨dst,op,v,s,rfl,hv,h.1,h.2⟩
  ·exact h.elim
 ·rintro ⟨dst',op',v,s,h1,h2,h3⟩
  cases h1
  rw [h2]
  exact h3

theorem new_noStore {d:DOp}(h:d.isNew=true){dst:Option Nat}{op:EOp}(hi:d.ins = .e dst op):op.isStore=false:=by
 unfold DOp.isNew at h
 rw [hi] at h
 simp only [Bool.and_eq_true] at h
 obtain⟨_,h2⟩:=h
 cases op <;> first | rfl | (cases dst <;> cases h2)

def KeepP (md:Nat→Mode)(dr:List Nat)(l:List DOp)(ks:List Nat)(x y:DOp):Prop :=
 (x.isP=true→x.isB=false→y.isXc md=true→x.near l dr=true→∀ s∈x.reads,∀ q,rootD l x s=some q→q∈ks) ∧
 (y.isP=true→y.isB=false→x.isXc md=true→y.near l dr=true→∀ s∈y.reads,∀ q,rootD l y s=some q→q∈ks)

theorem exchange0 {l:List DOp}{S:List Nat}{x y:DOp}(hok:okPair cx.mode cx.dry l x y=true){e:Env} {σ:St}(hks : ∀ s∈ks,∀ d∈l,d.ins.dst≠some s)(hkeep:KeepP cx.mode cx.dry l ks x y)(hxl:x∈l)(hyl:y∈l)(hi:Inv l n0 S e)(hx : ∀ a∈x.after,a∈S)(hy : ∀ a∈y.after,a∈S)(hdx:Dry cx x e)(hdy:Dry cx y e){Q:Env→St→Prop}(hq:Ext Q)
  (h:Adm0 K cx n0 ks x e σ fun v s=>Adm0 K cx n0 ks y (putE e x.ins.dst v) s fun u s'=>Q (putE (putE e x.ins.dst v) y.ins.dst u) s') :
  Adm0 K cx n0 ks y e σ fun u s=>Adm0 K cx n0 ks x (putE e y.ins.dst u) s fun v s'=>Q (putE (putE e y.ins.dst u) x.ins.dst v) s':=by
 unfold okPair at hok
 rw [Bool.and_eq_true] at hok
 obtain⟨hap,hk⟩:=hok
 have ha:=apart_inv hap
 have sx : ∀ (u:V) (σ:St),Same x.reads e σ (putE e y.ins.dst u) σ:=fun u σ=>same_put ha.dr
 have sy : ∀ (v:V) (σ:St),Same y.reads e σ (putE e x.ins.dst v) σ:=fun v σ=>same_put ha.rd
 have lx : ∀ (u:V),∀ s∈x.reads,e.get s=(putE e y.ins.dst u).get s:=fun u s hs=>(sx u σ s hs).1
 have ly : ∀ (v:V),∀ s∈y.reads,e.get s=(putE e x.ins.dst v).get s:=fun v s hs=>(sy v σ s hs).1
 simp only [Bool.or_eq_true,Bool.and_eq_true] at hk
 have kx : ∀ (u:V),∀ s∈ks,e.get s=(putE e y.ins.dst u).get s:=fun u s hs=>(get_put_ne (hks s hs y hyl) u).symm
 have ky : ∀ (v:V),∀ s∈ks,e.get s=(putE e x.ins.dst v).get s:=fun v s hs=>(get_put_ne (hks s hs x hxl) v).symm
 by_cases xb:x.isB=true
 ·-- the first doesn't look at the store
  have xN:=isN_P (md:=cx.mode) (isP_B xb)
  simp only [Adm_N xN] at h ⊢
  obtain⟨v,hv⟩:=AdmN.blind xb h
  have h1:=(hv e σ (fun _ _=>rfl) _).1 h
  refine(h1.slots (fun s hs=>(ly v s hs).symm) (fun s hs=>(ky v s hs).symm)).mono fun u s' hu=>?_
  exact(hv _ s' (lx u) _).2 (ha.swap hq hu)
 by_cases yb:y.isB=true
 ·-- the second doesn't look at the store
  have yN:=isN_P (md:=cx.mode) (isP_B yb)
  simp only [Adm_N yN] at h ⊢
  obtain⟨v1,s1,h1⟩:=h.some
  obtain⟨u,hu⟩:=AdmN.blind yb h1
  have hu' : ∀ (v:V) (s:St) (R':V→Prop),AdmN K cx n0 y (putE e x.ins.dst v) s R'↔R' u:=fun v s R' =>
   hu _ s (fun t ht=>(ly v1 t ht).symm.trans (ly v t ht)) R'
  refine(hu e σ (fun t ht=>(ly v1 t ht).symm) _).2 ?_
  refine(h.slots (lx u) (kx u)).mono fun v s' hv=>?_
  exact ha.swap hq ((hu' v s' _).1 hv)
 simp only [Bool.not_eq_true] at xb yb
 simp only [xb,yb,Bool.false_eq_true,false_or] at hk
 rcases hk with(((((((⟨xp,yk⟩ | ⟨xc,yp⟩) | ⟨⟨xe,yk⟩,ye⟩) | ⟨⟨xk,xe⟩,ye⟩) | ⟨⟨xn,yn⟩,hal⟩) | ⟨⟨xp,xe⟩,yx⟩) | ⟨⟨xx,yp⟩,ye⟩) | ⟨xk,yn⟩)
 ·-- both leave the store alone; the first has one outcome
  simp only [Adm_N (isN_P xp),Adm_N yk] at h ⊢
  obtain⟨v,hv⟩:=AdmN.single xp h
  have h1:=((hv _).1 h).same (sy v σ).symm (Agr.refl _ _)
  refine h1.mono fun u hu=>?_
  refine AdmN.same (sx u σ) (Agr.refl _ _) ((hv _).2 ?_)
  exact ha.swap hq hu
 ·simp only [Adm_N xc,Adm_N (isN_P yp)] at h ⊢
  obtain⟨v1,h1⟩:=h.some
  obtain⟨u,hu⟩:=AdmN.single yp (h1.same (sy v1 σ).symm (Agr.refl _ _))
  refine(hu _).2 (AdmN.same (sx u σ) (Agr.refl _ _) (h.mono fun v hv=>?_))
  exact ha.swap hq ((hu _).1 (hv.same (sy v σ).symm (Agr.refl _ _)))
 ·-- the first turns the store, the second looks at what was there before
  rw [Adm0_E xe] at h
  rw [Adm_N yk]
  obtain⟨hg,dst,op,v,s1,hxi,hv,hkk,h⟩:=h
  rw [Adm_N yk] at h
  have hagr:Agr n0 σ s1:=by
   rcases xe with xn | xs
   ·obtain⟨_,cs,_,_,rfl⟩:=new_low xn hxi hv
    exact agr_set (by omega)
   ·exact sto_low hi xs hx hxi hv
  have h1:=(h.same (sy v s1).symm (Agr.refl _ _)).same (early_same hi hy hdy ye hagr.1).symm hagr.symm
  refine h1.mono fun u hu=>?_
  rw [Adm0_E xe]
  refine⟨hg,dst,op,v,s1,hxi,?_,fun hs=>(kept_slots (kx u) σ s1).1 (hkk hs),ha.swap hq hu⟩
  rw [← evalE_same xe hxi (e:=e) (e':=putE e y.ins.dst u) (fun s hs=>(sx u σ s (ins_reads (by rw [hxi]; exact hs))).1) σ,hv]
 ·rw [Adm_N xk] at h
  rw [Adm0_E ye]
  obtain⟨v1,h1⟩:=h.some
  rw [Adm0_E ye] at h1
  obtain⟨hg,dst,op,u,s1,hyi,hu,hkk,_⟩:=h1
  have hsame : ∀ v:V,evalE op (putE e x.ins.dst v) σ (some (n0+y.al))=evalE op e σ (some (n0+y.al)):=fun v =>
   (evalE_same ye hyi (fun s hs=>(sy v σ s (ins_reads (by rw [hyi]; exact hs))).1) σ).symm
  rw [hsame] at hu
  refine⟨hg,dst,op,u,s1,hyi,hu,fun hs=>(kept_slots (ky v1) σ s1).2 (hkk hs),?_⟩
  rw [Adm_N xk]
  have hagr:Agr n0 σ s1:=by
   rcases ye with yn | ys
   ·obtain⟨_,cs,_,_,rfl⟩:=new_low yn hyi hu
    exact agr_set (by omega)
   ·exact sto_low hi ys hy hyi hu
  have sxe:Same x.reads e σ (putE e y.ins.dst u) s1:=fun s hs=>⟨(sx u s1 s hs).1,(early_same hi hx hdx xe hagr.1 s hs).2⟩
  refine AdmN.same sxe hagr (h.mono fun v hv=>?_)
  rw [Adm0_E ye] at hv
  obtain⟨_,dst',op',u',s1',hyi',hu',_,hv⟩:=hv
  rw [hyi] at hyi'
  cases hyi'
  rw [hsame,hu] at hu'
  cases hu'
  exact ha.swap hq hv
 ·-- two new objects
  have xn':x.isNew=true∨x.isSto l=true:=.inl xn
  have yn':y.isNew=true∨y.isSto l=true:=.inl yn
  rw [Adm0_E xn'] at h
  rw [Adm0_E yn']
  obtain⟨hgx,dx,ox,v,s1,hxi,hv,_,h⟩:=h
  rw [Adm0_E yn'] at h
  obtain⟨hgy,dy,oy,u,s2,hyi,hu,_,h⟩:=h
  have hne:n0+x.al≠n0+y.al:=by
   simp at hal
   omega
  obtain⟨rfl,cx',c1,c2,rfl⟩:=new_low xn hxi hv
  obtain⟨rfl,cy,d1,d2,rfl⟩:=new_low yn hyi hu
  have ry:newCells oy e=some cy:=by
   rw [← d1]
   obtain⟨_,_,oy',hyi',_,hc⟩:=isNew_inv yn
   rw [hyi] at hyi'
   cases hyi'
   exact hc _ _ fun s hs=>(sy (.ref (n0+x.al) 0) σ s (ins_reads (by rw [hyi]; exact hs))).1
  have rx:newCells ox (putE e y.ins.dst (.ref (n0+y.al) 0))=some cx':=by
   rw [← c1]
   obtain⟨_,_,ox',hxi',_,hc⟩:=isNew_inv xn
   rw [hxi] at hxi'
   cases hxi'
   exact hc _ _ fun s hs=>(sx (.ref (n0+y.al) 0) σ s (ins_reads (by rw [hxi]; exact hs))).1.symm
  have fy:σ.objs[n0+y.al]?=some .free:=by
   simp only [St.setObj] at d2
   rw [List.getElem?_set_ne hne] at d2
   exact d2
  refine⟨hgy,dy,oy,.ref (n0+y.al) 0,σ.setObj (n0+y.al) (.cells cy),hyi,?_,(fun h=>by rw [new_noStore yn hyi] at h; cases h),?_⟩
  ·obtain⟨_,_,oy',hyi',hE,_⟩:=isNew_inv yn
   rw [hyi] at hyi'
   cases hyi'
   rw [hE,ry]
   simp [newObj,St.place,St.spot,fy]
  ·rw [Adm0_E xn']
   refine⟨hgx,dx,ox,.ref (n0+x.al) 0,(σ.setObj (n0+y.al) (.cells cy)).setObj (n0+x.al) (.cells cx'),hxi,?_,(fun h=>by rw [new_noStore xn hxi] at h; cases h),?_⟩
   ·obtain⟨_,_,ox',hxi',hE,_⟩:=isNew_inv xn
    rw [hxi] at hxi'
    cases hxi'
    rw [hE,rx]
    have:(σ.setObj (n0+y.al) (.cells cy)).objs[n0+x.al]?=some .free:=by
     simp only [St.setObj]
     rw [List.getElem?_set_ne (Ne.symm hne)]
     exact c2
    simp [newObj,St.place,St.spot,this]
   ·have hsw:(σ.setObj (n0+y.al) (.cells cy)).setObj (n0+x.al) (.cells cx')=(σ.setObj (n0+x.al) (.cells cx')).setObj (n0+y.al) (.cells cy):=by
     simp only [St.setObj]
     rw [List.set_comm _ _ hne]
    rw [hsw]
    exact ha.swap hq h

 ·-- a look at what is kept, and a call
  have yN:=isN_Xc yx
  rw [Adm_N (isN_P xp)] at h
  obtain⟨v,hv⟩:=AdmN.single xp h
  have h1:=(((hv _).1 h).slots (fun s hs=>(ly v s hs).symm) (fun s hs=>(ky v s hs).symm))
  unfold Adm0 at h1 ⊢
  rw [yN] at h1 ⊢
  refine(AdmX.kept yx h1).mono fun u s' ⟨hkp,hu⟩=>?_
  have:=Adm_N (K:=K) (n0:=n0) (ks:=ks) (isN_P (md:=cx.mode) xp) (putE e y.ins.dst u) s' (fun v s'=>Q (putE (putE e y.ins.dst u) x.ins.dst v) s')
  unfold Adm0 at this
  rw [this]
  refine AdmN.sameP xp (fun s hs=>⟨lx u s hs,fun r hr=>?_⟩) ((hv _).2 (ha.swap hq hu))
  rcases near_root xe hs with⟨hp,hdr⟩ | ⟨q,hq2⟩
  ·rw [hdx hp s hdr hs] at hr; cases hr
  exact(hkp q (hkeep.1 xp xb yx xe s hs q hq2) r ((root_dref hi hx hq2).2 r hr)).symm
 ·have xN:=isN_Xc xx
  rw [Adm_N (isN_P yp)]
  have h0:=h
  unfold Adm0 at h0
  rw [xN] at h0
  have h2:=AdmX.kept xx h0
  obtain⟨v1,s1,hk1,h1⟩:=AdmX.some h2
  have back : ∀ (v:V) (s:St),Kept ks e σ s→Same y.reads (putE e x.ins.dst v) s e σ:=fun v s hkp t ht =>
   ⟨(ly v t ht).symm,fun r hr=>by
    rcases near_root ye ht with⟨hp,hdr⟩ | ⟨q,hq2⟩
    ·rw [← ly v t ht,hdy hp t hdr ht] at hr; cases hr
    exact hkp q (hkeep.2 yp yb xx ye t ht q hq2) r ((root_dref hi hy hq2).2 r (by rw [ly v t ht]; exact hr))⟩
  have conv : ∀ (v:V) (s:St) (R:V→St→Prop),(match y.isN cx.mode with | true=>AdmN K cx n0 y (putE e x.ins.dst v) s fun u=>R u s | false=>AdmX K cx n0 ks y (putE e x.ins.dst v) s R)=AdmN K cx n0 y (putE e x.ins.dst v) s fun u=>R u s:=fun v s R=>by rw [isN_P (md:=cx.mode) yp]
  have h1':AdmN K cx n0 y (putE e x.ins.dst v1) s1 fun u=>Q (putE (putE e x.ins.dst v1) y.ins.dst u) s1:=by rw [← conv v1 s1 (fun u s'=>Q (putE (putE e x.ins.dst v1) y.ins.dst u) s')]; exact h1
  obtain⟨u,hu⟩:=AdmN.single yp (AdmN.sameP yp (back v1 s1 hk1) h1')
  refine(hu _).2 ?_
  unfold Adm0
  rw [xN]
  refine((AdmX.slots (lx u) (kx u) h2)).mono fun v s' ⟨hkp,hv⟩=>?_
  have hv':AdmN K cx n0 y (putE e x.ins.dst v) s' fun u=>Q (putE (putE e x.ins.dst v) y.ins.dst u) s':=by rw [← conv v s' (fun u s''=>Q (putE (putE e x.ins.dst v) y.ins.dst u) s'')]; exact hv
  exact ha.swap hq ((hu _).1 (AdmN.sameP yp (back v s' hkp) hv'))
 ·-- the first looks, the second lays a new object
  have ye:y.isNew=true∨y.isSto l=true:=.inl yn
  rw [Adm_N xk] at h
  rw [Adm0_E ye]
  obtain⟨v1,h1⟩:=h.some
  rw [Adm0_E ye] at h1
  obtain⟨hg,dst,op,u,s1,hyi,hu,hkk,_⟩:=h1
  have hsame : ∀ v:V,evalE op (putE e x.ins.dst v) σ (some (n0+y.al))=evalE op e σ (some (n0+y.al)):=fun v =>
   (evalE_same ye hyi (fun s hs=>(sy v σ s (ins_reads (by rw [hyi]; exact hs))).1) σ).symm
  rw [hsame] at hu
  refine⟨hg,dst,op,u,s1,hyi,hu,fun hs=>(kept_slots (ky v1) σ s1).2 (hkk hs),?_⟩
  rw [Adm_N xk]
  have h2:AdmN K cx n0 x e σ fun v=>Q (putE (putE e y.ins.dst u) x.ins.dst v) s1:=h.mono fun v hv=>by
   rw [Adm0_E ye] at hv
   obtain⟨_,dst',op',u',s1',hyi',hu',_,hv⟩:=hv
   rw [hyi] at hyi'
   cases hyi'
   rw [hsame,hu] at hu'
   cases hu'
   exact ha.swap hq hv
  obtain⟨_,cs,_,c2,rfl⟩:=new_low yn hyi hu
  exact h2.free (lx u) c2 (by omega)

theorem exchange {l:List DOp}{S:List Nat}{x y:DOp}(hok:okPair cx.mode cx.dry l x y=true){e:Env} {σ:St}(hks : ∀ s∈ks,∀ d∈l,d.ins.dst≠some s)(hkeep:KeepP cx.mode cx.dry l ks x y)(hxl:x∈l)(hyl:y∈l)(hi:Inv l n0 S e)(hx : ∀ a∈x.after,a∈S)(hy : ∀ a∈y.after,a∈S){Q:Env→St→Prop}(hq:Ext Q)
  (h:Adm K cx n0 ks x e σ fun v s=>Adm K cx n0 ks y (putE e x.ins.dst v) s fun u s'=>Q (putE (putE e x.ins.dst v) y.ins.dst u) s') :
  Adm K cx n0 ks y e σ fun u s=>Adm K cx n0 ks x (putE e y.ins.dst u) s fun v s'=>Q (putE (putE e y.ins.dst u) x.ins.dst v) s':=by
 obtain⟨hdx,h0⟩:=h
 have hap:=hok
 unfold okPair at hap
 rw [Bool.and_eq_true] at hap
 have ha:=apart_inv hap.1
 obtain⟨v1,s1,h1⟩:=h0.some
 have hdy:Dry cx y e:=h1.1.slots fun s hs=>(same_put (σ:=σ) ha.rd s hs).1.symm
 exact⟨hdy,(exchange0 hok hks hkeep hxl hyl hi hx hy hdx hdy hq (h0.mono fun v s h=>h.2)).mono fun u s h=>⟨hdx.slots fun s hs=>(same_put (σ:=σ) ha.dr s hs).1,h⟩⟩

end Go.Dn

/- A region that draws its order, in the order of the text. -/
namespace Go.Dn

set_option linter.unusedSimpArgs false

variable {K:CallP} {cx:Cx} {n0:Nat} {ks:List Nat}

theorem put_ext {e e':Env}(h : ∀ s,e.get s=e'.get s)(d:Option Nat)(v:V) : ∀ s,(putE e d v).get s=(putE e' d v).get s:=fun s=>by
 cases d with
 | none=>exact h s
 | some t=>simp only [putE,Env.get_set,h s]

theorem wtx_ext {Q:Env→St→Prop}(hq:Ext Q) : ∀ (l:List DOp),Ext fun e σ=>wtx K cx n0 ks l e σ Q
 | []=>hq
 | d::r=>fun e e' σ he h=>by
  have ih:=wtx_ext hq r
  change wtx K cx n0 ks (d::r) e σ Q at h
  show wtx K cx n0 ks (d::r) e' σ Q
  simp only [wtx] at h ⊢
  exact(h.slots (fun s _=>he s) (fun s _=>he s)).mono fun v s hv=>ih _ _ _ (put_ext he d.ins.dst v) hv

theorem one_simple {d:DOp}(h:d.one=true):d.ins.simple=true:=by
 unfold DOp.one at h
 generalize d.ins=i at *
 cases i <;> first | rfl | cases h

theorem adm_wdop {d:DOp}(hk:d.one=true){e:Env} {σ:St}{Q:Env→St→Prop}{cx':Cx}(h:Adm K cx n0 ks d e σ fun v s=>Q (putE e d.ins.dst v) s):wdop K cx' n0 d e σ Q:=by
 replace h:=h.2
 rw [wdop_eq]
 have hsim:=one_simple hk
 have go:gsel d.guard e=some true→dgo K cx' n0 d e σ Q:=fun hg=>by
  unfold Adm0 at h
  split at h
  ·unfold AdmN at h
   rw [hg] at h
   simp only at h
   unfold dgo
   generalize d.ins=i at *
   cases i with
   | p dst op =>
    simp only [nGo] at h
    simp only
    split at h
    ·rename_i v hv; first | (rw [hv]; exact h) | exact h
    ·exact h.elim
   | call dst f args =>
    simp only [nGo] at h
    simp only [wone]
    refine .inl ⟨cx.mode f,?_⟩
    cases hm:cx.mode f with
    | raw=>simp only [hm] at h
    | rnd=>simp only [hm] at h
    | val =>
     simp only [hm] at h
     simp only [callM]
     split at h
     ·rename_i ds hds
      rw [hds]
      obtain⟨Q',a,b,c⟩:=h
      exact⟨Q',a,c⟩
     ·exact h.elim
    | rd =>
     simp only [hm] at h
     obtain⟨Q',a,b,c⟩:=h σ (Agr.refl _ _)
     exact⟨Q',a,c⟩
   | _=>exact h.elim
  ·unfold AdmX at h
   rw [hg] at h
   simp only at h
   unfold dgo
   generalize d.ins=i at *
   cases i with
   | e dst op =>
    simp only [xGo] at h
    refine h.imp (fun h=>?_) (fun h=>?_)
    ·split
     ·rename_i v s hv; rw [hv] at h; exact h.2
     ·rename_i hv; rw [hv] at h; exact h
    ·split
     ·rename_i v s hv; rw [hv] at h; exact h.2
     ·rename_i hv; rw [hv] at h; exact h
   | call dst f args=>simp only [wone]; exact xCall.callK h _
   | callv dst f args =>
    simp only [xGo] at h
    simp only [wone]
    split
    ·rename_i g first caps hf; rw [hf] at h; exact xCall.callK h _
    ·rename_i r hf; rw [hf] at h; exact h.elim
    ·rename_i hn hn2
     split at h
     ·rename_i g first caps hf; exact(hn _ _ _ hf).elim
     ·exact h
   | _=>exact h.elim
 have no:gsel d.guard e=some false→Q (goneOne d.ins e) σ:=fun hg=>by
  rw [goneOne_simple hsim]
  unfold Adm0 at h
  split at h
  ·unfold AdmN at h; rw [hg] at h; exact h
  ·unfold AdmX at h; rw [hg] at h; exact h
 have nn:gsel d.guard e≠none:=fun hg=>by
  unfold Adm0 at h
  split at h
  ·unfold AdmN at h; rw [hg] at h; exact h
  ·unfold AdmX at h; rw [hg] at h; exact h
 unfold gdo
 split
 ·rename_i hg; exact go (by rw [hg]; rfl)
 ·rename_i s want hg
  rw [hg] at go no nn
  simp only [gsel] at go no nn
  split
  ·rename_i b hb
   rw [hb] at go no
   simp only at go no
   split
   ·rename_i hbw; exact go (by simp [hbw])
   ·rename_i hbw; exact no (by simp [hbw])
  ·rename_i hb
   rw [hb] at no
   exact no rfl
  ·rename_i h1 h2
   exfalso
   apply nn
   split
   ·rename_i b hb; exact(h1 _ hb).elim
   ·rename_i hb; exact(h2 hb).elim
   ·rfl

def sel (l:List DOp)(is:List Nat):List DOp:=is.filterMap fun i=>l[i]?
def remOf (n:Nat)(S:List Nat):List Nat:=(List.range n).filter fun i=>!S.contains i

def Down (l:List DOp)(S:List Nat):Prop:=∀ j∈S,∀ y,l[j]?=some y→∀ a∈y.after,a∈S

theorem closeT_spec {l:List DOp}{S:List Nat}(hS:Down l S) : ∀ (r:List DOp)(acc:List (List Nat)),(∀ k,r[k]?=l[acc.length+k]?)→(∀ (j:Nat)(y:DOp),j<acc.length→l[j]?=some y→(∀ a∈y.after,a∈S)→∀ i∈acc.getD j [],i∈S) →
  ∀ (j:Nat) (y:DOp),l[j]?=some y→(∀ a∈y.after,a∈S)→∀ i∈(closeT r acc).getD j [],i∈S
 | [],acc,hr,hacc,j,y,hj,ha=>by
  have hlt:j<acc.length:=by
   rcases Nat.lt_or_ge j acc.length with h | h
   ·exact h
   ·have:=hr (j-acc.length)
    rw [show acc.length+(j-acc.length)=j by omega,hj] at this
    simp at this
  exact hacc j y hlt hj ha
 | d::r,acc,hr,hacc,j,y,hj,ha=>by
  simp only [closeT]
  refine closeT_spec hS r _ (fun k=>?_) (fun j' y' hj' hy' ha'=>?_) j y hj ha
  ·have:=hr (k+1)
   simp only [List.getElem?_cons_succ] at this
   rw [this]
   congr 1
   simp
   omega
  ·simp at hj'
   rcases Nat.lt_or_ge j' acc.length with h | h
   ·intro i hi
    rw [List.getD_eq_getElem?_getD,List.getElem?_append_left h,← List.getD_eq_getElem?_getD] at hi
    exact hacc j' y' h hy' ha' i hi
   ·have hje:j'=acc.length:=by omega
    subst hje
    have hd:l[acc.length]?=some d:=by
     have:=hr 0
     simpa using this.symm
    rw [hy'] at hd
    cases hd
    intro i hi
    rw [List.getD_eq_getElem?_getD,List.getElem?_append_right (Nat.le_refl _)] at hi
    simp only [Nat.sub_self,List.getElem?_cons_zero,Option.getD_some] at hi
    rw [List.mem_eraseDups,List.mem_append,List.mem_flatMap] at hi
    rcases hi with hi | ⟨a,h1,h2⟩
    ·exact ha' i hi
    ·have haS:=ha' a h1
     rcases Nat.lt_or_ge a acc.length with h3 | h3
     ·cases hla:l[a]? with
      | none =>
       rw [List.getElem?_eq_none_iff] at hla
       have:acc.length<l.length:=(List.getElem?_eq_some_iff.1 hy').1
       omega
      | some ya=>exact hacc a ya h3 hla (hS a haS ya hla) i h2
     ·rw [List.getD_eq_getElem?_getD,List.getElem?_eq_none h3] at h2
      simp at h2

structure Chk (md:Nat→Mode)(dr:List Nat)(l:List DOp):Prop where
 kind : ∀ (j:Nat) (y:DOp),l[j]?=some y→y.one=true
 back : ∀ (j:Nat) (y:DOp),l[j]?=some y→∀ a∈y.after,a<j
 pair : ∀ (i j:Nat) (x y:DOp),i<j→l[i]?=some x→l[j]?=some y→i∈(closeT l []).getD j []∨okPair md dr l x y=true
 news : ∀ (i j:Nat) (x y:DOp),i<j→l[i]?=some x→l[j]?=some y→x.isNF l=true∨y.isNF l=true→x.ins.dst≠y.ins.dst

theorem chk_of {md:Nat→Mode}{dr:List Nat}{l:List DOp}(h:drwOk md dr l=true):Chk md dr l:=by
 unfold drwOk pairsOk at h
 rw [List.all_eq_true] at h
 have get : ∀ (j:Nat) (y:DOp),l[j]?=some y→(y.one&&y.after.all (· < j) &&
   (List.range j).all fun i=>match l[i]? with
    | some x=>(((closeT l []).getD j []).contains i||okPair md dr l x y)&&(!(x.isNF l||y.isNF l)||x.ins.dst != y.ins.dst)
    | none=>false)=true:=fun j y hy=>by
  have:=h j (List.mem_range.2 (List.getElem?_eq_some_iff.1 hy).1)
  rw [hy] at this
  exact this
 refine⟨fun j y hy=>?_,fun j y hy a ha=>?_,fun i j x y hij hx hy=>?_,fun i j x y hij hx hy hn=>?_⟩
 ·have:=get j y hy
  simp only [Bool.and_eq_true,Bool.or_eq_true] at this
  exact this.1.1
 ·have:=get j y hy
  simp only [Bool.and_eq_true,List.all_eq_true] at this
  simpa using this.1.2 a ha
 ·have:=get j y hy
  rw [Bool.and_eq_true,List.all_eq_true] at this
  have:=this.2 i (List.mem_range.2 hij)
  rw [hx] at this
  simp only [Bool.and_eq_true,Bool.or_eq_true] at this
  rcases this.1 with h1 | h1
  ·exact .inl (by simpa using h1)
  ·exact .inr h1
 ·have:=get j y hy
  rw [Bool.and_eq_true,List.all_eq_true] at this
  have:=this.2 i (List.mem_range.2 hij)
  rw [hx] at this
  simp only [Bool.and_eq_true] at this
  have h2:=this.2
  rcases hn with hn | hn <;> simpa [hn] using h2

theorem remOf_cons {n i:Nat}{S pre post:List Nat}(h:remOf n S=pre++i::post):remOf n (i::S)=pre++post:=by
 have e:remOf n (i::S)=(remOf n S).filter (fun k=>k != i):=by
  unfold remOf
  rw [List.filter_filter]
  apply List.filter_congr
  intro k _
  simp only [List.contains_cons,Bool.not_or]
  rfl
 have hnd:(remOf n S).Nodup:=List.nodup_range.filter _
 rw [e,h]
 rw [h] at hnd
 rw [List.nodup_append] at hnd
 obtain⟨h1,h2,h3⟩:=hnd
 rw [List.nodup_cons] at h2
 rw [List.filter_append,List.filter_cons]
 simp only [bne_self_eq_false,Bool.false_eq_true,if_false]
 rw [List.filter_eq_self.2 (fun a ha=>by simpa using h3 a ha i (by simp)),List.filter_eq_self.2 (fun a ha=>by simp; rintro rfl; exact h2.1 ha)]

theorem remOf_lt {n i:Nat}{S pre post:List Nat}(h:remOf n S=pre++i::post):(∀ a∈pre,a<i)∧(∀ k,k<i→k∉pre→k∈S)∧i<n∧i∉S:=by
 have hs:(remOf n S).Pairwise (· < ·):=List.pairwise_lt_range.filter _
 have hmem : ∀ k,k∈remOf n S↔k<n∧k∉S:=fun k=>by simp [remOf]
 rw [h] at hs
 rw [List.pairwise_append] at hs
 obtain⟨h1,h2,h3⟩:=hs
 rw [List.pairwise_cons] at h2
 have hi:=(hmem i).1 (by rw [h]; simp)
 refine⟨fun a ha=>h3 a ha i (by simp),fun k hk hp=>?_,hi.1,hi.2⟩
 apply Classical.byContradiction
 intro hS
 have:=(hmem k).2 ⟨by omega,hS⟩
 rw [h] at this
 rcases List.mem_append.1 this with h4 | h4
 ·exact hp h4
 ·rcases List.mem_cons.1 h4 with h5 | h5
  ·omega
  ·have:=h2.1 k h5; omega

theorem adm0_new (l:List DOp){d:DOp}{e:Env} {σ:St}{R:V→St→Prop}(h:Adm0 K cx n0 ks d e σ R):Adm0 K cx n0 ks d e σ fun v s=>R v s∧(d.isNew=true→v = .ref (n0+d.al) 0)∧(∀ s q,d.faOf l=some (s,q)→∀ r∈dref v,r∈dref (e.get q)):=by
 cases hn:d.isNew with
 | false =>
  cases hf:d.faOf l with
  | none=>exact h.mono fun v s hv=>⟨hv,(fun h=>by cases h),(fun s q h=>by cases h)⟩
  | some p =>
   obtain⟨s,q⟩:=p
   obtain⟨hg,⟨k,hi⟩,_⟩:=faOf_inv hf
   have hN:d.isN cx.mode=true:=by simp [DOp.isN,hi]
   rw [Adm_N hN] at h ⊢
   unfold AdmN at h ⊢
   rw [hg,hi] at h ⊢
   simp only [gsel,nGo] at h ⊢
   split
   ·rename_i v hv
    rw [hv] at h
    refine⟨h,(fun h=>by cases h),fun s' q' h' r hr=>?_⟩
    cases h'
    simp only [evalP,Opd.ev] at hv
    unfold faddrV at hv
    split at hv
    ·rename_i r0 o0 hq
     cases hv
     rw [hq]
     exact hr
    ·rename_i cs hq
     split at hv
     ·cases hv; simp [dref] at hr
     ·cases hv
    ·cases hv
   ·rename_i hv; rw [hv] at h; exact h
 | true =>
  have hfa:d.faOf l=none:=by
   obtain⟨_,s,op,hi,_⟩:=isNew_inv hn
   simp [DOp.faOf,hi]
  have hE:d.isNew=true∨d.isSto []=true:=.inl hn
  rw [Adm0_E hE] at *
  obtain⟨hg,dst,op,v,s,h1,h2,h3,h4⟩:=h
  exact⟨hg,dst,op,v,s,h1,h2,h3,h4,fun _=>(new_low hn h1 h2).1,fun s q h=>by rw [hfa] at h; cases h⟩

theorem adm_new (l:List DOp){d:DOp}{e:Env} {σ:St}{R:V→St→Prop}(h:Adm K cx n0 ks d e σ R):Adm K cx n0 ks d e σ fun v s=>R v s∧(d.isNew=true→v = .ref (n0+d.al) 0)∧(∀ s q,d.faOf l=some (s,q)→∀ r∈dref v,r∈dref (e.get q)):=⟨h.1,adm0_new l h.2⟩

theorem inv_step {md:Nat→Mode}{dr:List Nat}{l:List DOp}(hc:Chk md dr l){S:List Nat}{e:Env}(hi:Inv l n0 S e){i:Nat}{x:DOp}(hx:l[i]?=some x)(hS:i∉S){v:V}(hv:(x.isNew=true→v = .ref (n0+x.al) 0)∧(∀ s q,x.faOf l=some (s,q)→∀ r∈dref v,r∈dref (e.get q))):Inv l n0 (i::S) (putE e x.ins.dst v):=by
 refine⟨fun s hs r hr=>?_,fun m hm d hd hn s hs=>?_,fun m hm d hd s q hf=>?_⟩
 ·rw [get_put_ne (hs x (List.mem_of_getElem? hx))] at hr
  exact hi.low s hs r hr
 ·rcases List.mem_cons.1 hm with rfl | hm
  ·rw [hx] at hd
   cases hd
   rw [hv.1 hn]
   rw [hs]
   simp [putE,Env.get_set]
  ·have hne:m≠i:=fun e=>hS (e▸hm)
   have hdst:x.ins.dst≠some s:=by
    rcases Nat.lt_or_ge m i with h | h
    ·have:=hc.news m i d x h hd hx (.inl (by simp [DOp.isNF,hn]))
     rw [hs] at this
     exact fun e=>this e.symm
    ·have:=hc.news i m x d (by omega) hx hd (.inr (by simp [DOp.isNF,hn]))
     rw [hs] at this
     exact this
   rw [get_put_ne hdst]
   exact hi.new m hm d hd hn s hs
 ·obtain⟨hg,⟨k,hdi⟩,hq⟩:=faOf_inv hf
  rw [get_put_ne (hq x (List.mem_of_getElem? hx))]
  have hs:d.ins.dst=some s:=by rw [hdi]; rfl
  rcases List.mem_cons.1 hm with rfl | hm
  ·rw [hx] at hd
   cases hd
   rw [hs]
   simp only [putE,Env.get_set,if_true]
   exact hv.2 s q hf
  ·have hne:m≠i:=fun e=>hS (e▸hm)
   have hnf:d.isNF l=true:=by simp [DOp.isNF,hf]
   have hdst:x.ins.dst≠some s:=by
    rcases Nat.lt_or_ge m i with h | h
    ·have:=hc.news m i d x h hd hx (.inl hnf)
     rw [hs] at this
     exact fun e=>this e.symm
    ·have:=hc.news i m x d (by omega) hx hd (.inr hnf)
     rw [hs] at this
     exact this
   rw [get_put_ne hdst]
   exact hi.fa m hm d hd s q hf

theorem bubble {l:List DOp}(hc:Chk cx.mode cx.dry l)(hks : ∀ s∈ks,∀ d∈l,d.ins.dst≠some s)(hkeep : ∀ (i j:Nat)(x y:DOp),i<j→l[i]?=some x→l[j]?=some y→i∉(closeT l []).getD j []→KeepP cx.mode cx.dry l ks x y){Q:Env→St→Prop}(hq:Ext Q){j:Nat}{y:DOp}(hy:l[j]?=some y)(post:List Nat) : ∀ (pre S:List Nat),remOf l.length S=pre++j::post→Down l S→(∀ a∈y.after,a∈S)→∀ (e:Env) (σ:St),Inv l n0 S e →
  wtx K cx n0 ks (sel l (pre++j::post)) e σ Q→Adm K cx n0 ks y e σ fun u s=>wtx K cx n0 ks (sel l (pre++post)) (putE e y.ins.dst u) s Q
 | [],S,hrem,hdown,haf,e,σ,hi,h=>by
  simp only [List.nil_append,sel,List.filterMap_cons,hy,wtx] at h
  exact h
 | i::pre,S,hrem,hdown,haf,e,σ,hi,h=>by
  have hl:=remOf_lt (pre:=[]) (i:=i) (post:=pre++j::post) (by simpa using hrem)
  have hlj:=remOf_lt hrem
  obtain⟨x,hx⟩ : ∃ x,l[i]?=some x:=⟨l[i]'hl.2.2.1,by simp [hl.2.2.1]⟩
  have hij:i<j:=hlj.1 i (by simp)
  have hafx : ∀ a∈x.after,a∈S:=fun a ha=>hl.2.1 a (hc.back i x hx a ha) (by simp)
  have hrem':remOf l.length (i::S)=pre++j::post:=by
   have:=remOf_cons (pre:=[]) (i:=i) (post:=pre++j::post) (by simpa using hrem)
   simpa using this
  have hdown':Down l (i::S):=fun k hk z hz a ha=>by
   rcases List.mem_cons.1 hk with rfl | hk
   ·rw [hx] at hz; cases hz; exact List.mem_cons_of_mem _ (hafx a ha)
   ·exact List.mem_cons_of_mem _ (hdown k hk z hz a ha)
  simp only [List.cons_append,sel,List.filterMap_cons,hx,wtx] at h ⊢
  have h1:=(adm_new l h).mono fun v s hv=>bubble hc hks hkeep hq hy post pre (i::S) hrem' hdown' (fun a ha=>List.mem_cons_of_mem _ (haf a ha)) _ _ (inv_step hc hi hx hl.2.2.2 hv.2) hv.1
  have hnT:i∉(closeT l []).getD j []:=fun hT=>hl.2.2.2 (closeT_spec hdown l [] (fun k=>by simp) (fun j y hj=>by simp at hj) j y hy haf i hT)
  have hok:okPair cx.mode cx.dry l x y=true:=(hc.pair i j x y hij hx hy).resolve_left hnT
  exact exchange hok hks (hkeep i j x y hij hx hy hnT) (List.mem_of_getElem? hx) (List.mem_of_getElem? hy) hi hafx haf (wtx_ext hq _) h1

theorem text_any {cx':Cx}{l:List DOp}(hc:Chk cx.mode cx.dry l)(hks : ∀ s∈ks,∀ d∈l,d.ins.dst≠some s)(hkeep : ∀ (i j:Nat)(x y:DOp),i<j→l[i]?=some x→l[j]?=some y→i∉(closeT l []).getD j []→KeepP cx.mode cx.dry l ks x y){Q:Env→St→Prop}(hq:Ext Q) : ∀ (fuel:Nat)(S:List Nat),(remOf l.length S).length=fuel→Down l S→∀ (e:Env) (σ:St),Inv l n0 S e→wtx K cx n0 ks (sel l (remOf l.length S)) e σ Q→wany K cx' n0 l fuel S e σ Q
 | 0,S,hf,hdown,e,σ,hi,h=>by
  have hr:remOf l.length S=[]:=List.eq_nil_of_length_eq_zero hf
  rw [hr] at h
  refine⟨?_,h⟩
  unfold readyD
  rw [List.filter_eq_nil_iff]
  intro k hk hb
  have:k∈remOf l.length S:=by
   simp only [Bool.and_eq_true] at hb
   exact List.mem_filter.2 ⟨hk,hb.1⟩
  rw [hr] at this
  cases this
 | fuel+1,S,hf,hdown,e,σ,hi,h=>by
  refine⟨fun hr=>?_,fun i hir=>?_⟩
  ·exfalso
   cases hrem:remOf l.length S with
   | nil=>rw [hrem] at hf; simp at hf
   | cons i r =>
    have hl:=remOf_lt (pre:=[]) (i:=i) (post:=r) (by simpa using hrem)
    obtain⟨x,hx⟩ : ∃ x,l[i]?=some x:=⟨l[i]'hl.2.2.1,by simp [hl.2.2.1]⟩
    have:i∈readyD l S:=by
     unfold readyD
     refine List.mem_filter.2 ⟨List.mem_range.2 hl.2.2.1,?_⟩
     rw [hx]
     simp only [Option.map_some,Option.getD_some,Bool.and_eq_true,List.all_eq_true]
     exact⟨by simpa using hl.2.2.2,fun a ha=>by simpa using hl.2.1 a (hc.back i x hx a ha) (by simp)⟩
    rw [hr] at this
    cases this
  ·unfold readyD at hir
   obtain⟨h1,h2⟩:=List.mem_filter.1 hir
   have hlt:=List.mem_range.1 h1
   have hx:l[i]?=some l[i]:=by simp [hlt]
   rw [hx] at h2
   simp only [Option.map_some,Option.getD_some,Bool.and_eq_true,List.all_eq_true] at h2
   obtain⟨h3,h4⟩:=h2
   have haf : ∀ a∈l[i].after,a∈S:=fun a ha=>by simpa using h4 a ha
   have hnS:i∉S:=by simpa using h3
   have hmem:i∈remOf l.length S:=List.mem_filter.2 ⟨h1,h3⟩
   obtain⟨pre,post,hrem⟩:=List.append_of_mem hmem
   refine⟨l[i],hx,adm_wdop (cx:=cx) (ks:=ks) (hc.kind i _ hx) ?_⟩
   rw [hrem] at h
   refine(adm_new l (bubble hc hks hkeep hq hx post pre S hrem hdown haf e σ hi h)).mono fun v s hv=>?_
   refine text_any hc hks hkeep hq fuel (i::S) ?_ ?_ _ _ (inv_step hc hi hx hnS hv.2) ?_
   ·rw [remOf_cons hrem]
    rw [hrem] at hf
    simp at hf ⊢
    omega
   ·intro k hk z hz a ha
    rcases List.mem_cons.1 hk with rfl | hk
    ·rw [hx] at hz; cases hz; exact List.mem_cons_of_mem _ (haf a ha)
    ·exact List.mem_cons_of_mem _ (hdown k hk z hz a ha)
   ·rw [remOf_cons hrem]
    exact hv.1

theorem sel_range (p:List DOp) : ∀ (l:List DOp),(List.range' p.length l.length).filterMap (fun i=>(p++l)[i]?)=l
 | []=>rfl
 | x::r=>by
  rw [List.length_cons,List.range'_succ,List.filterMap_cons]
  have h1:(p++x::r)[p.length]?=some x:=by simp
  rw [h1]
  have:=sel_range (p++[x]) r
  simp only [List.length_append,List.length_cons,List.length_nil,List.append_assoc,List.cons_append,List.nil_append] at this
  simp only [this]

theorem sel_all (l:List DOp):sel l (remOf l.length [])=l:=by
 have:remOf l.length []=List.range l.length:=by
  unfold remOf
  exact List.filter_eq_self.2 (fun a _=>by simp)
 rw [this,List.range_eq_range']
 exact sel_range [] l

def keepX (md:Nat→Mode)(dr:List Nat)(l:List DOp):List Nat :=
 ((List.range l.length).flatMap fun j=>(List.range j).flatMap fun i=>if ((closeT l []).getD j []).contains i then [] else
  match l[i]?,l[j]? with
  | some x,some y=>(if x.isP && !x.isB&&y.isXc md&&x.near l dr then x.reads.filterMap (rootD l x) else [])++(if y.isP && !y.isB&&x.isXc md&&y.near l dr then y.reads.filterMap (rootD l y) else [])
  | _,_=>[]).eraseDups

theorem root_ne {l:List DOp}{x:DOp}{s0 s:Nat}(hs0:rootD l x s0=some s) : ∀ d∈l,d.ins.dst≠some s:=fun d hd=>by
 unfold rootD at hs0
 split at hs0
 ·rename_i h1
  cases hs0
  exact all_ne h1 d hd
 ·obtain⟨m,hm,h1⟩:=List.exists_of_findSome?_eq_some hs0
  split at h1
  ·split at h1
   ·rename_i hf
    split at h1
    ·cases h1; exact(faOf_inv hf).2.2 d hd
    ·cases h1
   ·cases h1
  ·cases h1

theorem keepX_mem {md:Nat→Mode}{dr:List Nat}{l:List DOp}{s:Nat}:s∈keepX md dr l↔∃ i j x y,i<j∧l[i]?=some x∧l[j]?=some y∧i∉(closeT l []).getD j [] ∧
  ((x.isP=true∧x.isB=false∧y.isXc md=true∧x.near l dr=true∧∃ s0∈x.reads,rootD l x s0=some s)∨(y.isP=true∧y.isB=false∧x.isXc md=true∧y.near l dr=true∧∃ s0∈y.reads,rootD l y s0=some s)):=by
 unfold keepX
 rw [List.mem_eraseDups,List.mem_flatMap]
 constructor
 ·rintro ⟨j,hj,h⟩
  obtain⟨i,hi,h⟩:=List.mem_flatMap.1 h
  rw [List.mem_range] at hi hj
  split at h
  ·cases h
  ·rename_i hT
   split at h
   ·rename_i x y hx hy
    refine⟨i,j,x,y,hi,hx,hy,by simpa using hT,?_⟩
    rcases List.mem_append.1 h with h | h
    ·split at h
     ·rename_i hc
      simp only [Bool.and_eq_true,Bool.not_eq_true'] at hc
      obtain⟨s0,h1,h2⟩:=List.mem_filterMap.1 h
      exact .inl ⟨hc.1.1.1,hc.1.1.2,hc.1.2,hc.2,s0,h1,h2⟩
     ·cases h
    ·split at h
     ·rename_i hc
      simp only [Bool.and_eq_true,Bool.not_eq_true'] at hc
      obtain⟨s0,h1,h2⟩:=List.mem_filterMap.1 h
      exact .inr ⟨hc.1.1.1,hc.1.1.2,hc.1.2,hc.2,s0,h1,h2⟩
     ·cases h
   ·cases h
 ·rintro ⟨i,j,x,y,hij,hx,hy,hT,h⟩
  refine⟨j,List.mem_range.2 (List.getElem?_eq_some_iff.1 hy).1,List.mem_flatMap.2 ⟨i,List.mem_range.2 hij,?_⟩⟩
  rw [if_neg (by simpa using hT),hx,hy]
  simp only
  rcases h with⟨h1,h2,h3,h4,s0,h5,h6⟩ | ⟨h1,h2,h3,h4,s0,h5,h6⟩
  ·exact List.mem_append_left _ (by rw [if_pos (by simp [h1,h2,h3,h4])]; exact List.mem_filterMap.2 ⟨s0,h5,h6⟩)
  ·exact List.mem_append_right _ (by rw [if_pos (by simp [h1,h2,h3,h4])]; exact List.mem_filterMap.2 ⟨s0,h5,h6⟩)

theorem wdrwK {cx':Cx}{ks kk:List Nat}{na:Nat}{l:List DOp}(hC:drwOk cx.mode cx.dry l=true)(hks : ∀ s∈kk,∀ d∈l,d.ins.dst≠some s)
  (hkeep : ∀ (i j:Nat) (x y:DOp),i<j→l[i]?=some x→l[j]?=some y→i∉(closeT l []).getD j []→KeepP cx.mode cx.dry l kk x y) {e:Env} {σ:St} {Q:PostC} (h:wtx K cx σ.objs.length kk l e (σ.room na) fun e' σ'=>Q .normal (e'.pick ks) σ'):wcode K cx' (.drw ks na l) e σ Q:=by
 simp only [wcode]
 intro hok
 have hc:=chk_of hC
 have hl:(remOf l.length []).length=l.length:=by
  have:remOf l.length []=List.range l.length:=by
   unfold remOf
   exact List.filter_eq_self.2 (fun a _=>by simp)
  rw [this,List.length_range]
 refine text_any (ks:=kk) hc hks hkeep (fun e e' σ he hq=>?_) l.length [] hl (fun j hj=>by cases hj) e _ ⟨fun s _ r hr=>hok s r hr,(fun m hm=>by cases hm),(fun m hm=>by cases hm)⟩ (by rw [sel_all]; exact h)
 have:e.pick ks=e'.pick ks:=by
  unfold Env.pick
  exact List.map_congr_left fun k _=>by rw [he k]
 rw [← this]
 exact hq

theorem wdrw {cx':Cx}{ks:List Nat}{na:Nat}{l:List DOp}(hC:drwOk cx.mode cx.dry l=true){e:Env} {σ:St}{Q:PostC}(h:wtx K cx σ.objs.length (keepOf cx.dry l) l e (σ.room na) fun e' σ'=>Q .normal (e'.pick ks) σ'):wcode K cx' (.drw ks na l) e σ Q:=by
 refine wdrwK hC (fun s hs d hd=>?_) (fun i j x y hij hx hy hT=>⟨fun h1 h2 _ h3 s hs q hq=>?_,fun h1 h2 _ h3 s hs q hq=>?_⟩) h
 ·unfold keepOf at hs
  obtain⟨d',hd',hs'⟩:=List.mem_flatMap.1 hs
  obtain⟨s0,_,hs0⟩:=List.mem_filterMap.1 hs'
  exact root_ne hs0 d hd
 ·exact List.mem_flatMap.2 ⟨x,List.mem_filter.2 ⟨List.mem_of_getElem? hx,by simp [h1,h2,h3]⟩,List.mem_filterMap.2 ⟨s,hs,hq⟩⟩
 ·exact List.mem_flatMap.2 ⟨y,List.mem_filter.2 ⟨List.mem_of_getElem? hy,by simp [h1,h2,h3]⟩,List.mem_filterMap.2 ⟨s,hs,hq⟩⟩

theorem wdrwX {cx':Cx}{ks:List Nat}{na:Nat}{l:List DOp}(hC:drwOk cx.mode cx.dry l=true){e:Env} {σ:St}{Q:PostC}(h:wtx K cx σ.objs.length (keepX cx.mode cx.dry l) l e (σ.room na) fun e' σ'=>Q .normal (e'.pick ks) σ'):wcode K cx' (.drw ks na l) e σ Q:=by
 refine wdrwK hC (fun s hs d hd=>?_) (fun i j x y hij hx hy hT=>⟨fun h1 h2 h3 h4 s hs q hq=>?_,fun h1 h2 h3 h4 s hs q hq=>?_⟩) h
 ·obtain⟨i,j,x,y,_,_,_,_,h⟩:=keepX_mem.1 hs
  rcases h with⟨_,_,_,_,s0,_,h⟩ | ⟨_,_,_,_,s0,_,h⟩
  ·exact root_ne h d hd
  ·exact root_ne h d hd
 ·exact keepX_mem.2 ⟨i,j,x,y,hij,hx,hy,hT,.inl ⟨h1,h2,h3,h4,s,hs,hq⟩⟩
 ·exact keepX_mem.2 ⟨i,j,x,y,hij,hx,hy,hT,.inr ⟨h1,h2,h3,h4,s,hs,hq⟩⟩

end Go.Dn

/- Rows: what the arguments are; a law's call. -/
namespace Go.Dn
open Go.Lib Go.RowKit

set_option linter.unusedSimpArgs false

variable {P:Program} {w:World} {H:Type} {enc:TypeId×Value→H} {base:Nat} {spare:Nat→Bool} {held:Bool}

theorem row_calls {cx:Cx}(hm:P.follows .mixedOrders=true) {Γ:Nat→Option FnC}(hΓ : ∀ f fc,Γ f=some fc→Nonempty (Fits P cx.globs f fc)){f:Nat}{vs:List V}{b:Bool}
  (h:Call Γ cx .val f vs St.empty fun v _=>v = .d (.bool b)) {args:Array Value} (hv:VRs (Gh.bare P fun b q=>∃ v,w.cell? ⟨b,q,none⟩=some v) [] w vs args.toList) (hgl:GlobR cx.globs (Gh.bare P fun b q=>∃ v,w.cell? ⟨b,q,none⟩=some v) [] w) :
  Calls P f args w fun e w'=>e = .returned (.bool b)∧Below w.heap.size w w':=by
 have h1:=(call_sound hm hΓ h).2 (Gh.bare P fun b q=>∃ v,w.cell? ⟨b,q,none⟩=some v) w args rfl hgl (Sim.bare fun b q h=>h) hv
 refine(h1 rfl).mono fun e w' h=>?_
 cases e with
 | returned v =>
  obtain⟨f',x,σ',rfl,hc,hx,hev⟩:=h
  cases hx.inv_bool
  exact⟨rfl,hev.os,hev.tape,hev.output,hev.size,fun k hk=>hev.frame k hk not_mine_empty⟩
 | panicked c=>exact h.elim
 | outgrown=>exact h.elim

end Go.Dn

/- For those who prove about the small language: calls from bodies, loops from invariants. -/
namespace Go.Dn

set_option linter.unusedSimpArgs false

def LeK (K K':CallP):Prop:=∀ m f vs σ Q,K m f vs σ Q→K' m f vs σ Q

variable {K K':CallP} {cx:Cx}

theorem callK0_leK (hk:LeK K K'){f:Nat}{vs:List V} {σ:St}{Q Q':Post}(hq : ∀ v s,Q v s→Q' v s)(h:callK0 K cx f vs σ Q):callK0 K' cx f vs σ Q':=by
 obtain⟨m,h⟩:=h
 refine⟨m,?_⟩
 cases m with
 | rnd=>exact h.elim
 | raw =>
  obtain⟨q,h1,h2⟩:=h
  exact⟨q,hk _ _ _ _ _ h1,fun v s hv=>hq _ _ (h2 v s hv)⟩
 | rd =>
  obtain⟨q,h1,h2⟩:=h
  exact⟨q,hk _ _ _ _ _ h1,fun v s hv=>hq _ _ (h2 v s hv)⟩
 | val =>
  simp only [callM] at *
  split
  ·rename_i ds hds
   rw [hds] at h
   obtain⟨q,h1,h2⟩:=h
   exact⟨q,hk _ _ _ _ _ h1,fun v s hv=>⟨(h2 v s hv).1,(h2 v s hv).2.1,hq _ _ (h2 v s hv).2.2⟩⟩
  ·rename_i hds
   rw [hds] at h
   exact h

theorem callK_leK (hk:LeK K K'){f:Nat}{vs:List V} {σ:St}{Q Q':Post}(hq : ∀ v s,Q v s→Q' v s)(h:callK K cx f vs σ Q):callK K' cx f vs σ Q' :=
 h.imp (callK0_leK hk hq) fun⟨vs',σ',ht,h⟩=>⟨vs',σ',ht,callK0_leK hk hq h⟩

mutual
theorem wins_le (hk:LeK K K') : ∀ (l:List Ins){e:Env} {σ:St}{Q Q':Env→St→Prop},(∀ e s,Q e s→Q' e s)→wins K cx l e σ Q→wins K' cx l e σ Q'
 | [],e,σ,Q,Q',hq,h=>by simp only [wins] at *; exact hq _ _ h
 | i::r,e,σ,Q,Q',hq,h=>by
  simp only [wins] at *
  exact wone_le hk i (fun e s=>wins_le hk r hq) h
theorem wone_le (hk:LeK K K') : ∀ (i:Ins){e:Env} {σ:St}{Q Q':Env→St→Prop},(∀ e s,Q e s→Q' e s)→wone K cx i e σ Q→wone K' cx i e σ Q'
 | .p dst op,e,σ,Q,Q',hq,h=>by
  simp only [wone] at *
  split
  ·rename_i ho
   rw [if_pos ho] at h
   split
   ·rename_i v s hf; rw [hf] at h; exact hq _ _ h
   ·rename_i hf; rw [hf] at h; exact h
  rename_i ho
  rw [if_neg ho] at h
  split
  ·rename_i v hv; rw [hv] at h; exact hq _ _ h
  ·rename_i hv; rw [hv] at h
   simp only at h ⊢
   split
   ·rename_i v s hf; rw [hf] at h; exact hq _ _ h
   ·rename_i hf; rw [hf] at h; exact h
 | .e dst op,e,σ,Q,Q',hq,h=>by
  simp only [wone] at *
  refine h.imp (fun h=>?_) (fun h=>?_)
  ·split
   ·rename_i v hv; rw [hv] at h; exact hq _ _ h
   ·rename_i hv; rw [hv] at h; exact h
  ·split
   ·rename_i v hv; rw [hv] at h; exact hq _ _ h
   ·rename_i hv; rw [hv] at h; exact h
 | .call dst f args,e,σ,Q,Q',hq,h=>by
  simp only [wone] at *
  exact callK_leK hk (fun v s=>hq _ _) h
 | .callv dst f args,e,σ,Q,Q',hq,h=>by
  simp only [wone] at *
  split
  ·rename_i g first caps hf; rw [hf] at h; exact callK_leK hk (fun v s=>hq _ _) h
  ·rename_i r hf
   rw [hf] at h
   obtain⟨q,h1,h2⟩:=h
   exact⟨q,hk _ _ _ _ _ h1,fun v s hv=>hq _ _ (h2 v s hv)⟩
  ·rename_i hn hn2
   split at h
   ·rename_i g first caps hf; exact(hn _ _ _ hf).elim
   ·rename_i r hf; exact(hn2 _ hf).elim
   ·exact h
 | .next dst it,e,σ,Q,Q',hq,h=>by
  simp only [wone] at *
  exact nextV_mono (fun v s=>hq _ _) h
 | .when s want body,e,σ,Q,Q',hq,h=>by
  simp only [wone] at *
  split
  ·rename_i b hb
   rw [hb] at h
   simp only at h
   split
   ·rename_i hw; rw [if_pos hw] at h; exact wins_le hk body hq h
   ·rename_i hw; rw [if_neg hw] at h; exact hq _ _ h
  ·rename_i hb; rw [hb] at h; exact hq _ _ h
  ·rename_i h1 h2
   split at h
   ·rename_i b hb; exact(h1 _ hb).elim
   ·rename_i hb; exact(h2 hb).elim
   ·exact h
end

theorem gdo_le {gd:Option (Nat×Bool)}{i:Ins}{e:Env} {σ:St}{a b:Prop}(hab:a→b){Q Q':Env→St→Prop}(hq : ∀ e s,Q e s→Q' e s)(h:gdo gd i e σ a Q):gdo gd i e σ b Q':=by
 unfold gdo at *
 split
 ·exact hab h
 ·rename_i s want
  simp only at h
  split
  ·rename_i b hb
   rw [hb] at h
   simp only at h
   split
   ·rename_i hw; rw [if_pos hw] at h; exact hab h
   ·rename_i hw; rw [if_neg hw] at h; exact hq _ _ h
  ·rename_i hb; rw [hb] at h; exact hq _ _ h
  ·rename_i h1 h2
   split at h
   ·rename_i b hb; exact(h1 _ hb).elim
   ·rename_i hb; exact(h2 hb).elim
   ·exact h

theorem wdop_le (hk:LeK K K'){n0:Nat}{d:DOp}{e:Env} {σ:St}{Q Q':Env→St→Prop}(hq : ∀ e s,Q e s→Q' e s)(h:wdop K cx n0 d e σ Q):wdop K' cx n0 d e σ Q':=by
 rw [wdop_eq] at *
 refine gdo_le (fun h=>?_) hq h
 obtain⟨gd,i,af,al⟩:=d
 cases i with
 | e dst op =>
  simp only [dgo] at *
  refine h.imp (fun h=>?_) (fun h=>?_)
  ·split
   ·rename_i v s hv; rw [hv] at h; exact hq _ _ h
   ·rename_i hv; rw [hv] at h; exact h
  ·split
   ·rename_i v s hv; rw [hv] at h; exact hq _ _ h
   ·rename_i hv; rw [hv] at h; exact h
 | p dst op =>
  simp only [dgo] at *
  split
  ·rename_i v hv; rw [hv] at h; exact hq _ _ h
  ·rename_i hv; rw [hv] at h; exact h
 | call dst f args=>exact wone_le hk _ hq h
 | callv dst f args=>exact wone_le hk _ hq h
 | next dst it=>exact wone_le hk _ hq h
 | «when» s want body=>exact wone_le hk _ hq h

theorem wany_le (hk:LeK K K'){n0:Nat}{l:List DOp}{Q Q':Env→St→Prop}(hq : ∀ e s,Q e s→Q' e s) : ∀ (fuel:Nat)(S:List Nat)(e:Env) (σ:St),wany K cx n0 l fuel S e σ Q→wany K' cx n0 l fuel S e σ Q'
 | 0,S,e,σ,h=>⟨h.1,hq _ _ h.2⟩
 | f+1,S,e,σ,h=>⟨fun hr=>hq _ _ (h.1 hr),fun i hi=>by
  obtain⟨o,ho,hw⟩:=h.2 i hi
  exact⟨o,ho,wdop_le hk (fun e s=>wany_le hk hq f (i::S) e s) hw⟩⟩

theorem wcode_le (hk:LeK K K') : ∀ (c:C){e:Env} {σ:St}{Q Q':PostC},(∀ ex e s,Q ex e s→Q' ex e s)→wcode K cx c e σ Q→wcode K' cx c e σ Q'
 | .skip,e,σ,Q,Q',hq,h=>by simp only [wcode] at *; exact hq _ _ _ h
 | .ops ks l,e,σ,Q,Q',hq,h=>by simp only [wcode] at *; exact wins_le hk l (fun e s=>hq _ _ _) h
 | .drw ks na l,e,σ,Q,Q',hq,h=>by simp only [wcode] at *; exact fun ho=>wany_le hk (fun e s=>hq _ _ _) _ _ _ _ (h ho)
 | .seq a b,e,σ,Q,Q',hq,h=>by
  simp only [wcode] at *
  refine wcode_le hk a (fun ex e s h=>?_) h
  cases ex with
  | normal=>exact wcode_le hk b hq h
  | exit id=>exact hq _ _ _ h
  | ret=>exact hq _ _ _ h
 | .cond c a b,e,σ,Q,Q',hq,h=>by
  simp only [wcode] at *
  split
  ·rename_i t ht
   rw [ht] at h
   simp only at h
   split
   ·rename_i hb; rw [if_pos hb] at h; exact wcode_le hk a hq h
   ·rename_i hb; rw [if_neg hb] at h; exact wcode_le hk b hq h
  ·rename_i h1
   split at h
   ·rename_i t ht; exact(h1 _ ht).elim
   ·exact h
 | .block id c,e,σ,Q,Q',hq,h=>by
  simp only [wcode] at *
  refine wcode_le hk c (fun ex e s h=>?_) h
  cases ex with
  | normal=>exact hq _ _ _ h
  | exit j =>
   simp only at *
   split
   ·rename_i hj; rw [if_pos hj] at h; exact hq _ _ _ h
   ·rename_i hj; rw [if_neg hj] at h; exact hq _ _ _ h
  | ret=>exact hq _ _ _ h
 | .loop ks c,e,σ,Q,Q',hq,h=>by
  simp only [wcode] at *
  intro I hI
  refine h I fun e σ hb=>hI e σ (wcode_le hk c (fun ex e s h=>?_) hb)
  cases ex with
  | normal=>exact h
  | exit id=>exact hq _ _ _ h
  | ret=>exact hq _ _ _ h
 | .exit id,e,σ,Q,Q',hq,h=>by simp only [wcode] at *; exact hq _ _ _ h
 | .ret,e,σ,Q,Q',hq,h=>by simp only [wcode] at *; exact hq _ _ _ h
 | .rangeF ks f ps a b,e,σ,Q,Q',hq,h=>by
  simp only [wcode] at *
  split
  ·rename_i g first caps hf
   rw [hf] at h
   obtain⟨q,h1,h2⟩:=h
   refine⟨q,hk _ _ _ _ _ h1,fun v s hv=>?_⟩
   have h3:=h2 v s hv
   simp only at h3 ⊢
   cases ho:s.objs[σ.objs.length]? with
   | none=>rw [ho] at h3; exact h3.elim
   | some o =>
    rw [ho] at h3
    cases o with
    | loop _ _ _ _ st =>
     cases st with
     | ready=>exact hq _ _ _ h3
     | busy=>exact h3.elim
     | done x=>exact hq _ _ _ h3
    | _=>exact h3.elim
  ·rename_i hn
   split at h
   ·rename_i g first caps hf; exact(hn _ _ _ hf).elim
   ·exact h

theorem roundP_le (hk:LeK K K'){r:Nat}{vs:List V} {σ:St}{Q Q':Post}(hq : ∀ v s,Q v s→Q' v s)(h:roundP K cx r vs σ Q):roundP K' cx r vs σ Q':=by
 obtain⟨e,ps,a,b,h1,h2,h⟩:=h
 refine⟨e,ps,a,b,h1,h2,wcode_le hk a (fun ex e1 s1 h=>?_) h⟩
 cases ex with
 | exit id=>exact h
 | ret=>exact h
 | normal =>
  refine⟨h.1,wcode_le hk b (fun ex e2 s2 h=>?_) h.2⟩
  refine⟨h.1,?_⟩
  cases ex with
  | normal=>exact hq _ _ h.2
  | exit id=>exact hq _ _ h.2
  | ret=>exact hq _ _ h.2

theorem bodyP_le (hk:LeK K K'){m:Mode}{fc:FnC}{vs:List V} {σ:St}{Q Q':Post}(hq : ∀ v s,Q v s→Q' v s)(h:bodyP K cx m fc vs σ Q):bodyP K' cx m fc vs σ Q':=by
 refine⟨h.1,wcode_le hk _ (fun ex e s h=>?_) h.2⟩
 cases ex with
 | exit id=>exact h
 | normal=>obtain⟨v,a,k,b⟩:=h; exact⟨v,a,k,hq _ _ b⟩
 | ret=>obtain⟨v,a,k,b⟩:=h; exact⟨v,a,k,hq _ _ b⟩

theorem stepP_le {Γ:Nat→Option FnC}(hk:LeK K K'){m:Mode}{f:Nat}{vs:List V} {σ:St}{Q Q':Post}(hq : ∀ v s,Q v s→Q' v s)(h:stepP Γ K cx m f vs σ Q):stepP Γ K' cx m f vs σ Q':=by
 unfold stepP at *
 cases m with
 | rnd=>exact roundP_le hk hq h
 | _ =>
  obtain⟨fc,h1,h2⟩:=h
  exact⟨fc,h1,bodyP_le hk hq h2⟩

theorem Call.body {Γ:Nat→Option FnC}{m:Mode}{f:Nat}{fc:FnC}(hf:Γ f=some fc){vs:List V} {σ:St}{Q:Post}(h:bodyP (Call Γ cx) cx m fc vs σ Q)(hm:m ≠ .rnd:=by decide):Call Γ cx m f vs σ Q:=by
 intro K hK
 refine hK m f vs σ Q ?_
 have:=bodyP_le (cx:=cx) (fun m f vs σ Q (h:Call Γ cx m f vs σ Q)=>h K hK) (fun v s h=>h) h
 unfold stepP
 cases m with
 | rnd=>exact absurd rfl hm
 | _=>exact⟨fc,hf,this⟩

theorem Call.round {Γ:Nat→Option FnC}{r:Nat}{vs:List V} {σ:St}{Q:Post}(h:roundP (Call Γ cx) cx r vs σ Q):Call Γ cx .rnd r vs σ Q:=by
 intro K hK
 exact hK .rnd r vs σ Q (roundP_le (cx:=cx) (fun m f vs σ Q (h:Call Γ cx m f vs σ Q)=>h K hK) (fun v s h=>h) h)

theorem Call.mono {Γ:Nat→Option FnC}{m:Mode}{f:Nat}{vs:List V} {σ:St}{Q Q':Post}(hq : ∀ v s,Q v s→Q' v s)(h:Call Γ cx m f vs σ Q):Call Γ cx m f vs σ Q':=by
 intro K hK
 have:=h (fun m f vs σ Q=>∀ Q',(∀ v s,Q v s→Q' v s)→K m f vs σ Q') fun m f vs σ Q hs Q' hq=>hK m f vs σ Q' (stepP_le (cx:=cx) (fun m f vs σ Q h=>h Q fun _ _ h=>h) hq hs)
 exact this Q' hq

theorem use_val {Γ:Nat→Option FnC}{f:Nat}{vs ds:List V} {σ:St}(hds:byVals σ vs=some ds){Q':Post}(h:Call Γ cx .val f ds St.empty Q'){Q:Post}(hq : ∀ v s,Q' v s→v.pure=true∧(vs.any V.borrows=true→v.scalars=true)∧Q v σ) :
  callK (Call Γ cx) cx f vs σ Q:=by
 refine .inl ⟨.val,?_⟩
 simp only [callM]
 rw [hds]
 exact⟨Q',h,hq⟩

theorem use_thaw {Γ:Nat→Option FnC}{f:Nat}{vs ds:List V} {σ σ':St}(ht:thawV σ vs=some (ds,σ'))(hds:byVals σ' ds=some ds)(hb:ds.any V.borrows=false){Q':Post}(h:Call Γ cx .val f ds St.empty Q'){Q:Post}(hq : ∀ v s,Q' v s→v.pure=true∧Q v σ') :
  callK (Call Γ cx) cx f vs σ Q:=by
 refine .inr ⟨ds,σ',ht,.val,?_⟩
 simp only [callM]
 rw [hds]
 exact⟨Q',h,fun v s hv=>⟨(hq v s hv).1,fun hb2=>(by rw [hb] at hb2; cases hb2),(hq v s hv).2⟩⟩

theorem use_fn {Γ:Nat→Option FnC}{f:Nat}{vs ds:List V} {σ:St}(hds:byVals σ vs=some ds){r:V}(h:Call Γ cx .val f ds St.empty fun v _=>v=r)(hp:(r.pure&&(!vs.any V.borrows||r.scalars))=true){Q:Post}(hq:Q r σ) :
  callK (Call Γ cx) cx f vs σ Q:=by
 simp only [Bool.and_eq_true,Bool.or_eq_true,Bool.not_eq_true'] at hp
 exact use_val hds h fun v s hv=>by
  subst hv
  exact⟨hp.1,fun hb=>hp.2.resolve_left (by simp [hb]),hq⟩

theorem use_rd {Γ:Nat→Option FnC}{f:Nat}{vs:List V} {σ:St}{r:V}(h:Call Γ cx .rd f vs σ fun v _=>v=r){Q:Post}(hq:Q r σ):callK (Call Γ cx) cx f vs σ Q :=
 .inl ⟨.rd,_,h,fun v s hv=>by subst hv; exact hq⟩

theorem use_rd' {Γ:Nat→Option FnC}{f:Nat}{vs:List V} {σ:St}{Q':Post}(h:Call Γ cx .rd f vs σ Q'){Q:Post}(hq : ∀ v s,Q' v s→Q v σ):callK (Call Γ cx) cx f vs σ Q :=
 .inl ⟨.rd,_,h,hq⟩

theorem use_raw {Γ:Nat→Option FnC}{f:Nat}{vs:List V} {σ:St}{Q':Post}(h:Call Γ cx .raw f vs σ Q'){Q:Post}(hq : ∀ v s,Q' v s→Q v s):callK (Call Γ cx) cx f vs σ Q :=
 .inl ⟨.raw,_,h,hq⟩

theorem wround {ks:List Nat}{c:C}{e:Env} {σ:St}{Q:PostC}(h:wcode K cx c (e.pick ks) σ fun ex e' σ'=>match ex with | .normal=>wcode K cx (.loop ks c) e' σ' Q | x=>Q x e' σ'):wcode K cx (.loop ks c) e σ Q:=by
 simp only [wcode] at h ⊢
 intro J hJ
 refine hJ _ _ (wcode_le (fun _ _ _ _ _ h=>h) c (fun ex e s h=>?_) h)
 cases ex with
 | normal=>exact h J hJ
 | exit id=>exact h
 | ret=>exact h

theorem wloop {ks:List Nat}{c:C}{e:Env} {σ:St}{Q:PostC}(I:Nat→Env→St→Prop){m:Nat}(h0:I m (e.pick ks) σ)
  (hs : ∀ m e σ,I m e σ→wcode K cx c e σ fun ex e' σ'=>match ex with | .normal=>∃ m',m'<m∧I m' (e'.pick ks) σ' | x=>Q x e' σ'):wcode K cx (.loop ks c) e σ Q:=by
 simp only [wcode]
 intro J hJ
 have key : ∀ m e σ,I m e σ→J e σ:=by
  intro m
  induction m using Nat.strongRecOn with
  | _ m ih =>
   intro e σ hi
   refine hJ e σ (wcode_le (fun _ _ _ _ _ h=>h) c (fun ex e s h=>?_) (hs m e σ hi))
   cases ex with
   | normal=>obtain⟨m',h1,h2⟩:=h; exact ih m' h1 _ _ h2
   | exit id=>exact h
   | ret=>exact h
 exact key m _ _ h0

end Go.Dn

/- Steps, in a form that a simplifier takes without going ahead of itself. -/
namespace Go.Dn

set_option linter.unusedSimpArgs false

variable {K:CallP} {cx:Cx}

def thenQ (K:CallP)(cx:Cx)(b:C)(Q:PostC):PostC:=fun ex e' σ'=>match ex with
 | .normal=>wcode K cx b e' σ' Q
 | x=>Q x e' σ'
def blkQ (id:Nat)(Q:PostC):PostC:=fun ex e' σ'=>match ex with
 | .exit j=>if j=id then Q .normal e' σ' else Q (.exit j) e' σ'
 | x=>Q x e' σ'
def opsQ (ks:List Nat)(Q:PostC):Env→St→Prop:=fun e σ=>Q .normal (e.pick ks) σ
def contQ (K:CallP)(cx:Cx)(r:List Ins)(e:Env)(dst:Option Nat)(Q:Env→St→Prop):Post:=fun v σ=>wins K cx r (putE e dst v) σ Q
def endQ (m:Mode) (σ0:St)(rs:List Res)(Q:Post):PostC:=fun ex e s=>match ex with
 | .exit _=>False
 | _=>∃ v,retV m σ0.objs.length e s rs=some v∧(m = .rd→Keeps σ0 s)∧Q v s

theorem body_eq {m:Mode}{fc:FnC}{vs:List V} {σ:St}{Q:Post}:bodyP K cx m fc vs σ Q=(vs.length=fc.nparams∧wcode K cx fc.body (initEnv 0 vs++globEnv fc.globs) σ (endQ m σ fc.res Q)):=rfl
theorem w_skip {e:Env} {σ:St}{Q:PostC}:wcode K cx .skip e σ Q=Q .normal e σ:=rfl
theorem w_ops {ks:List Nat}{l:List Ins}{e:Env} {σ:St}{Q:PostC}:wcode K cx (.ops ks l) e σ Q=wins K cx l e σ (opsQ ks Q):=rfl
theorem w_seq {a b:C}{e:Env} {σ:St}{Q:PostC}:wcode K cx (.seq a b) e σ Q=wcode K cx a e σ (thenQ K cx b Q):=rfl
theorem w_cond {c:Opd}{a b:C}{e:Env} {σ:St}{Q:PostC}:wcode K cx (.cond c a b) e σ Q=(match c.ev e with
 | .d (.bool t)=>if t=true then wcode K cx a e σ Q else wcode K cx b e σ Q
 | _=>False):=rfl
theorem w_block {id:Nat}{c:C}{e:Env} {σ:St}{Q:PostC}:wcode K cx (.block id c) e σ Q=wcode K cx c e σ (blkQ id Q):=rfl
theorem w_exit {id:Nat}{e:Env} {σ:St}{Q:PostC}:wcode K cx (.exit id) e σ Q=Q (.exit id) e σ:=rfl
theorem w_ret {e:Env} {σ:St}{Q:PostC}:wcode K cx .ret e σ Q=Q .ret e σ:=rfl

theorem q_then_n {b:C}{Q:PostC}{e:Env} {σ:St}:thenQ K cx b Q .normal e σ=wcode K cx b e σ Q:=rfl
theorem q_then_e {b:C}{Q:PostC}{id:Nat}{e:Env} {σ:St}:thenQ K cx b Q (.exit id) e σ=Q (.exit id) e σ:=rfl
theorem q_then_r {b:C}{Q:PostC}{e:Env} {σ:St}:thenQ K cx b Q .ret e σ=Q .ret e σ:=rfl
theorem q_blk_n {id:Nat}{Q:PostC}{e:Env} {σ:St}:blkQ id Q .normal e σ=Q .normal e σ:=rfl
theorem q_blk_e {id j:Nat}{Q:PostC}{e:Env} {σ:St}:blkQ id Q (.exit j) e σ=if j=id then Q .normal e σ else Q (.exit j) e σ:=rfl
theorem q_blk_r {id:Nat}{Q:PostC}{e:Env} {σ:St}:blkQ id Q .ret e σ=Q .ret e σ:=rfl
theorem q_ops {ks:List Nat}{Q:PostC}{e:Env} {σ:St}:opsQ ks Q e σ=Q .normal (e.pick ks) σ:=rfl
theorem q_cont {r:List Ins}{e:Env}{dst:Option Nat}{Q:Env→St→Prop}{v:V} {σ:St}:contQ K cx r e dst Q v σ=wins K cx r (putE e dst v) σ Q:=rfl
theorem q_end_n {m:Mode} {σ0:St}{rs:List Res}{Q:Post}{e:Env} {σ:St}:endQ m σ0 rs Q .normal e σ = ∃ v,retV m σ0.objs.length e σ rs=some v∧(m = .rd→Keeps σ0 σ)∧Q v σ:=rfl
theorem q_end_r {m:Mode} {σ0:St}{rs:List Res}{Q:Post}{e:Env} {σ:St}:endQ m σ0 rs Q .ret e σ = ∃ v,retV m σ0.objs.length e σ rs=some v∧(m = .rd→Keeps σ0 σ)∧Q v σ:=rfl
theorem q_end_e {m:Mode} {σ0:St}{rs:List Res}{Q:Post}{id:Nat}{e:Env} {σ:St}:endQ m σ0 rs Q (.exit id) e σ=False:=rfl

theorem i_nil {e:Env} {σ:St}{Q:Env→St→Prop}:wins K cx [] e σ Q=Q e σ:=rfl
theorem i_p {dst:Option Nat}{op:POp}{r:List Ins}{e:Env} {σ:St}{Q:Env→St→Prop}:wins K cx (.p dst op::r) e σ Q=(if isObj cx dst op=true then(match evalB op e σ with
  | some (v,s)=>wins K cx r (putE e dst v) s Q
  | none=>False)
 else match evalP op e σ with
 | some v=>wins K cx r (putE e dst v) σ Q
 | none=>match evalF op e σ with
  | some (v,s)=>wins K cx r (putE e dst v) s Q
  | none=>False):=rfl
theorem i_alloc {dst:Option Nat}{z:List V}{r:List Ins}{e:Env} {σ:St}{Q:Env→St→Prop}:wins K cx (.e dst (.alloc z)::r) e σ Q=(match evalE (.alloc z) e σ none with
 | some (v,σ')=>wins K cx r (putE e dst v) σ' Q
 | none=>False):=by
 simp only [wins,wone,evalM,or_false]
 rfl
theorem i_box {dst:Option Nat}{x:Opd}{r:List Ins}{e:Env} {σ:St}{Q:Env→St→Prop}:wins K cx (.e dst (.box x)::r) e σ Q=(match evalE (.box x) e σ none with
 | some (v,σ')=>wins K cx r (putE e dst v) σ' Q
 | none=>False):=by
 simp only [wins,wone,evalM,or_false]
 rfl
theorem i_store {dst:Option Nat}{n:Nat}{a x:Opd}{r:List Ins}{e:Env} {σ:St}{Q:Env→St→Prop}:wins K cx (.e dst (.store n a x)::r) e σ Q=(match evalE (.store n a x) e σ none with
 | some (v,σ')=>wins K cx r (putE e dst v) σ' Q
 | none=>False):=by
 simp only [wins,wone,evalM,or_false]
 rfl
theorem i_copy {dst:Option Nat}{sz:Nat}{a x:Opd}{r:List Ins}{e:Env} {σ:St}{Q:Env→St→Prop}:wins K cx (.e dst (.copy sz a x)::r) e σ Q=(match evalE (.copy sz a x) e σ none with
 | some (v,σ')=>wins K cx r (putE e dst v) σ' Q
 | none=>False):=by
 simp only [wins,wone,evalM,or_false]
 rfl
theorem i_clear {dst:Option Nat}{sz:Nat}{z:List D}{a:Opd}{r:List Ins}{e:Env} {σ:St}{Q:Env→St→Prop}:wins K cx (.e dst (.clear sz z a)::r) e σ Q=(match evalE (.clear sz z a) e σ none with
 | some (v,σ')=>wins K cx r (putE e dst v) σ' Q
 | none=>False):=by
 simp only [wins,wone,evalM,or_false]
 rfl
theorem i_app_f {dst:Option Nat}{op:EOp}{r:List Ins}{e:Env} {σ:St}{Q:Env→St→Prop}{v:V}{s:St}(h:evalE op e σ none=some (v,s))(hq:wins K cx r (putE e dst v) s Q):wins K cx (.e dst op::r) e σ Q:=by
 simp only [wins,wone]
 left
 rw [h]
 exact hq
theorem i_app_m {dst:Option Nat}{op:EOp}{r:List Ins}{e:Env} {σ:St}{Q:Env→St→Prop}{v:V}{s:St}(h:evalM op e σ none=some (v,s))(hq:wins K cx r (putE e dst v) s Q):wins K cx (.e dst op::r) e σ Q:=by
 simp only [wins,wone]
 right
 rw [h]
 exact hq
theorem i_callv {dst:Option Nat}{f:Opd}{args:List Opd}{r:List Ins}{e:Env} {σ:St}{Q:Env→St→Prop}:wins K cx (.callv dst f args::r) e σ Q=(match f.ev e with
 | .fn (.func g) first caps=>callK K cx g (first++args.map (Opd.ev e)++caps) σ (contQ K cx r e dst Q)
 | .yld q=>∃ Q',K .rnd q (args.map (Opd.ev e)) σ Q'∧∀ v s,Q' v s→contQ K cx r e dst Q v s
 | _=>False):=rfl
theorem i_next {dst:Option Nat}{it:Opd}{r:List Ins}{e:Env} {σ:St}{Q:Env→St→Prop}:wins K cx (.next dst it::r) e σ Q=nextV (it.ev e) σ (contQ K cx r e dst Q):=rfl
theorem i_makeMap {dst:Option Nat}{r:List Ins}{e:Env} {σ:St}{Q:Env→St→Prop}:wins K cx (.e dst .makeMap::r) e σ Q=(match evalE .makeMap e σ none with
 | some (v,σ')=>wins K cx r (putE e dst v) σ' Q
 | none=>False):=by
 simp only [wins,wone,evalM,or_false]
 rfl
theorem i_range {dst:Option Nat}{x:Opd}{r:List Ins}{e:Env} {σ:St}{Q:Env→St→Prop}:wins K cx (.e dst (.range x)::r) e σ Q=(match evalE (.range x) e σ none with
 | some (v,σ')=>wins K cx r (putE e dst v) σ' Q
 | none=>False):=by
 simp only [wins,wone,evalM,or_false]
 rfl
theorem i_entry {dst:Option Nat}{x:Opd}{r:List Ins}{e:Env} {σ:St}{Q:Env→St→Prop}:wins K cx (.e dst (.entry x)::r) e σ Q=(match evalE (.entry x) e σ none with
 | some (v,σ')=>wins K cx r (putE e dst v) σ' Q
 | none=>False):=by
 simp only [wins,wone,evalM,or_false]
 rfl
theorem i_clone {dst:Option Nat}{x:Opd}{r:List Ins}{e:Env} {σ:St}{Q:Env→St→Prop}:wins K cx (.e dst (.cloneMap x)::r) e σ Q=(match evalE (.cloneMap x) e σ none with
 | some (v,σ')=>wins K cx r (putE e dst v) σ' Q
 | none=>False):=by
 simp only [wins,wone,evalM,or_false]
 rfl
theorem i_update {dst:Option Nat}{ka:Bool}{ks:List Lf}{m k x:Opd}{r:List Ins}{e:Env} {σ:St}{Q:Env→St→Prop}:wins K cx (.e dst (.mapUpdate ka ks m k x)::r) e σ Q=(match evalE (.mapUpdate ka ks m k x) e σ none with
 | some (v,σ')=>wins K cx r (putE e dst v) σ' Q
 | none=>False):=by
 simp only [wins,wone,evalM,or_false]
 rfl
theorem i_delete {dst:Option Nat}{ka:Bool}{ks:List Lf}{m k:Opd}{r:List Ins}{e:Env} {σ:St}{Q:Env→St→Prop}:wins K cx (.e dst (.mapDelete ka ks m k)::r) e σ Q=(match evalE (.mapDelete ka ks m k) e σ none with
 | some (v,σ')=>wins K cx r (putE e dst v) σ' Q
 | none=>False):=by
 simp only [wins,wone,evalM,or_false]
 rfl
theorem i_call {dst:Option Nat}{f:Nat}{args:List Opd}{r:List Ins}{e:Env} {σ:St}{Q:Env→St→Prop}:wins K cx (.call dst f args::r) e σ Q=callK K cx f (args.map (Opd.ev e)) σ (contQ K cx r e dst Q):=rfl

theorem wins_app {Q:Env→St→Prop} : ∀ (a b:List Ins)(e:Env) (σ:St),wins K cx (a++b) e σ Q=wins K cx a e σ fun e' σ'=>wins K cx b e' σ' Q
 | [],b,e,σ=>rfl
 | i::a,b,e,σ=>by
  simp only [List.cons_append,wins]
  congr 1
  funext e' σ'
  exact wins_app a b e' σ'

theorem i_when {s:Nat}{want:Bool}{body r:List Ins}{e:Env} {σ:St}{Q:Env→St→Prop}:wins K cx (.when s want body::r) e σ Q=(match e.get s with
 | .d (.bool b)=>if b=want then wins K cx (body++r) e σ Q else wins K cx r (goneAll body e) σ Q
 | .gone=>wins K cx r (goneAll body e) σ Q
 | _=>False):=by
 simp only [wins,wone,wins_app]
 generalize e.get s=x
 cases x <;> first | rfl | (rename_i d; cases d <;> rfl)

def loopQ (I:Nat→Env→St→Prop)(m:Nat)(ks:List Nat)(Q:PostC):PostC:=fun ex e' σ'=>match ex with
 | .normal=>∃ m',m'<m∧I m' (e'.pick ks) σ'
 | x=>Q x e' σ'
theorem q_loop_n {I:Nat→Env→St→Prop}{m:Nat}{ks:List Nat}{Q:PostC}{e:Env} {σ:St}:loopQ I m ks Q .normal e σ = ∃ m',m'<m∧I m' (e.pick ks) σ:=rfl
theorem q_loop_e {I:Nat→Env→St→Prop}{m:Nat}{ks:List Nat}{Q:PostC}{id:Nat}{e:Env} {σ:St}:loopQ I m ks Q (.exit id) e σ=Q (.exit id) e σ:=rfl
theorem q_loop_r {I:Nat→Env→St→Prop}{m:Nat}{ks:List Nat}{Q:PostC}{e:Env} {σ:St}:loopQ I m ks Q .ret e σ=Q .ret e σ:=rfl
theorem wloopI {ks:List Nat}{c:C}{e:Env} {σ:St}{Q:PostC}(I:Nat→Env→St→Prop){m:Nat}(h0:I m (e.pick ks) σ)(hs : ∀ m e σ,I m e σ→wcode K cx c e σ (loopQ I m ks Q)):wcode K cx (.loop ks c) e σ Q :=
 wloop I h0 hs

def tcontQ (K:CallP)(cx:Cx)(n0:Nat)(ks:List Nat)(r:List DOp)(e:Env)(dst:Option Nat)(Q:Env→St→Prop):Post:=fun v s=>wtx K cx n0 ks r (putE e dst v) s Q

def callN (K:CallP)(cx:Cx)(n0:Nat)(ks:List Nat)(e:Env)(f:Nat)(vs:List V) (σ:St)(Q:Post):Prop :=
 match cx.mode f with
 | .rnd=>False
 | .raw=>∃ Q',K .raw f vs σ Q'∧(∃ v s,Q' v s)∧∀ v s,Q' v s→Kept ks e σ s∧Q v s
 | .val=>match byVals σ vs with
  | some ds=>∃ Q',K .val f ds St.empty Q'∧(∃ v s,Q' v s)∧∀ v s,Q' v s→v.pure=true∧(vs.any V.borrows=true→v.scalars=true)∧Q v σ
  | none=>False
 | .rd=>∀ σ1,Agr n0 σ σ1→∃ Q',K .rd f vs σ1 Q'∧(∃ v s,Q' v s)∧∀ v s,Q' v s→Q v σ

theorem t_nil {n0:Nat}{ks:List Nat}{e:Env} {σ:St}{Q:Env→St→Prop}:wtx K cx n0 ks [] e σ Q=Q e σ:=rfl

theorem t_p {n0:Nat}{ks:List Nat}{gd:Option (Nat×Bool)}{dst:Option Nat}{op:POp}{af:List Nat}{al:Nat}{r:List DOp}{e:Env} {σ:St}{Q:Env→St→Prop}:wtx K cx n0 ks (⟨gd,.p dst op,af,al⟩::r) e σ Q=((∀ s∈cx.dry,s∈DOp.reads ⟨gd,.p dst op,af,al⟩→dref (e.get s)=[])∧(match gsel gd e with
 | some true=>(match evalP op e σ with
  | some v=>wtx K cx n0 ks r (putE e dst v) σ Q
  | none=>False)
 | some false=>wtx K cx n0 ks r (putE e dst .gone) σ Q
 | none=>False)):=by
 simp only [wtx,Adm,Dry,DOp.isP,Adm0,true_implies]
 rfl
theorem t_call {n0 : Nat} {ks : List Nat} {gd : Option (Nat × Bool)} {dst : Option Nat} {f : Nat} {args : List Opd} {af : List Nat} {al : Nat} {r : List DOp} {e : Env} {σ : St} {Q : Env → St → Prop} : wtx K cx n0 ks (⟨gd, .call dst f args, af, al⟩ :: r) e σ Q = (match gsel gd e with
 | some true => callN K cx n0 ks e f (args.map (Opd.ev e)) σ (tcontQ K cx n0 ks r e dst Q)
 | some false => wtx K cx n0 ks r (putE e dst .gone) σ Q
 | none => False) := by
 simp only [wtx, Adm, Dry, DOp.isP, Bool.false_eq_true, false_implies, true_and, Adm0, DOp.isN, Ins.dst]
 cases hm : cx.mode f with
 | rnd => simp only [AdmX, xGo, xCall, callN, hm] <;> rfl
 | raw => simp only [AdmX, xGo, xCall, callN, hm] <;> rfl
 | val => simp only [AdmN, nGo, callN, hm] <;> rfl
 | rd => simp only [AdmN, nGo, callN, hm] <;> rfl
theorem t_alloc {n0 : Nat} {ks : List Nat} {gd : Option (Nat × Bool)} {dst : Option Nat} {z : List V} {af : List Nat} {al : Nat} {r : List DOp} {e : Env} {σ : St} {Q : Env → St → Prop} : wtx K cx n0 ks (⟨gd, .e dst (.alloc z), af, al⟩ :: r) e σ Q = (match gsel gd e with
 | some true => (match evalE (.alloc z) e σ (some (n0 + al)) with
  | some (v, s) => wtx K cx n0 ks r (putE e dst v) s Q
  | none => False)
 | some false => wtx K cx n0 ks r (putE e dst .gone) σ Q
 | none => False) := by
 simp only [wtx, Adm, Dry, DOp.isP, Bool.false_eq_true, false_implies, true_and, Adm0, DOp.isN, AdmX, xGo, evalM, or_false, Ins.dst, EOp.isStore, Bool.false_eq_true, false_implies, true_and] <;> rfl
theorem t_box {n0 : Nat} {ks : List Nat} {gd : Option (Nat × Bool)} {dst : Option Nat} {x : Opd} {af : List Nat} {al : Nat} {r : List DOp} {e : Env} {σ : St} {Q : Env → St → Prop} : wtx K cx n0 ks (⟨gd, .e dst (.box x), af, al⟩ :: r) e σ Q = (match gsel gd e with
 | some true => (match evalE (.box x) e σ (some (n0 + al)) with
  | some (v, s) => wtx K cx n0 ks r (putE e dst v) s Q
  | none => False)
 | some false => wtx K cx n0 ks r (putE e dst .gone) σ Q
 | none => False) := by
 simp only [wtx, Adm, Dry, DOp.isP, Bool.false_eq_true, false_implies, true_and, Adm0, DOp.isN, AdmX, xGo, evalM, or_false, Ins.dst, EOp.isStore, Bool.false_eq_true, false_implies, true_and] <;> rfl
theorem kept_nil {e:Env} {σ s:St}:Kept [] e σ s=True:=by simp [Kept]
theorem t_store {n0 : Nat} {ks : List Nat} {gd : Option (Nat × Bool)} {dst : Option Nat} {n : Nat} {a x : Opd} {af : List Nat} {al : Nat} {r : List DOp} {e : Env} {σ : St} {Q : Env → St → Prop} : wtx K cx n0 ks (⟨gd, .e dst (.store n a x), af, al⟩ :: r) e σ Q = (match gsel gd e with
 | some true => (match evalE (.store n a x) e σ (some (n0 + al)) with
  | some (v, s) => Kept ks e σ s ∧ wtx K cx n0 ks r (putE e dst v) s Q
  | none => False)
 | some false => wtx K cx n0 ks r (putE e dst .gone) σ Q
 | none => False) := by
 simp only [wtx, Adm, Dry, DOp.isP, Bool.false_eq_true, false_implies, true_and, Adm0, DOp.isN, AdmX, xGo, evalM, or_false, Ins.dst, EOp.isStore, forall_const] <;> rfl
theorem t_copy {n0 : Nat} {ks : List Nat} {gd : Option (Nat × Bool)} {dst : Option Nat} {sz : Nat} {a x : Opd} {af : List Nat} {al : Nat} {r : List DOp} {e : Env} {σ : St} {Q : Env → St → Prop} : wtx K cx n0 ks (⟨gd, .e dst (.copy sz a x), af, al⟩ :: r) e σ Q = (match gsel gd e with
 | some true => (match evalE (.copy sz a x) e σ (some (n0 + al)) with
  | some (v, s) => wtx K cx n0 ks r (putE e dst v) s Q
  | none => False)
 | some false => wtx K cx n0 ks r (putE e dst .gone) σ Q
 | none => False) := by
 simp only [wtx, Adm, Dry, DOp.isP, Bool.false_eq_true, false_implies, true_and, Adm0, DOp.isN, AdmX, xGo, evalM, or_false, Ins.dst, EOp.isStore, Bool.false_eq_true, false_implies, true_and] <;> rfl
theorem t_clear {n0 : Nat} {ks : List Nat} {gd : Option (Nat × Bool)} {dst : Option Nat} {sz : Nat} {z : List D} {a : Opd} {af : List Nat} {al : Nat} {r : List DOp} {e : Env} {σ : St} {Q : Env → St → Prop} : wtx K cx n0 ks (⟨gd, .e dst (.clear sz z a), af, al⟩ :: r) e σ Q = (match gsel gd e with
 | some true => (match evalE (.clear sz z a) e σ (some (n0 + al)) with
  | some (v, s) => wtx K cx n0 ks r (putE e dst v) s Q
  | none => False)
 | some false => wtx K cx n0 ks r (putE e dst .gone) σ Q
 | none => False) := by
 simp only [wtx, Adm, Dry, DOp.isP, Bool.false_eq_true, false_implies, true_and, Adm0, DOp.isN, AdmX, xGo, evalM, or_false, Ins.dst, EOp.isStore, Bool.false_eq_true, false_implies, true_and] <;> rfl
theorem t_app_f {n0:Nat}{ks:List Nat}{dst:Option Nat}{op:EOp}{af:List Nat}{al:Nat}{r:List DOp}{e:Env} {σ:St}{Q:Env→St→Prop}{v:V}{s:St}(h:evalE op e σ (some (n0+al))=some (v,s))(hq:wtx K cx n0 ks r (putE e dst v) s Q)(hs:op.isStore=true→Kept ks e σ s:=by first | (intro h; cases h; done) | (intro _ t ht; cases ht)):wtx K cx n0 ks (⟨none,.e dst op,af,al⟩::r) e σ Q:=by
 simp only [wtx,Adm,Dry,DOp.isP,Bool.false_eq_true,false_implies,true_and,Adm0,DOp.isN,AdmX,gsel,xGo,Ins.dst]
 left
 rw [h]
 exact⟨hs,hq⟩
theorem t_app_m {n0:Nat}{ks:List Nat}{dst:Option Nat}{op:EOp}{af:List Nat}{al:Nat}{r:List DOp}{e:Env} {σ:St}{Q:Env→St→Prop}{v:V}{s:St}(h:evalM op e σ (some (n0+al))=some (v,s))(hq:wtx K cx n0 ks r (putE e dst v) s Q)(hs:op.isStore=true→Kept ks e σ s:=by first | (intro h; cases h; done) | (intro _ t ht; cases ht)):wtx K cx n0 ks (⟨none,.e dst op,af,al⟩::r) e σ Q:=by
 simp only [wtx,Adm,Dry,DOp.isP,Bool.false_eq_true,false_implies,true_and,Adm0,DOp.isN,AdmX,gsel,xGo,Ins.dst]
 right
 rw [h]
 exact⟨hs,hq⟩
theorem q_tcont {n0:Nat}{ks:List Nat}{r:List DOp}{e:Env}{dst:Option Nat}{Q:Env→St→Prop}{v:V} {σ:St}:tcontQ K cx n0 ks r e dst Q v σ=wtx K cx n0 ks r (putE e dst v) σ Q:=rfl

theorem use_fnN {cx0:Cx} {Γ:Nat→Option FnC}{n0:Nat}{ks:List Nat}{e:Env}{f:Nat}(hm:cx.mode f = .val){vs ds:List V} {σ:St}(hds:byVals σ vs=some ds){r:V}(h:Call Γ cx0 .val f ds St.empty fun v _=>v=r)(hp:(r.pure&&(!vs.any V.borrows||r.scalars))=true){Q:Post}(hq:Q r σ) :
  callN (Call Γ cx0) cx n0 ks e f vs σ Q:=by
 simp only [Bool.and_eq_true,Bool.or_eq_true,Bool.not_eq_true'] at hp
 unfold callN
 rw [hm]
 simp only
 rw [hds]
 exact⟨_,h,⟨r,St.empty,rfl⟩,fun v s hv=>by
  subst hv
  exact⟨hp.1,fun hb=>hp.2.resolve_left (by simp [hb]),hq⟩⟩
theorem use_rawN {cx0:Cx} {Γ:Nat→Option FnC}{n0:Nat}{ks:List Nat}{e:Env}{f:Nat}(hm:cx.mode f = .raw){vs:List V} {σ:St}{Q':Post}(h:Call Γ cx0 .raw f vs σ Q')(hex : ∃ v s,Q' v s){Q:Post}(hq : ∀ v s,Q' v s→Kept ks e σ s∧Q v s):callN (Call Γ cx0) cx n0 ks e f vs σ Q:=by
 unfold callN
 rw [hm]
 exact⟨_,h,hex,hq⟩

theorem w_drwD (md:Nat→Mode)(dr kl:List Nat){ks:List Nat}{na:Nat}{l:List DOp}(hC:(drwOk md dr l&&keepOf dr l==kl)=true){e:Env} {σ:St}{Q:PostC}(h:wtx K { mode:=md,dry:=dr } σ.objs.length kl l e (σ.room na) (opsQ ks Q)):wcode K cx (.drw ks na l) e σ Q:=by
 simp only [Bool.and_eq_true,beq_iff_eq] at hC
 refine wdrw (cx:={ mode:=md,dry:=dr }) hC.1 ?_
 rw [hC.2]
 exact h
theorem w_drw (md:Nat→Mode)(kl:List Nat){ks:List Nat}{na:Nat}{l:List DOp}(hC:(drwOk md [] l&&keepOf [] l==kl)=true){e:Env} {σ:St}{Q:PostC}(h:wtx K { mode:=md } σ.objs.length kl l e (σ.room na) (opsQ ks Q)):wcode K cx (.drw ks na l) e σ Q :=
 w_drwD md [] kl hC h

theorem w_drwX (md:Nat→Mode)(kl:List Nat){ks:List Nat}{na:Nat}{l:List DOp}(hC:(drwOk md [] l&&keepX md [] l==kl)=true){e:Env} {σ:St}{Q:PostC}(h:wtx K { mode:=md } σ.objs.length kl l e (σ.room na) (opsQ ks Q)):wcode K cx (.drw ks na l) e σ Q:=by
 simp only [Bool.and_eq_true,beq_iff_eq] at hC
 refine wdrwX (cx:={ mode:=md }) hC.1 ?_
 rw [hC.2]
 exact h
end Go.Dn
