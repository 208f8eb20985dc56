import Derived.Test.YtmlkdfjojoophaaFw34
/- Arguments of any data: numbers, strings, arrays, structs, slices of these. -/
namespace Go.Dn
open Go.Lib Go.RowKit

set_option linter.unusedSimpArgs false

inductive Lk where
 | int (k:IntKind) | bool | str | list (ls:List Lk)

mutual
def Lk.fits:Lk→D→Prop
 | .int k,d=>∃ n,d = .int k n∧k.min≤n∧n≤k.max
 | .bool,d=>∃ b,d = .bool b
 | .str,d=>∃ s,d = .str s∧s.length≤9223372036854775807
 | .list ls,d=>d = .nils∨∃ rows,d = .list rows∧rows.length≤9223372036854775807∧∀ row∈rows,Lks ls row
def Lks:List Lk→List D→Prop
 | [],ds=>ds=[]
 | k::ks,ds=>∃ d r,ds=d::r∧k.fits d∧Lks ks r
end

variable {P:Program} {w:World} {H:Type} {enc:TypeId×Value→H} {base:Nat} {spare:Nat→Bool} {held:Bool}

theorem Lks.mk : ∀ {a b:List Lk}{x y:List D},Lks a x→Lks b y→Lks (a++b) (x++y)
 | [],_,x,y,h,h'=>by simp only [Lks] at h; subst h; exact h'
 | k::a,b,x,y,h,h'=>by
  simp only [Lks,List.cons_append] at h ⊢
  obtain⟨d,r,rfl,h1,h2⟩:=h
  exact⟨d,r++y,rfl,h1,Lks.mk h2 h'⟩

theorem Lks.length : ∀ {a:List Lk}{x:List D},Lks a x→x.length=a.length
 | [],x,h=>by simp only [Lks] at h; subst h; rfl
 | k::a,x,h=>by
  simp only [Lks] at h
  obtain⟨d,r,rfl,h1,h2⟩:=h
  simp [Lks.length h2]

def leavesKs (P : Program) (f : TypeId → Option (List Lk)) : Nat → List Field → Option (List Lk)
  | _, [] => some []
  | off, x :: r => match f x.type with
    | some l => if x.offset = off ∧ P.cellsOf x.type = l.length then
        (match leavesKs P f (off + l.length) r with
         | some b => some (l ++ b)
         | none => none) else none
    | none => none

def leavesK (P:Program):Nat→TypeId→Option (List Lk)
 | 0,_=>none
 | n+1,t=>match P.underlying t with
  | some (.int k)=>some [.int k]
  | some .bool=>some [.bool]
  | some .string=>some [.str]
  | some (.slice e)=>match leavesK P n e with
   | some l=>if P.cellsOf e=l.length∧0<l.length then some [.list l] else none
   | none=>none
  | some (.array len e)=>match leavesK P n e with
   | some l=>if P.cellsOf e=l.length∧P.cellsOf t=len*l.length then some ((List.replicate len l).flatten) else none
   | none=>none
  | some (.struct fs)=>match leavesKs P (leavesK P n) 0 fs.toList with
   | some l=>if P.cellsOf t=l.length then some l else none
   | none=>none
  | _=>none

def Data (F:Nat→Nat→Prop)(w:World)(ks:List Lk)(cs:List Value):Prop:=∃ ds,DRs F w ds cs∧Lks ks ds∧∀ v∈cs,oneC v=true

theorem Data.append {F:Nat→Nat→Prop}{a b:List Lk}{x y:List Value}(h:Data F w a x)(h':Data F w b y):Data F w (a++b) (x++y):=by
 obtain⟨d,h1,h2,h3⟩:=h
 obtain⟨d',h1',h2',h3'⟩:=h'
 exact⟨d++d',h1.append h1',Lks.mk h2 h2',fun v hv=>by
  rcases List.mem_append.1 hv with h | h
  ·exact h3 v h
  ·exact h3' v h⟩

theorem Data.nil {F:Nat→Nat→Prop}:Data F w [] []:=⟨[],trivial,by simp only [Lks],by simp⟩

theorem data_chunks {F:Nat→Nat→Prop}{l:List Lk} : ∀ (n:Nat)(cs:List Value),cs.length=n*l.length→(∀ i,i<n→Data F w l ((cs.drop (i*l.length)).take l.length))→Data F w ((List.replicate n l).flatten) cs
 | 0,cs,hl,h=>by
  have:cs=[]:=List.eq_nil_of_length_eq_zero (by simpa using hl)
  subst this
  exact Data.nil
 | n+1,cs,hl,h=>by
  rw [List.replicate_succ,List.flatten_cons]
  have e:cs=cs.take l.length++cs.drop l.length:=(List.take_append_drop _ _).symm
  rw [e]
  refine Data.append (by simpa using h 0 (by omega)) (data_chunks n _ (by simp [hl,Nat.add_mul]) fun i hi=>?_)
  have:=h (i+1) (by omega)
  rw [List.drop_drop,show l.length+i*l.length=(i+1)*l.length by rw [Nat.add_mul]; omega]
  exact this

theorem data_fields {F:Nat→Nat→Prop}{lv:TypeId→Option (List Lk)}{cs:List Value} : ∀ (fs:List Field)(off:Nat)(ks:List Lk),leavesKs P lv off fs=some ks→off+ks.length=cs.length →
  (∀ f∈fs,∀ l,lv f.type=some l→Data F w l ((cs.drop f.offset).take (P.cellsOf f.type)))→Data F w ks (cs.drop off)
 | [],off,ks,h,hl,hf=>by
  simp [leavesKs] at h
  subst h
  have:cs.drop off=[]:=List.eq_nil_of_length_eq_zero (by simp at hl ⊢; omega)
  rw [this]
  exact Data.nil
 | x::fs,off,ks,h,hl,hf=>by
  unfold leavesKs at h
  split at h
  ·rename_i l hlv
   split at h
   ·rename_i hc
    obtain⟨ho,hcell⟩:=hc
    split at h
    ·rename_i b hb
     cases h
     have e:cs.drop off=(cs.drop off).take l.length++cs.drop (off+l.length):=by
      rw [← List.drop_drop]
      exact(List.take_append_drop _ _).symm
     rw [e]
     refine Data.append ?_ (data_fields fs (off+l.length) b hb (by simp at hl; omega) fun f hm=>hf f (List.mem_cons_of_mem _ hm))
     have:=hf x (by simp) l hlv
     rw [ho,hcell] at this
     exact this
    ·cases h
   ·cases h
  ·cases h

theorem rowsOfs {l:List Lk}{f:Nat→List D}(n:Nat)(i:Nat)(row:List D)(h:((List.range n).map f)[i]?=some row):i<n∧row=f i:=by
 rw [List.getElem?_map] at h
 simp only [Option.map_eq_some_iff] at h
 obtain⟨a,h1,h2⟩:=h
 obtain⟨h3,rfl⟩:=List.getElem?_eq_some_iff.1 h1
 simp at h3 h2
 exact⟨h3,h2.symm⟩

theorem trod_data {F:Nat→Nat→Prop}(hF : ∀ b q v,w.cell? ⟨b,q,none⟩=some v→F b q) : ∀ (n:Nat)(t:TypeId)(ks:List Lk),leavesK P n t=some ks→∀ {fuel:Nat}{cs:List Value}{x:DataW H×List MemPlace},DataW.trod enc P w base spare held fuel t cs=some x→Data F w ks cs
 | 0,t,ks,h,_,_,_,_=>by simp [leavesK] at h
 | n+1,t,ks,h,fuel,cs,x,ht=>by
  unfold leavesK at h
  split at h
  ·rename_i k hu
   cases h
   obtain⟨m,rfl,_,hw⟩:=DataW.trod_int hu ht
   refine⟨[.int k m],⟨.int k m,trivial⟩,?_,by simp [oneC]⟩
   simp only [Lit.wf,Bool.and_eq_true] at hw
   simp only [Lks]
   refine⟨_,_,rfl,?_,rfl⟩
   simp only [Lk.fits]
   exact⟨m,rfl,by simpa using hw.1,by simpa using hw.2⟩
  ·rename_i hu
   cases h
   obtain⟨b,rfl,_⟩:=DataW.trod_bool hu ht
   refine⟨[.bool b],⟨.bool b,trivial⟩,?_,by simp [oneC]⟩
   simp only [Lks]
   refine⟨_,_,rfl,?_,rfl⟩
   simp only [Lk.fits]
   exact⟨b,rfl⟩
  ·rename_i hu
   cases h
   obtain⟨s,rfl,_,hs⟩:=DataW.trod_string hu ht
   have:Value.string s = .string ⟨s.data.toList.toArray⟩:=by cases s; rfl
   refine⟨[.str s.data.toList],⟨by rw [this]; exact .str _,trivial⟩,?_,by simp [oneC]⟩
   simp only [Lks]
   refine⟨_,_,rfl,?_,rfl⟩
   simp only [Lk.fits]
   have e1:s.data.toList.length=s.size:=Array.length_toList
   exact⟨_,rfl,by rw [e1]; exact hs⟩
  ·rename_i e hu
   split at h
   ·rename_i l hl
    obtain⟨⟨hc,hpos⟩,h⟩:=ite_some h
    cases h
    rcases DataW.trod_slice hu ht with⟨rfl,_⟩ | ⟨a,len,cap,elems,rest,m,_,rfl,_,hb,hlc,hcm,hlen,hel,_,_⟩
    ·refine⟨[.nils],⟨.nils,trivial⟩,?_,by simp [oneC]⟩
     simp only [Lks]
     refine⟨_,_,rfl,?_,rfl⟩
     simp only [Lk.fits]
     exact .inl trivial
    ·have each : ∀ i,∃ row:List D,i<len→Lks l row∧∀ j d,row[j]?=some d→∃ v,w.cell? (a.add (i*l.length+j))=some v∧oneC v=true∧DR F w d v:=by
      intro i
      by_cases hi:i<len
      ·have h1:=hel i hi
       rw [hc] at h1
       have h2:elems[i]?=some (elems[i]'(by omega)):=by simp [show i<elems.length by omega]
       rw [h2,Option.bind_eq_some_iff] at h1
       obtain⟨ci,h3,h4⟩:=h1
       obtain⟨ds,d1,d2,d3⟩:=trod_data hF n e l hl h4
       refine⟨ds,fun _=>⟨d2,fun j d hj=>?_⟩⟩
       unfold World.cells? at h3
       split at h3
       ·have hln:=mapM_some_length h3
        have hj':j<ci.length:=by
         rw [← d1.length]
         exact(List.getElem?_eq_some_iff.1 hj).1
        have hr:(List.range l.length)[j]?=some j:=by
         rw [List.length_range] at hln
         rw [List.getElem?_range (by omega)]
        have h5:=mapM_some_get h3 j j hr
        have h6:ci[j]?=some ci[j]:=by simp [hj']
        rw [h6] at h5
        refine⟨ci[j],?_,d3 _ (List.getElem_mem hj'),d1.get j d _ hj h6⟩
        rw [← h5]
        exact congrArg w.cell? (add_add a _ _).symm
       ·cases h3
      ·exact⟨[],fun h=>(hi h).elim⟩
     have hz : ∃ f:Nat→List D,∀ i,i<len→Lks l (f i)∧∀ j d,(f i)[j]?=some d→∃ v,w.cell? (a.add (i*l.length+j))=some v∧oneC v=true∧DR F w d v :=
      ⟨fun i=>(each i).choose,fun i hi=>(each i).choose_spec hi⟩
     obtain⟨f,hf⟩:=hz
     have hrl:((List.range len).map f).length=len:=by simp
     refine⟨[.list ((List.range len).map f)],⟨?_,trivial⟩,?_,by simp [oneC]⟩
     ·by_cases h0:len=0
      ·subst h0; exact .list0 a cap
      ·have cellAt : ∀ k,k<len*l.length→∃ v,w.cell? (a.add k)=some v∧oneC v=true:=by
        intro k hk
        have hkl:k / l.length<len:=Nat.div_lt_of_lt_mul (by rw [Nat.mul_comm]; exact hk)
        obtain⟨g1,g2⟩:=hf _ hkl
        have hm:k % l.length<(f (k / l.length)).length:=by rw [g1.length]; exact Nat.mod_lt _ hpos
        obtain⟨v,v1,v2,_⟩:=g2 (k % l.length) _ (by simp [hm]; rfl)
        rw [Nat.mul_comm,Nat.div_add_mod] at v1
        exact⟨v,v1,v2⟩
       have hsp:a.spot=none:=by
        obtain⟨v,hv,_⟩:=cellAt 0 (Nat.mul_pos (by omega) hpos)
        unfold World.cell? at hv
        split at hv
        ·cases hs:a.spot with
         | none=>rfl
         | some s=>simp [Addr.add,hs] at hv
        ·cases hv
       obtain⟨ab,ao,asp⟩:=a
       simp only at hsp
       subst hsp
       simp only [addr_add] at cellAt hf
       have:=DR.list (frz:=F) (w:=w) ((List.range len).map f) ab ao cap l.length (fun k=>(w.cell? ⟨ab,ao+k,none⟩).getD undef) (by rw [hrl]; exact hlc)
        (fun i row hr=>by obtain⟨hi,rfl⟩:=rowsOfs (l:=l) len i row hr; exact(hf i hi).1.length)
        (fun k hk=>by rw [hrl] at hk; obtain⟨v,hv,_⟩:=cellAt k hk; exact hF _ _ _ hv)
        (fun k hk=>by rw [hrl] at hk; obtain⟨v,hv,_⟩:=cellAt k hk; simp [hv])
        (fun k hk=>by rw [hrl] at hk; obtain⟨v,hv,h1⟩:=cellAt k hk; simp [hv,h1])
        (fun i row j d hr hj=>by
         obtain⟨hi,rfl⟩:=rowsOfs (l:=l) len i row hr
         obtain⟨v,v1,_,v2⟩:=(hf i hi).2 j d hj
         simp [v1,v2])
       rw [hrl] at this
       exact this
     ·simp only [Lks]
      refine⟨_,_,rfl,?_,rfl⟩
      simp only [Lk.fits]
      refine .inr ⟨_,rfl,?_,fun row hr=>?_⟩
      ·rw [hrl]
       unfold maxLen at hcm
       omega
      ·obtain⟨i,hi⟩:=List.getElem?_of_mem hr
       obtain⟨hi',rfl⟩:=rowsOfs (l:=l) len i row hi
       exact(hf i hi').1
   ·cases h
  ·rename_i len e hu
   split at h
   ·rename_i l hl
    obtain⟨⟨hc,hct⟩,h⟩:=ite_some h
    cases h
    obtain⟨xs,m,rfl,_,h1,h2,h3⟩:=DataW.trod_array hu ht
    refine data_chunks len cs (by rw [h1,hct]) fun i hi=>?_
    have:=h3 i hi
    rw [hc] at this
    have hx:xs[i]?=some (xs[i]'(by omega)):=by simp [show i<xs.length by omega]
    rw [hx] at this
    exact trod_data hF n e l hl this
   ·cases h
  ·rename_i fs hu
   split at h
   ·rename_i l hl
    obtain⟨hct,h⟩:=ite_some h
    cases h
    obtain⟨xs,m,rfl,_,h1,h2,h3⟩:=DataW.trod_struct hu ht
    have:=data_fields (F:=F) (w:=w) (cs:=cs) fs.toList 0 ks hl (by rw [h1,hct]; omega) fun f hf l hlv=>by
     obtain⟨i,hi⟩:=List.getElem?_of_mem hf
     have hfi:fs[i]?=some f:=by simpa using hi
     have hi2:i<xs.length:=by
      have:=(Array.getElem?_eq_some_iff.1 hfi).1
      omega
     have:=h3 i f hfi
     rw [show xs[i]?=some xs[i] by simp [hi2]] at this
     exact trod_data hF n f.type l hlv this
    simpa using this
   ·cases h
  ·cases h

abbrev Has (W:World):Nat→Nat→Prop:=fun b q=>∃ v,W.cell? ⟨b,q,none⟩=some v

def oneT (P:Program)(t:TypeId):Bool :=
 match P.underlying t with
 | some (.int _) | some .bool | some .string | some (.slice _)=>true
 | _=>false

theorem Cell.ok_one {W:World}{t:TypeId}(h1:oneT P t=true){v:Value}(hv:Value.okWide P W .any base t v):v.cells = #[v]:=by
 unfold oneT at h1
 unfold Value.okWide Go.Cell.okWide Go.Cell.ok at hv
 split at h1 <;> rename_i hu <;> simp only [hu] at hv
 ·cases v <;> first | rfl | exact hv.elim
 ·cases v <;> first | rfl | exact hv.elim
 ·cases v <;> first | rfl | exact hv.elim
 ·cases v <;> first | rfl | exact hv.elim
 ·cases h1

theorem arg_d {g:Gh}{tk:List Nat}(hg:g.frz=Has w){t:TypeId}{k:Lk}(hk:leavesK P 12 t=some [k])(h1:oneT P t=true){v:Value}(hv:Value.okWide P w .any base t v){d:DataW H}{p:List MemPlace}
  (h:DataW.Trod enc P w 0 spare held t v d p) : ∃ x,VR g tk w (.d x) v∧k.fits x:=by
 obtain⟨fuel,ht⟩:=h
 obtain⟨ds,d1,d2,d3⟩:=trod_data (F:=Has w) (fun b q v h=>⟨v,h⟩) 12 t [k] hk ht
 rw [Cell.ok_one h1 hv] at d1 d3
 simp only [Lks] at d2
 obtain⟨x,_,rfl,d2,rfl⟩:=d2
 exact⟨x,.d _ _ (by rw [hg]; exact d1.1) (d3 v (by simp)),d2⟩

end Go.Dn

/- Lists in the store: what reads as rows, what may be appended to; bytes. -/
namespace Go.Dn

set_option linter.unusedSimpArgs false

inductive LV:V→List (List D)→Prop
 | nil:LV (.d .nils) []
 | list (rows:List (List D)):LV (.d (.list rows)) rows
 | fl (rows:List (List D)):LV (.fl rows) rows
 | tl (rows:List (List D)) (t st sz:Nat):LV (.tl rows t st sz) rows

theorem LV.len {v:V}{rows:List (List D)}(h:LV v rows) (σ:St):lenT σ .slice v=some rows.length:=by cases h <;> rfl
theorem LV.lenV {v:V}{rows:List (List D)}(h:LV v rows) (σ:St):Dn.lenV σ v=some rows.length:=by cases h <;> rfl
theorem LV.rows {v:V}{rows:List (List D)}(h:LV v rows) (σ:St):V.rows σ v=some rows:=by cases h <;> rfl
theorem LV.iaddr {v:V}{rows:List (List D)}(h:LV v rows) (σ:St){k:IntKind}{sz i:Nat}{row:List D}(hr:rows[i]?=some row)(hs:row.length=sz):iaddrV σ sz v (.d (.int k i))=some (.ro row):=by
 have hl:i<rows.length:=by
  rw [List.getElem?_eq_some_iff] at hr; exact hr.1
 have hg:rows[i]=row:=by
  rw [List.getElem?_eq_some_iff] at hr; exact hr.2
 cases h with
 | nil=>simp at hl
 | _=>simp [iaddrV,asIdx,V.rows,hl,hg,hs]
theorem LV.byVal {v:V}{rows:List (List D)}(h:LV v rows) (σ:St) : ∃ d,V.byVal σ v=some (.d d)∧LV (.d d) rows:=by
 cases h with
 | nil=>exact⟨_,rfl,.nil⟩
 | _=>exact⟨_,rfl,.list _⟩
theorem LV.borrows {v:V}{rows:List (List D)}(h:LV v rows):v.borrows=false:=by cases h <;> rfl
theorem LV.isNil {v:V}{rows:List (List D)}(h:LV v rows) : ∃ b,V.isNil .slice v=some b∧(b=true→v = .d .nils∧rows=[]):=by
 cases h with
 | nil=>exact⟨true,rfl,fun _=>⟨rfl,rfl⟩⟩
 | _=>exact⟨false,rfl,fun h=>by cases h⟩

theorem fitR_iff {sz:Nat}{rows:List (List D)}:fitR sz rows=true↔∀ r∈rows,r.length=sz:=by
 simp [fitR]

theorem LV.slice {v:V}{rows:List (List D)}(h:LV v rows) (σ:St){sz:Nat}(hf : ∀ r∈rows,r.length=sz)(hts : ∀ r t st s,v = .tl r t st s→s=sz){lo hi:Nat}(h1:lo≤hi)(h2:hi≤rows.length) :
  ∃ v',sliceV sz v lo hi none=some v'∧LV v' ((rows.drop lo).take (hi-lo))∧(∀ r t st s,v' = .tl r t st s→s=sz):=by
 have hf':=fitR_iff.2 hf
 cases h with
 | nil =>
  obtain rfl:hi=0:=by simpa using h2
  obtain rfl:lo=0:=by omega
  exact⟨_,rfl,.nil,fun r t st s h=>by cases h⟩
 | list rows=>exact⟨_,by simp [sliceV,hf',h2],.list _,fun r t st s h=>by cases h⟩
 | fl rows =>
  by_cases he:hi=rows.length
  ·subst he
   refine⟨.fl (rows.drop lo),by simp [sliceV,hf'],?_,fun r t st s h=>by cases h⟩
   rw [List.take_of_length_le (by simp)]
   exact .fl _
  ·exact⟨_,by simp [sliceV,hf',he,h2],.list _,fun r t st s h=>by cases h⟩
 | tl rows t st s =>
  obtain rfl:=hts _ _ _ _ rfl
  by_cases he:hi=rows.length
  ·subst he
   refine⟨.tl (rows.drop lo) t (st+lo) s,by simp [sliceV,hf'],?_,fun r t st s h=>by cases h; rfl⟩
   rw [List.take_of_length_le (by simp)]
   exact .tl _ _ _ _
  ·exact⟨_,by simp [sliceV,hf',he,h2],.list _,fun r t st s h=>by cases h⟩

def dv:V→V
 | .fl rows=>.d (.list rows)
 | .tl rows _ _ _=>.d (.list rows)
 | v=>v
theorem LV.dv {v:V}{rows:List (List D)}(h:LV v rows) (σ:St):V.byVal σ v=some (Dn.dv v)∧LV (Dn.dv v) rows∧(∃ x,Dn.dv v = .d x)∧(Dn.dv v).borrows=false∧(Dn.dv v).pure=true:=by
 cases h with
 | nil=>exact⟨rfl,.nil,⟨_,rfl⟩,rfl,rfl⟩
 | list=>exact⟨rfl,.list _,⟨_,rfl⟩,rfl,rfl⟩
 | fl=>exact⟨rfl,.list _,⟨_,rfl⟩,rfl,rfl⟩
 | tl=>exact⟨rfl,.list _,⟨_,rfl⟩,rfl,rfl⟩

def own:V→Option Nat
 | .tl _ t _ _=>some t
 | _=>none

inductive App (σ:St) (sz:Nat):V→List (List D)→Prop
 | nil:App σ sz (.d .nils) []
 | fl (rows:List (List D)):App σ sz (.fl rows) rows
 | tl (rows:List (List D)) (t st:Nat) (h:σ.toks[t]?=some (st+rows.length)):App σ sz (.tl rows t st sz) rows

theorem App.lv {σ:St}{sz:Nat}{v:V}{rows:List (List D)}(h:App σ sz v rows):LV v rows:=by
 cases h with
 | nil=>exact .nil
 | fl=>exact .fl _
 | tl rows t st h=>exact .tl _ _ _ _
structure Toks (l l':List Nat)(o o':Option Nat):Prop where
 len:l.length≤l'.length
 other : ∀ (t k:Nat),l[t]?=some k→o≠some t→l'[t]?=some k
 own:o'=o∨∃ t,o'=some t∧l.length≤t

theorem Toks.refl (l:List Nat)(o:Option Nat):Toks l l o o:=⟨Nat.le_refl _,fun _ _ h _=>h,.inl rfl⟩
theorem App.other {σ σ':St}{sz:Nat}{v:V}{rows:List (List D)}(h:App σ sz v rows){o o':Option Nat}(ht:Toks σ.toks σ'.toks o o')(hne : ∀ t,Dn.own v=some t→o≠some t):App σ' sz v rows:=by
 cases h with
 | nil=>exact .nil
 | fl=>exact .fl _
 | tl rows t st h=>exact .tl _ _ _ (ht.other t _ h (hne t rfl))

theorem App.toks {σ σ':St}{sz:Nat}{v:V}{rows:List (List D)}(h:App σ sz v rows)(ht:σ'.toks=σ.toks):App σ' sz v rows:=by
 cases h with
 | nil=>exact .nil
 | fl=>exact .fl _
 | tl rows t st h=>exact .tl _ _ _ (by rw [ht]; exact h)

theorem App.push {σ:St}{sz bytes:Nat}{v:V}{rows:List (List D)}(hv:App σ sz v rows)(hpos:0<sz)(hfr : ∀ r∈rows,r.length=sz){ys:List (List D)}(hfy : ∀ r∈ys,r.length=sz)
  (hb:(rows.length+ys.length)*bytes≤140737488355328) (h63:rows.length+ys.length≤9223372036854775807) :
  ∃ v' σ',(∀ tg,appendV σ tg sz bytes v ys=some (v',σ'))∧App σ' sz v' (rows++ys)∧σ'.objs=σ.objs∧Toks σ.toks σ'.toks (Dn.own v) (Dn.own v')∧(v ≠ .d .nils∨ys≠[]→Dn.dv v' = .d (.list (rows++ys))):=by
 have h1:=fitR_iff.2 hfr
 have h2:=fitR_iff.2 hfy
 by_cases hy:ys=[]
 ·subst hy
  refine⟨v,σ,fun tg=>?_,by rw [List.append_nil]; exact hv,rfl,Toks.refl _ _,fun h=>?_⟩
  ·cases hv <;> simp [appendV,h2,V.rows]
  ·cases hv <;> simp_all [Dn.dv]
 ·cases hv with
  | nil =>
   refine⟨.tl ys σ.toks.length 0 sz,σ.pushTok ys.length,fun tg=>?_,?_,rfl,?_,fun _=>rfl⟩
   ·simp at hb h63
    simp [appendV,h2,hy,hpos,hb,h63]
   ·rw [List.nil_append]
    exact .tl _ _ _ (by simp [St.pushTok])
   ·exact⟨by simp [St.pushTok],fun t k ht _=>by
     simp only [St.pushTok]
     rw [List.getElem?_append_left (List.getElem?_eq_some_iff.1 ht).1]; exact ht,.inr ⟨_,rfl,Nat.le_refl _⟩⟩
  | fl rows =>
   refine⟨.tl (rows++ys) σ.toks.length 0 sz,σ.pushTok (rows.length+ys.length),fun tg=>?_,?_,rfl,?_,fun _=>rfl⟩
   ·simp [appendV,h2,hy,hpos,hb,h63,h1]
   ·exact .tl _ _ _ (by simp [St.pushTok])
   ·exact⟨by simp [St.pushTok],fun t k ht _=>by
     simp only [St.pushTok]
     rw [List.getElem?_append_left (List.getElem?_eq_some_iff.1 ht).1]; exact ht,.inr ⟨_,rfl,Nat.le_refl _⟩⟩
  | tl rows t st ht =>
   have hl:=(List.getElem?_eq_some_iff.1 ht).1
   refine⟨.tl (rows++ys) t st sz,σ.setTok t (st+rows.length+ys.length),fun tg=>?_,?_,rfl,?_,fun _=>rfl⟩
   ·simp [appendV,h2,hy,hpos,hb,h63,h1,ht]
   ·exact .tl _ _ _ (by simp [St.setTok,hl]; omega)
   ·exact⟨by simp [St.setTok],fun t' k ht' hne=>by
     simp only [St.setTok]
     rw [List.getElem?_set_ne (fun e=>hne (by rw [e]; rfl))]; exact ht',.inl rfl⟩

theorem appendM_fl {σ:St}{sz bytes:Nat}{rows ys:List (List D)}(hpos:0<sz)(hfr : ∀ r∈rows,r.length=sz)(hfy : ∀ r∈ys,r.length=sz)(hne:ys≠[])(hb:(rows.length+ys.length)*bytes≤140737488355328)(h63:rows.length+ys.length≤9223372036854775807) :
  appendM σ none sz bytes (.fl rows) ys=some (.sl σ.objs.length 0 (rows.length+ys.length) sz,σ.push (.cells ((rows++ys).flatten.map .d))):=by
 simp [appendM,fitR_iff.2 hfr,fitR_iff.2 hfy,hne,hpos,hb,h63,newObj,St.place,St.spot]

theorem byteRows_len (l:List UInt8):(byteRows l).length=l.length:=by simp [byteRows]
theorem byteRows_fit (l:List UInt8) : ∀ r∈byteRows l,r.length=1:=by
 intro r hr
 simp only [byteRows,List.mem_map] at hr
 obtain⟨b,_,rfl⟩:=hr
 rfl
theorem byteRows_app (a b:List UInt8):byteRows (a++b)=byteRows a++byteRows b:=by simp [byteRows]
theorem byteRows_drop (l:List UInt8)(n:Nat):(byteRows l).drop n=byteRows (l.drop n):=by simp [byteRows]
theorem byteRows_take (l:List UInt8)(n:Nat):(byteRows l).take n=byteRows (l.take n):=by simp [byteRows]
theorem byteRows_at {l:List UInt8}{i:Nat}{b:UInt8}(h:l[i]?=some b):(byteRows l)[i]?=some [.int .u8 b.toNat]:=by simp [byteRows,h]
theorem rowBytes_byteRows : ∀ l:List UInt8,rowBytes (byteRows l)=some l
 | []=>rfl
 | b::l=>by
  have ih:=rowBytes_byteRows l
  simp only [byteRows,List.map_cons] at ih ⊢
  simp only [rowBytes,ih]
  simp

theorem wrap_i64 {n:Int}(h : -9223372036854775808≤n)(h':n≤9223372036854775807):IntKind.i64.wrap n=n:=by
 simp only [IntKind.wrap,IntKind.signed,IntKind.bits]
 simp
 omega
theorem wrap_u64 {n:Int}(h:0≤n)(h':n≤18446744073709551615):IntKind.u64.wrap n=n:=by
 simp only [IntKind.wrap,IntKind.signed,IntKind.bits]
 simp
 omega

theorem room_at {σ:St}{m r:Nat}{o:Obj}(h:σ.objs[r]?=some o):(σ.room m).objs[r]?=some o:=by
 simp only [St.room]
 rw [List.getElem?_append_left (List.getElem?_eq_some_iff.1 h).1]; exact h
theorem room_toks (σ:St)(m:Nat):(σ.room m).toks=σ.toks:=rfl
structure Fr (F:List Nat) (σ σ':St):Prop where
 len:σ.objs.length≤σ'.objs.length
 at_ : ∀ r,r∉F→r<σ.objs.length→σ'.objs[r]?=σ.objs[r]?

theorem Fr.refl (F:List Nat) (σ:St):Fr F σ σ:=⟨Nat.le_refl _,fun _ _ _=>rfl⟩
theorem Fr.trans {F:List Nat}{a b c:St}(h:Fr F a b)(h':Fr F b c):Fr F a c :=
 ⟨Nat.le_trans h.len h'.len,fun r hr hl=>(h'.at_ r hr (Nat.lt_of_lt_of_le hl h.len)).trans (h.at_ r hr hl)⟩
theorem Fr.mono {F F':List Nat}{a b:St}(h:Fr F a b)(hs : ∀ r∈F,r∈F'):Fr F' a b:=⟨h.len,fun r hr=>h.at_ r fun h=>hr (hs r h)⟩
theorem Fr.get {F:List Nat}{a b:St}(h:Fr F a b){r:Nat}{o:Obj}(ho:a.objs[r]?=some o)(hr:r∉F):b.objs[r]?=some o:=by
 rw [h.at_ r hr (List.getElem?_eq_some_iff.1 ho).1]; exact ho
theorem Fr.keeps {a b:St}(h:Fr [] a b)(ht : ∀ (t k:Nat),a.toks[t]?=some k→b.toks[t]?=some k):Keeps a b:=⟨fun i hi=>h.at_ i (by simp) hi,ht⟩

theorem cell_d (x:D):(V.d x).cells=some [.d x]:=rfl
theorem cell_da (l:List D):(V.da l).cells=some (l.map .d):=rfl
theorem cell_agg (l:List V):(V.agg l).cells=some l:=rfl
theorem cell_ref (r o:Nat):(V.ref r o).cells=some [.ref r o]:=rfl
theorem cell_sl (r o l s:Nat):(V.sl r o l s).cells=some [.sl r o l s]:=rfl
theorem cell_fl (r:List (List D)):(V.fl r).cells=some [.fl r]:=rfl
theorem cell_tl (r:List (List D))(t st s:Nat):(V.tl r t st s).cells=some [.tl r t st s]:=rfl
theorem cell_map (r:Nat):(V.map r).cells=some [.map r]:=rfl
theorem cell_fn (f:Fn)(a b:List V):(V.fn f a b).cells=some [.fn f a b]:=rfl
theorem cell_ifc (t:Nat)(v:V):(V.ifc t v).cells=some [.ifc t v]:=rfl
theorem LV.cells {v:V}{rows:List (List D)}(h:LV v rows):v.cells=some [v]:=by cases h <;> rfl
theorem bv_d (σ:St)(x:D):V.byVal σ (.d x)=some (.d x):=rfl
theorem bv_da (σ:St)(l:List D):V.byVal σ (.da l)=some (.da l):=rfl
theorem bv_fl (σ:St)(r:List (List D)):V.byVal σ (.fl r)=some (.d (.list r)):=rfl
theorem bv_tl (σ:St)(r:List (List D))(t st s:Nat):V.byVal σ (.tl r t st s)=some (.d (.list r)):=rfl
theorem bn_d (lo:Nat) (σ:St)(x:D):V.byValN lo σ (.d x)=some (.d x):=rfl
theorem bn_da (lo:Nat) (σ:St)(l:List D):V.byValN lo σ (.da l)=some (.da l):=rfl
theorem bn_fl (lo:Nat) (σ:St)(r:List (List D)):V.byValN lo σ (.fl r)=some (.d (.list r)):=rfl
theorem bn_tl (lo:Nat) (σ:St)(r:List (List D))(t st s:Nat):V.byValN lo σ (.tl r t st s)=some (.d (.list r)):=rfl
theorem LV.byValN {v:V}{rows:List (List D)}(h:LV v rows)(lo:Nat) (σ:St):V.byValN lo σ v=V.byVal σ v:=by cases h <;> rfl

end Go.Dn

/- A contract with the store as it stands, turned to other modes. -/
namespace Go.Dn

set_option linter.unusedSimpArgs false
variable {cx:Cx}

theorem Call.inv {Γ:Nat→Option FnC}{m:Mode}{f:Nat}{vs:List V} {σ:St}{Q:Post}(h:Call Γ cx m f vs σ Q)(hm:m ≠ .rnd:=by decide) : ∃ fc,Γ f=some fc∧bodyP (Call Γ cx) cx m fc vs σ Q:=by
 refine(h (fun m f vs σ Q=>Call Γ cx m f vs σ Q∧(m ≠ .rnd→∃ fc,Γ f=some fc∧bodyP (Call Γ cx) cx m fc vs σ Q)) ?_).2 hm
 intro m f vs σ Q hs
 by_cases hr:m = .rnd
 ·subst hr
  have hs':stepP Γ (Call Γ cx) cx .rnd f vs σ Q:=stepP_le (fun m f vs σ Q h=>h.1) (fun v s h=>h) hs
  exact⟨Call.round hs',fun h=>absurd rfl h⟩
 ·have hs':stepP Γ (Call Γ cx) cx m f vs σ Q:=stepP_le (fun m f vs σ Q h=>h.1) (fun v s h=>h) hs
  have : ∃ fc,Γ f=some fc∧bodyP (Call Γ cx) cx m fc vs σ Q:=by
   unfold stepP at hs'
   cases m with
   | rnd=>exact absurd rfl hr
   | _=>exact hs'
  obtain⟨fc,hf,hb⟩:=this
  exact⟨Call.body hf hb hr,fun _=>⟨fc,hf,hb⟩⟩

theorem Call.as_val {Γ:Nat→Option FnC}{f:Nat}{fc:FnC}(hf:Γ f=some fc)(h1:fc.res.length=1){vs:List V}{Q Q':Post}(h:Call Γ cx .raw f vs St.empty Q)(hq : ∀ v s,Q v s→∃ d,V.byVal s v=some d∧Q' d s):Call Γ cx .val f vs St.empty Q':=by
 obtain⟨fc',hf',hl,hb⟩:=h.inv
 rw [hf] at hf'
 cases hf'
 refine Call.body hf ⟨hl,wcode_le (fun m f vs σ Q h=>h) _ (fun ex e s hx=>?_) hb⟩
 have key:(∃ v,retV .raw St.empty.objs.length e s fc.res=some v∧(Mode.raw = .rd→Keeps St.empty s)∧Q v s)→∃ v,retV .val St.empty.objs.length e s fc.res=some v∧(Mode.val = .rd→Keeps St.empty s)∧Q' v s:=by
  rintro ⟨v,hr,_,hv⟩
  obtain⟨d,hd,hd'⟩:=hq v s hv
  unfold retV at hr ⊢
  match hv2:fc.res,h1 with
  | [x],_ =>
   rw [hv2] at hr
   unfold resAll at hr ⊢
   cases hx:Res.ev e s x with
   | none=>simp [hx] at hr
   | some y =>
    simp [hx,resAll,tupOf] at hr
    subst hr
    simp [resAll,byVals,hd,tupOf]
    exact hd'
 cases ex with
 | exit id=>exact hx
 | normal=>exact key hx
 | ret=>exact key hx

theorem use_valN {cx0:Cx} {Γ:Nat→Option FnC}{n0:Nat}{ks:List Nat}{e:Env}{f:Nat}(hm:cx.mode f = .val){vs ds:List V} {σ:St}(hds:byVals σ vs=some ds){Q':Post}(h:Call Γ cx0 .val f ds St.empty Q')(hex : ∃ v s,Q' v s){Q:Post}(hq : ∀ v s,Q' v s→v.pure=true∧(vs.any V.borrows=true→v.scalars=true)∧Q v σ) :
  callN (Call Γ cx0) cx n0 ks e f vs σ Q:=by
 unfold callN
 rw [hm]
 simp only
 rw [hds]
 exact⟨_,h,hex,hq⟩

theorem room_zero (σ:St):σ.room 0=σ:=by simp [St.room]
end Go.Dn

/- For those who prove: loops over functions, rounds, maps. -/
namespace Go.Dn

set_option linter.unusedSimpArgs false
variable {K:CallP} {cx:Cx}

def rfQ (r:Nat)(ks:List Nat)(e:Env)(Q:PostC)(s:St):Prop:=match s.objs[r]? with
 | some (.loop _ _ _ _ .ready)=>Q .normal (e.pick ks) (s.setObj r .dead)
 | some (.loop _ _ _ _ (.done x))=>Q x (e.pick ks) (s.setObj r .dead)
 | _=>False

theorem w_rangeF {ks:List Nat}{f:Opd}{ps:List Nat}{a b:C}{e:Env} {σ:St}{Q:PostC}:wcode K cx (.rangeF ks f ps a b) e σ Q=(match f.ev e with
 | .fn (.func g) first caps=>∃ Q',K .raw g (first++[.yld σ.objs.length]++caps) (σ.push (.loop (e.pick ks) ps a b .ready)) Q'∧∀ v s,Q' v s→rfQ σ.objs.length ks e Q s
 | _=>False):=rfl

theorem rfQ_ready {r:Nat}{ks:List Nat}{e:Env}{Q:PostC}{s:St}{e':Env}{ps:List Nat}{a b:C}(h:s.objs[r]?=some (.loop e' ps a b .ready))(hq:Q .normal (e.pick ks) (s.setObj r .dead)):rfQ r ks e Q s:=by
 unfold rfQ
 rw [h]
 exact hq

def rndB (r:Nat)(e:Env)(ps:List Nat)(a b:C)(Q:Post):PostC:=fun ex e2 s2=>s2.objs[r]?=some (.loop e ps a b .busy)∧match ex with
 | .normal=>Q (.d (.bool true)) (s2.setObj r (.loop e ps a b .ready))
 | x=>Q (.d (.bool false)) (s2.setObj r (.loop e ps a b (.done x)))
def rndA (K:CallP)(cx:Cx)(r:Nat)(e:Env)(ps:List Nat)(a b:C)(Q:Post):PostC:=fun ex e1 s1=>match ex with
 | .normal=>s1.objs[r]?=some (.loop e ps a b .ready)∧wcode K cx b e1 (s1.setObj r (.loop e ps a b .busy)) (rndB r e ps a b Q)
 | _=>False

theorem q_rndA {r:Nat}{e:Env}{ps:List Nat}{a b:C}{Q:Post}{e1:Env}{s1:St}:rndA K cx r e ps a b Q .normal e1 s1=(s1.objs[r]?=some (.loop e ps a b .ready)∧wcode K cx b e1 (s1.setObj r (.loop e ps a b .busy)) (rndB r e ps a b Q)):=rfl
theorem q_rndB_n {r:Nat}{e:Env}{ps:List Nat}{a b:C}{Q:Post}{e1:Env}{s1:St}:rndB r e ps a b Q .normal e1 s1=(s1.objs[r]?=some (.loop e ps a b .busy)∧Q (.d (.bool true)) (s1.setObj r (.loop e ps a b .ready))):=rfl
theorem q_rndB_e {r:Nat}{e:Env}{ps:List Nat}{a b:C}{Q:Post}{e1:Env}{s1:St}{id:Nat}:rndB r e ps a b Q (.exit id) e1 s1=(s1.objs[r]?=some (.loop e ps a b .busy)∧Q (.d (.bool false)) (s1.setObj r (.loop e ps a b (.done (.exit id))))):=rfl
theorem q_rndB_r {r:Nat}{e:Env}{ps:List Nat}{a b:C}{Q:Post}{e1:Env}{s1:St}:rndB r e ps a b Q .ret e1 s1=(s1.objs[r]?=some (.loop e ps a b .busy)∧Q (.d (.bool false)) (s1.setObj r (.loop e ps a b (.done .ret)))):=rfl

theorem Call.rnd {Γ:Nat→Option FnC}{r:Nat}{e:Env}{ps:List Nat}{a b:C}{vs:List V} {σ:St}{Q:Post}(ho:σ.objs[r]?=some (.loop e ps a b .ready))(hl:vs.length=ps.length)
  (h:wcode (Call Γ cx) cx a (setAll e ps vs) σ (rndA (Call Γ cx) cx r e ps a b Q)):Call Γ cx .rnd r vs σ Q :=
 Call.round ⟨e,ps,a,b,ho,hl,h⟩

end Go.Dn

/- Numbers of 32 and 64 bits, as bit vectors. -/
namespace Go.Dn

set_option linter.unusedSimpArgs false

abbrev W32:=BitVec 32
abbrev W64:=BitVec 64

def un {k:Nat}(x:BitVec k):Int:=(x.toNat:Int)

namespace Raw
theorem wrap_u32 (n:Nat):IntKind.u32.wrap (n:Int)=((BitVec.ofNat 32 n).toNat:Int):=by
 simp only [IntKind.wrap,IntKind.signed,IntKind.bits,BitVec.toNat_ofNat]
 simp
theorem wrap_u64n (n:Nat):IntKind.u64.wrap (n:Int)=((BitVec.ofNat 64 n).toNat:Int):=by
 simp only [IntKind.wrap,IntKind.signed,IntKind.bits,BitVec.toNat_ofNat]
 simp
theorem wrap_u8n (n:Nat):IntKind.u8.wrap (n:Int)=((n % 256:Nat):Int):=by
 simp only [IntKind.wrap,IntKind.signed,IntKind.bits]
 simp

theorem ofInt_nat {k:Nat}(x:BitVec k):BitVec.ofInt k (x.toNat:Int)=x:=by
 rw [BitVec.ofInt_natCast]
 simp

theorem xor_u32 (x y:W32):bits .xor .u32 (x.toNat:Int) (y.toNat:Int)=((x^^^y).toNat:Int):=by
 show IntKind.u32.wrap (((BitVec.ofInt 32 (x.toNat:Int)^^^BitVec.ofInt 32 (y.toNat:Int)).toNat:Nat):Int)=_
 rw [ofInt_nat,ofInt_nat,wrap_u32,BitVec.ofNat_toNat,BitVec.setWidth_eq]
theorem and_u32 (x y:W32):bits .and .u32 (x.toNat:Int) (y.toNat:Int)=((x&&&y).toNat:Int):=by
 show IntKind.u32.wrap (((BitVec.ofInt 32 (x.toNat:Int)&&&BitVec.ofInt 32 (y.toNat:Int)).toNat:Nat):Int)=_
 rw [ofInt_nat,ofInt_nat,wrap_u32,BitVec.ofNat_toNat,BitVec.setWidth_eq]
theorem or_u32 (x y:W32):bits .or .u32 (x.toNat:Int) (y.toNat:Int)=((x|||y).toNat:Int):=by
 show IntKind.u32.wrap (((BitVec.ofInt 32 (x.toNat:Int)|||BitVec.ofInt 32 (y.toNat:Int)).toNat:Nat):Int)=_
 rw [ofInt_nat,ofInt_nat,wrap_u32,BitVec.ofNat_toNat,BitVec.setWidth_eq]
theorem xor_u64 (x y:W64):bits .xor .u64 (x.toNat:Int) (y.toNat:Int)=((x^^^y).toNat:Int):=by
 show IntKind.u64.wrap (((BitVec.ofInt 64 (x.toNat:Int)^^^BitVec.ofInt 64 (y.toNat:Int)).toNat:Nat):Int)=_
 rw [ofInt_nat,ofInt_nat,wrap_u64n,BitVec.ofNat_toNat,BitVec.setWidth_eq]
theorem and_u64 (x y:W64):bits .and .u64 (x.toNat:Int) (y.toNat:Int)=((x&&&y).toNat:Int):=by
 show IntKind.u64.wrap (((BitVec.ofInt 64 (x.toNat:Int)&&&BitVec.ofInt 64 (y.toNat:Int)).toNat:Nat):Int)=_
 rw [ofInt_nat,ofInt_nat,wrap_u64n,BitVec.ofNat_toNat,BitVec.setWidth_eq]
theorem or_u64 (x y:W64):bits .or .u64 (x.toNat:Int) (y.toNat:Int)=((x|||y).toNat:Int):=by
 show IntKind.u64.wrap (((BitVec.ofInt 64 (x.toNat:Int)|||BitVec.ofInt 64 (y.toNat:Int)).toNat:Nat):Int)=_
 rw [ofInt_nat,ofInt_nat,wrap_u64n,BitVec.ofNat_toNat,BitVec.setWidth_eq]
theorem shl_u32 (x:W32)(n:Nat):IntKind.u32.wrap ((x.toNat:Int)*2 ^ n)=((x <<< n).toNat:Int):=by
 have:(x.toNat:Int)*2 ^ n=((x.toNat*2 ^ n:Nat):Int):=by simp
 rw [this,wrap_u32]
 congr 1
 simp [BitVec.toNat_shiftLeft,Nat.shiftLeft_eq]
theorem shr_u32 (x:W32)(n:Nat):(x.toNat:Int) / 2 ^ n=((x >>> n).toNat:Int):=by
 have:(x.toNat:Int) / 2 ^ n=((x.toNat / 2 ^ n:Nat):Int):=by simp
 rw [this]
 congr 1
 simp [BitVec.toNat_ushiftRight,Nat.shiftRight_eq_div_pow]
theorem shl_u64 (x:W64)(n:Nat):IntKind.u64.wrap ((x.toNat:Int)*2 ^ n)=((x <<< n).toNat:Int):=by
 have:(x.toNat:Int)*2 ^ n=((x.toNat*2 ^ n:Nat):Int):=by simp
 rw [this,wrap_u64n]
 congr 1
 simp [BitVec.toNat_shiftLeft,Nat.shiftLeft_eq]
theorem shr_u64 (x:W64)(n:Nat):(x.toNat:Int) / 2 ^ n=((x >>> n).toNat:Int):=by
 have:(x.toNat:Int) / 2 ^ n=((x.toNat / 2 ^ n:Nat):Int):=by simp
 rw [this]
 congr 1
 simp [BitVec.toNat_ushiftRight,Nat.shiftRight_eq_div_pow]

end Raw

theorem wrap_u32 (n:Nat):IntKind.u32.wrap (n:Int)=(un (BitVec.ofNat 32 n)):=Raw.wrap_u32 n
theorem wrap_u64n (n:Nat):IntKind.u64.wrap (n:Int)=(un (BitVec.ofNat 64 n)):=Raw.wrap_u64n n
theorem ofInt_nat {k:Nat}(x:BitVec k):BitVec.ofInt k (un x)=x:=Raw.ofInt_nat x
theorem xor_u32 (x y:W32):bits .xor .u32 (un x) (un y)=(un (x^^^y)):=Raw.xor_u32 x y
theorem and_u32 (x y:W32):bits .and .u32 (un x) (un y)=(un (x&&&y)):=Raw.and_u32 x y
theorem or_u32 (x y:W32):bits .or .u32 (un x) (un y)=(un (x|||y)):=Raw.or_u32 x y
theorem xor_u64 (x y:W64):bits .xor .u64 (un x) (un y)=(un (x^^^y)):=Raw.xor_u64 x y
theorem and_u64 (x y:W64):bits .and .u64 (un x) (un y)=(un (x&&&y)):=Raw.and_u64 x y
theorem or_u64 (x y:W64):bits .or .u64 (un x) (un y)=(un (x|||y)):=Raw.or_u64 x y
theorem shl_u32 (x:W32)(n:Nat):IntKind.u32.wrap ((un x)*2 ^ n)=(un (x <<< n)):=Raw.shl_u32 x n
theorem shr_u32 (x:W32)(n:Nat):(un x) / 2 ^ n=(un (x >>> n)):=Raw.shr_u32 x n
theorem shl_u64 (x:W64)(n:Nat):IntKind.u64.wrap ((un x)*2 ^ n)=(un (x <<< n)):=Raw.shl_u64 x n
theorem shr_u64 (x:W64)(n:Nat):(un x) / 2 ^ n=(un (x >>> n)):=Raw.shr_u64 x n
theorem wrap_u8n (n:Nat):IntKind.u8.wrap (n:Int)=((n % 256:Nat):Int):=Raw.wrap_u8n n

def wds (l:List W32):List D:=l.map fun x=>.int .u32 (un x)
theorem wds_len (l:List W32):(wds l).length=l.length:=by simp [wds]
end Go.Dn

/- SHA-256, plain. -/
namespace Go.Dn.Sha

def rotr (x:W32)(n:Nat):W32:=(x >>> n)|||(x <<< (32-n))
def sg0 (x:W32):W32:=rotr x 7^^^rotr x 18^^^(x >>> 3)
def sg1 (x:W32):W32:=rotr x 17^^^rotr x 19^^^(x >>> 10)
def Sg0 (x:W32):W32:=rotr x 2^^^rotr x 13^^^rotr x 22
def Sg1 (x:W32):W32:=rotr x 6^^^rotr x 11^^^rotr x 25
def ch (e f g:W32):W32:=(e&&&f)^^^(~~~e&&&g)
def maj (a b c:W32):W32:=(a&&&b)^^^(a&&&c)^^^(b&&&c)

def beW (b:List UInt8):W32:=b.foldl (fun o c=>(o <<< 8)|||BitVec.ofNat 32 c.toNat) 0

def wsN (blk:List UInt8):Nat→List W32
 | 0=>[]
 | i+1=>wsN blk i++[if i<16 then beW ((blk.drop (4*i)).take 4) else sg1 ((wsN blk i).getD (i-2) 0)+(wsN blk i).getD (i-7) 0+sg0 ((wsN blk i).getD (i-15) 0)+(wsN blk i).getD (i-16) 0]
def sched (blk:List UInt8):List W32:=wsN blk 64

structure S8 where
 a:W32
 b:W32
 c:W32
 d:W32
 e:W32
 f:W32
 g:W32
 h:W32
def one (x:S8)(k w:W32):W32:=x.h+Sg1 x.e+ch x.e x.f x.g+k+w
def two (x:S8):W32:=Sg0 x.a+maj x.a x.b x.c
def rnd (x:S8)(k w:W32):S8:=⟨one x k w+two x,x.a,x.b,x.c,x.d+one x k w,x.e,x.f,x.g⟩

def K256:List W32:=[
 0x428a2f98,0x71374491,0xb5c0fbcf,0xe9b5dba5,0x3956c25b,0x59f111f1,0x923f82a4,0xab1c5ed5,
 0xd807aa98,0x12835b01,0x243185be,0x550c7dc3,0x72be5d74,0x80deb1fe,0x9bdc06a7,0xc19bf174,
 0xe49b69c1,0xefbe4786,0x0fc19dc6,0x240ca1cc,0x2de92c6f,0x4a7484aa,0x5cb0a9dc,0x76f988da,
 0x983e5152,0xa831c66d,0xb00327c8,0xbf597fc7,0xc6e00bf3,0xd5a79147,0x06ca6351,0x14292967,
 0x27b70a85,0x2e1b2138,0x4d2c6dfc,0x53380d13,0x650a7354,0x766a0abb,0x81c2c92e,0x92722c85,
 0xa2bfe8a1,0xa81a664b,0xc24b8b70,0xc76c51a3,0xd192e819,0xd6990624,0xf40e3585,0x106aa070,
 0x19a4c116,0x1e376c08,0x2748774c,0x34b0bcb5,0x391c0cb3,0x4ed8aa4a,0x5b9cca4f,0x682e6ff3,
 0x748f82ee,0x78a5636f,0x84c87814,0x8cc70208,0x90befffa,0xa4506ceb,0xbef9a3f7,0xc67178f2]
def H0:S8:=⟨0x6a09e667,0xbb67ae85,0x3c6ef372,0xa54ff53a,0x510e527f,0x9b05688c,0x1f83d9ab,0x5be0cd19⟩

def rN (h:S8)(w:List W32):Nat→S8
 | 0=>h
 | i+1=>rnd (rN h w i) (K256.getD i 0) (w.getD i 0)
def plus (x y:S8):S8:=⟨x.a+y.a,x.b+y.b,x.c+y.c,x.d+y.d,x.e+y.e,x.f+y.f,x.g+y.g,x.h+y.h⟩
def take (h:S8)(blk:List UInt8):S8:=plus h (rN h (sched blk) 64)

def zs (n:Nat):Nat:=(64-(n+9) % 64) % 64
def hN (p:List UInt8):Nat→S8
 | 0=>H0
 | i+1=>take (hN p i) ((p.drop (64*i)).take 64)
end Go.Dn.Sha
