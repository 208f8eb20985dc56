import Derived.Test.YtdfhfhcilfjdgaaGreatDoorG1
set_option linter.unusedVariables false
set_option linter.unusedSimpArgs false
open List renaming reduceReplicate → aA,getElem?_eq_some_iff → aB,getElem?_append_left → aC,replicate → aD,cons_append → aE,getElem?_set_ne → aF,append_nil → aG,nil_append → aH,map_cons → aI,take_of_length_le → aK,mem_of_getElem? → aL,map_nil → aM,getElem?_set_self → aO,length_map → aQ,getElem?_eq_none → aR,mem_map → aT,mem_append → aW,length_append → aX,mem_filter → aY,take_append_getElem → aZ,getD_eq_getElem?_getD → bA,take_length → bC,drop_zero → bF,getElem?_map → bG,getElem?_append_right → bH,mem_singleton → bI,getElem?_eq_getElem → bO,eq_nil_of_length_eq_zero → bP,getElem?_of_mem → bQ,length_replicate → bS,drop_of_length_le → bT,mem_cons → bU,append_assoc → bV,mem_append_right → bX
open Go.IntKind renaming i64 → aJ,u64 → bL
open Option renaming some → aN
open Bool renaming false_eq_true → aP,and_eq_true → aS
open Go.Builtin renaming zeroCells → aU,append_ → bD,firstCells → bM
open Go.Result renaming andThen_ok → aV
open Nat renaming le_refl → bB,mul_le_mul_right → bE,add_mul → bJ,lt_or_ge → bR
open Array renaming getElem?_eq_some_iff → bW
namespace Go.Proofs.YtdfhfhcilfjdgaaGreatDoor.T
open Go.Dn
attribute [local simp] dO dF GB aM aI aG dA eW cE dZ cS cK dY dX eM eP eS cM cW cX eN fD gD fQ fB dK fC gE cJ cY cZ dN eB eC gA eR eE eF eD cL cU cV fZ i_p dU fY eA eV dW eU dV eX gC t_p eY eH gB eJ cT eZ eI eG gM aE aH dC dM fP fO fR gR Opd.ev Env.get Env.set Env.pick eK dE cB eO eQ cF dD dG gO eL Res.ev fL cN dI gS fN fW fX gW fT fU fV cx Dn.newObj St.place St.push St.spot St.empty eT dP cO cR dS dQ dT cQ dR cP loadAt cH dL cI bZ ofD splice St.setObj fE

abbrev I (n:Int):V:=.d (.int .i64 n)
abbrev U (n:Int):V:=.d (.int .u64 n)
abbrev B (b:Bool):V:=.d (.bool b)
abbrev Y (n:Int):V:=.d (.int .u8 n)
abbrev W (x:W32):V:=.d (.int .u32 (un x))

theorem aK5 : ∀ k:Fin 32,1≤k.val→bits .and .u64 (bL.wrap (aJ.wrap (-(k.val:Int)))) 31=32-(k.val:Int):=by decide +kernel

theorem vX (x:W32)(n:Nat)(h:n<32):iM .shl .u32 (un x) (n:Int)=some (W (x <<< n)):=by
 have h1:min n 32=n:=by omega
 have h2:IntKind.u32.bits=32:=rfl
 have h3 : ¬ ((n:Int)<0):=by omega
 simp [iM,h1,h2,h3,shl_u32]
theorem sB (x:W32)(n:Nat)(h:n<32):iM .shr .u32 (un x) (n:Int)=some (W (x >>> n)):=by
 have h1:min n 32=n:=by omega
 have h2:IntKind.u32.bits=32:=rfl
 have h3 : ¬ ((n:Int)<0):=by omega
 simp [iM,h1,h2,h3,shr_u32]

theorem aKx (x:W32)(k:Nat)(h1:1≤k)(h2:k<32):Dn.Call Γ cx .val 138 [W x,I (aJ.wrap (-(k:Int)))] St.empty fun v _=>v=W (Sha.rotr x k):=by
 have ha:=aK5 ⟨k,h2⟩ h1
 simp only at ha
 refine Dn.Call.body (fc:=c138) rfl ?_
 have e1:iM .shl .u32 (un x) (32-(k:Int))=some (W (x <<< (32-k))):=by
  have h:(32:Int)-(k:Int)=((32-k:Nat):Int):=by omega
  rw [h]
  exact vX x (32-k) (by omega)
 have e2:bL.wrap (32-(32-(k:Int)))=(k:Int):=by simp only [IntKind.wrap,IntKind.signed,IntKind.bits]; simp; omega
 have e3:=sB x k h2
 simp [c138,c138_k0,c138_k1,ha,e1,e2,e3,or_u32,Sha.rotl]

theorem nL (x:W32)(k:Nat)(h1:1≤k)(h2:k<32):Dn.Call Γ cx .val 124 [W x,I k] St.empty fun v _=>v=W (Sha.rotr x k):=by
 refine Dn.Call.body (fc:=c124) rfl ?_
 simp [c124,c124_k0]
 refine gI rfl (aKx x k h1 h2) rfl ?_
 simp

theorem aAR (b:UInt8):IntKind.u32.wrap (b.toNat:Int)=un (BitVec.ofNat 32 b.toNat):=wrap_u32 _

def aH1 (v:V)(l:List UInt8)(m:Nat)(e:Env) (σ:St):Prop:=∃ i:Nat,e=[(3,W (Sha.beW (l.take i))),(6,v),(7,I l.length),(8,I i)]∧i≤l.length∧m=l.length-i∧σ=St.empty

theorem aKA {v:V}{l:List UInt8}(hv:LV v (cC l))(hl:(l.length:Int)≤9223372036854775806):Dn.Call Γ cx .val 137 [v] St.empty fun r _=>r=W (Sha.beW l):=by
 refine Dn.Call.body (fc:=c137) rfl ?_
 have hlen : ∀ σ,gZ σ .slice v=some l.length:=fun σ=>by rw [hv.len,dJ]
 simp [c137,c137_k5,c137_k6,c137_k7,hlen]
 refine fK (aH1 v l) (m:=l.length) ⟨0,rfl,by omega,by omega,rfl⟩ ?_
 rintro m e σ ⟨i,rfl,hi,rfl,rfl⟩
 simp [c137_l4,c137_k3,c137_k2]
 by_cases hil:i<l.length
 rotate_left
 ·obtain rfl:i=l.length:=by omega
  simp [c137_k0]
 simp [hil]
 have hia:=fun σ=>hv.iaddr σ (k:=.i64) (i:=i) (nQ (bO hil)) (sz:=1) rfl
 have e1:=vX (Sha.beW (l.take i)) 8 (by omega)
 have e2:((l[i]'hil).toNat:Int)=(((l[i]'hil).toNat:Nat):Int):=rfl
 have e3:Sha.beW (l.take (i+1))=(Sha.beW (l.take i) <<< 8)|||BitVec.ofNat 32 (l[i]'hil).toNat:=by
  unfold Sha.beW
  rw [← aZ hil,List.foldl_append]
  rfl
 simp [hia,c137_k1,aAR,bY (n:=(i:Int)+1) (by omega) (by omega)]
 simp at e1
 simp [e1,or_u32]
 exact⟨l.length-(i+1),by omega,i+1,by rw [e3]; rfl,by omega,rfl,rfl⟩

theorem aE2 (n:Nat):aD n (V.d (.int .u32 0))=(wds (aD n (0:W32))).map .d:=by
 simp [wds,un]

def mJ (blk:List UInt8)(i:Nat):List W32:=Sha.wsN blk i++aD (64-i) 0
theorem aDo (blk:List UInt8){i:Nat}(h:i≤64):(mJ blk i).length=64:=by simp [mJ,Sha.wsN_len]; omega
theorem pK (blk:List UInt8){i j:Nat}(h:j<i):(mJ blk i)[j]?=some ((Sha.wsN blk i).getD j 0):=by
 unfold mJ
 rw [aC (by rw [Sha.wsN_len]; exact h)]
 rw [bA]
 rw [bO (by rw [Sha.wsN_len]; exact h)]
 rfl
theorem uZ (blk:List UInt8){i:Nat}(h:i<64)(x:W32)(hx:Sha.wsN blk (i+1)=Sha.wsN blk i++[x]):(mJ blk i).set i x=mJ blk (i+1):=by
 unfold mJ
 rw [hx,show 64-i=(64-(i+1))+1 by omega,List.replicate_succ,bV]
 rw [List.set_append_right _ _ (by rw [Sha.wsN_len]; exact bB _),Sha.wsN_len,Nat.sub_self]
 rfl

theorem aHJ {l:List W32}{n:Nat}(h:l.length=n):(List.map V.d (wds l)).take n=List.map V.d (wds l):=aK (by simp [nN,h])
theorem aHI {l:List W32}{n:Nat}(h:l.length=n):(List.map V.d (wds l)).drop n=[]:=bT (by simp [nN,h])
theorem sF (l:List W32)(i:Nat)(hi:i<l.length)(x:W32):List.take i (List.map V.d (wds l))++V.d (.int .u32 (un x))::List.drop (i+1) (List.map V.d (wds l))=(wds (l.set i x)).map V.d:=by
 rw [← aI7 l i hi x]
 simp [splice]

theorem hX {r n j:Nat}(h:j<n):kZ n 1 (.ref r 0) (.d (.int .i64 (j:Int)))=some (.ref r j):=by
 have:(j:Int)<n:=by omega
 simp [kZ,jX,this]
theorem aFZ {v:V}{rows:List (List D)}(hv:LV v rows) (σ:St){sz lo hi:Nat}{v':V}(hf : ∀ r∈rows,r.length=sz)(h:kL sz v lo hi none=some v')(hlo:lo≤hi)(hhi:hi≤rows.length):mD σ sz v (some (.d (.int .i64 (lo:Int)))) (some (.d (.int .i64 (hi:Int)))) none=some v':=by
 have:=hv.lenV σ
 simp [mD,this,jN,jX,h,hlo]

def aJJ (v:V)(blk:List UInt8)(m:Nat)(e:Env) (σ:St):Prop:=∃ i:Nat,e=[(0,v),(2,.ref 0 0),(3,.ref 1 0),(9,I i)]∧i≤64∧m=64-i∧σ=⟨[.cells ((wds (aD 64 0#32)).map .d),.cells ((wds (mJ blk i)).map .d)],[]⟩

theorem aD5 {v:V}{blk:List UInt8}(hv:LV v (cC blk))(hts : ∀ r t st s,v ≠ .tl r t st s)(hl:blk.length=64):Dn.Call Γ cx .val 123 [v] St.empty fun r _=>r = .da (wds (Sha.sched blk)):=by
 refine Dn.Call.body (fc:=c123) rfl ?_
 simp [-aA,c123,c123_k14,c123_k13,c123_k12,aE2]
 refine fK (aJJ v blk) (m:=64) ⟨0,rfl,by omega,rfl,by simp [mJ,Sha.wsN,-aA]⟩ ?_
 rintro m e σ ⟨i,rfl,hi,rfl,rfl⟩
 simp [-aA,c123_l11,c123_k10,c123_k9]
 have hwl:=aDo blk hi
 have hrl:(aD 64 (0#32)).length=64:=by simp
 by_cases hil:i<64
 rotate_left
 ·obtain rfl:i=64:=by omega
  simp [-aA,c123_k0,nN,hwl,hrl,aHJ hwl,aIy,aHI hrl]
  simp [mJ,Sha.sched]
 have hii:(i:Int)<64:=by omega
 simp [-aA,hii,c123_k8,c123_k7,c123_k6]
 by_cases h16:i<16
 ·have h16':(i:Int)<16:=by omega
  have e1:aJ.wrap (4*(i:Int))=(4*i:Nat):=by rw [bY (by omega) (by omega)]; omega
  have e2:aJ.wrap (((4*i:Nat):Int)+4)=(4*i+4:Nat):=by rw [bY (by omega) (by omega)]; omega
  simp [-aA,h16',c123_k5,e1,e2]
  obtain⟨z,hz,hzl,-⟩:=hv.slice (σ:=⟨[.cells ((wds (aD 64 0#32)).map .d),.cells ((wds (mJ blk i)).map .d)],[]⟩) (sz:=1) (fJ blk) (fun r t st s h=>absurd h (hts r t st s)) (lo:=4*i) (hi:=4*i+4) (by omega) (by rw [dJ]; omega)
  rw [sZ,tA] at hzl
  have hsx:=fun σ=>aFZ hv σ (fJ blk) hz (by omega) (by rw [dJ]; omega)
  have e3:(4*(i:Int))=((4*i:Nat):Int):=by omega
  have e4:aJ.wrap (4*(i:Int)+4)=((4*i+4:Nat):Int):=by rw [bY (by omega) (by omega)]; omega
  rw [e4,e3,hsx]
  have hx0:Sha.wsN blk (i+1)=Sha.wsN blk i++[Sha.beW (List.take 4 (List.drop (4*i) blk))]:=by
   rw [Sha.wsN,if_pos h16]
  obtain⟨z1,z2,-,z3,-⟩:=hzl.dv ⟨[.cells ((wds (aD 64 0#32)).map .d),.cells ((wds (mJ blk i)).map .d)],[]⟩
  simp only []
  refine kA (ds:=[Dn.dv z]) (by simp only [cN,z1]) (aKA z2 (by simp; omega)) ?_
  rintro r s rfl
  simp [-aA,-bG,hX hil,nN,hwl,show i≤63 by omega,sF _ _ (show i<(mJ blk i).length by omega),V.pure,V.scalars,V.scalar,D.scalar,bY (n:=(i:Int)+1) (by omega) (by omega),uZ blk hil _ hx0]
  exact⟨64-(i+1),by omega,i+1,rfl,by omega,rfl,rfl⟩
 ·have h16' : ¬ (i:Int)<16:=by omega
  simp [-aA,h16',c123_k4]
  refine mR (fun _=>.val) [] (by decide +kernel) ?_
  have e1:aJ.wrap ((i:Int)-15)=((i-15:Nat):Int):=by rw [bY (by omega) (by omega)]; omega
  have e2:aJ.wrap ((i:Int)-2)=((i-2:Nat):Int):=by rw [bY (by omega) (by omega)]; omega
  have e7:aJ.wrap ((i:Int)-7)=((i-7:Nat):Int):=by rw [bY (by omega) (by omega)]; omega
  have e16:aJ.wrap ((i:Int)-16)=((i-16:Nat):Int):=by rw [bY (by omega) (by omega)]; omega
  have hx15:=pK blk (show i-15<i by omega)
  have hx2:=pK blk (show i-2<i by omega)
  have hx7:=pK blk (show i-7<i by omega)
  have hx16:=pK blk (show i-16<i by omega)
  have hnext:Sha.wsN blk (i+1)=Sha.wsN blk i++[Sha.sg1 ((Sha.wsN blk i).getD (i-2) 0)+(Sha.wsN blk i).getD (i-7) 0+Sha.sg0 ((Sha.wsN blk i).getD (i-15) 0)+(Sha.wsN blk i).getD (i-16) 0]:=by
   rw [Sha.wsN,if_neg h16]
  generalize (Sha.wsN blk i).getD (i-15) 0=x15 at *
  generalize (Sha.wsN blk i).getD (i-2) 0=x2 at *
  generalize (Sha.wsN blk i).getD (i-7) 0=x7 at *
  generalize (Sha.wsN blk i).getD (i-16) 0=x16 at *
  simp [-aA,-bG,St.room,e1,e2,hX (show i-15<64 by omega),hX (show i-2<64 by omega),List.replicate_zero,kF hx15,kF hx2]
  simp [-aA,-bG,c123_k3]
  have q3:iM .shr .u32 (un x15) 3=some (W (x15 >>> 3)):=sB x15 3 (by omega)
  have q10:iM .shr .u32 (un x2) 10=some (W (x2 >>> 10)):=sB x2 10 (by omega)
  refine gI rfl (nL x15 7 (by omega) (by omega)) rfl ?_
  simp [-aA,-bG]
  refine gI rfl (nL x15 18 (by omega) (by omega)) rfl ?_
  simp [-aA,-bG,xor_u32,q3,c123_k2]
  refine gI rfl (nL x2 17 (by omega) (by omega)) rfl ?_
  simp [-aA,-bG]
  refine gI rfl (nL x2 19 (by omega) (by omega)) rfl ?_
  simp [-aA,-bG,xor_u32,q10,c123_k1]
  refine mR (fun _=>.val) [] (by decide +kernel) ?_
  simp [-aA,-bG,St.room,e7,e16,hX (show i-7<64 by omega),hX (show i-16<64 by omega),hX hil,List.replicate_zero,kF hx7,kF hx16,add_u32,nN,hwl,show i+1≤64 by omega,sF _ _ (show i<(mJ blk i).length by omega),bY (n:=(i:Int)+1) (by omega) (by omega)]
  have hset:=uZ blk hil _ hnext
  unfold Sha.sg1 Sha.sg0 at hset
  rw [hset]
  exact⟨64-(i+1),by omega,i+1,rfl,by omega,rfl,rfl⟩

theorem lY (x:Sha.S8):wds x.l=[.int .u32 (un x.a),.int .u32 (un x.b),.int .u32 (un x.c),.int .u32 (un x.d),.int .u32 (un x.e),.int .u32 (un x.f),.int .u32 (un x.g),.int .u32 (un x.h)]:=rfl

def aH0 (h:Sha.S8)(blk:List UInt8)(m:Nat)(e:Env) (σ:St):Prop:=∃ (i:Nat) (y:Sha.S8),e=[(2,.ref 0 0),(4,.ref 1 0),(5,.ref 2 0),(15,.da (wds (Sha.sched blk))),(16,I i),(1000002,.ro (wds Sha.K256))]∧i≤64∧m=64-i ∧
 σ=⟨[.cells ((wds h.l).map .d),.cells (aD 8 (.d (.int .u32 0))),.cells ((wds y.l).map .d)],[]⟩∧y=Sha.rN h (Sha.sched blk) i

def plN (x y:Sha.S8)(i:Nat):Sha.S8:=⟨if 0<i then x.a+y.a else x.a,if 1<i then x.b+y.b else x.b,if 2<i then x.c+y.c else x.c,if 3<i then x.d+y.d else x.d,if 4<i then x.e+y.e else x.e,if 5<i then x.f+y.f else x.f,if 6<i then x.g+y.g else x.g,if 7<i then x.h+y.h else x.h⟩
def aEl (x y:Sha.S8)(m:Nat)(e:Env) (σ:St):Prop:=∃ i:Nat,e=[(2,.ref 0 0),(4,.ref 1 0),(5,.ref 2 0),(89,I i)]∧i≤8∧m=8-i ∧
 σ=⟨[.cells ((wds (plN x y i).l).map .d),.cells (aD 8 (.d (.int .u32 0))),.cells ((wds y.l).map .d)],[]⟩

theorem aFt {l:List W32}{i:Nat}{x:W32}(h:l[i]?=some x)(n:Nat)(hn:i<n):zH false n 1 (.da (wds l)) (.d (.int .i64 (i:Int)))=some (W x):=by
 have h1:(i:Int)<n:=by omega
 have hlt:=(aB.1 h).1
 have h2:(wds l)[i]?=some (.int .u32 (un x)):=aI6 h
 simp [zH,jX,h1,dL,h2]
 done

theorem gU {r n:Nat}(j:Int)(h0:0≤j)(h:j<n):kZ n 1 (.ref r 0) (.d (.int .i64 j))=some (.ref r j.toNat):=by
 simp [kZ,jX,h0,h]
theorem aHG:IntKind.u32.signed=false:=rfl

theorem aCL {l:List W32}{i:Nat}{x:W32}(h:l[i]?=some x)(n:Nat)(hn:i<n) : ∃ r,kZ n 1 (.ro (wds l)) (.d (.int .i64 (i:Int)))=some (.ro (.int .u32 (un x)::r)):=by
 have h1:(i:Int)<n:=by omega
 obtain⟨hlt,hx⟩:=aB.1 h
 refine⟨(wds l).drop (i+1),?_⟩
 have h3:(wds l).drop i = .int .u32 (un x)::(wds l).drop (i+1):=by
  rw [List.drop_eq_getElem_cons (by rw [nN]; exact hlt)]
  simp [wds,hx]
 have h4:i≤(wds l).length:=by rw [nN]; omega
 simp [kZ,jX,h1,h3,h4]

theorem aKz (h:Sha.S8){v:D}{blk:List UInt8}(hv:LV (.d v) (cC blk))(hl:blk.length=64):Dn.Call Γ cx .val 105 [.da (wds h.l),.d v] St.empty fun r _=>r = .da (wds (Sha.take h blk).l):=by
 refine Dn.Call.body (fc:=c105) rfl ?_
 simp [-aA,c105,c105_k20,c105_k19,c105_k18,g2,lY]
 refine gI (ds:=[.d v]) rfl (aD5 hv (by rintro r t st s h; cases h) hl) (by
  have : ∀ l:List W32,(wds l).all D.scalar=true:=fun l=>by simp [wds,D.scalar]
  simp [V.pure,V.scalars,V.scalar,this]
  done) ?_
 simp [-aA]
 refine fK (aH0 h blk) (m:=64) ⟨0,h,rfl,by omega,rfl,rfl,rfl⟩ ?_
 rintro m e σ ⟨i,y,rfl,hi,rfl,rfl,hy⟩
 simp [-aA,c105_l17,c105_k16,c105_k15]
 by_cases hil:i<64
 rotate_left
 ·obtain rfl:i=64:=by omega
  simp [-aA,c105_k7,c105_k6]
  refine fK (aEl h y) (m:=8) ⟨0,rfl,by omega,rfl,rfl⟩ ?_
  rintro m e σ ⟨i,rfl,hi,rfl,rfl⟩
  simp [-aA,c105_l5,c105_k4,c105_k3]
  by_cases hil:i<8
  ·have hii:(i:Int)<8:=by omega
   simp [-aA,hii,c105_k2,c105_k1]
   refine mR (fun _=>.val) [] (by decide +kernel) ?_
   have hir:=fun r=>hX (r:=r) (n:=8) hil
   have hex : ∀ k,k<9→(k=i+1)→∃ m',m'<8-i∧aEl h y m' [(2,.ref 0 0),(4,.ref 1 0),(5,.ref 2 0),(89,I ((k:Nat):Int))] ⟨[.cells ((wds (plN h y k).l).map .d),.cells (aD 8 (.d (.int .u32 0))),.cells ((wds y.l).map .d)],[]⟩:=fun k hk e=>⟨8-k,by omega,k,rfl,by omega,rfl,rfl⟩
   have hcase:i=0∨i=1∨i=2∨i=3∨i=4∨i=5∨i=6∨i=7:=by omega
   rcases hcase with rfl | rfl | rfl | rfl | rfl | rfl | rfl | rfl
   ·simpa [-aA,gU,St.room,lY,add_u32,plN,bY] using hex 1 (by omega) rfl
   ·simpa [-aA,gU,St.room,lY,add_u32,plN,bY] using hex 2 (by omega) rfl
   ·simpa [-aA,gU,St.room,lY,add_u32,plN,bY] using hex 3 (by omega) rfl
   ·simpa [-aA,gU,St.room,lY,add_u32,plN,bY] using hex 4 (by omega) rfl
   ·simpa [-aA,gU,St.room,lY,add_u32,plN,bY] using hex 5 (by omega) rfl
   ·simpa [-aA,gU,St.room,lY,add_u32,plN,bY] using hex 6 (by omega) rfl
   ·simpa [-aA,gU,St.room,lY,add_u32,plN,bY] using hex 7 (by omega) rfl
   ·simpa [-aA,gU,St.room,lY,add_u32,plN,bY] using hex 8 (by omega) rfl
  ·obtain rfl:i=8:=by omega
   simp [-aA,c105_k0,lY,plN]
   rw [hy]
   exact⟨rfl,rfl,rfl,rfl,rfl,rfl,rfl,rfl⟩
 have hii:(i:Int)<64:=by omega
 have hw:=bO (l:=Sha.sched blk) (i:=i) (by rw [Sha.sched,Sha.wsN_len]; exact hil)
 have hk:=bO (l:=Sha.K256) (i:=i) (by rw [Sha.K256_len]; exact hil)
 generalize (Sha.sched blk)[i]'(by rw [Sha.sched,Sha.wsN_len]; exact hil)=w at hw
 generalize Sha.K256[i]'(by rw [Sha.K256_len]; exact hil)=k at hk
 obtain⟨kr,hkr⟩:=aCL hk 64 hil
 have hnx:Sha.rN h (Sha.sched blk) (i+1)=Sha.rnd y k w:=by
  rw [Sha.rN,← hy,bA,bA,hw,hk]
  rfl
 simp [-aA,hii,c105_k14,aFt hw 64 hil,c105_k13]
 refine mR (fun _=>.val) [] (by decide +kernel) ?_
 simp [-aA,gU,St.room,lY,c105_k12]
 refine mR (fun _=>.val) [] (by decide +kernel) ?_
 simp [-aA,gU,St.room,lY]
 refine gY rfl rfl (nL y.e 6 (by omega) (by omega)) rfl ?_
 simp [-aA]
 refine gY rfl rfl (nL y.e 11 (by omega) (by omega)) rfl ?_
 simp [-aA,xor_u32]
 refine gY rfl rfl (nL y.e 25 (by omega) (by omega)) rfl ?_
 simp [-aA,xor_u32,add_u32,and_u32,gU,hkr,sub_max32,not_u32,aHG,c105_k11]
 refine mR (fun _=>.val) [] (by decide +kernel) ?_
 simp [-aA,gU,St.room]
 generalize hone:y.h+(Sha.rotr y.e 6^^^Sha.rotr y.e 11^^^Sha.rotr y.e 25)+(y.e&&&y.f ^^^ ~~~y.e&&&y.g)+k+w=one
 refine gY rfl rfl (nL y.a 2 (by omega) (by omega)) rfl ?_
 simp [-aA]
 refine gY rfl rfl (nL y.a 13 (by omega) (by omega)) rfl ?_
 simp [-aA,xor_u32]
 refine gY rfl rfl (nL y.a 22 (by omega) (by omega)) rfl ?_
 simp [-aA,xor_u32,add_u32,and_u32,gU,c105_k10]
 generalize htwo:(Sha.rotr y.a 2^^^Sha.rotr y.a 13^^^Sha.rotr y.a 22)+(y.a&&&y.b^^^y.a&&&y.c^^^y.b&&&y.c)=two
 refine mR (fun _=>.val) [5,5] (by decide +kernel) ?_
 simp [-aA,gU,St.room,lD,jN,jX,V.rows,aEz,gJ,kV,c105_k9,c105_k8,add_u32,bY (n:=(i:Int)+1) (by omega) (by omega)]
 refine⟨64-(i+1),by omega,i+1,⟨one+two,y.a,y.b,y.c,y.d+one,y.e,y.f,y.g⟩,rfl,by omega,rfl,rfl,?_⟩
 rw [hnx,← hone,← htwo]
 rfl

theorem aHj {σ:St}{x:D}{l:List UInt8}(hx:LV (.d x) (cC l))(hl:l.length≤1099511627776) :
  Dn.Call Γ cx .raw 121 [.d x] σ fun w s=>App s 1 w (cC l)∧s.objs=σ.objs:=by
 refine Dn.Call.body (fc:=c121) rfl ?_
 have hr:=hx.rows σ
 generalize hrw:cC l=rows at *
 have hfit : ∀ r∈rows,r.length=1:=by rw [← hrw]; exact fJ l
 have hlen:rows.length=l.length:=by rw [← hrw,dJ]
 cases hx with
 | nil =>
  simp [c121,c121_k2,c121_k1,eqV,V.isNil,Opd.isC]
  exact .nil
 | list rows =>
  simp [c121,c121_k2,c121_k1,c121_k0,eqV,V.isNil,Opd.isC,iL,gJ]
  obtain⟨v1,σ1,hap,happ,ho,ht,hdv⟩:=(App.fl (σ:=σ) (sz:=1) []).push (bytes:=1) (by decide) (by simp) (ys:=rows) hfit (by simp; omega) (by simp; omega)
  rw [aH] at happ
  refine gN (v:=v1) (s:=σ1) ?_ ?_
  ·simp [V.rows]
   exact hap none
  ·simp
   exact⟨happ,ho⟩

def aGe (x:D)(l:List UInt8)(m:Nat)(e:Env) (σ:St):Prop:=∃ (j:Nat) (v:V),e=[(0,.d x),(3,v)]∧j≤Sha.zs l.length∧m=Sha.zs l.length-j∧App σ 1 v (cC (l++[128]++aD j 0))

def aAc (n:W64)(j:Nat):List UInt8:=(List.range j).map fun i=>UInt8.ofNat ((n >>> (8*(7-i))).toNat % 256)
theorem aBb (n:W64)(j:Nat):aAc n (j+1)=aAc n j++[UInt8.ofNat ((n >>> (8*(7-j))).toNat % 256)]:=by simp [aAc,List.range_succ]
theorem uJ (n:W64)(j:Nat):(aAc n j).length=j:=by simp [aAc]

def aGf (b:List UInt8)(n:W64)(m:Nat)(e:Env) (σ:St):Prop:=∃ (j:Nat) (v:V),e=[(3,v),(4,.d (.int .u64 (un n))),(5,I (7-(j:Int)))]∧j≤8∧m=8-j∧App σ 1 v (cC (b++aAc n j))

theorem aHv {σ:St}{x:D}{l:List UInt8}(hx:LV (.d x) (cC l))(hl:l.length≤1000000000) :
  Dn.Call Γ cx .raw 103 [.d x] σ fun w s=>App s 1 w (cC (Sha.pad l)):=by
 refine Dn.Call.body (fc:=c103) rfl ?_
 simp [c103,c103_k12]
 refine fF (aHj hx (by omega)) fun w s ⟨hw,ho⟩=>?_
 simp [iL,gJ]
 obtain⟨v1,σ1,hap,happ,ho1,ht,hdv⟩:=hw.push (bytes:=1) (by decide) (fJ _) (ys:=cC [128]) (fJ _) (by simp [dJ]; omega) (by simp [dJ]; omega)
 rw [← iC] at happ
 refine gN (v:=v1) (s:=σ1) ?_ ?_
 ·simp [V.rows]
  exact hap none
 simp [c103_k11]
 refine fK (aGe x l) (m:=Sha.zs l.length) ⟨0,v1,rfl,by omega,by omega,by simpa using happ⟩ ?_
 rintro m e σ ⟨j,v,rfl,hj,rfl,hv⟩
 simp [c103_l10,c103_k9]
 have hlen:=hv.lv.len σ
 rw [dJ] at hlen
 simp at hlen
 have hzs:Sha.zs l.length<64:=by unfold Sha.zs; omega
 have hzm:(l.length+1+Sha.zs l.length+8) % 64=0:=by have:=Sha.pad_mod l; rw [Sha.pad_len] at this; exact this
 have e9:(aJ.wrap ((l.length:Int)+((j:Int)+1)+8)).tmod 64=(((l.length+1+j+8) % 64:Nat):Int):=by
  rw [bY (by omega) (by omega),Int.tmod_eq_emod_of_nonneg (by omega)]
  omega
 by_cases hjz:j=Sha.zs l.length
 rotate_left
 ·have hne:(l.length+1+j+8) % 64≠0:=by unfold Sha.zs at hjz hj; omega
  have hne' : ¬ ((((l.length+1+j+8) % 64:Nat):Int)=0):=by omega
  simp only [hlen]
  simp [e9,-Int.natCast_emod,hne',hne,c103_k8,iL,gJ,oR]
  obtain⟨v2,σ2,hap2,happ2,-,-,-⟩:=hv.push (bytes:=1) (by decide) (fJ _) (ys:=cC [0]) (fJ _) (by simp [dJ]; omega) (by simp [dJ]; omega)
  rw [← iC,bV,← List.replicate_succ'] at happ2
  refine gN (v:=v2) (s:=σ2) ?_ ?_
  ·simp [V.rows]
   exact hap2 none
  simp
  exact⟨Sha.zs l.length-(j+1),by omega,j+1,v2,rfl,by omega,rfl,happ2⟩
 subst hjz
 have hzm2:(l.length+1+Sha.zs l.length+8) % 64=0:=hzm
 have heq:((((l.length+1+Sha.zs l.length+8) % 64:Nat):Int)=0):=by omega
 have hn:bL.wrap (bL.wrap (l.length:Int)*8)=un (BitVec.ofNat 64 (l.length*8)):=by
  have h1:bL.wrap (l.length:Int)=(l.length:Int):=by simp only [IntKind.wrap,IntKind.signed,IntKind.bits]; simp; omega
  rw [h1,show(l.length:Int)*8=((l.length*8:Nat):Int) by omega,wrap_u64n]
 simp only [hlen]
 simp [e9,-Int.natCast_emod,heq,hzm2,c103_k7,c103_k6,c103_k5,hx.len,dJ,hn]
 generalize hb:l++[128]++aD (Sha.zs l.length) 0=b at *
 have hbl:b.length=l.length+1+Sha.zs l.length:=by rw [← hb]; simp; omega
 generalize hN:BitVec.ofNat 64 (l.length*8)=N at *
 refine fK (aGf b N) (m:=8) ⟨0,v,rfl,by omega,rfl,by simpa [aAc,hb] using hv⟩ ?_
 rintro m e σ' ⟨j,v',rfl,hj,rfl,hv'⟩
 simp [c103_l4,c103_k3]
 by_cases hj8:j<8
 ·have hge:(0:Int)≤7-j:=by omega
  have e8:aJ.wrap (8*(7-(j:Int)))=((8*(7-j):Nat):Int):=by rw [bY (by omega) (by omega)]; omega
  have em:aJ.wrap (7-(j:Int)-1)=7-((j+1:Nat):Int):=by rw [bY (by omega) (by omega)]; omega
  have hsh:iM .shr .u64 (un N) ((8*(7-j):Nat):Int)=some (.d (.int .u64 (un (N >>> (8*(7-j)))))):=by
   have h1:min (8*(7-j)) 64=8*(7-j):=by omega
   have h2:bL.bits=64:=rfl
   have h3 : ¬ (((8*(7-j):Nat):Int)<0):=by omega
   simp only [iM,h3,if_false,Int.toNat_natCast,h2,h1,shr_u64]
  have hby:IntKind.u8.wrap (un (N >>> (8*(7-j))))=((UInt8.ofNat ((N >>> (8*(7-j))).toNat % 256)).toNat:Int):=by
   unfold un
   rw [wrap_u8n]
   simp
  have hps:=aBb N j
  generalize hc:UInt8.ofNat ((N >>> (8*(7-j))).toNat % 256)=c at *
  have hle:(j:Int)≤7:=by omega
  obtain⟨v2,σ2,hap2,happ2,-,-,-⟩:=hv'.push (bytes:=1) (by decide) (fJ _) (ys:=cC [c]) (fJ _) (by simp [dJ,uJ]; omega) (by simp [dJ,uJ]; omega)
  rw [← iC,bV,← hps] at happ2
  simp [hle,e8,-Int.natCast_mul,hsh,hby,c103_k2,c103_k1,iL,gJ,oR]
  refine gN (v:=v2) (s:=σ2) ?_ ?_
  ·simp [V.rows]
   exact hap2 none
  simp [em]
  exact⟨8-(j+1),by omega,j+1,v2,rfl,by omega,rfl,happ2⟩
 ·obtain rfl:j=8:=by omega
  simp [c103_k0]
  have:b++aAc N 8=Sha.pad l:=by rw [← hb,← hN]; rfl
  rw [← this]
  exact hv'

theorem aHb (n:Nat)(d:D):iL n [d]=aD n (.d d):=by
 induction n with
 | zero=>rfl
 | succ n ih=>simp [iL,ih,List.replicate_succ]

theorem aIM {σ:St}{n:Nat}(h0:0<n)(hn:n≤1000000000):Dn.Call Γ cx .raw 122 [.d .nils,I n] σ fun w s=>w = .sl σ.objs.length 0 0 1∧s=⟨σ.objs++[.cells (aD n (Y 0))],σ.toks⟩:=by
 refine Dn.Call.body (fc:=c122) rfl ?_
 have e0 : ¬ ((n:Int)<0):=by omega
 have e1:aJ.wrap ((n:Int)-aJ.wrap 0)=n:=by
  have:aJ.wrap 0=0:=rfl
  rw [this,bY (by omega) (by omega)]; omega
 have e2:(0:Int)<n:=by omega
 simp [c122,c122_k5,c122_k4,c122_k3,c122_k2,c122_k1,c122_k0,e0,e1,e2,gZ,Dn.lenV,mD,kL,jN,jX,h0]
 refine gN (v:=.sl σ.objs.length 0 n 1) (s:=⟨σ.objs++[.cells (aD n (Y 0))],σ.toks⟩) ?_ ?_
 ·have e3:(n:Int)≤140737488355328:=by omega
  have e4:(n:Int)≤9223372036854775807:=by omega
  simp [e3,e4,h0,newObj,St.place,St.push,St.spot,aHb]
 simp [c122_k0,gZ,Dn.lenV,mD,kL,jN,jX]
 done

abbrev sY:=D×List UInt8
def jK (ps:List sY):List (List D):=ps.map fun p=>[p.1]
def gL (ps:List sY):List UInt8:=(ps.map (·.2)).flatten
def byV (l:List UInt8):List V:=l.map fun b=>Y b.toNat
theorem hU (l:List UInt8):(byV l).length=l.length:=by simp [byV]
theorem wW (ps:List sY){i:Nat}{p:sY}(h:ps[i]?=some p):gL (ps.take (i+1))=gL (ps.take i)++p.2:=by
 obtain⟨hi,rfl⟩:=aB.1 h
 unfold gL
 rw [← aZ hi]
 simp only [List.map_append,List.flatten_append]
 simp
theorem mN (ps:List sY)(i:Nat):gL ps=gL (ps.take i)++gL (ps.drop i):=by
 unfold gL
 rw [← List.flatten_append,← List.map_append,List.take_append_drop]

theorem aIc (a b:List UInt8):byV (a++b)=byV a++byV b:=by simp [byV]
theorem aCn (b:List UInt8):(cC b).flatten.map V.d=byV b:=by
 induction b with
 | nil=>rfl
 | cons c r ih=>simp [cC,byV] at ih ⊢; exact ih
theorem aD8 (a b:List UInt8)(k:Nat)(hk:b.length≤k):splice (byV a++aD k (Y 0)) a.length (byV b)=byV (a++b)++aD (k-b.length) (Y 0):=by
 unfold splice
 rw [aIc,hU]
 rw [List.take_append_of_le_length (by rw [hU]; exact bB _),aK (by rw [hU]; exact bB _)]
 rw [List.drop_append]
 rw [bT (by rw [hU]; omega),hU,aH,List.drop_replicate]
 congr 2
 omega
theorem nJ (l:List UInt8):ofD (byV l)=some (l.map fun b=>.int .u8 b.toNat):=by
 induction l with
 | nil=>rfl
 | cons a r ih=>simp only [byV,aI,ofD] at ih ⊢; rw [ih]
theorem vS : ∀ l:List UInt8,gJ 1 l.length (l.map fun b=>D.int .u8 b.toNat)=cC l
 | []=>rfl
 | a::r=>by
  have:=vS r
  simp [gJ,cC] at this ⊢
  exact this

def aEi (ps:List sY)(x:D)(m:Nat)(e:Env) (σ:St):Prop:=∃ i:Nat,e=[(0,.d x),(3,I (gL (ps.take i)).length),(9,.d x),(10,I ps.length),(11,I i)]∧i≤ps.length∧m=ps.length-i∧σ=St.empty
def aHN (ps:List sY)(x:D)(n:Nat)(m:Nat)(e:Env) (σ:St):Prop:=∃ i:Nat,e=[(6,.sl 0 0 (gL (ps.take i)).length 1),(25,.d x),(26,I ps.length),(27,I i)]∧i≤ps.length∧m=ps.length-i∧σ=⟨[.cells (byV (gL (ps.take i))++aD (n-(gL (ps.take i)).length) (Y 0))],[]⟩

theorem aFJ {ps:List sY}{x:D}(hx:LV (.d x) (jK ps))(hps : ∀ p∈ps,LV (.d p.1) (cC p.2))(hn:0<(gL ps).length)(hN:(gL ps).length≤1000000000)(hpl:ps.length≤1000000000) :
  Dn.Call Γ cx .val 104 [.d x] St.empty fun w _=>w = .d (.list (cC (gL ps))):=by
 refine Dn.Call.body (fc:=c104) rfl ?_
 have hlx : ∀ σ,gZ σ .slice (.d x)=some ps.length:=fun σ=>by rw [hx.len]; simp [jK]
 simp [c104,c104_k17,c104_k16,c104_k15,hlx]
 refine fK (aEi ps x) (m:=ps.length) ⟨0,rfl,by omega,by omega,rfl⟩ ?_
 rintro m e σ ⟨i,rfl,hi,rfl,rfl⟩
 simp [c104_l14,c104_k13]
 have hsp:=mN ps i
 by_cases hil:i<ps.length
 ·obtain⟨p,hp⟩ : ∃ p,ps[i]?=some p:=⟨ps[i],by simp [hil]⟩
  have hpm:=aL hp
  have hrow:(jK ps)[i]?=some [p.1]:=by simp [jK,hp]
  have hia:=hx.iaddr St.empty (k:=.i64) (sz:=1) hrow rfl
  have hpl2:=(hps p hpm).len St.empty
  rw [dJ] at hpl2
  have hjt:=wW ps hp
  have hsp1:=mN ps (i+1)
  have hjl:(gL (ps.take (i+1))).length=(gL (ps.take i)).length+p.2.length:=by rw [hjt]; simp
  have hjn:(gL (ps.take (i+1))).length≤1000000000:=by
   have:(gL ps).length=(gL (ps.take (i+1))).length+(gL (ps.drop (i+1))).length:=by rw [hsp1]; simp
   omega
  have e1:aJ.wrap (((gL (ps.take i)).length:Int)+(p.2.length:Int))=((gL (ps.take (i+1))).length:Int):=by
   rw [bY (by omega) (by omega)]; omega
  have e2 : ¬ (((gL (ps.take (i+1))).length:Int)<0):=by omega
  have hia':jA ⟨[],[]⟩ 1 (.d x) (.d (.int .i64 (i:Int)))=some (.ro [p.1]):=hia
  have hpl3:gZ ⟨[],[]⟩ .slice (.d p.1)=some p.2.length:=hpl2
  simp [hil,c104_k12,c104_k11,c104_k10,c104_k9,c104_k8,hia',hpl3,e1,e2,bY (n:=(i:Int)+1) (by omega) (by omega)]
  exact⟨ps.length-(i+1),by omega,i+1,rfl,by omega,rfl,rfl⟩
 ·obtain rfl:i=ps.length:=by omega
  simp [c104_k7]
  refine fF (aIM hn hN) fun w s ⟨hw,hs⟩=>?_
  subst hw hs
  simp [c104_k6,c104_k5,hlx]
  refine fK (aHN ps x (gL ps).length) (m:=ps.length) ⟨0,rfl,by omega,by omega,by simp [gL,byV]⟩ ?_
  rintro m e σ ⟨i,rfl,hi,rfl,rfl⟩
  simp [c104_l4,c104_k3]
  have hsp:=mN ps i
  have hl0:(gL ps).length=(gL (ps.take i)).length+(gL (ps.drop i)).length:=by rw [hsp]; simp
  by_cases hil:i<ps.length
  ·obtain⟨p,hp⟩ : ∃ p,ps[i]?=some p:=⟨ps[i],by simp [hil]⟩
   have hpm:=aL hp
   have hrow:(jK ps)[i]?=some [p.1]:=by simp [jK,hp]
   have hia:=fun σ=>hx.iaddr σ (k:=.i64) (sz:=1) hrow rfl
   have hrw:=fun σ=>(hps p hpm).rows σ
   have hjt:=wW ps hp
   have hsp1:=mN ps (i+1)
   have hjl:(gL (ps.take (i+1))).length=(gL (ps.take i)).length+p.2.length:=by rw [hjt]; simp
   have hjn:(gL ps).length=(gL (ps.take (i+1))).length+(gL (ps.drop (i+1))).length:=by rw [hsp1]; simp
   simp [hil,c104_k2,c104_k1,hia]
   refine gN (v:=.sl 0 0 (gL (ps.take (i+1))).length 1) (s:=⟨[.cells (byV (gL (ps.take (i+1)))++aD ((gL ps).length-(gL (ps.take (i+1))).length) (Y 0))],[]⟩) ?_ ?_
   ·have hfr:=fitR_iff.2 (fJ p.2)
    have e1:(gL (ps.take i)).length+p.2.length≤(gL (ps.take i)).length+((gL ps).length-(gL (ps.take i)).length):=by omega
    have e2:=aD8 (gL (ps.take i)) p.2 ((gL ps).length-(gL (ps.take i)).length) (by omega)
    have e3:(gL ps).length-(gL (ps.take i)).length-p.2.length=(gL ps).length-(gL (ps.take (i+1))).length:=by omega
    rw [e3,← hjt] at e2
    simp only [dM,Env.get,if_true,hrw,jE,hfr,Opd.ev]
    simp [-splice,hrw,jE,hfr,dJ,hU,e1,St.setObj,aCn,hjl]
    rw [← List.map_flatten,aCn,e2,hjl]
   ·simp [bY (n:=(i:Int)+1) (by omega) (by omega)]
    exact⟨ps.length-(i+1),by omega,i+1,rfl,by omega,rfl,rfl⟩
  ·obtain rfl:i=ps.length:=by omega
   simp [c104_k0,V.byVal,V.rows,hU,nJ,aK,vS]
theorem aIN {σ:St}:Dn.Call Γ cx .raw 122 [.d .nils,I 0] σ fun w s=>w = .d .nils∧s=σ:=by
 refine Dn.Call.body (fc:=c122) rfl ?_
 have e1:aJ.wrap 0=0:=rfl
 simp [c122,c122_k5,c122_k4,c122_k3,c122_k2,c122_k1,c122_k0,e1,gZ,Dn.lenV]

def aHO (ps:List sY)(x:D)(m:Nat)(e:Env) (σ:St):Prop:=∃ i:Nat,e=[(6,.d .nils),(25,.d x),(26,I ps.length),(27,I i)]∧i≤ps.length∧m=ps.length-i∧σ=St.empty

theorem zJ {ps:List sY}(h0:gL ps=[]){p:sY}(hp:p∈ps):p.2=[]:=by
 unfold gL at h0
 rw [List.flatten_eq_nil_iff] at h0
 exact h0 _ (aT.2 ⟨p,hp,rfl⟩)
theorem aBI {ps:List sY}(h0:gL ps=[])(i:Nat):gL (ps.take i)=[]:=by
 have:=mN ps i
 rw [h0] at this
 exact(List.append_eq_nil_iff.1 this.symm).1

theorem aFK {ps:List sY}{x:D}(hx:LV (.d x) (jK ps))(hps : ∀ p∈ps,LV (.d p.1) (cC p.2))(hn:gL ps=[])(hpl:ps.length≤1000000000) :
  Dn.Call Γ cx .val 104 [.d x] St.empty fun w _=>w = .d .nils:=by
 refine Dn.Call.body (fc:=c104) rfl ?_
 have hlx : ∀ σ,gZ σ .slice (.d x)=some ps.length:=fun σ=>by rw [hx.len]; simp [jK]
 simp [c104,c104_k17,c104_k16,c104_k15,hlx]
 refine fK (aEi ps x) (m:=ps.length) ⟨0,rfl,by omega,by omega,rfl⟩ ?_
 rintro m e σ ⟨i,rfl,hi,rfl,rfl⟩
 have ht0:=aBI hn
 simp [c104_l14,c104_k13,ht0]
 by_cases hil:i<ps.length
 ·obtain⟨p,hp⟩ : ∃ p,ps[i]?=some p:=⟨ps[i],by simp [hil]⟩
  have hpm:=aL hp
  have hrow:(jK ps)[i]?=some [p.1]:=by simp [jK,hp]
  have hia':jA ⟨[],[]⟩ 1 (.d x) (.d (.int .i64 (i:Int)))=some (.ro [p.1]):=hx.iaddr St.empty (k:=.i64) (sz:=1) hrow rfl
  have hpl2:=(hps p hpm).len St.empty
  rw [dJ,zJ hn hpm] at hpl2
  have hpl3:gZ ⟨[],[]⟩ .slice (.d p.1)=some 0:=hpl2
  have e1:aJ.wrap 0=0:=rfl
  simp [hil,c104_k12,c104_k11,c104_k10,c104_k9,c104_k8,hia',hpl3,e1,bY (n:=(i:Int)+1) (by omega) (by omega)]
  exact⟨ps.length-(i+1),by omega,i+1,by simp [ht0],by omega,rfl,rfl⟩
 ·obtain rfl:i=ps.length:=by omega
  simp [c104_k7]
  refine fF aIN fun w s ⟨hw,hs⟩=>?_
  subst hw hs
  simp [c104_k6,c104_k5,hlx]
  refine fK (aHO ps x) (m:=ps.length) ⟨0,rfl,by omega,by omega,rfl⟩ ?_
  rintro m e σ ⟨i,rfl,hi,rfl,rfl⟩
  simp [c104_l4,c104_k3]
  by_cases hil:i<ps.length
  ·obtain⟨p,hp⟩ : ∃ p,ps[i]?=some p:=⟨ps[i],by simp [hil]⟩
   have hpm:=aL hp
   have hrow:(jK ps)[i]?=some [p.1]:=by simp [jK,hp]
   have hia:=fun σ=>hx.iaddr σ (k:=.i64) (sz:=1) hrow rfl
   have hrw:=fun σ=>(hps p hpm).rows σ
   rw [zJ hn hpm] at hrw
   simp [hil,c104_k2,c104_k1,hia]
   refine gN (v:=.d .nils) (s:=St.empty) ?_ ?_
   ·simp only [dM,Env.get,if_true,if_false,Opd.ev,hrw,reduceCtorEq,Nat.reduceEqDiff]
    simp [hrw,jE,cC,kV,V.rows]
   ·simp [bY (n:=(i:Int)+1) (by omega) (by omega)]
    exact⟨ps.length-(i+1),by omega,i+1,rfl,by omega,rfl,rfl⟩
  ·obtain rfl:i=ps.length:=by omega
   simp [c104_k0,V.byVal]

theorem aHm {ps:List sY}{x:D}(hx:LV (.d x) (jK ps))(hps : ∀ p∈ps,LV (.d p.1) (cC p.2))(hN:(gL ps).length≤1000000000)(hpl:ps.length≤1000000000) :
  Dn.Call Γ cx .val 104 [.d x] St.empty fun w _=>∃ d,w = .d d∧LV (.d d) (cC (gL ps)):=by
 by_cases h0:gL ps=[]
 ·exact Call.mono (fun v s hv=>⟨_,hv,by rw [h0]; exact .nil⟩) (aFK hx hps h0 hpl)
 ·exact Call.mono (fun v s hv=>⟨_,hv,.list _⟩) (aFJ hx hps (List.length_pos_iff.2 h0) hN hpl)

def aGc (r rs rn n:Nat)(rows:List (List D))(J:Nat→St→Prop)(m:Nat)(e:Env) (σ:St):Prop:=∃ i:Nat,e=[(0,.yld r),(1,.ref rs 0),(2,.ref rn 0),(4,I ((i*n:Nat):Int))]∧m=rows.length-i*n∧J i σ∧∀ j,j<i→j*n<rows.length

theorem aD7 {v:V}{rows:List (List D)}(hv:LV v rows){sz lo hi:Nat}(hf : ∀ r∈rows,r.length=sz)(h1:lo<hi)(h2:hi≤rows.length):kL sz v lo hi (some hi)=some (.fl ((rows.drop lo).take (hi-lo))):=by
 have hf':=fitR_iff.2 hf
 cases hv with
 | nil=>simp at h2; omega
 | list rows=>simp [kL,hf',h2]
 | fl rows=>simp [kL,hf',h2]
 | tl rows t st s=>simp [kL,hf',h2]

theorem aHi {σ:St}{r rs rn n:Nat}{v:V}{rows:List (List D)}(hn:0<n)(hnb:n≤1000000)(hv:LV v rows)(hfit : ∀ x∈rows,x.length=1)(hts : ∀ r t st s,v = .tl r t st s→s=1)(hl:rows.length≤1000000000000)
  (J:Nat→St→Prop) (h0:J 0 σ) (hst : ∀ i s,J i s→s.objs[rs]?=some (.cells [v])∧s.objs[rn]?=some (.cells [I n]))
  (hround : ∀ i s,J i s→i*n<rows.length→Dn.Call Γ cx .rnd r [.fl ((rows.drop (i*n)).take n)] s fun w s'=>w=B true∧J (i+1) s') :
  Dn.Call Γ cx .raw 120 [.yld r,.ref rs 0,.ref rn 0] σ fun _ s=>∃ k,J k s∧rows.length≤k*n∧∀ j,j<k→j*n<rows.length:=by
 refine Dn.Call.body (fc:=c120) rfl ?_
 simp [c120,c120_k7]
 refine fK (aGc r rs rn n rows J) (m:=rows.length) ⟨0,by simp [Env.pick,Env.get],by simp,h0,fun j hj=>by omega⟩ ?_
 rintro m e σ ⟨i,rfl,rfl,hJ,hlt⟩
 obtain⟨hs,hnn⟩:=hst i σ hJ
 have hlen:=hv.len σ
 obtain⟨p,hp⟩ : ∃ p,i*n=p:=⟨_,rfl⟩
 have hr1:=hround i σ hJ
 rw [hp] at hr1 ⊢
 simp [c120_l6,c120_k5,hs,hnn,hlen]
 by_cases hil:p<rows.length
 rotate_left
 ·have h1 : ¬ ((p:Int)<(rows.length:Int)):=by omega
  simp [h1,hil]
  exact⟨i,hJ,by omega,hlt⟩
 have h1:((p:Int)<(rows.length:Int)):=by omega
 simp [h1,hil,c120_k4,c120_k3]
 refine mR (fun _=>.val) [2,1] (by decide +kernel) ?_
 obtain⟨z,hz,hzl,-⟩:=hv.slice σ hfit hts (lo:=p) (hi:=rows.length) (by omega) (bB _)
 have hlv:=hv.lenV σ
 have hsx:mD σ 1 v (some (I p)) none none=some z:=by simp [mD,hlv,jN,jX,hz,show p≤rows.length by omega]
 have hzlen:=hzl.len σ
 have hdl:(List.take (rows.length-p) (rows.drop p)).length=rows.length-p:=by simp
 rw [hdl] at hzlen
 obtain⟨t,ht⟩ : ∃ t,min n (rows.length-p)=t:=⟨_,rfl⟩
 have hmin:vL [I n,I ((rows.length-p:Nat):Int)]=some (I t):=by
  have:pH (n:Int) [I ((rows.length-p:Nat):Int)] .i64=some (min (n:Int) ((rows.length-p:Nat):Int)):=by
   simp [pH]
   split <;> omega
  simp only [vL,this]
  congr 3
  omega
 have htk:(rows.drop p).take t=(rows.drop p).take n:=by
  rcases Nat.le_total n (rows.length-p) with h | h
  ·rw [Nat.min_eq_left h] at ht; rw [← ht]
  ·rw [Nat.min_eq_right h] at ht
   rw [aK (i:=n) (by simp; omega),← ht,aK (by simp)]
 have hsx3:mD σ 1 v (some (I p)) (some (.d (.int .i64 ((p:Int)+(t:Int))))) (some (.d (.int .i64 ((p:Int)+(t:Int)))))=some (.fl ((rows.drop p).take n)):=by
  have h3:=aD7 hv (lo:=p) (hi:=p+t) hfit (by omega) (by omega)
  rw [Nat.add_sub_cancel_left,htk] at h3
  have e1:((p:Int)+(t:Int)).toNat=p+t:=by omega
  have e2:(p:Int)+(t:Int)≤rows.length:=by omega
  have e3:(0:Int)≤(p:Int)+t:=by omega
  simp [mD,hlv,jN,jX,h3,e1,e2,e3]
  try omega
 simp [dB,hs,hnn,hsx,hzlen,hmin,hsx3,c120_k2,bY (n:=(p:Int)+t) (by omega) (by omega)]
 refine⟨_,hr1 hil,fun w s ⟨hw,hJ'⟩=>?_⟩
 obtain⟨-,hn2⟩:=hst (i+1) s hJ'
 subst hw
 have hp1:(i+1)*n=p+n:=by rw [bJ,hp,Nat.one_mul]
 simp [c120_k1,c120_k0,hn2,bY (n:=(p:Int)+n) (by omega) (by omega)]
 refine⟨rows.length-(p+n),by omega,i+1,by rw [hp1]; rfl,by rw [hp1],hJ',fun j hj=>?_⟩
 rcases bR j i with h | h
 ·exact hlt j h
 ·obtain rfl:j=i:=by omega
  omega

theorem aIL {σ:St}{v:V}{n:Nat}(hn:0<n)(hc:v.cells=some [v]):Dn.Call Γ cx .raw 102 [v,I n] σ fun w s=>w = .fn (.func 120) [] [.ref σ.objs.length 0,.ref (σ.objs.length+1) 0]∧s=⟨σ.objs++[.cells [v],.cells [I n]],σ.toks⟩:=by
 refine Dn.Call.body (fc:=c102) rfl ?_
 have h1 : ¬ ((n:Int)<1):=by omega
 have e1:(σ.objs++[Dn.Obj.cells [v],Dn.Obj.cells [I n]])[σ.objs.length+1]?=some (.cells [I n]):=by
  rw [bH (by omega)]
  simp
 simp [c102,c102_k2,c102_k1,c102_k0,hc,h1,e1]

theorem App.frozen {σ:St}{sz:Nat}{v:V}{rows:List (List D)}(h:App σ sz v rows)(hne:rows≠[]):V.byVal σ v=some (.d (.list rows)):=by
 cases h with
 | nil=>exact absurd rfl hne
 | fl=>rfl
 | tl=>rfl

theorem aFP {x:D}{l:List UInt8}(hx:LV (.d x) (cC l))(hl:l.length≤1000000000) :
  Dn.Call Γ cx .val 103 [.d x] St.empty fun w _=>w = .d (.list (cC (Sha.pad l))) :=
 Call.as_val (fc:=c103) rfl rfl (aHv hx hl) fun v s h=>⟨_,App.frozen h (by
  intro e
  have:=congrArg List.length e
  rw [dJ,Sha.pad_len] at this
  simp at this),rfl⟩

theorem aD6 (l:List UInt8){k:Nat}(h1:(Sha.pad l).length≤k*64)(h2 : ∀ j,j<k→j*64<(Sha.pad l).length):k=(Sha.pad l).length / 64:=by
 have hm:=Sha.pad_mod l
 rcases Nat.eq_zero_or_pos k with h | h
 ·subst h; omega
 ·have:=h2 (k-1) (by omega)
  omega

def cG (l:List UInt8):List D:=l.map fun b=>.int .u8 b.toNat
def aHf:Env:=[(2,.ref 0 0),(3,.ref 1 0)]
def aBp (l:List UInt8)(i:Nat)(s:St):Prop:=s=⟨[.cells (aD 32 (Y 0)),.cells ((wds (Sha.hN (Sha.pad l) i).l).map .d),.cells [.d (.list (cC (Sha.pad l)))],.cells [I 64],.loop aHf [12] c90_a9 c90_b10 .ready],[]⟩

def vN (l:List UInt8)(n i:Nat):List UInt8:=l.take i++aD (n-i) 0
theorem aCU (l:List UInt8){n i:Nat}(hl:l.length=n)(hi:i≤n):(vN l n i).length=n:=by simp [vN]; omega
theorem aCV (l:List UInt8){n i:Nat}(hl:l.length=n){c:UInt8}(h:l[i]?=some c):(vN l n i).set i c=vN l n (i+1):=by
 obtain⟨hi,rfl⟩:=aB.1 h
 unfold vN
 rw [← aZ hi,show n-i=(n-(i+1))+1 by omega,List.replicate_succ]
 rw [List.set_append_right _ _ (by simp; omega)]
 have:i-(l.take i).length=0:=by simp; omega
 rw [this,List.set_cons_zero,bV]
 rfl
theorem aBa (l:List UInt8){n:Nat}(hl:l.length=n):vN l n n=l:=by simp [vN,← hl]
theorem aEv (l:List UInt8)(i:Nat)(hi:i<l.length)(c:UInt8):List.take i (byV l)++V.d (.int .u8 (c.toNat:Int))::List.drop (i+1) (byV l)=byV (l.set i c):=by
 unfold byV
 rw [List.map_set,List.set_eq_take_append_cons_drop]
 simp [hi]

theorem mZ (l:List UInt8):ofD (byV l)=some (cG l):=nJ l
theorem iH (l:List UInt8):(cG l).map V.d=byV l:=by simp [cG,byV]
theorem fG (l:List UInt8):(cG l).length=l.length:=by simp [cG]

def aJv (H:Sha.S8)(rows:List (List D))(m:Nat)(e:Env)(s:St):Prop:=∃ i:Nat,e=[(2,.ref 0 0),(3,.ref 1 0),(5,.ref 5 0),(16,I i)]∧i≤32∧m=32-i ∧
 s=⟨[.cells (aD 32 (Y 0)),.cells ((wds H.l).map .d),.cells [.d (.list rows)],.cells [I 64],.dead,.cells (byV (vN (Sha.out H) 32 i))],[]⟩

theorem aJl {ps:List sY}{x:D}(hx:LV (.d x) (jK ps))(hps : ∀ p∈ps,LV (.d p.1) (cC p.2))(hN:(gL ps).length≤1000000000)(hpl:ps.length≤1000000000) :
  Dn.Call Γ cx .val 90 [.d x] St.empty fun w _=>w = .da (cG (Sha.sha (gL ps))):=by
 refine Dn.Call.body (fc:=c90) rfl ?_
 simp [-aA,c90,c90_k13,c90_k12,g0,lY]
 refine kA rfl (aHm hx hps hN hpl) fun w _ ⟨y,hw,hy⟩=>?_
 subst hw
 refine⟨rfl,fun h=>by simp [V.borrows] at h,?_⟩
 simp [-aA]
 refine gI rfl (aFP hy hN) rfl ?_
 clear hy
 simp [-aA]
 refine fF (aIL (n:=64) (by omega) rfl) fun w s ⟨hw,hs⟩=>?_
 subst hw hs
 simp [-aA,c90_k11]
 generalize gL ps=L at *
 refine⟨_,aHi (n:=64) (by omega) (by omega) (LV.list (cC (Sha.pad L))) (fJ _) (by rintro r t st s h; cases h) (by rw [dJ,Sha.pad_len]; unfold Sha.zs; omega) (aBp L) ?_ ?_ ?_,?_⟩
 ·simp [aBp,aHf,-aA,Sha.hN,lY,Sha.H0]
 ·rintro i s rfl
  exact⟨rfl,rfl⟩
 ·rintro i s rfl hi
  refine Call.rnd (e:=aHf) (ps:=[12]) (a:=c90_a9) (b:=c90_b10) rfl rfl ?_
  have hlen64:(((Sha.pad L).drop (i*64)).take 64).length=64:=by
   have:=Sha.pad_mod L
   rw [dJ] at hi
   simp
   omega
  have htk:=aKz (Sha.hN (Sha.pad L) i) (v:=.list (cC (((Sha.pad L).drop (i*64)).take 64))) (.list _) hlen64
  rw [sZ,tA]
  have hnx:Sha.hN (Sha.pad L) (i+1)=Sha.take (Sha.hN (Sha.pad L) i) (((Sha.pad L).drop (i*64)).take 64):=by rw [Sha.hN,Nat.mul_comm]
  generalize ((Sha.pad L).drop (i*64)).take 64=blk at *
  unfold aBp
  rw [hnx]
  generalize Sha.hN (Sha.pad L) i=y at *
  generalize Sha.take y blk=z at *
  simp [-aA,aHf,c90_a9,c90_b10,lY]
  simp only [lY] at htk
  refine gI (ds:=[.da (wds y.l),.d (.list (cC blk))]) rfl htk (by simp [V.pure,V.scalars,V.scalar,D.scalar]) ?_
  simp [-aA,aBp,aHf,lY]
 ·rintro v s ⟨k,rfl,hk1,hk2⟩
  refine aBd rfl ?_
  rw [dJ] at hk1 hk2
  have hkk:=aD6 L hk1 hk2
  have hsha:Sha.sha L=Sha.out (Sha.hN (Sha.pad L) k):=by rw [Sha.sha,hkk]
  rw [hsha]
  generalize Sha.hN (Sha.pad L) k=H
  simp [-aA,c90_k8,c90_k7,c90_k6]
  refine fK (aJv H (cC (Sha.pad L))) (m:=32) ⟨0,rfl,by omega,rfl,by simp [byV,vN,-aA]⟩ ?_
  rintro m e σ ⟨i,rfl,hi,rfl,rfl⟩
  simp [-aA,c90_l5,c90_k4,c90_k3]
  by_cases hil:i<32
  ·have hii:(i:Int)<32:=by omega
   have eq:((i:Int).tdiv 4)=((i / 4:Nat):Int):=by rw [Int.tdiv_eq_ediv_of_nonneg (by omega)]; omega
   have er:((i:Int).tmod 4)=((i % 4:Nat):Int):=by rw [Int.tmod_eq_emod_of_nonneg (by omega)]; omega
   have e3:aJ.wrap (3-((i % 4:Nat):Int))=((3-i % 4:Nat):Int):=by rw [bY (by omega) (by omega)]; omega
   have e8:aJ.wrap (8*((3-i % 4:Nat):Int))=((8*(3-i % 4):Nat):Int):=by rw [bY (by omega) (by omega)]; omega
   have hw:H.l[i / 4]?=some (H.l.getD (i / 4) 0):=by
    have:i / 4<H.l.length:=by simp [Sha.S8.l]; omega
    rw [bA,bO this]
    rfl
   have hsh:=sB (H.l.getD (i / 4) 0) (8*(3-i % 4)) (by omega)
   have hby:IntKind.u8.wrap (un (H.l.getD (i / 4) 0 >>> (8*(3-i % 4))))=((UInt8.ofNat ((H.l.getD (i / 4) 0 >>> (8*(3-i % 4))).toNat % 256)).toNat:Int):=by
    unfold un
    rw [wrap_u8n]
    simp
   have hout:(Sha.out H)[i]?=some (UInt8.ofNat ((H.l.getD (i / 4) 0 >>> (8*(3-i % 4))).toNat % 256)):=by simp [Sha.out,hil]
   generalize UInt8.ofNat ((H.l.getD (i / 4) 0 >>> (8*(3-i % 4))).toNat % 256)=c at *
   generalize H.l.getD (i / 4) 0 >>> (8*(3-i % 4))=sh at *
   have e4:aJ.wrap ((i / 4:Nat):Int)=((i / 4:Nat):Int):=bY (by omega) (by omega)
   have hq8:i / 4<8:=by omega
   have hr8:8*(3-i % 4)<32:=by omega
   have hol:(Sha.out H).length=32:=by simp [Sha.out]
   have hos:=aCV (Sha.out H) hol hout
   have hal:=aCU (Sha.out H) hol hi
   have hbs:=aEv (vN (Sha.out H) 32 i) i (by omega) c
   generalize H.l.getD (i / 4) 0=wv at *
   generalize 8*(3-i % 4)=s8 at *
   generalize i / 4=q4 at *
   generalize 3-i % 4=r4 at *
   generalize i % 4=m4 at *
   simp [-aA,hii,c90_k2,c90_k1,eq,er,e3,e8,e4,hX hq8,hX hil,kF hw,hsh,hby,hU,hal,hbs,show i+1≤32 by omega,hos,bY (n:=(i:Int)+1) (by omega) (by omega)]
   exact⟨32-(i+1),by omega,i+1,rfl,by omega,rfl,rfl⟩
  ·obtain rfl:i=32:=by omega
   have hol:(Sha.out H).length=32:=by simp [Sha.out]
   rw [aBa _ hol]
   simp [-aA,c90_k0,hU,hol,aK,mZ,iH,fG,V.byVal]

theorem aDP (l:List UInt8):(V.da (cG l)).pure=true∧(V.da (cG l)).scalars=true:=by simp [V.pure,V.scalars,V.scalar,D.scalar,cG]
theorem pW (l:List UInt8){b:Bool}:((V.da (cG l)).pure&&(!b||(V.da (cG l)).scalars))=true:=by simp [aDP]
theorem aDQ {l:List UInt8}{n:Nat}(h:l.length=n):gJ 1 n (cG l)=cC l:=by rw [← h]; exact vS l

theorem aLn (x:D):gJ 1 1 [x]=[[x]]:=rfl

theorem aHn {ps:List sY}{x:D}(hx:LV (.d x) (jK ps))(hps : ∀ p∈ps,LV (.d p.1) (cC p.2))(hN:(gL ps).length≤1000000000)(hpl:ps.length≤1000000000) :
  Dn.Call Γ cx .val 69 [.d x] St.empty fun w _=>w = .da (cG (Sha.dbl (gL ps))):=by
 refine Dn.Call.body (fc:=c69) rfl ?_
 simp [-aA,c69,c69_k1]
 refine gI rfl (aJl hx hps hN hpl) (pW _) ?_
 have hl:=Sha.sha_len (gL ps)
 unfold Sha.dbl
 generalize Sha.sha (gL ps)=a at *
 simp [-aA,c69_k0,iH,hU,hl,fG,lD,jN,jX,iL,oR,ofD,V.rows,aK,mZ,aLn,aDQ hl]
 have hxs:LV (.d (.list [[.list (cC a)]])) (jK [(.list (cC a),a)]):=.list _
 have hj:gL [((.list (cC a):D),a)]=a:=by simp [gL]
 have h2:=aJl (ps:=[(.list (cC a),a)]) hxs (by intro p hp; simp at hp; subst hp; exact .list _) (by rw [hj]; omega) (by simp)
 rw [hj] at h2
 refine gI rfl h2 (pW _) ?_
 have hl2:=Sha.sha_len a
 generalize Sha.sha a=z at *
 simp [-aA,iH,hU,fG,hl2,V.byVal,mZ,aK]

theorem pP (x:W32)(k:Nat)(h1:1≤k)(h2:k<32):Dn.Call Γ cx .val 118 [W x,U k] St.empty fun v _=>v=W (Sha.rotr x k):=by
 refine Dn.Call.body (fc:=c118) rfl ?_
 have e1:bL.wrap (32-(k:Int))=((32-k:Nat):Int):=by simp only [IntKind.wrap,IntKind.signed,IntKind.bits]; simp; omega
 have e2:=vX x (32-k) (by omega)
 have e3:=sB x k h2
 simp [c118,c118_k0,e1,e2,e3,or_u32,Sha.rotl]
 rw [Sha.rotr_r]

def aGa (l:List UInt8)(m:Nat)(e:Env) (σ:St):Prop:=∃ (i:Nat) (v:V),e=[(1,.ref 0 0),(3,v),(4,I i)]∧i≤32∧m=32-i∧σ.objs=[.cells (byV l)]∧App σ 1 v (cC (l.take i))

theorem aIV {l:List UInt8}(hl:l.length=32):Dn.Call Γ cx .val 98 [.da (cG l)] St.empty fun v _=>v = .d (.list (cC l)):=by
 refine Dn.Call.body (fc:=c98) rfl ?_
 simp [c98,c98_k7,c98_k6,c98_k5,iH]
 refine fK (aGa l) (m:=32) ⟨0,_,rfl,by omega,rfl,rfl,.nil⟩ ?_
 rintro m e σ ⟨i,v,rfl,hi,rfl,hobj,hv⟩
 simp [c98_l4,c98_k3]
 by_cases hil:i<32
 ·have hii:(i:Int)<32:=by omega
  have hb:(byV l)[i]?=some (Y (l[i]'(by omega)).toNat):=by simp [byV,bO (show i<l.length by omega)]
  have hta:l.take (i+1)=l.take i++[l[i]'(by omega)]:=(aZ (by omega)).symm
  generalize l[i]'(by omega)=c at *
  obtain⟨v2,σ2,hap2,happ2,ho2,-,-⟩:=hv.push (bytes:=1) (by decide) (fJ _) (ys:=cC [c]) (fJ _) (by simp [dJ]; omega) (by simp [dJ]; omega)
  rw [← iC,← hta] at happ2
  simp [hii,c98_k2,c98_k1,hX hil,hobj,hb,iL,gJ,oR]
  refine gN (v:=v2) (s:=σ2) ?_ ?_
  ·simp [V.rows]
   exact hap2 none
  simp [bY (n:=(i:Int)+1) (by omega) (by omega)]
  exact⟨32-(i+1),by omega,i+1,v2,rfl,by omega,rfl,by rw [ho2,hobj],happ2⟩
 ·obtain rfl:i=32:=by omega
  rw [aK (by omega)] at hv
  have hfz:=App.frozen hv (by intro e; have:=congrArg List.length e; rw [dJ,List.length_nil] at this; omega)
  simp [c98_k0,hfz]

theorem or8 (x:W32)(c:UInt8)(hx:x.toNat<16777216):((x <<< 8)|||BitVec.ofNat 32 c.toNat).toNat=x.toNat*256+c.toNat:=by
 have hc:c.toNat<256:=c.toNat_lt
 have h1:(x <<< 8).toNat=x.toNat <<< 8:=by
  rw [BitVec.toNat_shiftLeft,Nat.shiftLeft_eq,Nat.mod_eq_of_lt (by omega)]
 rw [BitVec.toNat_or,h1,BitVec.toNat_ofNat,Nat.mod_eq_of_lt (by omega),← Nat.shiftLeft_add_eq_or_of_lt (by omega),Nat.shiftLeft_eq]

theorem be4 (a b c d:UInt8):Sha.beW [a,b,c,d]=(BitVec.ofNat 32 a.toNat <<< 24)+(BitVec.ofNat 32 b.toNat <<< 16)+(BitVec.ofNat 32 c.toNat <<< 8)+BitVec.ofNat 32 d.toNat:=by
 have ha:a.toNat<256:=a.toNat_lt
 have hb:b.toNat<256:=b.toNat_lt
 have hc:c.toNat<256:=c.toNat_lt
 have hd:d.toNat<256:=d.toNat_lt
 apply BitVec.eq_of_toNat_eq
 have e1:=or8 0 a (by simp)
 have e2:=or8 _ b (by rw [e1]; simp; omega)
 have e3:=or8 _ c (by rw [e2,e1]; simp; omega)
 have e4:=or8 _ d (by rw [e3,e2,e1]; simp; omega)
 rw [e3,e2,e1] at e4
 unfold Sha.beW
 simp only [List.foldl]
 rw [e4]
 simp [BitVec.toNat_add,BitVec.toNat_shiftLeft,Nat.shiftLeft_eq]
 omega

theorem aLF {l:List UInt8}(h:l.length=4) : ∃ a b c d,l=[a,b,c,d]:=by
 match l,h with
 | [a,b,c,d],_=>exact⟨a,b,c,d,rfl⟩

abbrev KG:Nat×V:=(1000001,.ro (wds Sha.K256))

def aKU (σ0:St)(q:Nat)(b:V)(at_:Nat)(blk:List UInt8)(m:Nat)(e:Env) (σ:St):Prop:=∃ i:Nat,e=[(2,V.ref 0 0),(3,V.ref 1 0),(4,b),(7,I at_),(8,.ref q 0),(9,I i),KG]∧i≤64∧m=64-i ∧
 σ=⟨σ0.objs.set q (.cells ((wds (mJ blk i)).map .d)),σ0.toks⟩

set_option maxRecDepth 4000 in
theorem aIG {σ:St}{q:Nat}{b:V}{l:List UInt8}{at_:Nat}(hb:LV b (cC l))(hat:at_+64≤l.length)(hl:l.length≤2000000000)(hq:σ.objs[q]?=some (.cells ((wds (aD 64 0#32)).map .d))){Q:gT}
  (hQ:Q .normal [(2,V.ref 0 0),(3,V.ref 1 0),(4,b),(7,I at_),(8,.ref q 0),(9,I 64),(55,B false),KG] ⟨σ.objs.set q (.cells ((wds (Sha.sched ((l.drop at_).take 64))).map .d)),σ.toks⟩) :
  gF (Dn.Call Γ cx) cx c97_k35 [(2,V.ref 0 0),(3,V.ref 1 0),(4,b),(7,I at_),(8,.ref q 0),(9,I 0),KG] σ Q:=by
 have hget : ∀ o,(σ.objs.set q o)[q]?=some o:=fun o=>aO (aB.1 hq).1
 generalize hblk:(l.drop at_).take 64=blk at *
 have hbl:blk.length=64:=by rw [← hblk]; simp; omega
 simp only [dO,dF,GB,aM,aI,aG,dA,eW,cE,dZ,cS,cK,dY,dX,eM,eP,eS,cM,cW,cX,eN,fD,gD,fQ,fB,dK,fC,gE,cJ,cY,cZ,dN,eB,eC,gA,eR,eE,eF,eD,cL,cU,cV,fZ,i_p,dU,fY,eA,eV,dW,eU,dV,eX,gC,t_p,eY,eH,gB,eJ,cT,eZ,eI,eG,gM,aE,aH,dC,dM,fP,fO,fR,gR,Opd.ev,Env.get,Env.set,Env.pick,eK,dE,cB,eO,eQ,cF,dD,dG,gO,eL,Res.ev,fL,cN,dI,gS,fN,fW,fX,gW,fT,fU,fV,cx,Dn.newObj,St.place,St.push,St.spot,St.empty,eT,dP,cO,cR,dS,dQ,dT,cQ,dR,cP,loadAt,cH,dL,cI,bZ,ofD,splice,St.setObj,fE,c97_k35]
 refine fK (aKU σ q b at_ blk) (m:=64) ⟨0,rfl,by omega,rfl,?_⟩ ?_
 ·have:σ.objs.set q (.cells ((wds (mJ blk 0)).map .d))=σ.objs:=by
   have e0:mJ blk 0=aD 64 0#32:=by simp [mJ,Sha.wsN]
   rw [e0]
   apply List.ext_getElem?
   intro j
   by_cases hj:j=q
   ·subst hj; rw [hget,hq]
   ·rw [aF (fun e=>hj e.symm)]
  rw [this]
 rintro m e σ' ⟨i,rfl,hi,rfl,rfl⟩
 have hwl:=aDo blk hi
 simp [-aA,c97_l34,c97_k33]
 by_cases hil:i<64
 rotate_left
 ·obtain rfl:i=64:=by omega
  simp [-aA]
  have:mJ blk 64=Sha.sched blk:=by simp [mJ,Sha.sched]
  rw [this]
  exact hQ
 have hii:(i:Int)<64:=by omega
 simp [-aA,hii,c97_k32,c97_k31]
 by_cases h16:i<16
 ·have h16':(i:Int)<16:=by omega
  simp [-aA,h16',c97_k30,c97_k27]
  refine mR (fun _=>.val) [] (by decide +kernel) ?_
  obtain⟨c0,c1,c2,c3,hc⟩:=aLF (l:=(blk.drop (4*i)).take 4) (by simp; omega)
  have hg : ∀ j c,j<4→[c0,c1,c2,c3][j]?=some c→l[at_+4*i+j]?=some c:=fun j c hj h=>by
   rw [← hc,← hblk] at h
   rw [List.getElem?_take,if_pos hj,List.getElem?_drop,List.getElem?_take,if_pos (by omega),List.getElem?_drop] at h
   rw [← h]
   congr 1
   omega
  have hnx:Sha.wsN blk (i+1)=Sha.wsN blk i++[Sha.beW [c0,c1,c2,c3]]:=by rw [Sha.wsN,if_pos h16,hc]
  have hset:=uZ blk hil _ hnx
  rw [be4] at hset
  have hbs:=sF (mJ blk i) i (by omega)
  obtain⟨p4,hp4⟩ : ∃ p4,4*i=p4:=⟨_,rfl⟩
  obtain⟨p,hp⟩ : ∃ p,at_+p4=p:=⟨_,rfl⟩
  rw [hp4,hp] at hg
  have a0:=hg 0 c0 (by omega) rfl
  have a1:=hg 1 c1 (by omega) rfl
  have a2:=hg 2 c2 (by omega) rfl
  have a3:=hg 3 c3 (by omega) rfl
  have e0:aJ.wrap (4*(i:Int))=(p4:Int):=by rw [bY (by omega) (by omega)]; omega
  have e1:aJ.wrap ((at_:Int)+(p4:Int))=(p:Int):=by rw [bY (by omega) (by omega)]; omega
  have e2:aJ.wrap ((p:Int)+1)=(p:Int)+1:=bY (by omega) (by omega)
  have e3:aJ.wrap ((p:Int)+2)=(p:Int)+2:=bY (by omega) (by omega)
  have e4:aJ.wrap ((p:Int)+3)=(p:Int)+3:=bY (by omega) (by omega)
  have i0:=fun s=>hb.iaddr s (k:=.i64) (nQ a0) (sz:=1) rfl
  have i1:=fun s=>hb.iaddr s (k:=.i64) (nQ a1) (sz:=1) rfl
  have i2:=fun s=>hb.iaddr s (k:=.i64) (nQ a2) (sz:=1) rfl
  have i3:=fun s=>hb.iaddr s (k:=.i64) (nQ a3) (sz:=1) rfl
  simp only [Nat.add_zero] at i0
  have i1' : ∀ s,jA s 1 b (.d (.int .i64 ((p:Int)+1)))=some (.ro [.int .u8 (c1.toNat:Int)]):=i1
  have i2' : ∀ s,jA s 1 b (.d (.int .i64 ((p:Int)+2)))=some (.ro [.int .u8 (c2.toNat:Int)]):=i2
  have i3' : ∀ s,jA s 1 b (.d (.int .i64 ((p:Int)+3)))=some (.ro [.int .u8 (c3.toNat:Int)]):=i3
  have s0:iM .shl .u32 (un (BitVec.ofNat 32 c0.toNat)) 24=some (W (BitVec.ofNat 32 c0.toNat <<< 24)):=vX _ 24 (by omega)
  have s1:iM .shl .u32 (un (BitVec.ofNat 32 c1.toNat)) 16=some (W (BitVec.ofNat 32 c1.toNat <<< 16)):=vX _ 16 (by omega)
  have s2:iM .shl .u32 (un (BitVec.ofNat 32 c2.toNat)) 8=some (W (BitVec.ofNat 32 c2.toNat <<< 8)):=vX _ 8 (by omega)
  generalize BitVec.ofNat 32 c0.toNat <<< 24=x0 at *
  generalize BitVec.ofNat 32 c1.toNat <<< 16=x1 at *
  generalize BitVec.ofNat 32 c2.toNat <<< 8=x2 at *
  simp [-aA,dB,e0,e1,e2,e3,e4,i0,i1',i2',i3',aAR,s0,s1,s2,add_u32,hX hil,hget,nN,hwl,show i+1≤64 by omega,hbs,hset,bY (n:=(i:Int)+1) (by omega) (by omega),c97_k26]
  exact⟨64-(i+1),by omega,i+1,rfl,by omega,rfl,rfl⟩
 ·have h16' : ¬ (i:Int)<16:=by omega
  simp [-aA,h16',c97_k30,c97_k29]
  refine mR (fun _=>.val) [] (by decide +kernel) ?_
  have e1:aJ.wrap ((i:Int)-15)=((i-15:Nat):Int):=by rw [bY (by omega) (by omega)]; omega
  have e2:aJ.wrap ((i:Int)-2)=((i-2:Nat):Int):=by rw [bY (by omega) (by omega)]; omega
  have e7:aJ.wrap ((i:Int)-7)=((i-7:Nat):Int):=by rw [bY (by omega) (by omega)]; omega
  have e16:aJ.wrap ((i:Int)-16)=((i-16:Nat):Int):=by rw [bY (by omega) (by omega)]; omega
  have hx15:=pK blk (show i-15<i by omega)
  have hx2:=pK blk (show i-2<i by omega)
  have hx7:=pK blk (show i-7<i by omega)
  have hx16:=pK blk (show i-16<i by omega)
  have hnext:Sha.wsN blk (i+1)=Sha.wsN blk i++[Sha.sg1 ((Sha.wsN blk i).getD (i-2) 0)+(Sha.wsN blk i).getD (i-7) 0+Sha.sg0 ((Sha.wsN blk i).getD (i-15) 0)+(Sha.wsN blk i).getD (i-16) 0]:=by
   rw [Sha.wsN,if_neg h16]
  generalize (Sha.wsN blk i).getD (i-15) 0=x15 at *
  generalize (Sha.wsN blk i).getD (i-2) 0=x2 at *
  generalize (Sha.wsN blk i).getD (i-7) 0=x7 at *
  generalize (Sha.wsN blk i).getD (i-16) 0=x16 at *
  have q3:iM .shr .u32 (un x15) 3=some (W (x15 >>> 3)):=sB x15 3 (by omega)
  have q10:iM .shr .u32 (un x2) 10=some (W (x2 >>> 10)):=sB x2 10 (by omega)
  have hset:=uZ blk hil _ hnext
  unfold Sha.sg1 Sha.sg0 at hset
  have hbs:=sF (mJ blk i) i (by omega) (Sha.rotr x2 17^^^Sha.rotr x2 19^^^x2 >>> 10)
  simp [-aA,-bG,dB,e2,hX (show i-2<64 by omega),kF hx2,hget]
  refine gY rfl rfl (pP x2 17 (by omega) (by omega)) rfl ?_
  simp [-aA,-bG,e2,hX (show i-2<64 by omega),kF hx2,hget]
  refine gY rfl rfl (pP x2 19 (by omega) (by omega)) rfl ?_
  simp [-aA,-bG,e2,hX (show i-2<64 by omega),hX hil,kF hx2,hget,xor_u32,q10,nN,hwl,show i+1≤64 by omega,hbs,c97_k28]
  generalize hs1:Sha.rotr x2 17^^^Sha.rotr x2 19^^^x2 >>> 10=s1 at *
  have hA:((mJ blk i).set i s1).length=64:=by simp [hwl]
  have hA0:((mJ blk i).set i s1)[i]?=some s1:=aO (by omega)
  have hA7:((mJ blk i).set i s1)[i-7]?=some x7:=by rw [aF (by omega)]; exact hx7
  have hA15:((mJ blk i).set i s1)[i-15]?=some x15:=by rw [aF (by omega)]; exact hx15
  have hA16:((mJ blk i).set i s1)[i-16]?=some x16:=by rw [aF (by omega)]; exact hx16
  have hAs : ∀ v,((mJ blk i).set i s1).set i v=(mJ blk i).set i v:=fun v=>List.set_set ..
  generalize (mJ blk i).set i s1=A at *
  have hbs2:=sF A i (by omega)
  refine mR (fun _=>.val) [] (by decide +kernel) ?_
  simp [-aA,-bG,dB,e1,e7,e16,hX hil,hX (show i-7<64 by omega),hX (show i-15<64 by omega),kF hA0,kF hA7,kF hA15,add_u32,hget]
  refine gY rfl rfl (pP x15 7 (by omega) (by omega)) rfl ?_
  simp [-aA,-bG,e1,hX (show i-15<64 by omega),kF hA15,hget]
  refine gY rfl rfl (pP x15 18 (by omega) (by omega)) rfl ?_
  simp [-aA,-bG,e1,e16,hX hil,hX (show i-15<64 by omega),hX (show i-16<64 by omega),kF hA15,kF hA16,hget,xor_u32,q3,add_u32,nN,hA,show i+1≤64 by omega,hbs2,hAs,hset,bY (n:=(i:Int)+1) (by omega) (by omega),c97_k26]
  exact⟨64-(i+1),by omega,i+1,rfl,by omega,rfl,rfl⟩

def aKT (σ0:St)(q p:Nat)(b:V)(at_:Nat)(h:Sha.S8)(blk:List UInt8)(m:Nat)(e:Env) (σ:St):Prop:=∃ (i:Nat) (y:Sha.S8),e=[(2,V.ref 0 0),(3,V.ref 1 0),(4,b),(7,I at_),(8,.ref q 0),(10,.ref p 0),(11,I i),KG]∧i≤64∧m=64-i ∧
 σ=⟨σ0.objs.set p (.cells ((wds y.l).map .d)),σ0.toks⟩∧y=Sha.rN h (Sha.sched blk) i

theorem aDf {l:List Dn.Obj}{q:Nat}{o:Dn.Obj}(h:l[q]?=some o):l.set q o=l:=by
 apply List.ext_getElem?
 intro j
 by_cases hj:j=q
 ·subst hj; rw [aO (aB.1 h).1,h]
 ·rw [aF (fun e=>hj e.symm)]

set_option maxRecDepth 4000 in
theorem aG8 {σ:St}{q p:Nat}{b:V}{at_:Nat}{h:Sha.S8}{blk:List UInt8}(hpq:p≠q)(hq:σ.objs[q]?=some (.cells ((wds (Sha.sched blk)).map .d)))(hp:σ.objs[p]?=some (.cells ((wds h.l).map .d))){Q:gT}
  (hQ:Q .normal [(2,V.ref 0 0),(3,V.ref 1 0),(4,b),(7,I at_),(8,.ref q 0),(10,.ref p 0),(11,I 64),(157,B false),KG] ⟨σ.objs.set p (.cells ((wds (Sha.rN h (Sha.sched blk) 64).l).map .d)),σ.toks⟩) :
  gF (Dn.Call Γ cx) cx c97_k23 [(2,V.ref 0 0),(3,V.ref 1 0),(4,b),(7,I at_),(8,.ref q 0),(10,.ref p 0),(11,I 0),KG] σ Q:=by
 have hgp : ∀ o,(σ.objs.set p o)[p]?=some o:=fun o=>aO (aB.1 hp).1
 have hgq : ∀ o,(σ.objs.set p o)[q]?=some (.cells ((wds (Sha.sched blk)).map .d)):=fun o=>by rw [aF hpq]; exact hq
 simp only [dO,dF,GB,aM,aI,aG,dA,eW,cE,dZ,cS,cK,dY,dX,eM,eP,eS,cM,cW,cX,eN,fD,gD,fQ,fB,dK,fC,gE,cJ,cY,cZ,dN,eB,eC,gA,eR,eE,eF,eD,cL,cU,cV,fZ,i_p,dU,fY,eA,eV,dW,eU,dV,eX,gC,t_p,eY,eH,gB,eJ,cT,eZ,eI,eG,gM,aE,aH,dC,dM,fP,fO,fR,gR,Opd.ev,Env.get,Env.set,Env.pick,eK,dE,cB,eO,eQ,cF,dD,dG,gO,eL,Res.ev,fL,cN,dI,gS,fN,fW,fX,gW,fT,fU,fV,cx,Dn.newObj,St.place,St.push,St.spot,St.empty,eT,dP,cO,cR,dS,dQ,dT,cQ,dR,cP,loadAt,cH,dL,cI,bZ,ofD,splice,St.setObj,fE,c97_k23]
 refine fK (aKT σ q p b at_ h blk) (m:=64) ⟨0,h,rfl,by omega,rfl,by rw [aDf hp],rfl⟩ ?_
 rintro m e σ' ⟨i,y,rfl,hi,rfl,rfl,hy⟩
 simp [-aA,c97_l22,c97_k21]
 by_cases hil:i<64
 rotate_left
 ·obtain rfl:i=64:=by omega
  simp [-aA]
  rw [hy]
  exact hQ
 have hii:(i:Int)<64:=by omega
 have hw:=bO (l:=Sha.sched blk) (i:=i) (by rw [Sha.sched,Sha.wsN_len]; exact hil)
 have hk:=bO (l:=Sha.K256) (i:=i) (by rw [Sha.K256_len]; exact hil)
 generalize (Sha.sched blk)[i]'(by rw [Sha.sched,Sha.wsN_len]; exact hil)=w at hw
 generalize Sha.K256[i]'(by rw [Sha.K256_len]; exact hil)=k at hk
 obtain⟨kr,hkr⟩:=aCL hk 64 hil
 have hnx:Sha.rN h (Sha.sched blk) (i+1)=Sha.rnd y k w:=by
  rw [Sha.rN,← hy,bA,bA,hw,hk]
  rfl
 simp [-aA,hii,c97_k20,c97_k19,lY]
 refine mR (fun _=>.val) [] (by decide +kernel) ?_
 simp [-aA,dB,gU,hgp,hgq]
 refine gY rfl rfl (pP y.e 6 (by omega) (by omega)) rfl ?_
 simp [-aA,gU,hgp,hgq]
 refine gY rfl rfl (pP y.e 11 (by omega) (by omega)) rfl ?_
 simp [-aA,gU,hgp,hgq,xor_u32]
 refine gY rfl rfl (pP y.e 25 (by omega) (by omega)) rfl ?_
 simp [-aA,gU,hgp,hgq,xor_u32,add_u32,and_u32,sub_max32,hkr,hX hil,kF hw,c97_k18]
 generalize hone:y.h+(Sha.rotr y.e 6^^^Sha.rotr y.e 11^^^Sha.rotr y.e 25)+(y.e&&&y.f ^^^ ~~~y.e&&&y.g)+k+w=one
 refine mR (fun _=>.val) [] (by decide +kernel) ?_
 simp [-aA,dB,gU,hgp,hgq]
 refine gY rfl rfl (pP y.a 2 (by omega) (by omega)) rfl ?_
 simp [-aA,gU,hgp,hgq]
 refine gY rfl rfl (pP y.a 13 (by omega) (by omega)) rfl ?_
 simp [-aA,gU,hgp,hgq,xor_u32]
 refine gY rfl rfl (pP y.a 22 (by omega) (by omega)) rfl ?_
 simp [-aA,gU,hgp,hgq,xor_u32,add_u32,and_u32]
 generalize htwo:(Sha.rotr y.a 2^^^Sha.rotr y.a 13^^^Sha.rotr y.a 22)+(y.a&&&y.b^^^y.a&&&y.c^^^y.b&&&y.c)=two
 simp [-aA,gU,hgp,hgq,add_u32,c97_k17,c97_k16,bZ,bY (n:=(i:Int)+1) (by omega) (by omega)]
 refine⟨64-(i+1),by omega,i+1,⟨one+two,y.a,y.b,y.c,y.d+one,y.e,y.f,y.g⟩,rfl,by omega,rfl,rfl,?_⟩
 rw [hnx,← hone,← htwo]
 rfl

def aJa (σ0:St)(q p:Nat)(b:V)(at_:Nat)(x y:Sha.S8)(m:Nat)(e:Env) (σ:St):Prop:=∃ i:Nat,e=[(2,V.ref 0 0),(3,V.ref 1 0),(4,b),(7,I at_),(10,.ref p 0),(14,I i),KG]∧i≤8∧m=8-i ∧
 σ=⟨σ0.objs.set 1 (.cells ((wds (plN x y i).l).map .d)),σ0.toks⟩

set_option maxRecDepth 4000 in
theorem aKg {σ:St}{p:Nat}{b:V}{at_:Nat}{x y:Sha.S8}(hpq:1≠p)(hq:σ.objs[1]?=some (.cells ((wds x.l).map .d)))(hp:σ.objs[p]?=some (.cells ((wds y.l).map .d))){Q:gT}
  (hQ:Q .normal [(2,V.ref 0 0),(3,V.ref 1 0),(4,b),(7,I at_),(10,.ref p 0),(14,I 8),(245,B false),KG] ⟨σ.objs.set 1 (.cells ((wds (Sha.plus x y).l).map .d)),σ.toks⟩) :
  gF (Dn.Call Γ cx) cx c97_k14 [(2,V.ref 0 0),(3,V.ref 1 0),(4,b),(7,I at_),(10,.ref p 0),(14,I 0),KG] σ Q:=by
 have hgp : ∀ o,(σ.objs.set 1 o)[1]?=some o:=fun o=>aO (aB.1 hq).1
 have hgq : ∀ o,(σ.objs.set 1 o)[p]?=some (.cells ((wds y.l).map .d)):=fun o=>by rw [aF hpq]; exact hp
 simp only [dO,dF,GB,aM,aI,aG,dA,eW,cE,dZ,cS,cK,dY,dX,eM,eP,eS,cM,cW,cX,eN,fD,gD,fQ,fB,dK,fC,gE,cJ,cY,cZ,dN,eB,eC,gA,eR,eE,eF,eD,cL,cU,cV,fZ,i_p,dU,fY,eA,eV,dW,eU,dV,eX,gC,t_p,eY,eH,gB,eJ,cT,eZ,eI,eG,gM,aE,aH,dC,dM,fP,fO,fR,gR,Opd.ev,Env.get,Env.set,Env.pick,eK,dE,cB,eO,eQ,cF,dD,dG,gO,eL,Res.ev,fL,cN,dI,gS,fN,fW,fX,gW,fT,fU,fV,cx,Dn.newObj,St.place,St.push,St.spot,St.empty,eT,dP,cO,cR,dS,dQ,dT,cQ,dR,cP,loadAt,cH,dL,cI,bZ,ofD,splice,St.setObj,fE,c97_k14]
 refine fK (aJa σ 0 p b at_ x y) (m:=8) ⟨0,rfl,by omega,rfl,by
  have:plN x y 0=x:=rfl
  rw [this,aDf hq]⟩ ?_
 rintro m e σ' ⟨i,rfl,hi,rfl,rfl⟩
 simp [-aA,c97_l13,c97_k12]
 by_cases hil:i<8
 rotate_left
 ·obtain rfl:i=8:=by omega
  simp [-aA]
  exact hQ
 have hii:(i:Int)<8:=by omega
 simp [-aA,hii,c97_k11]
 refine mR (fun _=>.val) [] (by decide +kernel) ?_
 have hex : ∀ k,k<9→(k=i+1)→∃ m',m'<8-i∧aJa σ 0 p b at_ x y m' [(2,V.ref 0 0),(3,V.ref 1 0),(4,b),(7,I at_),(10,.ref p 0),(14,I ((k:Nat):Int)),KG] ⟨σ.objs.set 1 (.cells ((wds (plN x y k).l).map .d)),σ.toks⟩:=fun k hk e=>⟨8-k,by omega,k,rfl,by omega,rfl,rfl⟩
 have hcase:i=0∨i=1∨i=2∨i=3∨i=4∨i=5∨i=6∨i=7:=by omega
 rcases hcase with rfl | rfl | rfl | rfl | rfl | rfl | rfl | rfl
 ·simpa [-aA,gU,dB,hgp,hgq,lY,add_u32,plN,bY,c97_k10] using hex 1 (by omega) rfl
 ·simpa [-aA,gU,dB,hgp,hgq,lY,add_u32,plN,bY,c97_k10] using hex 2 (by omega) rfl
 ·simpa [-aA,gU,dB,hgp,hgq,lY,add_u32,plN,bY,c97_k10] using hex 3 (by omega) rfl
 ·simpa [-aA,gU,dB,hgp,hgq,lY,add_u32,plN,bY,c97_k10] using hex 4 (by omega) rfl
 ·simpa [-aA,gU,dB,hgp,hgq,lY,add_u32,plN,bY,c97_k10] using hex 5 (by omega) rfl
 ·simpa [-aA,gU,dB,hgp,hgq,lY,add_u32,plN,bY,c97_k10] using hex 6 (by omega) rfl
 ·simpa [-aA,gU,dB,hgp,hgq,lY,add_u32,plN,bY,c97_k10] using hex 7 (by omega) rfl
 ·simpa [-aA,gU,dB,hgp,hgq,lY,add_u32,plN,bY,c97_k10] using hex 8 (by omega) rfl

def aKR (b:V)(p:List UInt8)(m:Nat)(e:Env) (σ:St):Prop:=∃ i:Nat,e=[(2,V.ref 0 0),(3,V.ref 1 0),(4,b),(7,I ((64*i:Nat):Int)),KG]∧64*i≤p.length∧m=p.length-64*i ∧
 σ.objs[0]?=some (.cells (byV (aD 32 0)))∧σ.objs[1]?=some (.cells ((wds (Sha.hN p i).l).map .d))

theorem aKB {l:List Dn.Obj}{o:Dn.Obj}{i:Nat}{x:Dn.Obj}(h:l[i]?=some x):(l.set i o)[i]?=some o:=aO (aB.1 h).1
theorem aKC {l:List Dn.Obj}{o x:Dn.Obj}{i j:Nat}(h:l[i]?=some x)(hne:j≠i):(l.set j o)[i]?=some x:=by rw [aF hne]; exact h

set_option maxRecDepth 4000 in
theorem aG7 {σ:St}{b:V}{p:List UInt8}(hb:LV b (cC p))(hpl:p.length≤2000000000)(hm:p.length % 64=0)(h0:σ.objs[0]?=some (.cells (byV (aD 32 0))))(h1:σ.objs[1]?=some (.cells ((wds Sha.H0.l).map .d))){Q:gT}
  (hQ : ∀ s,s.objs[0]?=some (.cells (byV (aD 32 0)))→s.objs[1]?=some (.cells ((wds (Sha.hN p (p.length / 64)).l).map .d))→Q .normal [(2,V.ref 0 0),(3,V.ref 1 0),(4,b),(7,I (p.length)),(51,B false),KG] s) :
  gF (Dn.Call Γ cx) cx c97_k41 [(2,V.ref 0 0),(3,V.ref 1 0),(4,b),(7,I 0),KG] σ Q:=by
 simp only [dO,dF,GB,aM,aI,aG,dA,eW,cE,dZ,cS,cK,dY,dX,eM,eP,eS,cM,cW,cX,eN,fD,gD,fQ,fB,dK,fC,gE,cJ,cY,cZ,dN,eB,eC,gA,eR,eE,eF,eD,cL,cU,cV,fZ,i_p,dU,fY,eA,eV,dW,eU,dV,eX,gC,t_p,eY,eH,gB,eJ,cT,eZ,eI,eG,gM,aE,aH,dC,dM,fP,fO,fR,gR,Opd.ev,Env.get,Env.set,Env.pick,eK,dE,cB,eO,eQ,cF,dD,dG,gO,eL,Res.ev,fL,cN,dI,gS,fN,fW,fX,gW,fT,fU,fV,cx,Dn.newObj,St.place,St.push,St.spot,St.empty,eT,dP,cO,cR,dS,dQ,dT,cQ,dR,cP,loadAt,cH,dL,cI,bZ,ofD,splice,St.setObj,fE,c97_k41]
 refine fK (aKR b p) (m:=p.length) ⟨0,rfl,by omega,rfl,h0,h1⟩ ?_
 rintro m e σ ⟨i,rfl,hi,rfl,h0,h1⟩
 have hlen:=hb.len σ
 rw [dJ] at hlen
 obtain⟨a,ha⟩ : ∃ a,64*i=a:=⟨_,rfl⟩
 rw [ha] at hi ⊢
 simp [-aA,c97_l40,c97_k39,hlen,bY (n:=(a:Int)+64) (by omega) (by omega)]
 by_cases hil:a<p.length
 rotate_left
 ·obtain rfl:a=p.length:=by omega
  have e1 : ¬ ((p.length:Int)+64≤p.length):=by omega
  simp [-aA,e1]
  refine hQ σ h0 ?_
  rw [show p.length / 64=i by omega]
  exact h1
 have hii:(a:Int)+64≤p.length:=by omega
 simp [-aA,hii,c97_k38,c97_k37,c97_k36]
 refine aIG (l:=p) hb (by omega) hpl (q:=σ.objs.length) (by have:=aE2 64; simp [-aA] at this ⊢; exact this) ?_
 have hnx:Sha.hN p (i+1)=Sha.take (Sha.hN p i) ((p.drop a).take 64):=by rw [Sha.hN,ha]
 generalize (p.drop a).take 64=blk at *
 unfold Sha.take at hnx
 generalize Sha.hN p i=h at *
 have k0 : ∀ l',(σ.objs++l')[0]?=some (.cells (byV (aD 32 0))):=fun l'=>by
  rw [aC (aB.1 h0).1]; exact h0
 have k1 : ∀ l',(σ.objs++l')[1]?=some (.cells ((wds h.l).map .d)):=fun l'=>by
  rw [aC (aB.1 h1).1]; exact h1
 have hlen1:=(aB.1 h1).1
 have hne0:σ.objs.length+1≠0:=by omega
 have hne1:σ.objs.length+1≠1:=by omega
 simp [-aA,c97_k25,k0,k1,lY,c97_k24]
 refine aG8 (q:=σ.objs.length) (p:=σ.objs.length+1) (h:=h) (blk:=blk) (by omega) (by simp) (by simp [lY]) ?_
 simp [-aA,c97_k15,k0,k1,lY]
 refine aKg (p:=σ.objs.length+1) (x:=h) (y:=Sha.rN h (Sha.sched blk) 64) (by omega) (k1 _) (by simp [lY]) ?_
 simp [-aA,c97_k9,k0,k1,lY,bY (n:=(a:Int)+64) (by omega) (by omega)]
 refine⟨p.length-(a+64),by omega,i+1,?_,by omega,by omega,aKC (k0 _) (by omega),?_⟩
 ·rw [show 64*(i+1)=a+64 by omega]; rfl
 ·rw [hnx]
  exact aKB (k1 _)

def aKS (σ0:St)(H:Sha.S8)(m:Nat)(e:Env) (σ:St):Prop:=∃ i:Nat,e=[(2,.ref 0 0),(3,.ref 1 0),(15,.ref σ0.objs.length 0),(16,I i)]∧i≤32∧m=32-i∧σ=⟨σ0.objs++[.cells (byV (vN (Sha.out H) 32 i))],σ0.toks⟩

theorem aLl {σ:St}{H:Sha.S8}(h0:σ.objs[0]?=some (.cells (byV (aD 32 0))))(h1:σ.objs[1]?=some (.cells ((wds H.l).map .d))){Q:gT}
  (hQ:Q .normal [(2,.ref 0 0),(3,.ref 1 0),(15,.ref σ.objs.length 0),(16,I 32),(258,B false)] ⟨σ.objs++[.cells (byV (Sha.out H))],σ.toks⟩) :
  gF (Dn.Call Γ cx) cx c97_k6 [(2,.ref 0 0),(3,.ref 1 0),(15,.ref σ.objs.length 0),(16,I 0)] ⟨σ.objs++[.cells (byV (aD 32 0))],σ.toks⟩ Q:=by
 have k1 : ∀ l',(σ.objs++l')[1]?=some (.cells ((wds H.l).map .d)):=fun l'=>by
  rw [aC (aB.1 h1).1]; exact h1
 have hol:(Sha.out H).length=32:=by simp [Sha.out]
 simp only [dO,dF,GB,aM,aI,aG,dA,eW,cE,dZ,cS,cK,dY,dX,eM,eP,eS,cM,cW,cX,eN,fD,gD,fQ,fB,dK,fC,gE,cJ,cY,cZ,dN,eB,eC,gA,eR,eE,eF,eD,cL,cU,cV,fZ,i_p,dU,fY,eA,eV,dW,eU,dV,eX,gC,t_p,eY,eH,gB,eJ,cT,eZ,eI,eG,gM,aE,aH,dC,dM,fP,fO,fR,gR,Opd.ev,Env.get,Env.set,Env.pick,eK,dE,cB,eO,eQ,cF,dD,dG,gO,eL,Res.ev,fL,cN,dI,gS,fN,fW,fX,gW,fT,fU,fV,cx,Dn.newObj,St.place,St.push,St.spot,St.empty,eT,dP,cO,cR,dS,dQ,dT,cQ,dR,cP,loadAt,cH,dL,cI,bZ,ofD,splice,St.setObj,fE,c97_k6]
 refine fK (aKS σ H) (m:=32) ⟨0,rfl,by omega,rfl,by simp [vN,-aA]⟩ ?_
 rintro m e σ' ⟨i,rfl,hi,rfl,rfl⟩
 simp [-aA,c97_l5,c97_k4]
 by_cases hil:i<32
 ·have hii:(i:Int)<32:=by omega
  have eq:((i:Int).tdiv 4)=((i / 4:Nat):Int):=by rw [Int.tdiv_eq_ediv_of_nonneg (by omega)]; omega
  have er:((i:Int).tmod 4)=((i % 4:Nat):Int):=by rw [Int.tmod_eq_emod_of_nonneg (by omega)]; omega
  have e3:aJ.wrap (8*((i % 4:Nat):Int))=((8*(i % 4):Nat):Int):=by rw [bY (by omega) (by omega)]; omega
  have e8:aJ.wrap (24-((8*(i % 4):Nat):Int))=((8*(3-i % 4):Nat):Int):=by rw [bY (by omega) (by omega)]; omega
  have e9:bL.wrap ((8*(3-i % 4):Nat):Int)=((8*(3-i % 4):Nat):Int):=by simp only [IntKind.wrap,IntKind.signed,IntKind.bits]; simp; omega
  have hw:H.l[i / 4]?=some (H.l.getD (i / 4) 0):=by
   have:i / 4<H.l.length:=by simp [Sha.S8.l]; omega
   rw [bA,bO this]
   rfl
  have hsh:=sB (H.l.getD (i / 4) 0) (8*(3-i % 4)) (by omega)
  have hby:IntKind.u8.wrap (un (H.l.getD (i / 4) 0 >>> (8*(3-i % 4))))=((UInt8.ofNat ((H.l.getD (i / 4) 0 >>> (8*(3-i % 4))).toNat % 256)).toNat:Int):=by
   unfold un
   rw [wrap_u8n]
   simp
  have hout:(Sha.out H)[i]?=some (UInt8.ofNat ((H.l.getD (i / 4) 0 >>> (8*(3-i % 4))).toNat % 256)):=by simp [Sha.out,hil]
  generalize UInt8.ofNat ((H.l.getD (i / 4) 0 >>> (8*(3-i % 4))).toNat % 256)=c at *
  generalize H.l.getD (i / 4) 0 >>> (8*(3-i % 4))=sh at *
  have e4:aJ.wrap ((i / 4:Nat):Int)=((i / 4:Nat):Int):=bY (by omega) (by omega)
  have hq8:i / 4<8:=by omega
  have hos:=aCV (Sha.out H) hol hout
  have hal:=aCU (Sha.out H) hol hi
  have hbs:=aEv (vN (Sha.out H) 32 i) i (by omega) c
  generalize H.l.getD (i / 4) 0=wv at *
  generalize 8*(3-i % 4)=s8 at *
  generalize 8*(i % 4)=r8 at *
  generalize i / 4=q4 at *
  generalize i % 4=m4 at *
  simp [-aA,hii,c97_k3,c97_k2,c97_k1,eq,er,e3,e8,e9,e4,k1,hX hq8,hX hil,kF hw,hsh,hby,hU,hal,hbs,show i+1≤32 by omega,hos,bY (n:=(i:Int)+1) (by omega) (by omega)]
  exact⟨32-(i+1),by omega,i+1,rfl,by omega,rfl,rfl⟩
 ·obtain rfl:i=32:=by omega
  rw [aBa _ hol]
  simp [-aA]
  exact hQ

def rO:List Dn.Obj:=[.cells (byV (aD 32 0)),.cells ((wds Sha.H0.l).map .d)]
def aJB (x:D)(l:List UInt8)(m:Nat)(e:Env) (σ:St):Prop:=∃ (j:Nat) (v:V),e=[(0,.d x),(2,.ref 0 0),(3,.ref 1 0),(4,v),KG]∧j≤Sha.zs l.length∧m=Sha.zs l.length-j∧σ.objs=rO∧App σ 1 v (cC (l++[128]++aD j 0))
def aJC (b:List UInt8)(n:W64)(m:Nat)(e:Env) (σ:St):Prop:=∃ (j:Nat) (v:V),e=[(2,.ref 0 0),(3,.ref 1 0),(4,v),(5,.d (.int .u64 (un n))),(6,I (7-(j:Int))),KG]∧j≤8∧m=8-j∧σ.objs=rO∧App σ 1 v (cC (b++aAc n j))

set_option maxRecDepth 4000 in
theorem aHA {x:D}{l:List UInt8}(hx:LV (.d x) (cC l))(hl:l.length≤1000000000) :
  Dn.Call Γ cx .val 97 [.d x] St.empty fun w _=>w = .da (cG (Sha.sha l)):=by
 refine Dn.Call.body (fc:=c97) rfl ?_
 simp [-aA,c97,c97_k55,c97_k54,bZ,iL,gJ,g1]
 obtain⟨va,σa,hapa,happa,hoa,-,-⟩:=(App.fl (σ:=⟨[.cells (aD 32 (.d (.int .u8 0))),.cells [.d (.int .u32 1779033703),.d (.int .u32 3144134277),.d (.int .u32 1013904242),.d (.int .u32 2773480762),.d (.int .u32 1359893119),.d (.int .u32 2600822924),.d (.int .u32 528734635),.d (.int .u32 1541459225)]],[]⟩) (sz:=1) []).push (bytes:=1) (by decide) (by simp) (ys:=cC l) (fJ _) (by simp [dJ]; omega) (by simp [dJ]; omega)
 rw [aH] at happa
 refine gN (v:=va) (s:=σa) ?_ ?_
 ·simp [hx.rows]
  exact hapa none
 have hro:σa.objs=rO:=by rw [hoa]; simp [rO,byV,lY,Sha.H0,-aA]; decide
 simp [-aA,iL,gJ,oR]
 obtain⟨v1,σ1,hap,happ,ho1,-,-⟩:=happa.push (bytes:=1) (by decide) (fJ _) (ys:=cC [128]) (fJ _) (by simp [dJ]; omega) (by simp [dJ]; omega)
 rw [← iC] at happ
 refine gN (v:=v1) (s:=σ1) ?_ ?_
 ·simp [V.rows]
  exact hap none
 simp [-aA,c97_k53]
 refine fK (aJB x l) (m:=Sha.zs l.length) ⟨0,v1,rfl,by omega,by omega,by rw [ho1,hro],by simpa using happ⟩ ?_
 rintro m e σ ⟨j,v,rfl,hj,rfl,hobj,hv⟩
 simp [c97_l52,c97_k51]
 have hlen:=hv.lv.len σ
 rw [dJ] at hlen
 simp at hlen
 have hzs:Sha.zs l.length<64:=by unfold Sha.zs; omega
 have hzm:(l.length+1+Sha.zs l.length+8) % 64=0:=by have:=Sha.pad_mod l; rw [Sha.pad_len] at this; exact this
 obtain⟨u,hu⟩ : ∃ u,(l.length+1+j) % 64=u:=⟨_,rfl⟩
 have e9:((l.length:Int)+((j:Int)+1)).tmod 64=(u:Int):=by
  rw [Int.tmod_eq_emod_of_nonneg (by omega)]
  omega
 by_cases hjz:j=Sha.zs l.length
 rotate_left
 ·have hne:u≠56:=by unfold Sha.zs at hjz hj; omega
  have hne' : ¬ ((u:Int)=56):=by omega
  simp only [hlen]
  simp [e9,hne',hne,c97_k50,iL,gJ,oR]
  obtain⟨v2,σ2,hap2,happ2,ho2,-,-⟩:=hv.push (bytes:=1) (by decide) (fJ _) (ys:=cC [0]) (fJ _) (by simp [dJ]; omega) (by simp [dJ]; omega)
  rw [← iC,bV,← List.replicate_succ'] at happ2
  refine gN (v:=v2) (s:=σ2) ?_ ?_
  ·simp [V.rows]
   exact hap2 none
  simp
  exact⟨Sha.zs l.length-(j+1),by omega,j+1,v2,rfl,by omega,rfl,by rw [ho2,hobj],happ2⟩
 subst hjz
 have heq:u=56:=by omega
 have heq':(u:Int)=56:=by omega
 have hn:bL.wrap (bL.wrap (l.length:Int)*8)=un (BitVec.ofNat 64 (l.length*8)):=by
  have h1:bL.wrap (l.length:Int)=(l.length:Int):=by simp only [IntKind.wrap,IntKind.signed,IntKind.bits]; simp; omega
  rw [h1,show(l.length:Int)*8=((l.length*8:Nat):Int) by omega,wrap_u64n]
 simp only [hlen]
 simp [e9,heq',heq,c97_k49,c97_k48,c97_k47,hx.len,dJ,hn]
 generalize hb:l++[128]++aD (Sha.zs l.length) 0=b at *
 have hbl:b.length=l.length+1+Sha.zs l.length:=by rw [← hb]; simp; omega
 generalize hN:BitVec.ofNat 64 (l.length*8)=N at *
 refine fK (aJC b N) (m:=8) ⟨0,v,rfl,by omega,rfl,hobj,by simpa [aAc,hb] using hv⟩ ?_
 rintro m e σ' ⟨j,v',rfl,hj,rfl,hobj',hv'⟩
 simp [c97_l46,c97_k45]
 by_cases hj8:j<8
 ·obtain⟨s8,hs8⟩ : ∃ s8,8*(7-j)=s8:=⟨_,rfl⟩
  have e8:aJ.wrap (8*(7-(j:Int)))=(s8:Int):=by rw [bY (by omega) (by omega)]; omega
  have e8u:bL.wrap (s8:Int)=(s8:Int):=by simp only [IntKind.wrap,IntKind.signed,IntKind.bits]; simp; omega
  have em:aJ.wrap (7-(j:Int)-1)=7-((j+1:Nat):Int):=by rw [bY (by omega) (by omega)]; omega
  have hps:=aBb N j
  rw [hs8] at hps
  have hsh:iM .shr .u64 (un N) (s8:Int)=some (.d (.int .u64 (un (N >>> s8)))):=by
   have h1:min s8 64=s8:=by omega
   have h2:bL.bits=64:=rfl
   have h3 : ¬ ((s8:Int)<0):=by omega
   simp only [iM,h3,if_false,Int.toNat_natCast,h2,h1,shr_u64]
  have hby:IntKind.u8.wrap (un (N >>> s8))=((UInt8.ofNat ((N >>> s8).toNat % 256)).toNat:Int):=by
   unfold un
   rw [wrap_u8n]
   simp
  generalize hc:UInt8.ofNat ((N >>> s8).toNat % 256)=c at *
  have hle:(j:Int)≤7:=by omega
  obtain⟨v2,σ2,hap2,happ2,ho2,-,-⟩:=hv'.push (bytes:=1) (by decide) (fJ _) (ys:=cC [c]) (fJ _) (by simp [dJ,uJ]; omega) (by simp [dJ,uJ]; omega)
  rw [← iC,bV,← hps] at happ2
  simp [hle,e8,e8u,hsh,hby,c97_k44,c97_k43,iL,gJ,oR]
  refine gN (v:=v2) (s:=σ2) ?_ ?_
  ·simp [V.rows]
   exact hap2 none
  simp [em]
  exact⟨8-(j+1),by omega,j+1,v2,rfl,by omega,rfl,by rw [ho2,hobj'],happ2⟩
 ·obtain rfl:j=8:=by omega
  have hpd:b++aAc N 8=Sha.pad l:=by rw [← hb,← hN]; rfl
  rw [hpd] at hv'
  simp [-aA,c97_k42]
  refine aG7 hv'.lv (by rw [Sha.pad_len]; omega) (Sha.pad_mod l) (by rw [hobj']; rfl) (by rw [hobj']; rfl) fun s h0 h1=>?_
  have hsha:Sha.sha l=Sha.out (Sha.hN (Sha.pad l) ((Sha.pad l).length / 64)):=rfl
  rw [hsha]
  generalize Sha.hN (Sha.pad l) ((Sha.pad l).length / 64)=H at *
  simp [-aA,c97_k8,c97_k7]
  refine aLl h0 h1 ?_
  have hol:(Sha.out H).length=32:=by simp [Sha.out]
  obtain⟨so,stk⟩:=s
  cases so with
  | nil=>simp at h0
  | cons a r =>
   obtain rfl:a = .cells (byV (aD 32 0)):=by simpa using h0
   simp [-aA,c97_k0,hU,hol,aK,mZ,iH,fG,V.byVal,show List.drop 32 (byV (aD 32 0))=[] from bT (by simp [hU]),aG]

theorem aFR {x:D}{l:List UInt8}(hx:LV (.d x) (cC l))(hl:l.length≤1000000000) :
  Dn.Call Γ cx .val 82 [.d x] St.empty fun w _=>w = .da (cG (Sha.dbl l)):=by
 refine Dn.Call.body (fc:=c82) rfl ?_
 have h1:=Sha.sha_len l
 have h2:=Sha.sha_len (Sha.sha l)
 simp [-aA,c82,c82_k0]
 refine gI rfl (aHA hx hl) (pW _) ?_
 simp [-aA]
 unfold Sha.dbl
 generalize Sha.sha l=a at *
 refine gI rfl (aIV h1) rfl ?_
 simp [-aA]
 refine gI rfl (aHA (.list _) (by omega)) (pW _) ?_
 generalize Sha.sha a=z at *
 simp [-aA,hU,aK,mZ,iH,fG,h2,V.byVal]

def oX (n:Int):Bool:=decide (n=1)||decide (n=2)||decide (n=4)||decide (n=8)

theorem aIZ (n:Int):Dn.Call Γ cx .val 126 [I n] St.empty fun v _=>v=B (oX n):=by
 refine Dn.Call.body (fc:=c126) rfl ?_
 unfold oX
 by_cases h1:n=1
 ·simp [c126,c126_k0,h1]
 ·by_cases h2:n=2
  ·simp [c126,c126_k0,h2]
  ·by_cases h3:n=4
   ·simp [c126,c126_k0,h3]
   ·simp [c126,c126_k0,h1,h2,h3]

theorem qG {n:Int}(h:oX n=true):n=1∨n=2∨n=4∨n=8:=by
 simp [oX] at h
 omega

def vE (n:Int)(i:Nat):UInt8:=UInt8.ofNat ((n / 2 ^ (8*i)) % 256).toNat
theorem yO (n:Int)(i:Nat):((vE n i).toNat:Int)=(n / 2 ^ (8*i)) % 256:=by
 unfold vE
 have h1:0≤(n / 2 ^ (8*i)) % 256:=Int.emod_nonneg _ (by decide)
 have h2:(n / 2 ^ (8*i)) % 256<256:=Int.emod_lt_of_pos _ (by decide)
 simp [UInt8.toNat_ofNat]
 omega
def low (n:Int)(k:Nat):List UInt8:=(List.range k).map (vE n)
def oU (n size:Int):List UInt8:=if oX size then low n size.toNat else []
theorem aCP (n:Int)(k:Nat):low n (k+1)=low n k++[vE n k]:=by simp [low,List.range_succ]
theorem jT (n:Int)(k:Nat):(low n k).length=k:=by simp [low]
theorem aE3 (n:Int):IntKind.u8.wrap n=n % 256:=by
 simp only [IntKind.wrap,IntKind.signed,IntKind.bits]
 simp

structure OutAt (σ:St)(r:Nat)(l:List UInt8)(v:V):Prop where
 obj:σ.objs[r]?=some (.cells [v])
 app:App σ 1 v (cC l)

structure Put (σ:St)(r:Nat)(v:V)(l:List UInt8) (σ':St)(v':V):Prop where
 out:OutAt σ' r l v'
 fr:Fr [r] σ σ'
 tk:Toks σ.toks σ'.toks (own v) (own v')

theorem Put.trans {σ σ' σ'':St}{r:Nat}{v v' v'':V}{l l':List UInt8}(h:Put σ r v l σ' v')(h':Put σ' r v' l' σ'' v''):Put σ r v l' σ'' v'':=⟨h'.out,h.fr.trans h'.fr,h.tk.trans h'.tk⟩
theorem Put.refl {σ:St}{r:Nat}{v:V}{l:List UInt8}(h:OutAt σ r l v):Put σ r v l σ v:=⟨h,Fr.refl _ _,Toks.refl _ _⟩

theorem Put.of {σ σ1:St}{r m:Nat}{v v1:V}{l:List UInt8}(h0:σ.objs[r]?=some (.cells [v]))(happ:App σ1 1 v1 (cC l))(ho:σ1.objs=(σ.room m).objs)(ht:Toks σ.toks σ1.toks (own v) (own v1)):Put σ r v l ⟨σ1.objs.set r (.cells [v1]),σ1.toks⟩ v1:=by
 have hl:r<σ.objs.length:=(aB.1 h0).1
 have hl1:σ.objs.length≤σ1.objs.length:=by rw [ho]; simp [St.room]
 refine⟨⟨?_,happ.toks rfl⟩,⟨by simpa using hl1,fun q hq hlq=>?_⟩,ht⟩
 ·simp only
  rw [aO (by omega)]
 ·simp only
  rw [aF (fun e=>hq (by simp [e])),ho]
  simp only [St.room]
  rw [aC hlq]

def aJt (σ:St)(r:Nat)(v:V)(l:List UInt8)(n:Int)(size:Nat)(m:Nat)(e:Env) (σ':St):Prop:=∃ (i:Nat) (v':V),e=[(0,.ref r 0),(1,U n),(14,I size),(15,I i)]∧i≤size∧m=size-i∧Put σ r v (l++low n i) σ' v'

theorem xH {σ:St}{r:Nat}{v:V}{l:List UInt8}(h:OutAt σ r l v)(hl:l.length≤1099511627776)(n size:Int) :
  Dn.Call Γ cx .raw 108 [.ref r 0,U n,I size] σ fun _ σ'=>∃ v',Put σ r v (l++oU n size) σ' v':=by
 refine Dn.Call.body (fc:=c108) rfl ?_
 simp [c108,eqV,V.isNil,Opd.isC]
 refine gI rfl (aIZ size) rfl ?_
 by_cases hs:oX size=true
 rotate_left
 ·simp [hs,c108_k7]
  exact⟨v,by simpa [oU,hs] using Put.refl h⟩
 ·simp [hs,c108_k7,c108_k6,c108_k5]
  obtain⟨k,hk,hk8⟩ : ∃ k:Nat,size=k∧k≤8:=⟨size.toNat,by have:=qG hs; omega,by have:=qG hs; omega⟩
  subst hk
  refine fK (aJt σ r v l n k) (m:=k) ⟨0,v,rfl,by omega,by omega,by simpa [low] using Put.refl h⟩ ?_
  rintro m e σ' ⟨i,v',rfl,hi,rfl,hp⟩
  simp [c108_l4,c108_k3]
  by_cases hik:i<k
  rotate_left
  ·obtain rfl:i=k:=by omega
   simp
   exact⟨v',by simpa [oU,hs] using hp⟩
  simp [hik,c108_k2,c108_k1,c108_k0]
  refine mR (fun _=>.val) [] (by decide +kernel) ?_
  have hro:=lS (m:=1) hp.out.obj
  have e8:aJ.wrap (8*(i:Int))=8*i:=bY (by omega) (by omega)
  have eb:min (8*(i:Int)).toNat bL.bits=8*i:=by
   have:(8*(i:Int)).toNat=8*i:=by omega
   rw [this]
   exact Nat.min_eq_left (by have:bL.bits=64:=rfl; omega)
  have hneg : ¬ (8*(i:Int)<0):=by omega
  simp [gQ,hro,iM,e8,eb,hneg,iL,gJ,aE3]
  obtain⟨v1,σ1,hap,happ,ho,ht,_⟩:=(hp.out.app.toks (aBe σ' 1)).push (bytes:=1) (by decide) (fJ _) (ys:=cC [vE n i]) (fJ _) (by simp [dJ,jT]; omega) (by simp [dJ,jT]; omega)
  rw [← iC,bV,← aCP] at happ
  refine yE (v:=v1) (s:=σ1) ?_ ?_
  ·simp [V.rows]
   rw [← hap (some σ'.objs.length)]
   simp [cC,yO]
  have ho1:σ1.objs[r]?=some (.cells [v']):=by rw [ho]; exact hro
  simp [gQ,ho1,happ.lv.cells,bY (n:=(i:Int)+1) (by omega) (by omega)]
  exact⟨k-(i+1),by omega,i+1,v1,rfl,by omega,rfl,hp.trans (Put.of hp.out.obj happ ho ht)⟩

theorem aHk {x:D}{l:List UInt8}(h:LV (.d x) (cC l))(hl:l.length≤1099511627776):Dn.Call Γ cx .val 121 [.d x] St.empty fun v _=>v = .d x:=by
 refine Dn.Call.body (fc:=c121) rfl ?_
 generalize hrows:cC l=rows at h
 cases h with
 | nil=>simp [c121,c121_k2,c121_k1,eqV,V.isNil,Opd.isC]
 | list rows =>
  simp [c121,c121_k2,c121_k1,c121_k0,eqV,V.isNil,Opd.isC,iL,gJ]
  obtain⟨v1,σ1,hap,happ,ho,ht,hdv⟩:=(App.fl (σ:=St.empty) (sz:=1) []).push (bytes:=1) (by decide) (by simp) (ys:=cC l) (fJ _) (by simp [dJ]; omega) (by simp [dJ]; omega)
  refine gN (v:=v1) (s:=σ1) ?_ ?_
  ·simp [V.rows]
   rw [← hrows]
   exact hap none
  simp [(happ.lv.dv σ1).1,hdv (.inl (by simp)),hrows]

theorem aEO {σ:St}{r:Nat}{v:V}{l:List UInt8}(h:OutAt σ r l v)(hl:l.length≤1099511627776):Dn.Call Γ cx .rd 110 [.ref r 0] σ fun w _=>w=dv v:=by
 refine Dn.Call.body (fc:=c110) rfl ?_
 obtain⟨d1,d2,⟨x,dx⟩,d4,d5⟩:=h.app.lv.dv σ
 simp [c110,c110_k2,c110_k1,c110_k0,eqV,V.isNil,Opd.isC,gQ,h.obj]
 rw [dx] at d1 d2
 refine gI (ds:=[.d x]) (by simp [cN,d1]) (aHk d2 hl) (by simp [V.pure,V.flatv,h.app.lv.borrows]) ?_
 simp [dx]
 exact(Fr.refl [] σ).keeps fun _ _ h=>h

def aCR (n:Int):Int:=if n<253 then 0 else if n≤65535 then 253 else if n≤4294967295 then 254 else 255
def wide (n:Int):Int:=if n<253 then 1 else if n≤65535 then 2 else if n≤4294967295 then 4 else 8

theorem aKo (n:Int):Dn.Call Γ cx .val 125 [U n] St.empty fun v _=>v = .tup [Y (aCR n),I (wide n)]:=by
 refine Dn.Call.body (fc:=c125) rfl ?_
 unfold aCR wide
 by_cases h1:n<253
 ·simp [c125,c125_k6,c125_k5,c125_k4,h1]
 by_cases h2:n≤65535
 ·simp [c125,c125_k6,c125_k5,c125_k4,c125_k3,c125_k2,h1,h2]
 by_cases h3:n≤4294967295
 ·simp [c125,c125_k6,c125_k5,c125_k4,c125_k3,c125_k2,c125_k1,h1,h2,h3]
 ·simp [c125,c125_k6,c125_k5,c125_k4,c125_k3,c125_k2,c125_k1,c125_k0,h1,h2,h3]

def iG (n:Int):List UInt8:=if n<0 then [] else if n≤252 then low n 1 else if n≤65535 then 253::low n 2 else if n≤4294967295 then 254::low n 4 else 255::low n 8
theorem jO (n:Int):(iG n).length≤9:=by
 unfold iG
 split
 ·simp
 split
 ·simp [jT]
 split
 ·simp [jT]
 split
 ·simp [jT]
 ·simp [jT]

theorem aBY {σ:St}{r:Nat}{v:V}{l:List UInt8}(h:OutAt σ r l v)(hl:l.length≤1099511620000)(n:Int)(hn:n≤9223372036854775807) :
  Dn.Call Γ cx .raw 106 [.ref r 0,I n] σ fun _ σ'=>∃ v',Put σ r v (l++iG n) σ' v':=by
 refine Dn.Call.body (fc:=c106) rfl ?_
 by_cases h0:n<0
 ·simp [c106,c106_k4,eqV,V.isNil,Opd.isC,h0]
  exact⟨v,by simpa [iG,h0] using Put.refl h⟩
 simp [c106,c106_k4,c106_k3,eqV,V.isNil,Opd.isC,h0,lZ (n:=n) (by omega) (by omega)]
 refine gI rfl (aKo n) rfl ?_
 simp [c106_k2,c106_k1]
 by_cases h1:n<253
 ·have hm:aCR n=0:=by simp [aCR,h1]
  simp [hm,c106_k0,lZ (n:=n) (by omega) (by omega)]
  refine fF (xH h (by omega) n (wide n)) fun w s ⟨v',hw⟩=>?_
  simp
  refine⟨v',?_⟩
  have e:oU n (wide n)=iG n:=by simp [oU,wide,h1,oX,iG,h0,show n≤252 by omega]
  rw [← e]
  exact hw
 ·have hm : ¬ aCR n=0:=by unfold aCR; (repeat' split) <;> omega
  simp [hm,gQ,h.obj,iL,gJ]
  have hb : ∃ b:UInt8,aCR n=b.toNat∧iG n=b::low n (wide n).toNat∧oX (wide n)=true:=by
   have h252 : ¬ n≤252:=by omega
   unfold aCR wide iG
   by_cases h2:n≤65535
   ·exact⟨253,by simp [h1,h2],by simp [h0,h252,h1,h2],by simp [h1,h2,oX]⟩
   by_cases h3:n≤4294967295
   ·exact⟨254,by simp [h1,h2,h3],by simp [h0,h252,h1,h2,h3],by simp [h1,h2,h3,oX]⟩
   ·exact⟨255,by simp [h1,h2,h3],by simp [h0,h252,h1,h2,h3],by simp [h1,h2,h3,oX]⟩
  obtain⟨b,b1,b2,b3⟩:=hb
  obtain⟨v1,σ1,hap,happ,ho,ht,_⟩:=h.app.push (bytes:=1) (by decide) (fJ _) (ys:=cC [b]) (fJ _) (by simp [dJ]; omega) (by simp [dJ]; omega)
  rw [← iC] at happ
  refine gN (v:=v1) (s:=σ1) ?_ ?_
  ·simp [V.rows,b1]
   exact hap none
  have ho1:σ1.objs[r]?=some (.cells [v]):=by rw [ho]; exact h.obj
  simp [gQ,ho1,happ.lv.cells,c106_k0,lZ (n:=n) (by omega) (by omega)]
  have hp:=Put.of (m:=0) h.obj happ (by rw [ho]; simp [St.room]) ht
  refine fF (xH hp.out (by simp; omega) n (wide n)) fun w s ⟨v',hw⟩=>?_
  simp
  refine⟨v',?_⟩
  have e:l++iG n=l++[b]++oU n (wide n):=by simp [oU,b3,b2]
  rw [e]
  exact hp.trans hw

theorem aKm {σ:St}{r:Nat}{v:V}{l:List UInt8}(h:OutAt σ r l v)(hl:l.length≤1099511610000)(t:List UInt8)(ht0:t.length≤1000000) :
  Dn.Call Γ cx .raw 109 [.ref r 0,.d (.str t)] σ fun _ σ'=>∃ v',Put σ r v (l++(iG t.length++t)) σ' v':=by
 refine Dn.Call.body (fc:=c109) rfl ?_
 simp [c109,c109_k2,c109_k1,eqV,V.isNil,Opd.isC,gZ]
 refine fF (aBY h (by omega) t.length (by omega)) fun w s ⟨v',hw⟩=>?_
 simp [c109_k0,gQ,hw.out.obj]
 have hcl:=jO t.length
 obtain⟨v1,σ1,hap,happ,ho,ht,_⟩:=hw.out.app.push (bytes:=1) (by decide) (fJ _) (ys:=cC t) (fJ _) (by simp [dJ]; omega) (by simp [dJ]; omega)
 rw [← iC,bV] at happ
 refine gN (v:=v1) (s:=σ1) ?_ ?_
 ·simp
  exact hap none
 have ho1:σ1.objs[r]?=some (.cells [v']):=by rw [ho]; exact hw.out.obj
 simp [gQ,ho1,happ.lv.cells]
 exact⟨v1,hw.trans (Put.of (m:=0) hw.out.obj happ (by rw [ho]; simp [St.room]) ht)⟩

def hd (h:List UInt8):List D:=h.map fun b=>.int .u8 b.toNat
theorem pM (h:List UInt8):(hd h).length=h.length:=by simp [hd]
theorem aEE : ∀ (h:List UInt8),gJ 1 h.length (hd h)=cC h
 | []=>rfl
 | b::r=>by
  have ih:=aEE r
  simp only [hd,cC,aI,List.length_cons,gJ,List.take_succ_cons,List.take_zero,List.drop_succ_cons,bF] at ih ⊢
  rw [ih]
theorem aDW (h:List UInt8):ofD ((hd h).map V.d)=some (hd h):=yA _

theorem aKi {σ:St}{r:Nat}{v:V}{l:List UInt8}(h:OutAt σ r l v)(hl:l.length≤1099511610000)(t:List UInt8)(ht0:t.length=32) :
  Dn.Call Γ cx .raw 107 [.ref r 0,.da (hd t)] σ fun _ σ'=>∃ v',Put σ r v (l++t) σ' v':=by
 refine Dn.Call.body (fc:=c107) rfl ?_
 simp -implicitDefEqProofs [c107,c107_k1,c107_k0,eqV,V.isNil,Opd.isC]
 have hlt:r<σ.objs.length:=(aB.1 h.obj).1
 obtain⟨σ1,hσ1⟩ : ∃ s:St,(⟨σ.objs++[.cells ((hd t).map V.d)],σ.toks⟩:St)=s:=⟨_,rfl⟩
 rw [hσ1]
 have g1:σ1.objs[r]?=some (.cells [v]):=by rw [← hσ1]; simp [aC hlt,h.obj]
 have g2:σ1.objs[σ.objs.length]?=some (.cells ((hd t).map V.d)):=by rw [← hσ1]; simp
 have g3:σ1.toks=σ.toks:=by rw [← hσ1]
 have f1:Fr [r] σ σ1:=⟨by rw [← hσ1]; simp,fun q _ hq=>by rw [← hσ1]; simp [aC hq]⟩
 refine mR (fun _=>.val) [3] (by decide +kernel) ?_
 have hrl:(hd t).length=32:=by rw [pM,ht0]
 simp -implicitDefEqProofs [gQ,lS (m:=1) g1,lS (m:=1) g2,lD,jN,hrl]
 obtain⟨v1,σ2,hap,happ,ho,ht,_⟩:=((h.app.toks g3).toks (aBe σ1 1)).push (bytes:=1) (by decide) (fJ _) (ys:=cC t) (fJ _) (by simp [dJ]; omega) (by simp [dJ]; omega)
 rw [← iC] at happ
 refine yE (v:=v1) (s:=σ2) ?_ ?_ (fun _ t ht q hq=>by rw [ho])
 ·have hr:V.rows (σ1.room 1) (.sl σ.objs.length 0 32 1)=some (cC t):=by
   simp only [V.rows,lS (m:=1) g2]
   have:(List.take (32*1) (List.drop 0 ((hd t).map V.d)))=(hd t).map V.d:=aK (by simp [hrl])
   rw [this,aDW]
   simp only
   rw [← ht0,aEE]
  simp -implicitDefEqProofs [hr]
  exact hap _
 have ho1:σ2.objs[r]?=some (.cells [v]):=by rw [ho]; exact lS g1
 simp -implicitDefEqProofs [gQ,ho1,happ.lv.cells]
 have hp:=Put.of (m:=1) g1 happ ho (by rw [show(σ1.room 1).toks=σ1.toks from rfl] at ht; exact ht)
 exact⟨Kept.set (by simp [Env.get,jP]; omega),v1,hp.out,f1.trans hp.fr,by rw [← g3]; exact hp.tk⟩

structure Own (σ σ':St)(v:V)(l:List UInt8):Prop where
 app:App σ' 1 v (cC l)
 fr:Fr [] σ σ'
 tk:Toks σ.toks σ'.toks none (own v)

def aHU (σ:St)(n:Int)(size:Nat)(m:Nat)(e:Env) (σ':St):Prop:=∃ (i:Nat) (v':V),e=[(0,U (n / 2 ^ (8*i))),(1,I size),(5,v'),(6,I i)]∧i≤size∧m=size-i∧Own σ σ' v' (low n i)

theorem aDj {a b:Int}(ha:0≤a):a.tdiv b=a / b:=Int.tdiv_eq_ediv_of_nonneg ha
theorem aDl {a b:Int}(ha:0≤a):a.tmod b=a % b:=Int.tmod_eq_emod_of_nonneg ha

theorem aDm {l l' l'':List Nat}{o o':Option Nat}(h:Toks l l' none o)(h':Toks l' l'' o o'):Toks l l'' none o':=h.trans h'

theorem aAp (σ:St)(n:Int)(hn:0≤n)(hn':n≤18446744073709551615)(size:Int) :
  Dn.Call Γ cx .raw 114 [U n,I size] σ fun v σ'=>Own σ σ' v (oU n size):=by
 refine Dn.Call.body (fc:=c114) rfl ?_
 by_cases hs:oX size=true
 rotate_left
 ·have h1 : ¬ size=1∧¬ size=2∧¬ size=4∧¬ size=8:=by simp [oX] at hs; omega
  simp -implicitDefEqProofs [c114,c114_k10,c114_k9,c114_k8,h1]
  exact⟨by simpa [oU,hs,cC] using App.nil,Fr.refl _ _,Toks.refl _ _⟩
 ·have hz:=qG hs
  obtain⟨k,hk,hk8⟩ : ∃ k:Nat,size=k∧k≤8:=⟨size.toNat,by omega,by omega⟩
  subst hk
  have fin:Dn.gF (Dn.Call Γ cx) cx c114_k7 [(0,U n),(1,I k),(5,.d .nils),(20,B false)] σ (tY .raw σ [.tmp 4] fun v σ'=>Own σ σ' v (oU n k)):=by
   simp -implicitDefEqProofs [c114_k7,c114_k6]
   refine fK (aHU σ n k) (m:=k) ⟨0,_,by simp [Env.pick,Env.get],by omega,by omega,⟨.nil,Fr.refl _ _,Toks.refl _ _⟩⟩ ?_
   rintro m e σ' ⟨i,v',rfl,hi,rfl,hp⟩
   simp -implicitDefEqProofs [c114_l5,c114_k4]
   by_cases hik:i<k
   rotate_left
   ·obtain rfl:i=k:=by omega
    simp -implicitDefEqProofs [c114_k0]
    simpa [oU,hs] using hp
   have hq:0≤n / 2 ^ (8*i):=Int.ediv_nonneg hn (Int.pow_nonneg (by decide))
   have hq2:n / 2 ^ (8*i)≤n:=Int.ediv_le_self _ hn
   simp -implicitDefEqProofs [hik,c114_k3,aDl hq,aE3,iL,gJ]
   obtain⟨v1,σ1,hap,happ,ho,ht,_⟩:=hp.app.push (bytes:=1) (by decide) (fJ _) (ys:=cC [vE n i]) (fJ _) (by simp [dJ,jT]; omega) (by simp [dJ,jT]; omega)
   rw [← iC,← aCP] at happ
   refine gN (v:=v1) (s:=σ1) ?_ ?_
   ·simp -implicitDefEqProofs [V.rows]
    rw [← hap none]
    simp [cC,yO]
   have e3:(n / 2 ^ (8*i)).tdiv 256=n / 2 ^ (8*(i+1)):=by
    rw [aDj hq,Int.ediv_ediv_of_nonneg (Int.pow_nonneg (by decide)),show 8*(i+1)=8*i+8 by omega,Int.pow_add]
    rfl
   have hq3:0≤n / 2 ^ (8*(i+1)):=Int.ediv_nonneg hn (Int.pow_nonneg (by decide))
   have hq4:n / 2 ^ (8*(i+1))≤n:=Int.ediv_le_self _ hn
   simp -implicitDefEqProofs [c114_k2,c114_k1,e3,lZ (n:=n / 2 ^ (8*(i+1))) (by omega) (by omega),bY (n:=(i:Int)+1) (by omega) (by omega)]
   exact⟨k-(i+1),by omega,i+1,v1,rfl,by omega,rfl,happ,hp.fr.trans ⟨by rw [ho]; exact bB _,fun q _ _=>by rw [ho]⟩,aDm hp.tk ht⟩
  rcases hz with h | h | h | h <;> (rw [h] at fin ⊢; simp -implicitDefEqProofs [c114,c114_k10,c114_k9,c114_k8]; exact fin)

theorem aCr {x:D}{rows:List (List D)}(h:LV (.d x) rows)(hf : ∀ r∈rows,r.length=35)(hl:rows.length≤1000000):Dn.Call Γ cx .val 75 [.d x] St.empty fun v _=>v = .d x:=by
 refine Dn.Call.body (fc:=c75) rfl ?_
 cases h with
 | nil=>simp [c75,c75_k2,c75_k1,eqV,V.isNil,Opd.isC]
 | list rows =>
  simp [-aA,c75,c75_k2,c75_k1,c75_k0,eqV,V.isNil,Opd.isC,iL,gJ]
  obtain⟨v1,σ1,hap,happ,ho,ht,hdv⟩:=(App.fl (σ:=St.empty) (sz:=35) []).push (bytes:=64) (by decide) (by simp) (ys:=rows) hf (by simp; omega) (by simp; omega)
  refine gN (v:=v1) (s:=σ1) ?_ ?_
  ·simp [V.rows]
   exact hap none
  simp [(happ.lv.dv σ1).1,hdv (.inl (by simp))]

theorem aDI {x:D}{rows:List (List D)}(h:LV (.d x) rows)(hf : ∀ r∈rows,r.length=2)(hl:rows.length≤1000000):Dn.Call Γ cx .val 76 [.d x] St.empty fun v _=>v = .d x:=by
 refine Dn.Call.body (fc:=c76) rfl ?_
 cases h with
 | nil=>simp [c76,c76_k2,c76_k1,eqV,V.isNil,Opd.isC]
 | list rows =>
  simp [-aA,c76,c76_k2,c76_k1,c76_k0,eqV,V.isNil,Opd.isC,iL,gJ]
  obtain⟨v1,σ1,hap,happ,ho,ht,hdv⟩:=(App.fl (σ:=St.empty) (sz:=2) []).push (bytes:=16) (by decide) (by simp) (ys:=rows) hf (by simp; omega) (by simp; omega)
  refine gN (v:=v1) (s:=σ1) ?_ ?_
  ·simp [V.rows]
   exact hap none
  simp [(happ.lv.dv σ1).1,hdv (.inl (by simp))]

structure aH2 (i o:D)(ins outs:List (List D)):Prop where
 i:LV (.d i) ins
 o:LV (.d o) outs
 fi : ∀ r∈ins,r.length=35
 fo : ∀ r∈outs,r.length=2

theorem aDd {i o:D}{bb:Bool}{ins outs:List (List D)}(h:aH2 i o ins outs)(hi:ins.length≤1000000)(ho:outs.length≤1000000):Dn.Call Γ cx .val 53 [.da [i,o,.bool bb]] St.empty fun v _=>v = .da [i,o,.bool bb]:=by
 refine Dn.Call.body (fc:=c53) rfl ?_
 simp [c53,c53_k1]
 refine mR (fun _=>.val) [1,1] (by decide +kernel) ?_
 simp [dB]
 refine gY rfl rfl (aCr h.i h.fi hi) rfl ?_
 simp [dB]
 refine gY rfl rfl (aDI h.o h.fo ho) rfl ?_
 simp [dB,c53_k0,ofD]
 exact⟨Kept.refl _ _ _,Kept.refl _ _ _⟩

def aAK (rows:List (List D))(n:Int):Prop:=∀ r∈rows,∀ s:List UInt8,r[33]?=some (.str s)→(s.length:Int)≤n∨10000≤n

def aGg (ins:List (List D))(l:D)(i:D)(k:Nat)(m:Nat)(e:Env) (σ:St):Prop:=∃ (j:Nat) (n:Int),e=[(3,I n),(8,.d l),(9,I 1),(10,I 0),(30,.d i),(31,I k),(32,I j)]∧j≤k∧m=k-j∧0≤n∧n≤10000*j∧aAK (ins.take j) n

def aGh (ins:List (List D))(l:List (List D))(a b:Nat)(m:Nat)(e:Env) (σ:St):Prop:=∃ (t:Nat) (n:Int),e=[(3,I n),(8,.d (.list l)),(9,I 1),(10,I t)]∧((t=0∧n=0∧m=1)∨(t=1∧m=0∧0≤n∧n≤300000∧a≤30∧b≤30∧aAK ins n))

theorem aEP {i o:D}{tb:Bool}{ins outs:List (List D)}(h:aH2 i o ins outs)(hs : ∀ r∈ins,∃ s:List UInt8,r[33]?=some (.str s)) :
  Dn.Call Γ cx .val 8 [.d (.list [[i,o,.bool tb]])] St.empty fun v _=>∃ bb,v=B bb∧(bb=false→ins.length≤30∧outs.length≤30∧aAK ins 5000):=by
 refine Dn.Call.body (fc:=c8) rfl ?_
 have hil : ∀ σ,gZ σ .slice (.d i)=some ins.length:=fun σ=>h.i.len σ
 have hol : ∀ σ,gZ σ .slice (.d o)=some outs.length:=fun σ=>h.o.len σ
 simp [c8,c8_k16,c8_k15,gZ,lenV,c8_k14]
 have hia : ∀ σ,jA σ 3 (.d (.list [[i,o,.bool tb]])) (I 0)=some (.ro [i,o,.bool tb]):=fun σ=>(LV.list [[i,o,.bool tb]]).iaddr σ (k:=.i64) (sz:=3) (i:=0) rfl rfl
 refine fK (aGh ins [[i,o,.bool tb]] ins.length outs.length) (m:=1) ⟨0,0,rfl,.inl ⟨rfl,rfl,rfl⟩⟩ ?_
 rintro m e σ ⟨t,n,rfl,⟨rfl,rfl,rfl⟩ | ⟨rfl,rfl,n0,n1,l1,l2,lk⟩⟩
 rotate_left
 ·simp [c8_l13,c8_k12,c8_k0]
  by_cases h5:5000<n
  ·exact .inr h5
  refine .inl ⟨by omega,by omega,by omega,fun r hr s hs=>?_⟩
  rcases lk r hr s hs with h | h <;> omega
 simp [c8_l13,c8_k12,c8_k11,c8_k10,hia]
 have ho : ∀ z:Dn.Obj,(σ.objs++[z])[σ.objs.length]?=some z:=fun z=>by simp
 by_cases c1:(30:Int)<ins.length
 ·simp [c8_k9,hil,hol,c1,c8_k8]
 by_cases c2:(30:Int)<outs.length
 ·simp [c8_k9,hil,hol,c1,c2,c8_k8]
 simp [c8_k9,hil,hol,c1,c2,c8_k8,c8_k7,c8_k6]
 refine fK (aGg ins (.list [[i,o,.bool tb]]) i ins.length) (m:=ins.length) ⟨0,0,rfl,by omega,rfl,by omega,by omega,by simp [aAK]⟩ ?_
 rintro m e σ1 ⟨j,n,rfl,hj,rfl,n0,n1,nk⟩
 simp [c8_l5,c8_k4]
 by_cases hjl:j<ins.length
 rotate_left
 ·obtain rfl:j=ins.length:=by omega
  simp
  rw [bC] at nk
  exact⟨1,n,rfl,.inr ⟨rfl,rfl,by omega,by omega,by omega,by omega,nk⟩⟩
 have hrow:ins[j]?=some ins[j]:=by simp [hjl]
 have hmem:=List.getElem_mem hjl
 have hr35:=h.fi _ hmem
 obtain⟨s,hs33⟩:=hs _ hmem
 generalize hrw:ins[j]=row at *
 have hia2:=h.i.iaddr σ1 (k:=.i64) (sz:=35) hrow hr35
 have hjj:(j:Int)<ins.length:=by omega
 have htk:List.take 35 (List.map V.d row)=List.map V.d row:=aK (by simp [hr35])
 have hml:(List.map V.d row).length=35:=by simp [hr35]
 have h33:(List.map V.d row)[33]?=some (.d (.str s)):=by simp [hs33]
 have htj:ins.take (j+1)=ins.take j++[row]:=by rw [← hrw]; exact List.take_succ_eq_append_getElem hjl
 obtain⟨k,hk,hk0,hk1,hk2⟩ : ∃ k:Int,(if (10000:Int)<s.length then 10000 else(s.length:Int))=k∧0≤k∧k≤10000∧((s.length:Int)≤k∨10000≤k):=by
  by_cases h:(10000:Int)<s.length
  ·exact⟨10000,by simp [h],by omega,by omega,by omega⟩
  ·exact⟨s.length,by simp [h],by omega,by omega,by omega⟩
 have hnk:aAK (ins.take (j+1)) (n+k):=by
  rw [htj]
  intro r hr s' hs'
  rcases aW.1 hr with hr | hr
  ·rcases nk r hr s' hs' with h | h <;> omega
  ·simp at hr
   subst hr
   rw [hs33] at hs'
   cases hs'
   omega
 simp [hjj,hjl,c8_k3,c8_k2,hia2,hr35,htk]
 simp [c8_k1,hs33,gZ,vL,pH]
 rw [hk,bY (n:=n+k) (by omega) (by omega),bY (n:=(j:Int)+1) (by omega) (by omega)]
 exact⟨ins.length-(j+1),by omega,j+1,n+k,rfl,by omega,rfl,by omega,by omega,hnk⟩

theorem Own.trans {σ σ' σ'':St}{v v':V}{l l':List UInt8}(h:Own σ σ' v l)(ha:App σ'' 1 v' (cC l'))(ho:σ''.objs=σ'.objs)(ht:Toks σ'.toks σ''.toks (own v) (own v')):Own σ σ'' v' l' :=
 ⟨ha,h.fr.trans ⟨by rw [ho]; exact bB _,fun q _ _=>by rw [ho]⟩,aDm h.tk ht⟩

theorem aAn (σ:St)(n:Int)(hn:n≤9223372036854775807):Dn.Call Γ cx .raw 112 [I n] σ fun v σ'=>Own σ σ' v (iG n):=by
 refine Dn.Call.body (fc:=c112) rfl ?_
 by_cases h0:n<0
 ·simp [c112,c112_k9,c112_k8,c112_k7,h0]
  exact⟨by simpa [iG,h0,cC] using App.nil,Fr.refl _ _,Toks.refl _ _⟩
 have w:=lZ (n:=n) (by omega) (by omega)
 have step : ∀ (b:UInt8) (k:Nat),oX k=true→iG n=b::low n k→∀ (v:V) (s:St),Own σ s v (oU n k)→∃ v1 s1,jE s none 1 1 (.fl (cC [b])) (cC (low n k))=some (v1,s1)∧V.rows s v=some (cC (low n k))∧Own σ s1 v1 (iG n):=by
  intro b k hk hc v s hown
  have e:oU n k=low n k:=by simp [oU,hk]
  rw [e] at hown
  obtain⟨v1,s1,hap,happ,ho,ht,_⟩:=(App.fl (σ:=s) (sz:=1) (cC [b])).push (bytes:=1) (by decide) (fJ _) (ys:=cC (low n k)) (fJ _) (by simp [dJ,jT]; have:=qG hk; omega) (by simp [dJ,jT]; have:=qG hk; omega)
  rw [← iC,List.singleton_append,← hc] at happ
  refine⟨v1,s1,hap none,hown.app.lv.rows s,happ,hown.fr.trans ⟨by rw [ho]; exact bB _,fun q _ _=>by rw [ho]⟩,?_⟩
  refine⟨Nat.le_trans hown.tk.len ht.len,fun t k h1 h2=>ht.other t k (hown.tk.other t k h1 h2) (by simp [own]),?_⟩
  rcases ht.own with h1 | ⟨t,h1,h2⟩
  ·exact .inl h1
  ·exact .inr ⟨t,h1,Nat.le_trans hown.tk.len h2⟩
 by_cases h1:n≤252
 ·simp [c112,c112_k9,c112_k8,c112_k7,c112_k6,c112_k5,h0,h1,w]
  refine fF (aAp σ n (by omega) (by omega) 1) fun v s hv=>?_
  simp
  have:oU n 1=iG n:=by simp [oU,oX,iG,h0,h1]
  rw [← this]
  exact hv
 by_cases h2:n≤65535
 ·simp [c112,c112_k9,c112_k8,c112_k7,c112_k6,c112_k5,c112_k4,c112_k3,h0,h1,h2,w,iL,gJ]
  refine fF (aAp σ n (by omega) (by omega) 2) fun v s hv=>?_
  obtain⟨v1,s1,e1,e2,e3⟩:=step 253 2 rfl (by simp [iG,h0,h1,h2]) v s hv
  simp
  refine gN (v:=v1) (s:=s1) ?_ ?_
  ·simp [dM,Opd.ev,Env.get,e2]; exact e1
  ·simp; exact e3
 by_cases h3:n≤4294967295
 ·simp [c112,c112_k9,c112_k8,c112_k7,c112_k6,c112_k5,c112_k4,c112_k3,c112_k2,c112_k1,h0,h1,h2,h3,w,iL,gJ]
  refine fF (aAp σ n (by omega) (by omega) 4) fun v s hv=>?_
  obtain⟨v1,s1,e1,e2,e3⟩:=step 254 4 rfl (by simp [iG,h0,h1,h2,h3]) v s hv
  simp
  refine gN (v:=v1) (s:=s1) ?_ ?_
  ·simp [dM,Opd.ev,Env.get,e2]; exact e1
  ·simp; exact e3
 ·simp [c112,c112_k9,c112_k8,c112_k7,c112_k6,c112_k5,c112_k4,c112_k3,c112_k2,c112_k1,c112_k0,h0,h1,h2,h3,w,iL,gJ]
  refine fF (aAp σ n (by omega) (by omega) 8) fun v s hv=>?_
  obtain⟨v1,s1,e1,e2,e3⟩:=step 255 8 rfl (by simp [iG,h0,h1,h2,h3]) v s hv
  simp
  refine gN (v:=v1) (s:=s1) ?_ ?_
  ·simp [dM,Opd.ev,Env.get,e2]; exact e1
  ·simp; exact e3

theorem aIY (σ:St)(t:List UInt8)(ht0:t.length≤1000000):Dn.Call Γ cx .raw 115 [.d (.str t)] σ fun v σ'=>Own σ σ' v (iG t.length++t):=by
 refine Dn.Call.body (fc:=c115) rfl ?_
 simp [c115,c115_k0,gZ]
 refine fF (aAn σ t.length (by omega)) fun v s hv=>?_
 simp
 have hcl:=jO t.length
 obtain⟨v1,σ1,hap,happ,ho,ht,_⟩:=hv.app.push (bytes:=1) (by decide) (fJ _) (ys:=cC t) (fJ _) (by simp [dJ]; omega) (by simp [dJ]; omega)
 rw [← iC] at happ
 refine gN (v:=v1) (s:=σ1) ?_ ?_
 ·simp; exact hap none
 simp
 exact hv.trans happ ho ht

def aGk (σ:St)(t:List UInt8)(m:Nat)(e:Env) (σ':St):Prop:=∃ (i:Nat) (v':V),e=[(1,.ref σ.objs.length 0),(3,v'),(4,I i)]∧i≤32∧m=32-i∧Own σ σ' v' (t.take i)∧σ'.objs[σ.objs.length]?=some (.cells ((hd t).map V.d))

theorem aIW (σ:St)(t:List UInt8)(ht0:t.length=32):Dn.Call Γ cx .raw 113 [.da (hd t)] σ fun v σ'=>Own σ σ' v t:=by
 refine Dn.Call.body (fc:=c113) rfl ?_
 have hrl:(hd t).length=32:=by rw [pM,ht0]
 simp [c113,c113_k7,c113_k6,c113_k5]
 refine fK (aGk σ t) (m:=32) ⟨0,.d .nils,rfl,by omega,by omega,⟨by simpa [cC] using App.nil,⟨by simp,fun q _ hq=>by simp [aC hq]⟩,Toks.refl _ _⟩,by simp⟩ ?_
 rintro m e σ' ⟨i,v',rfl,hi,rfl,hp,hob⟩
 simp [c113_l4,c113_k3]
 by_cases hik:i<32
 rotate_left
 ·obtain rfl:i=32:=by omega
  simp [c113_k0]
  rw [aK (by omega)] at hp
  exact hp
 have hb:t[i]?=some (t[i]'(by omega)):=by simp [show i<t.length by omega]
 have hcell:((hd t).map V.d)[i]?=some (Y (t[i]'(by omega)).toNat):=by simp [hd,hb]
 have hik':(i:Int)<32:=by omega
 simp [hik',c113_k2,kZ,jX,hob,hcell,iL,gJ]
 obtain⟨v1,σ1,hap,happ,ho,ht,_⟩:=hp.app.push (bytes:=1) (by decide) (fJ _) (ys:=cC [t[i]'(by omega)]) (fJ _) (by simp [dJ]; omega) (by simp [dJ]; omega)
 rw [← iC,← List.take_succ_eq_append_getElem (by omega)] at happ
 refine gN (v:=v1) (s:=σ1) ?_ ?_
 ·simp [V.rows]
  rw [← hap none]
  simp [cC]
 simp [c113_k1,bY (n:=(i:Int)+1) (by omega) (by omega)]
 exact⟨32-(i+1),by omega,i+1,v1,rfl,by omega,rfl,hp.trans happ ho ht,by rw [ho]; exact hob⟩

structure SpG where
 tx:List UInt8
 n:Int
 key:List UInt8
 sl:Int
structure CoG where
 value:Int
 lock:Int
def SpG.row (s:SpG):List D:=hd s.tx++[.int .i64 s.n,.str s.key,.int .u64 s.sl]
def CoG.row (c:CoG):List D:=[.int .i64 c.value,.int .u64 c.lock]
structure SpG.Ok (s:SpG):Prop where
 tx:s.tx.length=32
 key:s.key.length≤5000
 sl0:0≤s.sl
 sl1:s.sl≤18446744073709551615
 n0 : -9223372036854775808≤s.n
 n1:s.n≤9223372036854775807
def CoG.Ok (c:CoG):Prop:=0≤c.lock∧c.lock≤18446744073709551615 ∧ -9223372036854775808≤c.value∧c.value≤9223372036854775807
def u64 (n:Int):Int:=bL.wrap n
theorem aJo (n:Int):0≤u64 n:=by unfold u64; simp only [IntKind.wrap,IntKind.signed,IntKind.bits]; simp; omega
theorem aJp (n:Int):u64 n≤18446744073709551615:=by unfold u64; simp only [IntKind.wrap,IntKind.signed,IntKind.bits]; simp; omega
def spB (w:Bool)(s:SpG):List UInt8:=s.tx++low (u64 s.n) 4++(if w then iG s.key.length++s.key++low s.sl 8 else [])
def coB (c:CoG):List UInt8:=low (u64 c.value) 8++low c.lock 8
def txB (w:Bool)(ins:List SpG)(outs:List CoG)(f:Bool):List UInt8:=iG ins.length++ins.flatMap (spB w)++iG outs.length++outs.flatMap coB++[if f then 1 else 0]

theorem aB7 (w:Bool){s:SpG}(h:s.Ok):(spB w s).length≤5060:=by
 have h1:=h.tx
 have h2:=h.key
 have h3:=jO s.key.length
 unfold spB
 cases w <;> simp [jT] <;> omega
theorem aBw (c:CoG):(coB c).length=16:=by simp [coB,jT]
theorem fM {s:SpG}(h:s.Ok):s.row.length=35:=by simp [SpG.row,pM,h.tx]
theorem aB9 {s:SpG}(h:s.Ok):List.take 32 (List.map V.d s.row)=(hd s.tx).map V.d:=by
 have:(List.map V.d (hd s.tx)).length=32:=by simp [pM,h.tx]
 simp only [SpG.row,List.map_append]
 rw [List.take_append_of_le_length (by omega),aK (by omega)]
theorem aDg {s:SpG}(h:s.Ok):s.row[32]?=some (.int .i64 s.n)∧s.row[33]?=some (.str s.key)∧s.row[34]?=some (.int .u64 s.sl):=by
 have:(hd s.tx).length=32:=by simp [pM,h.tx]
 simp only [SpG.row]
 refine⟨?_,?_,?_⟩
 ·rw [bH (by omega),this]; rfl
 ·rw [bH (by omega),this]; rfl
 ·rw [bH (by omega),this]; rfl
def fH (l:List SpG):List (List D):=l.map SpG.row
def gH (l:List CoG):List (List D):=l.map CoG.row
theorem sI {α:Type}(f:α→List UInt8)(l:List α){i:Nat}{a:α}(h:l[i]?=some a):(l.take (i+1)).flatMap f=(l.take i).flatMap f++f a:=by
 obtain⟨hi,rfl⟩:=aB.1 h
 rw [← aZ hi,List.flatMap_append]
 simp

theorem OutAt.push {σ:St}{r:Nat}{l:List UInt8}{v:V}(h:OutAt σ r l v)(o:Dn.Obj):OutAt ⟨σ.objs++[o],σ.toks⟩ r l v :=
 ⟨by simp only; rw [aC (aB.1 h.obj).1]; exact h.obj,h.app.toks rfl⟩

def aJc (w:Bool)(i o:D)(f:Bool)(ins:List SpG)(pre:List UInt8)(m:Nat)(e:Env) (σ:St):Prop:=∃ (j:Nat) (v:V),e=[(1,B w),(2,.ref 0 0),(5,.ref 1 0),(19,.d i),(20,I ins.length),(21,I j)]∧j≤ins.length∧m=ins.length-j ∧
 σ.objs[0]?=some (.cells [.d i,.d o,.d (.bool f)])∧OutAt σ 1 (pre++(ins.take j).flatMap (spB w)) v∧(pre++(ins.take j).flatMap (spB w)).length≤10+5060*j

def aK1 (i o:D)(f:Bool)(outs:List CoG)(pre:List UInt8)(N:Nat)(m:Nat)(e:Env) (σ:St):Prop:=∃ (j:Nat) (v:V),e=[(2,.ref 0 0),(5,.ref 1 0),(52,.d o),(53,I outs.length),(54,I j)]∧j≤outs.length∧m=outs.length-j ∧
 σ.objs[0]?=some (.cells [.d i,.d o,.d (.bool f)])∧OutAt σ 1 (pre++(outs.take j).flatMap coB) v∧(pre++(outs.take j).flatMap coB).length≤N+16*j

theorem aJm {i o:D}{f w:Bool}{ins:List SpG}{outs:List CoG}(hi:LV (.d i) (fH ins))(ho:LV (.d o) (gH outs))(hli:ins.length≤30)(hlo:outs.length≤30)(hoi : ∀ s∈ins,s.Ok)(hoo : ∀ c∈outs,c.Ok) :
  Dn.Call Γ cx .val 91 [.da [i,o,.bool f],B w] St.empty fun v _=>v = .d (.list (cC (txB w ins outs f))):=by
 refine Dn.Call.body (fc:=c91) rfl ?_
 have hil : ∀ σ,gZ σ .slice (.d i)=some ins.length:=fun σ=>by rw [hi.len]; simp [fH]
 have hol : ∀ σ,gZ σ .slice (.d o)=some outs.length:=fun σ=>by rw [ho.len]; simp [gH]
 simp [c91,c91_k26,c91_k25,hil,bZ]
 have h00:OutAt ⟨[.cells [.d i,.d o,.d (.bool f)],.cells [.d .nils]],[]⟩ 1 [] (.d .nils):=⟨rfl,.nil⟩
 refine fF (aBY h00 (by simp) ins.length (by omega)) fun x σ ⟨v,hp⟩=>?_
 have g0:σ.objs[0]?=some (.cells [.d i,.d o,.d (.bool f)]):=by rw [hp.fr.2 0 (by simp) (by simp)]; rfl
 simp [c91_k24,c91_k23,g0,hil]
 have hcl:=jO ins.length
 refine fK (aJc w i o f ins (iG ins.length)) (m:=ins.length) ⟨0,v,rfl,by omega,rfl,g0,by simpa using hp.out,by simp; omega⟩ ?_
 rintro m e σ1 ⟨j,v1,rfl,hj,rfl,g1,h1,hlen⟩
 simp [c91_l22,c91_k21]
 by_cases hji:j<ins.length
 ·obtain⟨s,hs⟩ : ∃ s,ins[j]?=some s:=⟨ins[j],by simp [hji]⟩
  have hok:=hoi s (aL hs)
  have hrow:(fH ins)[j]?=some s.row:=by simp [fH,hs]
  have hia:=hi.iaddr σ1 (k:=.i64) (sz:=35) hrow (fM hok)
  have hft:=sI (spB w) ins hs
  have hjj:(j:Int)<ins.length:=by omega
  obtain⟨a32,a33,a34⟩:=aDg hok
  have s35:List.take 35 (List.map V.d s.row)=List.map V.d s.row:=aK (by simp [fM hok])
  have s32:=aB9 hok
  simp [hjj,hji,c91_k20,c91_k19,hia,fM hok,s35]
  have hl2:1<σ1.objs.length:=(aB.1 h1.obj).1
  have h2:=h1.push (.cells (List.map V.d s.row))
  have g2:(σ1.objs++[Dn.Obj.cells (List.map V.d s.row)])[0]?=some (.cells [.d i,.d o,.d (.bool f)]):=by rw [aC (by omega)]; exact g1
  have q2:(σ1.objs++[Dn.Obj.cells (List.map V.d s.row)])[σ1.objs.length]?=some (.cells (List.map V.d s.row)):=by simp
  have hq2:σ1.objs.length<(σ1.objs++[Dn.Obj.cells (List.map V.d s.row)]).length:=by simp
  obtain⟨σ2,hσ2⟩ : ∃ σ2:St,(⟨σ1.objs++[.cells (List.map V.d s.row)],σ1.toks⟩:St)=σ2:=⟨_,rfl⟩
  have e2:σ1.objs++[Dn.Obj.cells (List.map V.d s.row)]=σ2.objs:=by rw [← hσ2]
  rw [e2] at g2 q2 hq2
  rw [hσ2] at h2 ⊢
  generalize σ1.objs.length=q at *
  have a32':(List.map V.d s.row)[32]?=some (.d (.int .i64 s.n)):=by simp [a32]
  have a33':(List.map V.d s.row)[33]?=some (.d (.str s.key)):=by simp [a33]
  have a34':(List.map V.d s.row)[34]?=some (.d (.int .u64 s.sl)):=by simp [a34]
  have hml:(List.map V.d s.row).length=35:=by simp [fM hok]
  generalize List.map V.d s.row=rw_ at *
  simp [c91_k18,q2,hml,s32,bZ,aDW]
  refine fF (aKi h2 (by omega) s.tx hok.tx) fun x3 σ3 ⟨v3,p3⟩=>?_
  have q3:σ3.objs[q]?=some (.cells rw_):=by rw [p3.fr.at_ q (by simp; omega) hq2]; exact q2
  have u3:bL.wrap s.n=u64 s.n:=rfl
  simp [c91_k17,q3,a32',u3]
  have l3:((iG ins.length++(ins.take j).flatMap (spB w))++s.tx).length≤10+5060*j+32:=by rw [aX,hok.tx]; omega
  refine fF (xH p3.out (by omega) (u64 s.n) 4) fun x4 σ4 ⟨v4,p4⟩=>?_
  have hq3:q<σ3.objs.length:=Nat.lt_of_lt_of_le hq2 p3.fr.len
  have q4:σ4.objs[q]?=some (.cells rw_):=by rw [p4.fr.at_ q (by simp; omega) hq3]; exact q3
  have n4:oU (u64 s.n) 4=low (u64 s.n) 4:=rfl
  have p24:=p3.trans p4
  rw [n4] at p24 p4
  have l4:((iG ins.length++(ins.take j).flatMap (spB w))++s.tx++low (u64 s.n) 4).length≤10+5060*j+36:=by rw [aX,jT]; omega
  have hq4:q<σ4.objs.length:=Nat.lt_of_lt_of_le hq3 p4.fr.len
  have h02:0<σ2.objs.length:=(aB.1 g2).1
  have fin : ∀ {σ':St} {v':V},Put σ2 1 v1 (iG ins.length++(ins.take (j+1)).flatMap (spB w)) σ' v'→∃ m',m'<ins.length-j∧aJc w i o f ins (iG ins.length) m' [(1,B w),(2,.ref 0 0),(5,.ref 1 0),(19,.d i),(20,I ins.length),(21,.d (.int .i64 ((j:Int)+1)))] σ':=fun {σ' v'} hp' =>
   ⟨ins.length-(j+1),by omega,j+1,v',rfl,by omega,rfl,by rw [hp'.fr.at_ 0 (by simp) h02]; exact g2,hp'.out,by
    rw [hft]
    have:=aB7 w hok
    simp only [aX] at hlen ⊢
    omega⟩
  cases w with
  | false =>
   simp [c91_k16,c91_k15,bY (n:=(j:Int)+1) (by omega) (by omega)]
   refine fin (v':=v4) ?_
   rw [hft]
   simpa [spB] using p24
  | true =>
   simp [c91_k16,c91_k15,q4,a33']
   have hkey:=hok.key
   have hckl:=jO s.key.length
   refine fF (aKm p4.out (by omega) s.key (by omega)) fun x5 σ5 ⟨v5,p5⟩=>?_
   have q5:σ5.objs[q]?=some (.cells rw_):=by rw [p5.fr.at_ q (by simp; omega) hq4]; exact q4
   simp [c91_k14,q5,a34']
   have l5:((iG ins.length++(ins.take j).flatMap (spB true))++s.tx++low (u64 s.n) 4++(iG s.key.length++s.key)).length≤10+5060*j+36+5010:=by
    simp only [aX] at l4 ⊢
    omega
   refine fF (xH p5.out (by omega) s.sl 8) fun x6 σ6 ⟨v6,p6⟩=>?_
   have n6:oU s.sl 8=low s.sl 8:=rfl
   have p26:=(p24.trans p5).trans p6
   rw [n6] at p26
   simp [bY (n:=(j:Int)+1) (by omega) (by omega)]
   refine fin (v':=v6) ?_
   rw [hft]
   simpa [spB] using p26
 ·obtain rfl:j=ins.length:=by omega
  rw [bC] at h1 hlen
  simp [c91_k13,g1,hol]
  have hcl2:=jO outs.length
  refine fF (aBY h1 (by omega) outs.length (by omega)) fun x2 σ2 ⟨v2,p2⟩=>?_
  have hl2:1<σ1.objs.length:=(aB.1 h1.obj).1
  have g2:σ2.objs[0]?=some (.cells [.d i,.d o,.d (.bool f)]):=by rw [p2.fr.at_ 0 (by simp) (by omega)]; exact g1
  simp [c91_k12,c91_k11,g2,hol]
  have o2:=p2.out
  generalize hpre:(iG ins.length++ins.flatMap (spB w))++iG outs.length=pre at *
  have hprel:pre.length≤152000:=by rw [← hpre]; simp only [aX] at hlen ⊢; omega
  refine fK (aK1 i o f outs pre 152000) (m:=outs.length) ⟨0,v2,rfl,by omega,rfl,g2,by simpa using o2,by simpa using hprel⟩ ?_
  rintro m e σ3 ⟨j,v3,rfl,hj,rfl,g3,h3,hlen3⟩
  simp [c91_l10,c91_k9]
  by_cases hjo:j<outs.length
  ·obtain⟨c,hc⟩ : ∃ c,outs[j]?=some c:=⟨outs[j],by simp [hjo]⟩
   have hrow:(gH outs)[j]?=some c.row:=by simp [gH,hc]
   have hia:=ho.iaddr σ3 (k:=.i64) (sz:=2) hrow rfl
   have hft:=sI coB outs hc
   have hjj:(j:Int)<outs.length:=by omega
   simp [hjj,hjo,c91_k8,c91_k7,hia,CoG.row]
   have hl3:1<σ3.objs.length:=(aB.1 h3.obj).1
   generalize hcs:[V.d (.int .i64 c.value),V.d (.int .u64 c.lock)]=cs at *
   have h4:=h3.push (.cells cs)
   have g4:(σ3.objs++[Dn.Obj.cells cs])[0]?=some (.cells [.d i,.d o,.d (.bool f)]):=by rw [aC (by omega)]; exact g3
   have q4:(σ3.objs++[Dn.Obj.cells cs])[σ3.objs.length]?=some (.cells cs):=by simp
   have hq4:σ3.objs.length<(σ3.objs++[Dn.Obj.cells cs]).length:=by simp
   obtain⟨σ4,hσ4⟩ : ∃ σ4:St,(⟨σ3.objs++[.cells cs],σ3.toks⟩:St)=σ4:=⟨_,rfl⟩
   have e4:σ3.objs++[Dn.Obj.cells cs]=σ4.objs:=by rw [← hσ4]
   rw [e4] at g4 q4 hq4
   rw [hσ4] at h4 ⊢
   generalize σ3.objs.length=q at *
   have hc0:cs[0]?=some (.d (.int .i64 c.value)):=by rw [← hcs]; rfl
   have hc1:cs[1]?=some (.d (.int .u64 c.lock)):=by rw [← hcs]; rfl
   have u3:bL.wrap c.value=u64 c.value:=rfl
   have h04:0<σ4.objs.length:=(aB.1 g4).1
   simp [c91_k6,q4,hc0,u3]
   refine fF (xH h4 (by omega) (u64 c.value) 8) fun x5 σ5 ⟨v5,p5⟩=>?_
   have q5:σ5.objs[q]?=some (.cells cs):=by rw [p5.fr.at_ q (by simp; omega) hq4]; exact q4
   simp [c91_k5,q5,hc1]
   have n5:oU (u64 c.value) 8=low (u64 c.value) 8:=rfl
   have n6:oU c.lock 8=low c.lock 8:=rfl
   rw [n5] at p5
   refine fF (xH p5.out (by rw [aX,jT]; omega) c.lock 8) fun x6 σ6 ⟨v6,p6⟩=>?_
   have p46:=p5.trans p6
   rw [n6] at p46
   simp [bY (n:=(j:Int)+1) (by omega) (by omega)]
   refine⟨outs.length-(j+1),by omega,j+1,v6,rfl,by omega,rfl,by rw [p46.fr.at_ 0 (by simp) h04]; exact g4,?_,?_⟩
   ·rw [hft]
    simpa [coB] using p46.out
   ·rw [hft]
    have:=aBw c
    simp only [aX] at hlen3 ⊢
    omega
  ·obtain rfl:j=outs.length:=by omega
   rw [bC] at h3 hlen3
   have hfin : ∀ (b:UInt8) (σ':St) (v':V),OutAt σ' 1 (pre++outs.flatMap coB++[b]) v'→b=(if f then 1 else 0)→dv v' = .d (.list (cC (txB w ins outs f))):=by
    intro b σ' v' ho' hb
    have hfz:=App.frozen ho'.app (by intro e; have:=congrArg List.length e; rw [dJ] at this; simp at this)
    obtain⟨d1,-,-,-,-⟩:=ho'.app.lv.dv σ'
    rw [hfz] at d1
    have:pre++outs.flatMap coB++[b]=txB w ins outs f:=by rw [← hpre,hb]; rfl
    rw [this] at d1
    exact(aN.inj d1).symm
   cases f with
   | true =>
    simp [c91_k4,c91_k3,c91_k2,c91_k1,g3]
    refine fF (xH h3 (by omega) 1 1) fun x5 σ5 ⟨v5,p5⟩=>?_
    have nb:oU 1 1=[1]:=by decide
    have hdv:=hfin 1 σ5 v5 (by have:=p5.out; rw [nb] at this; exact this) rfl
    simp [c91_k0]
    refine jW (aEO p5.out (by rw [nb]; simp only [aX,List.length_singleton] at hlen3 ⊢; omega)) ?_
    rw [hdv]
    simp
   | false =>
    simp [c91_k4,c91_k3,c91_k2,c91_k1,g3]
    refine fF (xH h3 (by omega) 0 1) fun x5 σ5 ⟨v5,p5⟩=>?_
    have nb:oU 0 1=[0]:=by decide
    have hdv:=hfin 0 σ5 v5 (by have:=p5.out; rw [nb] at this; exact this) rfl
    simp [c91_k0]
    refine jW (aEO p5.out (by rw [nb]; simp only [aX,List.length_singleton] at hlen3 ⊢; omega)) ?_
    rw [hdv]
    simp

theorem pJ (w:Bool){ins:List SpG}{outs:List CoG}(f:Bool)(hli:ins.length≤30)(hlo:outs.length≤30)(hoi : ∀ s∈ins,s.Ok):0<(txB w ins outs f).length∧(txB w ins outs f).length≤200000:=by
 have h1 : ∀ l:List SpG,(∀ s∈l,s.Ok)→(l.flatMap (spB w)).length≤5060*l.length:=by
  intro l
  induction l with
  | nil=>intro _; simp
  | cons s r ih =>
   intro h
   have a:=aB7 w (h s (by simp))
   have b:=ih fun x hx=>h x (by simp [hx])
   simp only [List.flatMap_cons,aX,List.length_cons] at b ⊢
   omega
 have h2 : ∀ l:List CoG,(l.flatMap coB).length=16*l.length:=by
  intro l
  induction l with
  | nil=>rfl
  | cons c r ih=>simp only [List.flatMap_cons,aX,List.length_cons,aBw,ih]; omega
 have a:=h1 ins hoi
 have b:=h2 outs
 have c:=jO ins.length
 have d:=jO outs.length
 unfold txB
 simp only [aX,List.length_singleton]
 omega

theorem aFW {i o:D}{f:Bool}{ins:List SpG}{outs:List CoG}(hi:LV (.d i) (fH ins))(ho:LV (.d o) (gH outs))(hli:ins.length≤30)(hlo:outs.length≤30)(hoi : ∀ s∈ins,s.Ok)(hoo : ∀ c∈outs,c.Ok) :
  Dn.Call Γ cx .val 87 [.da [i,o,.bool f]] St.empty fun v _=>v = .d (.list (cC (txB true ins outs f))):=by
 refine Dn.Call.body (fc:=c87) rfl ?_
 simp [c87,c87_k0,bZ]
 refine gI rfl (aJm (w:=true) hi ho hli hlo hoi hoo) rfl ?_
 simp

theorem xW {Γ':Nat→Option FnC}{f:Nat}{fc:FnC}(hf:Γ' f=some fc)(h1:fc.res.length=1){vs:List V}{l:List UInt8}(h:Dn.Call Γ' cx .raw f vs St.empty fun v s=>Own St.empty s v l):Dn.Call Γ' cx .val f vs St.empty fun v _=>∃ x,v = .d x∧LV (.d x) (cC l) :=
 Call.as_val hf h1 h fun v s hv=>by
  obtain⟨d,h1,h2⟩:=hv.app.lv.byVal s
  exact⟨.d d,h1,d,rfl,h2⟩
theorem aEI {n:Int}(h0:0≤n)(h1:n≤18446744073709551615)(k:Nat)(hk:k=4∨k=8):Dn.Call Γ cx .val 114 [U n,I k] St.empty fun v _=>∃ x,v = .d x∧LV (.d x) (cC (low n k)):=by
 refine xW rfl rfl ?_
 have:=aAp St.empty n h0 h1 k
 have hn:oU n k=low n k:=by
  rcases hk with rfl | rfl <;> rfl
 rw [hn] at this
 exact this
theorem aJ9 {t:List UInt8}(h:t.length=32):Dn.Call Γ cx .val 113 [.da (hd t)] St.empty fun v _=>∃ x,v = .d x∧LV (.d x) (cC t):=xW rfl rfl (aIW St.empty t h)
theorem aKa {t:List UInt8}(h:t.length≤1000000):Dn.Call Γ cx .val 115 [.d (.str t)] St.empty fun v _=>∃ x,v = .d x∧LV (.d x) (cC (iG t.length++t)):=xW rfl rfl (aIY St.empty t h)
theorem aIu {n:Int}(h:n≤9223372036854775807):Dn.Call Γ cx .val 112 [I n] St.empty fun v _=>∃ x,v = .d x∧LV (.d x) (cC (iG n)):=xW rfl rfl (aAn St.empty n h)

theorem mK {σ:St}{v:V}{l t:List UInt8}{x:D}(hv:App σ 1 v (cC l))(hx:LV (.d x) (cC t))(hl:l.length+t.length≤100000000) :
  ∃ v' σ',(∀ tg,jE σ tg 1 1 v (cC t)=some (v',σ'))∧App σ' 1 v' (cC (l++t))∧σ'.objs=σ.objs:=by
 obtain⟨v',σ',h1,h2,h3,-,-⟩:=hv.push (bytes:=1) (by decide) (fJ _) (ys:=cC t) (fJ _) (by simp [dJ]; omega) (by simp [dJ]; omega)
 rw [← iC] at h2
 exact⟨v',σ',h1,h2,h3⟩
def aI9 (w:Bool)(i o:D)(f:Bool)(ins:List SpG)(pre:List UInt8)(m:Nat)(e:Env) (σ:St):Prop:=∃ (j:Nat) (v:V),e=[(1,B w),(2,.ref 0 0),(5,v),(6,I j)]∧j≤ins.length∧m=ins.length-j ∧
 σ.objs[0]?=some (.cells [.d i,.d o,.d (.bool f)])∧App σ 1 v (cC (pre++(ins.take j).flatMap (spB w)))∧(pre++(ins.take j).flatMap (spB w)).length≤10+5060*j
def aJD (i o:D)(f:Bool)(outs:List CoG)(pre:List UInt8)(N:Nat)(m:Nat)(e:Env) (σ:St):Prop:=∃ (j:Nat) (v:V),e=[(2,.ref 0 0),(5,v),(8,I j)]∧j≤outs.length∧m=outs.length-j ∧
 σ.objs[0]?=some (.cells [.d i,.d o,.d (.bool f)])∧App σ 1 v (cC (pre++(outs.take j).flatMap coB))∧(pre++(outs.take j).flatMap coB).length≤N+16*j

theorem aHB {i o:D}{f w:Bool}{ins:List SpG}{outs:List CoG}(hi:LV (.d i) (fH ins))(ho:LV (.d o) (gH outs))(hli:ins.length≤30)(hlo:outs.length≤30)(hoi : ∀ s∈ins,s.Ok)(hoo : ∀ c∈outs,c.Ok) :
  Dn.Call Γ cx .val 93 [.da [i,o,.bool f],B w] St.empty fun v _=>v = .d (.list (cC (txB w ins outs f))):=by
 refine Dn.Call.body (fc:=c93) rfl ?_
 have hil : ∀ σ,gZ σ .slice (.d i)=some ins.length:=fun σ=>by rw [hi.len]; simp [fH]
 have hol : ∀ σ,gZ σ .slice (.d o)=some outs.length:=fun σ=>by rw [ho.len]; simp [gH]
 simp [c93,c93_k25,hil,bZ]
 refine fF (aAn ⟨[.cells [.d i,.d o,.d (.bool f)]],[]⟩ ins.length (by omega)) fun v σ hown=>?_
 have hcl:=jO ins.length
 have g0:σ.objs[0]?=some (.cells [.d i,.d o,.d (.bool f)]):=by rw [hown.fr.at_ 0 (by simp) (by simp)]; rfl
 simp [c93_k24,c93_k23]
 refine fK (aI9 w i o f ins (iG ins.length)) (m:=ins.length) ⟨0,v,rfl,by omega,rfl,g0,by simpa using hown.app,by simp; omega⟩ ?_
 rintro m e σ1 ⟨j,v1,rfl,hj,rfl,g1,h1,hlen⟩
 simp [c93_l22,c93_k21,g1,hil]
 by_cases hji:j<ins.length
 ·obtain⟨s,hs⟩ : ∃ s,ins[j]?=some s:=⟨ins[j],by simp [hji]⟩
  have hok:=hoi s (aL hs)
  have hrow:(fH ins)[j]?=some s.row:=by simp [fH,hs]
  have hia:=fun σ=>hi.iaddr σ (k:=.i64) (sz:=35) hrow (fM hok)
  have hft:=sI (spB w) ins hs
  have hjj:(j:Int)<ins.length:=by omega
  obtain⟨a32,a33,a34⟩:=aDg hok
  have s35:List.take 35 (List.map V.d s.row)=List.map V.d s.row:=aK (by simp [fM hok])
  have s32:=aB9 hok
  simp [hjj,hji,c93_k20,c93_k19,g1,hia,fM hok,s35]
  have g2:(σ1.objs++[Dn.Obj.cells (List.map V.d s.row)])[0]?=some (.cells [.d i,.d o,.d (.bool f)]):=by rw [aC (aB.1 g1).1]; exact g1
  have q2:(σ1.objs++[Dn.Obj.cells (List.map V.d s.row)])[σ1.objs.length]?=some (.cells (List.map V.d s.row)):=by simp
  have h2:App ⟨σ1.objs++[Dn.Obj.cells (List.map V.d s.row)],σ1.toks⟩ 1 v1 _:=h1.toks rfl
  obtain⟨σ2,hσ2⟩ : ∃ σ2:St,(⟨σ1.objs++[.cells (List.map V.d s.row)],σ1.toks⟩:St)=σ2:=⟨_,rfl⟩
  have e2:σ1.objs++[Dn.Obj.cells (List.map V.d s.row)]=σ2.objs:=by rw [← hσ2]
  rw [e2] at g2 q2
  rw [hσ2] at h2 ⊢
  generalize σ1.objs.length=q at *
  have a32':(List.map V.d s.row)[32]?=some (.d (.int .i64 s.n)):=by simp [a32]
  have a33':(List.map V.d s.row)[33]?=some (.d (.str s.key)):=by simp [a33]
  have a34':(List.map V.d s.row)[34]?=some (.d (.int .u64 s.sl)):=by simp [a34]
  have hml:(List.map V.d s.row).length=35:=by simp [fM hok]
  generalize List.map V.d s.row=rw_ at *
  have u3:bL.wrap s.n=u64 s.n:=rfl
  have l3:=hok.tx
  have l4:=hok.key
  have l5:=jO s.key.length
  have l6:=jT (u64 s.n) 4
  have l7:=jT s.sl 8
  simp [c93_k18,q2,hml,s32,bZ,aDW]
  refine kA rfl (aJ9 hok.tx) fun x3 _ ⟨y3,hx3,hy3⟩=>?_
  subst hx3
  refine⟨rfl,fun _=>by simp_all [V.borrows],?_⟩
  obtain⟨v3,σ3,ap3,h3,o3⟩:=mK h2 hy3 (by omega)
  simp
  refine gN (v:=v3) (s:=σ3) ?_ ?_
  ·simp [hy3.rows]
   exact ap3 none
  simp [c93_k17,o3,q2,a32',u3]
  refine kA rfl (aEI (aJo _) (aJp _) 4 (.inl rfl)) fun x4 _ ⟨y4,hx4,hy4⟩=>?_
  subst hx4
  refine⟨rfl,fun _=>by simp_all [V.borrows],?_⟩
  obtain⟨v4,σ4,ap4,h4,o4⟩:=mK h3 hy4 (by simp only [aX] at hlen ⊢; omega)
  simp
  refine gN (v:=v4) (s:=σ4) ?_ ?_
  ·simp [hy4.rows]
   exact ap4 none
  have fin : ∀ {σ':St} {v':V},σ'.objs=σ2.objs→App σ' 1 v' (cC (iG ins.length++(ins.take (j+1)).flatMap (spB w)))→∃ m',m'<ins.length-j∧aI9 w i o f ins (iG ins.length) m' [(1,B w),(2,.ref 0 0),(5,v'),(6,.d (.int .i64 ((j:Int)+1)))] σ':=fun {σ' v'} ho' hp' =>
   ⟨ins.length-(j+1),by omega,j+1,v',rfl,by omega,rfl,by rw [ho']; exact g2,hp',by
    rw [hft]
    have:=aB7 w hok
    simp only [aX] at hlen ⊢
    omega⟩
  cases w with
  | false =>
   simp [c93_k16,c93_k15,c93_k12,bY (n:=(j:Int)+1) (by omega) (by omega)]
   refine fin (v':=v4) (by rw [o4,o3]) ?_
   rw [hft]
   simpa [spB] using h4
  | true =>
   simp [c93_k16,c93_k15,c93_k14,o4,o3,q2,a33']
   refine kA rfl (aKa (t:=s.key) (by omega)) fun x5 _ ⟨y5,hx5,hy5⟩=>?_
   subst hx5
   refine⟨rfl,fun _=>by simp_all [V.borrows],?_⟩
   obtain⟨v5,σ5,ap5,h5,o5⟩:=mK h4 hy5 (by simp only [aX] at hlen ⊢; omega)
   simp
   refine gN (v:=v5) (s:=σ5) ?_ ?_
   ·simp [hy5.rows]
    exact ap5 none
   simp [c93_k13,o5,o4,o3,q2,a34']
   refine kA rfl (aEI hok.sl0 hok.sl1 8 (.inr rfl)) fun x6 _ ⟨y6,hx6,hy6⟩=>?_
   subst hx6
   refine⟨rfl,fun _=>by simp_all [V.borrows],?_⟩
   obtain⟨v6,σ6,ap6,h6,o6⟩:=mK h5 hy6 (by simp only [aX] at hlen ⊢; omega)
   simp
   refine gN (v:=v6) (s:=σ6) ?_ ?_
   ·simp [hy6.rows]
    exact ap6 none
   simp [c93_k12,bY (n:=(j:Int)+1) (by omega) (by omega)]
   refine fin (v':=v6) (by rw [o6,o5,o4,o3]) ?_
   rw [hft]
   simpa [spB] using h6
 ·obtain rfl:j=ins.length:=by omega
  rw [bC] at h1 hlen
  simp [c93_k11,g1,hol]
  have hcl2:=jO outs.length
  refine kA rfl (aIu (n:=outs.length) (by omega)) fun x2 _ ⟨y2,hx2,hy2⟩=>?_
  subst hx2
  refine⟨rfl,fun _=>by simp_all [V.borrows],?_⟩
  obtain⟨v2,σ2,ap2,o2,ob2⟩:=mK h1 hy2 (by omega)
  simp
  refine gN (v:=v2) (s:=σ2) ?_ ?_
  ·simp [hy2.rows]
   exact ap2 none
  have g2:σ2.objs[0]?=some (.cells [.d i,.d o,.d (.bool f)]):=by rw [ob2]; exact g1
  simp [c93_k10,c93_k9]
  generalize hpre:(iG ins.length++ins.flatMap (spB w))++iG outs.length=pre at *
  have hprel:pre.length≤152000:=by rw [← hpre]; simp only [aX] at hlen ⊢; omega
  refine fK (aJD i o f outs pre 152000) (m:=outs.length) ⟨0,v2,rfl,by omega,rfl,g2,by simpa using o2,by simpa using hprel⟩ ?_
  rintro m e σ3 ⟨j,v3,rfl,hj,rfl,g3,h3,hlen3⟩
  simp [c93_l8,c93_k7,g3,hol]
  by_cases hjo:j<outs.length
  ·obtain⟨c,hc⟩ : ∃ c,outs[j]?=some c:=⟨outs[j],by simp [hjo]⟩
   have hcok:=hoo c (aL hc)
   have hrow:(gH outs)[j]?=some c.row:=by simp [gH,hc]
   have hia:=fun σ=>ho.iaddr σ (k:=.i64) (sz:=2) hrow rfl
   have hft:=sI coB outs hc
   have hjj:(j:Int)<outs.length:=by omega
   have u3:bL.wrap c.value=u64 c.value:=rfl
   have l6:=jT (u64 c.value) 8
   have l7:=jT c.lock 8
   simp [hjj,hjo,c93_k6,c93_k5,g3,hia,CoG.row,u3]
   refine kA rfl (aEI (aJo _) (aJp _) 8 (.inr rfl)) fun x4 _ ⟨y4,hx4,hy4⟩=>?_
   subst hx4
   refine⟨rfl,fun _=>by simp_all [V.borrows],?_⟩
   obtain⟨v4,σ4,ap4,h4,o4⟩:=mK h3 hy4 (by omega)
   simp
   refine gN (v:=v4) (s:=σ4) ?_ ?_
   ·simp [hy4.rows]
    exact ap4 none
   simp [c93_k4,o4,g3,hia,CoG.row]
   refine kA rfl (aEI hcok.1 hcok.2.1 8 (.inr rfl)) fun x5 _ ⟨y5,hx5,hy5⟩=>?_
   subst hx5
   refine⟨rfl,fun _=>by simp_all [V.borrows],?_⟩
   obtain⟨v5,σ5,ap5,h5,o5⟩:=mK h4 hy5 (by simp only [aX] at hlen3 ⊢; omega)
   simp
   refine gN (v:=v5) (s:=σ5) ?_ ?_
   ·simp [hy5.rows]
    exact ap5 none
   simp [c93_k3,bY (n:=(j:Int)+1) (by omega) (by omega)]
   refine⟨outs.length-(j+1),by omega,j+1,v5,rfl,by omega,rfl,by rw [o5,o4]; exact g3,?_,?_⟩
   ·rw [hft]
    simpa [coB] using h5
   ·rw [hft]
    have:=aBw c
    simp only [aX] at hlen3 ⊢
    omega
  ·obtain rfl:j=outs.length:=by omega
   rw [bC] at h3 hlen3
   have hfin : ∀ (b:UInt8) (σ':St) (v':V),App σ' 1 v' (cC (pre++outs.flatMap coB++[b]))→b=(if f then 1 else 0)→V.byVal σ' v'=some (.d (.list (cC (txB w ins outs f)))):=by
    intro b σ' v' ho' hb
    have hfz:=App.frozen ho' (by intro e; have:=congrArg List.length e; rw [dJ] at this; simp at this)
    have:pre++outs.flatMap coB++[b]=txB w ins outs f:=by rw [← hpre,hb]; rfl
    rw [this] at hfz
    exact hfz
   cases f with
   | true =>
    simp [c93_k2,c93_k1,g3,iL,gJ,oR]
    obtain⟨v5,σ5,ap5,h5,o5⟩:=mK h3 (LV.list (cC [1])) (by simp only [aX,List.length_singleton] at hlen3 ⊢; omega)
    have hb5:=hfin 1 σ5 v5 h5 rfl
    refine gN (v:=v5) (s:=σ5) ?_ ?_
    ·simp [V.rows]
     exact ap5 none
    simp [hb5]
   | false =>
    simp [c93_k2,c93_k1,c93_k0,g3,iL,gJ,oR]
    obtain⟨v5,σ5,ap5,h5,o5⟩:=mK h3 (LV.list (cC [0])) (by simp only [aX,List.length_singleton] at hlen3 ⊢; omega)
    have hb5:=hfin 0 σ5 v5 h5 rfl
    refine gN (v:=v5) (s:=σ5) ?_ ?_
    ·simp [V.rows]
     exact ap5 none
    simp [hb5]

def hH (l:List (List UInt8)):List (List D):=l.map cG
theorem iN (l:List (List UInt8)):(hH l).length=l.length:=by simp [hH]
theorem kY {a b:List UInt8}(h:cG a=cG b):a=b:=by
 induction a generalizing b with
 | nil=>cases b with
  | nil=>rfl
  | cons=>simp [cG] at h
 | cons x r ih=>cases b with
  | nil=>simp [cG] at h
  | cons y s =>
   simp only [cG,aI,List.cons.injEq,D.int.injEq,true_and] at h
   obtain⟨h1,h2⟩:=h
   have:x=y:=UInt8.toNat_inj.1 (by omega)
   rw [this,ih h2]
theorem nS {l:List (List UInt8)}{i:Nat}{h:List UInt8}(hi:l[i]?=some h):(hH l)[i]?=some (cG h):=by simp [hH,hi]
def H32 (l:List (List UInt8)):Prop:=∀ h∈l,h.length=32
theorem sK {l:List (List UInt8)}(h:H32 l) : ∀ r∈hH l,r.length=32:=by
 intro r hr
 simp only [hH,aT] at hr
 obtain⟨a,ha,rfl⟩:=hr
 rw [fG,h a ha]

theorem oI : ∀ l:List UInt8,fI (aD l.length (.int .u8)) (cG l)=true
 | []=>rfl
 | b::r=>by
  have h1:b.toNat<256:=b.toNat_lt
  have h2:Lf.fits (.int .u8) (.int .u8 (b.toNat:Int))=true:=by
   have h0:IntKind.u8.min≤(b.toNat:Int):=by have:IntKind.u8.min=0:=rfl; omega
   have h3:(b.toNat:Int)≤IntKind.u8.max:=by have:IntKind.u8.max=255:=rfl; omega
   simp [Lf.fits,h0,h3]
  have ih:=oI r
  simp only [cG,aI,List.length_cons,List.replicate_succ,fI,h2,Bool.true_and] at ih ⊢
  exact ih
theorem aBA {a b:List UInt8}(ha:a.length=32)(hb:b.length=32)(x y:Bool):eqV .flat (aD 32 (.int .u8)) (.da (cG a)) (.da (cG b)) x y=some (decide (a=b)):=by
 have h1:=oI a
 have h2:=oI b
 rw [ha] at h1
 rw [hb] at h2
 simp only [eqV,h1,h2,Bool.and_self,if_true]
 congr 1
 by_cases h:a=b
 ·subst h; simp
 ·have:cG a≠cG b:=fun e=>h (kY e)
  simp [h,this]

def aKK (x y:D)(L:List (List UInt8))(m:Nat)(e:Env) (σ:St):Prop:=∃ i:Nat,e=[(0,.d x),(1,.d y),(12,I L.length),(13,I i)]∧i≤L.length∧m=L.length-i∧σ=St.empty

theorem rZ {x y:D}{L:List (List UInt8)}(hx:LV (.d x) (hH L))(hy:LV (.d y) (hH L))(hL:H32 L)(hlen:L.length≤1000000):Dn.Call Γ cx .val 16 [.d x,.d y] St.empty fun v _=>v=B true:=by
 refine Dn.Call.body (fc:=c16) rfl ?_
 have hlx : ∀ σ,gZ σ .slice (.d x)=some L.length:=fun σ=>by rw [hx.len,iN]
 have hly : ∀ σ,gZ σ .slice (.d y)=some L.length:=fun σ=>by rw [hy.len,iN]
 simp [c16,c16_k9,c16_k8,c16_k7,c16_k6,hlx,hly]
 refine fK (aKK x y L) (m:=L.length) ⟨0,rfl,by omega,rfl,rfl⟩ ?_
 rintro m e σ ⟨i,rfl,hi,rfl,rfl⟩
 simp [c16_l5,c16_k4]
 by_cases hil:i<L.length
 ·obtain⟨g,hg⟩ : ∃ g,L[i]?=some g:=⟨L[i],by simp [hil]⟩
  have hg32:=hL g (aL hg)
  have hia:=fun σ=>hx.iaddr σ (k:=.i64) (sz:=32) (nS hg) (by rw [fG,hg32])
  have hib:=fun σ=>hy.iaddr σ (k:=.i64) (sz:=32) (nS hg) (by rw [fG,hg32])
  have hii:(i:Int)<L.length:=by omega
  simp [-aA,hii,hil,c16_k3,c16_k2,c16_k1]
  refine mR (fun _=>.val) [] (by decide +kernel) ?_
  simp [-aA,dB,hia,hib,fG,hg32,aK,aBA hg32 hg32,c16_k0,bY (n:=(i:Int)+1) (by omega) (by omega)]
  exact⟨L.length-(i+1),by omega,i+1,rfl,by omega,rfl,rfl⟩
 ·obtain rfl:i=L.length:=by omega
  simp

def jM (n:Int):Bool:=decide (0≤n∧n≤2100000000000000)
def mE (acc:Int):List Int→Option Int
 | []=>some acc
 | n::r=>if jM n&&jM (acc+n) then mE (acc+n) r else none
def mM (l:List Int):List (List D):=l.map fun n=>[.int .i64 n]
theorem mI (l:List Int):(mM l).length=l.length:=by simp [mM]
theorem vI (l:List Int) : ∀ r∈mM l,r.length=1:=by
 intro r hr
 simp only [mM,aT] at hr
 obtain⟨n,_,rfl⟩:=hr
 rfl

theorem aD2 (n:Int):Dn.Call Γ cx .val 65 [I n] St.empty fun v _=>v=B (jM n):=by
 refine Dn.Call.body (fc:=c65) rfl ?_
 unfold jM
 by_cases h0:0≤n
 ·simp [c65,c65_k0,h0]
 ·simp [c65,c65_k0,h0]
theorem yC (n:Int):Dn.Call Γ cx .val 52 [I n] St.empty fun v _=>v=B (jM n):=by
 refine Dn.Call.body (fc:=c52) rfl ?_
 unfold jM
 by_cases h0:0≤n
 ·simp [c52,c52_k0,h0]
 ·simp [c52,c52_k0,h0]

def xV:Option Int→V
 | some s=>.tup [I s,.d .nili]
 | none=>.tup [I 0,.d (.iface 77 (.int .i64 9))]
def aCb:Option Int→V
 | some s=>.tup [I s,I 0]
 | none=>.tup [I 0,I 9]

def aJN (x:D)(l:List Int)(m:Nat)(e:Env) (σ:St):Prop:=∃ (i:Nat) (acc:Int),e=[(4,I acc),(7,.d x),(8,I l.length),(9,I i)]∧i≤l.length∧m=l.length-i∧0≤acc∧acc≤2100000000000000∧mE 0 l=mE acc (l.drop i)∧σ=St.empty

theorem aET {x:D}{l:List Int}(hx:LV (.d x) (mM l))(hl:l.length≤1000000):Dn.Call Γ cx .val 48 [.d x] St.empty fun v _=>v=xV (mE 0 l):=by
 refine Dn.Call.body (fc:=c48) rfl ?_
 have hlx : ∀ σ,gZ σ .slice (.d x)=some l.length:=fun σ=>by rw [hx.len,mI]
 simp [c48,c48_k10,c48_k9,c48_k8,hlx]
 refine fK (aJN x l) (m:=l.length) ⟨0,0,rfl,by omega,rfl,by omega,by omega,rfl,rfl⟩ ?_
 rintro m e σ ⟨i,acc,rfl,hi,rfl,h0,h1,ht,rfl⟩
 simp [c48_l7,c48_k6]
 by_cases hil:i<l.length
 ·obtain⟨n,hn⟩ : ∃ n,l[i]?=some n:=⟨l[i],by simp [hil]⟩
  have hia:=fun σ=>hx.iaddr σ (k:=.i64) (sz:=1) (show(mM l)[i]?=some [.int .i64 n] by simp [mM,hn]) rfl
  have hii:(i:Int)<l.length:=by omega
  have hd:l.drop i=n::l.drop (i+1):=by
   obtain⟨h,rfl⟩:=aB.1 hn
   exact List.drop_eq_getElem_cons h
  rw [hd] at ht
  simp [hii,hil,c48_k5,c48_k4,c48_k3,c48_k2,hia]
  refine gI rfl (aD2 n) rfl ?_
  by_cases hg:jM n=true
  ·have hn0:0≤n∧n≤2100000000000000:=by simpa [jM] using hg
   have ew:aJ.wrap (acc+n)=acc+n:=bY (by omega) (by omega)
   simp [hg,ew]
   refine gI rfl (aD2 (acc+n)) rfl ?_
   by_cases hg2:jM (acc+n)=true
   ·have hn1:0≤acc+n∧acc+n≤2100000000000000:=by simpa [jM] using hg2
    simp only [mE,hg,hg2,Bool.and_self,if_true] at ht
    simp [hg2,c48_k1,ew,bY (n:=(i:Int)+1) (by omega) (by omega)]
    exact⟨l.length-(i+1),by omega,i+1,acc+n,rfl,by omega,rfl,hn1.1,hn1.2,ht,rfl⟩
   ·simp only [mE,hg,hg2,Bool.true_and,aP,if_false] at ht
    simp [hg2,ht,xV,rT]
  ·simp only [mE,hg,Bool.false_and,aP,if_false] at ht
   simp [hg,ht,xV,rT]
 ·obtain rfl:i=l.length:=by omega
  simp [mE] at ht
  simp [c48_k0,ht,xV]

def aHX (x:D)(l:List Int)(m:Nat)(e:Env) (σ:St):Prop:=∃ (i:Nat) (acc:Int),e=[(0,.d x),(4,I acc),(5,I i)]∧i≤l.length∧m=l.length-i∧0≤acc∧acc≤2100000000000000∧mE 0 l=mE acc (l.drop i)∧σ=St.empty

theorem aHC {x:D}{l:List Int}(hx:LV (.d x) (mM l))(hl:l.length≤1000000):Dn.Call Γ cx .val 111 [.d x] St.empty fun v _=>v=aCb (mE 0 l):=by
 refine Dn.Call.body (fc:=c111) rfl ?_
 have hlx : ∀ σ,gZ σ .slice (.d x)=some l.length:=fun σ=>by rw [hx.len,mI]
 simp [c111,c111_k12,c111_k11,c111_k10]
 refine fK (aHX x l) (m:=l.length) ⟨0,0,rfl,by omega,rfl,by omega,by omega,rfl,rfl⟩ ?_
 rintro m e σ ⟨i,acc,rfl,hi,rfl,h0,h1,ht,rfl⟩
 have hlx':gZ ⟨[],[]⟩ .slice (.d x)=some l.length:=hlx _
 simp [c111_l9,c111_k8,hlx']
 by_cases hil:i<l.length
 ·obtain⟨n,hn⟩ : ∃ n,l[i]?=some n:=⟨l[i],by simp [hil]⟩
  have hia:=fun σ=>hx.iaddr σ (k:=.i64) (sz:=1) (show(mM l)[i]?=some [.int .i64 n] by simp [mM,hn]) rfl
  have hii:(i:Int)<l.length:=by omega
  have hd:l.drop i=n::l.drop (i+1):=by
   obtain⟨h,rfl⟩:=aB.1 hn
   exact List.drop_eq_getElem_cons h
  rw [hd] at ht
  simp [hii,hil,c111_k7,c111_k6,c111_k5,hia]
  refine gI rfl (yC n) rfl ?_
  by_cases hg:jM n=true
  ·have hn0:0≤n∧n≤2100000000000000:=by simpa [jM] using hg
   have ew:aJ.wrap (acc+n)=acc+n:=bY (by omega) (by omega)
   simp [hg,ew,c111_k4,hia,c111_k3]
   refine gI rfl (yC (acc+n)) rfl ?_
   by_cases hg2:jM (acc+n)=true
   ·have hn1:0≤acc+n∧acc+n≤2100000000000000:=by simpa [jM] using hg2
    simp only [mE,hg,hg2,Bool.and_self,if_true] at ht
    simp [hg2,c111_k2,c111_k1,bY (n:=(i:Int)+1) (by omega) (by omega)]
    exact⟨l.length-(i+1),by omega,i+1,acc+n,rfl,by omega,rfl,hn1.1,hn1.2,ht,rfl⟩
   ·simp only [mE,hg,hg2,Bool.true_and,aP,if_false] at ht
    simp [hg2,ht,aCb,c111_k2]
  ·simp only [mE,hg,Bool.false_and,aP,if_false] at ht
   simp [hg,ht,aCb]
 ·obtain rfl:i=l.length:=by omega
  simp [mE] at ht
  simp [c111_k0,ht,aCb]

def oZ (outs:List CoG):List Int:=outs.map (·.value)
theorem aBn (outs:List CoG){i:Nat}{c:CoG}(h:outs[i]?=some c):mM (oZ (outs.take (i+1)))=mM (oZ (outs.take i))++[[.int .i64 c.value]]:=by
 obtain⟨hi,rfl⟩:=aB.1 h
 rw [← aZ hi]
 simp only [oZ,mM,List.map_append,aI,aM]

def aHS (o:D)(outs:List CoG)(m:Nat)(e:Env) (σ:St):Prop:=∃ (i:Nat) (v:V),e=[(4,v),(8,.d o),(9,I outs.length),(10,I i)]∧i≤outs.length∧m=outs.length-i∧App σ 1 v (mM (oZ (outs.take i)))

theorem aLr {i o:D}{f:Bool}{outs:List CoG}(ho:LV (.d o) (gH outs))(hlo:outs.length≤1000):Dn.Call Γ cx .val 85 [.da [i,o,.bool f]] St.empty fun v _=>v=xV (mE 0 (oZ outs)):=by
 refine Dn.Call.body (fc:=c85) rfl ?_
 have hol : ∀ σ,gZ σ .slice (.d o)=some outs.length:=fun σ=>by rw [ho.len]; simp [gH]
 simp [c85,c85_k7,c85_k6,c85_k5,hol]
 refine fK (aHS o outs) (m:=outs.length) ⟨0,_,rfl,by omega,rfl,.nil⟩ ?_
 rintro m e σ ⟨j,v,rfl,hj,rfl,hv⟩
 simp [c85_l4,c85_k3]
 by_cases hjo:j<outs.length
 ·obtain⟨c,hc⟩ : ∃ c,outs[j]?=some c:=⟨outs[j],by simp [hjo]⟩
  have hia:=fun σ=>ho.iaddr σ (k:=.i64) (sz:=2) (show(gH outs)[j]?=some c.row by simp [gH,hc]) rfl
  have hjj:(j:Int)<outs.length:=by omega
  have hvt:=aBn outs hc
  simp [hjj,hjo,c85_k2,hia,CoG.row,c85_k1,iL,gJ,oR]
  obtain⟨v2,σ2,ap2,h2,o2,-,-⟩:=App.push (σ:=⟨σ.objs++[.cells [V.d (.int .i64 c.value),V.d (.int .u64 c.lock)]],σ.toks⟩) (sz:=1) (bytes:=8) (v:=v) (hv.toks rfl) (by decide) (vI _) (ys:=[[.int .i64 c.value]]) (by simp) (by rw [mI]; simp [oZ]; omega) (by rw [mI]; simp [oZ]; omega)
  rw [← hvt] at h2
  refine gN (v:=v2) (s:=σ2) ?_ ?_
  ·simp [V.rows]
   exact ap2 none
  simp [bY (n:=(j:Int)+1) (by omega) (by omega)]
  exact⟨outs.length-(j+1),by omega,j+1,v2,rfl,by omega,rfl,h2⟩
 ·obtain rfl:j=outs.length:=by omega
  rw [bC] at hv
  obtain⟨d1,d2,⟨y,dx⟩,d4,d5⟩:=hv.lv.dv σ
  rw [dx] at d1 d2
  simp [c85_k0]
  refine gI (ds:=[.d y]) (by simp only [cN,d1]) (aET d2 (by simp [oZ]; omega)) (by
   have hb:=hv.lv.borrows
   cases mE 0 (oZ outs) <;> simp [xV,V.pure,V.flatv,hb]) ?_
  cases mE 0 (oZ outs) <;> simp [xV,V.byVal]

def aHV (i o:D)(f:Bool)(outs:List CoG)(m:Nat)(e:Env) (σ:St):Prop:=∃ (j:Nat) (v:V),e=[(1,.ref 0 0),(4,v),(5,I j)]∧j≤outs.length∧m=outs.length-j∧σ.objs[0]?=some (.cells [.d i,.d o,.d (.bool f)])∧App σ 1 v (mM (oZ (outs.take j)))

theorem aKy {i o:D}{f:Bool}{outs:List CoG}(ho:LV (.d o) (gH outs))(hlo:outs.length≤1000):Dn.Call Γ cx .val 92 [.da [i,o,.bool f]] St.empty fun v _=>v=aCb (mE 0 (oZ outs)):=by
 refine Dn.Call.body (fc:=c92) rfl ?_
 have hol : ∀ σ,gZ σ .slice (.d o)=some outs.length:=fun σ=>by rw [ho.len]; simp [gH]
 simp [c92,c92_k7,c92_k6,c92_k5,hol]
 refine fK (aHV i o f outs) (m:=outs.length) ⟨0,_,rfl,by omega,rfl,rfl,.nil⟩ ?_
 rintro m e σ ⟨j,v,rfl,hj,rfl,g,hv⟩
 simp [c92_l4,c92_k3,g,hol]
 by_cases hjo:j<outs.length
 ·obtain⟨c,hc⟩ : ∃ c,outs[j]?=some c:=⟨outs[j],by simp [hjo]⟩
  have hia:=fun σ=>ho.iaddr σ (k:=.i64) (sz:=2) (show(gH outs)[j]?=some c.row by simp [gH,hc]) rfl
  have hjj:(j:Int)<outs.length:=by omega
  have hvt:=aBn outs hc
  simp [hjj,hjo,c92_k2,g,hia,CoG.row,c92_k1,iL,gJ,oR]
  obtain⟨v2,σ2,ap2,h2,o2,-,-⟩:=hv.push (bytes:=8) (by decide) (vI _) (ys:=[[.int .i64 c.value]]) (by simp) (by rw [mI]; simp [oZ]; omega) (by rw [mI]; simp [oZ]; omega)
  rw [← hvt] at h2
  refine gN (v:=v2) (s:=σ2) ?_ ?_
  ·simp [V.rows]
   exact ap2 none
  simp [bY (n:=(j:Int)+1) (by omega) (by omega)]
  exact⟨outs.length-(j+1),by omega,j+1,v2,rfl,by omega,rfl,by rw [o2]; exact g,h2⟩
 ·obtain rfl:j=outs.length:=by omega
  rw [bC] at hv
  obtain⟨d1,d2,⟨y,dx⟩,d4,d5⟩:=hv.lv.dv σ
  rw [dx] at d1 d2
  simp [c92_k0]
  refine gI (ds:=[.d y]) (by simp only [cN,d1]) (aHC d2 (by simp [oZ]; omega)) (by
   have hb:=hv.lv.borrows
   cases mE 0 (oZ outs) <;> simp [aCb,V.pure,V.flatv,hb]) ?_
  cases mE 0 (oZ outs) <;> simp [aCb,V.byVal]
end Go.Proofs.YtdfhfhcilfjdgaaGreatDoor.T
