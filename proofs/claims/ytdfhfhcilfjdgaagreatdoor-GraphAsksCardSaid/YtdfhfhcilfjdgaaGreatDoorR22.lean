/- GraphAsks: whatever the input, the graph answers as the document says. -/
import Derived.Test.YtdfhfhcilfjdgaaGreatDoorS68
import Derived.Test.YtdfhfhcilfjdgaaGreatDoorCards
import Derived.Test.YtdfhfhcilfjdgaaGreatDoorTie
import Derived.WalkKit
import Derived.ProofKit
import Derived.OpenShut
import Derived.ShutString
import Derived.ChangeOld
import Derived.Below
import Derived.SizedLaws
import Derived.Carry
import Derived.LaidLaws
import Derived.Handed
import Derived.Lay
import Derived.SevenTiedAt
namespace Go.Proofs.YtdfhfhcilfjdgaaGreatDoor.graphAsks
open Go.ChangeShapes Go.WideShapes Go.ChangeAt Go.RowKit Go.Dn
open Go.ChangeMaps (open_string shut_string)

theorem own:ownKnob Tryz.prog.godebug=none:=by kernel_rfl
theorem aBL:laidOutB Tryz.prog=true:=by kernel_rfl
theorem aGT (os:Os)(args:Array Value):laidMet Tryz.prog Rows.graphAsksRow.laid ((World.laidAll Tryz.prog os Rows.graphAsksRow.laid).forCall (fun _ _=>0) ⟨#[],args,[]⟩).memory :=
 laidMet_laidAll _ (by kernel_rfl) (by kernel_rfl)
theorem aK6:(Rows.laid_gossamer_gossamerref07_k:DataW Unit) = .agg ((Sha.K256.map un).map fun z=>.lit (.int .u32 z)):=by kernel_rfl
theorem name0:Tryz.prog.globalNamed (Rows.graphAsksRow.laid.map (·.1))[0]=some 1:=by kernel_rfl
theorem type0:(Tryz.prog.globals[1]?).map (·.type)=some 173:=by kernel_rfl
theorem aJ0:(Sha.K256.map un).map (fun z=>D.int .u32 z)=T.g1:=rfl
theorem aK7:(Rows.laid_gossamer_digest_constants:DataW Unit) = .agg ((Sha.K256.map un).map fun z=>.lit (.int .u32 z)):=by kernel_rfl
theorem name1:Tryz.prog.globalNamed (Rows.graphAsksRow.laid.map (·.1))[1]=some 2:=by kernel_rfl
theorem type1:(Tryz.prog.globals[2]?).map (·.type)=some 173:=by kernel_rfl
theorem aJ1:(Sha.K256.map un).map (fun z=>D.int .u32 z)=T.g2:=rfl
theorem aK8:(Rows.laid_gossamer_digest_beginning:DataW Unit) = .agg ((Sha.H0.l.map un).map fun z=>.lit (.int .u32 z)):=by kernel_rfl
theorem name2:Tryz.prog.globalNamed (Rows.graphAsksRow.laid.map (·.1))[2]=some 0:=by kernel_rfl
theorem type2:(Tryz.prog.globals[0]?).map (·.type)=some 150:=by kernel_rfl
theorem aJ2:(Sha.H0.l.map un).map (fun z=>D.int .u32 z)=T.g0:=rfl
theorem globs {W:World}(hL:laidMet Tryz.prog Rows.graphAsksRow.laid W):GlobR T.cx.globs (Gh.bare Tryz.prog fun b q=>∃ v,W.cell? ⟨b,q,none⟩=some v) [] W:=by
 obtain⟨ps,h,-⟩:=hL
 obtain⟨g0,t0,cs0,f0,p0,q0,a0,b0,c0,d0,h,-⟩:=h
 obtain⟨g1,t1,cs1,f1,p1,q1,a1,b1,c1,d1,h,-⟩:=h
 obtain⟨g2,t2,cs2,f2,p2,q2,a2,b2,c2,d2,h,-⟩:=h
 obtain rfl:=Option.some.inj (name0.symm.trans a0)
 obtain rfl:=Option.some.inj (type0.symm.trans b0)
 rw [aK6] at d0
 have v0:=aBM a0 (N:=64) (e:=149) (k:=.u32) (by kernel_rfl) (by kernel_rfl) (by kernel_rfl) (by kernel_rfl) c0 d0
 rw [aJ0] at v0
 obtain rfl:=Option.some.inj (name1.symm.trans a1)
 obtain rfl:=Option.some.inj (type1.symm.trans b1)
 rw [aK7] at d1
 have v1:=aBM a1 (N:=64) (e:=149) (k:=.u32) (by kernel_rfl) (by kernel_rfl) (by kernel_rfl) (by kernel_rfl) c1 d1
 rw [aJ1] at v1
 obtain rfl:=Option.some.inj (name2.symm.trans a2)
 obtain rfl:=Option.some.inj (type2.symm.trans b2)
 rw [aK8] at d2
 have v2:=aBM a2 (N:=8) (e:=149) (k:=.u32) (by kernel_rfl) (by kernel_rfl) (by kernel_rfl) (by kernel_rfl) c2 d2
 rw [aJ2] at v2
 intro k cs hk
 simp only [T.cx,T.aAX,List.mem_cons,List.not_mem_nil,or_false,Prod.mk.injEq] at hk
 rcases hk with⟨rfl,rfl⟩ | ⟨rfl,rfl⟩ | ⟨rfl,rfl⟩
 ·exact v2
 ·exact v1
 ·exact v0
set_option maxRecDepth 100000 in
theorem aJ8 (os:Os)(started:os.Started)(H:Type)(enc:TypeId×Value→H) :
  ReturnsInHanded {} Tryz.checked os 3 .any (fun w args=>(Rows.graphAsksSpec.pre enc Tryz.prog Tryz.f3 Rows.graphAsksRow.domain false w args∧laidMet Tryz.prog Rows.graphAsksRow.laid w)∧sizedMet enc Tryz.prog Tryz.f3 (OpenSpec.ofChange Rows.graphAsksSpec) false w args)
   (Rows.graphAsksSpec.post enc Tryz.prog Tryz.f3 false true false false):=by
 refine returnsInHanded_of_change_and (C:=Tryz.checked) (X:=fun w _=>laidMet Tryz.prog Rows.graphAsksRow.laid w) (fun _ _ _ hh h=>h.of_heap hh) own started (by kernel_rfl) Tryz.func3
  (ChangeSpec.witness_at (enc:=enc) (C:=Tryz.checked) (os:=os) (X:=fun w _=>laidMet Tryz.prog Rows.graphAsksRow.laid w) false (World.laidAll Tryz.prog os Rows.graphAsksRow.laid) #[.slice none 0 0,.slice none 0 0,.agg #[.slice none 0 0,.slice none 0 0,.bool false]] 8 (World.laidAll_os _ _ _) (by kernel_rfl) (by kernel_rfl) (by kernel_rfl) (by kernel_rfl) (by kernel_rfl) (aGT os _)) ?_
 intro W base args ds gs before hval0 hW hcnd _ hL _
 have hval : ∀ (j:Nat) t v,Tryz.f3.params[j]?=some t→args[j]?=some v→Value.okWide Tryz.prog W .any base t v:=hval0
 have hW':=hW
 obtain⟨p,q,hA0,hV,rfl,hfz,hnd⟩:=hW
 have hA:DataW.TrodAll enc Tryz.prog W 0 (fun _=>true) true Tryz.f3.params.toList args.toList ds p:=hA0
 rw [Tryz.params3] at hA hval
 obtain⟨v0,vs0,d0,ds0,p0,q0,hargs,rfl,rfl,h0,r0⟩:=trodAll_cons hA
 obtain⟨v1,vs1,d1,ds1,p1,q1,rfl,rfl,rfl,h1,r1⟩:=trodAll_cons r0
 obtain⟨v2,vs2,d2,ds2,p2,q2,rfl,rfl,rfl,h2,r2⟩:=trodAll_cons r1
 obtain⟨rfl,rfl,rfl⟩:=trodAll_nil r2
 obtain rfl:args = #[v0,v1,v2]:=by cases args; simp_all
 obtain⟨rfl,rfl⟩:=trodVars_none hV
 have lt0 : ∀ x∈p0,x.block<W.heap.size:=by obtain⟨m,hm⟩:=h0; exact DataW.trod_lt m _ _ _ hm
 have k0:=h0
 obtain⟨x0,hx0,hf0⟩:=aJe (g:=Gh.bare Tryz.prog fun b q=>∃ v,W.cell? ⟨b,q,none⟩=some v) (tk:=[]) rfl (k:=.list T.aGp) (by kernel_rfl) (by kernel_rfl) (hval 0 _ v0 rfl rfl) h0
 have lt1 : ∀ x∈p1,x.block<W.heap.size:=by obtain⟨m,hm⟩:=h1; exact DataW.trod_lt m _ _ _ hm
 have k1:=h1
 obtain⟨x1,hx1,hf1⟩:=aJe (g:=Gh.bare Tryz.prog fun b q=>∃ v,W.cell? ⟨b,q,none⟩=some v) (tk:=[]) rfl (k:=.list T.tT) (by kernel_rfl) (by kernel_rfl) (hval 1 _ v1 rfl rfl) h1
 have lt2 : ∀ x∈p2,x.block<W.heap.size:=by obtain⟨m,hm⟩:=h2; exact DataW.trod_lt m _ _ _ hm
 have k2:=h2
 obtain⟨x2,hx2,hf2⟩:=aJX (g:=Gh.bare Tryz.prog fun b q=>∃ v,W.cell? ⟨b,q,none⟩=some v) (tk:=[]) rfl (ks:=T.txK) (by kernel_rfl) (by kernel_rfl) (hval 2 _ v2 rfl rfl) h2
 have hc:=aFH (P:=Tryz.prog) (w:=W) (cx:=T.cx) (by kernel_rfl) T.hΓ (T.aLG hf0 hf1 hf2) (args := #[v0,v1,v2]) ⟨hx0,hx1,hx2,trivial⟩ (globs hL)
 refine hc.mono fun e W' ⟨he,bel⟩=>?_
 subst he
 exact⟨_,rfl,_,_,_,[],_,[],hW',trodAll_mk1 (shut_bool Tryz.underlying4 _),(trodAll_cons_mk (Below.trod aBL (by kernel_rfl) (of_decide_eq_true (by kernel_rfl)) k0 bel lt0) (trodAll_cons_mk (Below.trod aBL (by kernel_rfl) (of_decide_eq_true (by kernel_rfl)) k1 bel lt1) (trodAll_cons_mk (Below.trod aBL (by kernel_rfl) (of_decide_eq_true (by kernel_rfl)) k2 bel lt2) trodAll_mk0))),rfl,bel.frame _,fun h=>by cases h⟩
theorem aG1:Rows.graphAsksRow.holds Tryz.pinned (OpenSpec.ofChange Rows.graphAsksSpec) :=
 OpenClaim.holds_of_wide 3 Tryz.f3 rfl rfl rfl rfl rfl rfl rfl ⟨rfl,rfl,rfl,rfl,rfl⟩ rfl rfl rfl rfl rfl (by kernel_rfl) Tryz.func3 (by kernel_rfl)
  (of_decide_eq_true (by kernel_rfl)) (by unfold Func.isWrapper; first | (rw [if_pos (by decide +kernel)]; kernel_rfl) | (rw [if_neg (by decide +kernel)]; exact⟨rfl,rfl⟩))
  (fun os started H enc _=>aJ8 os started H enc)
theorem proved:Rows.GraphAsksCardSaid :=
 Claim7.holds_tied_plain_at .later [] [.data, .data, .data] true (true, "f18627c055f5395ce19820eb62bf48e2e0dda01055e44370eb1ce52004d00add") true
  aG1 (fun _ h=>by cases h) (by kernel_rfl) (fun _ h=>by cases h) graphAsks_row_tie rfl ⟨rfl,rfl⟩ (by kernel_rfl) rfl
  (fun f fn hf hfn=>by
   obtain rfl:f=3:=Option.some.inj ((show Tryz.prog.funcNamed Rows.graphAsksRow.func=some 3 by kernel_rfl).symm.trans hf) |>.symm
   obtain rfl:fn=Tryz.f3:=(Option.some.inj (Tryz.func3.symm.trans hfn)).symm
   refine⟨by kernel_rfl,fun j t ht=>?_⟩
   have hall:Tryz.f3.params.toList.all (fun t=>!Tryz.prog.wantsStandIn t)=true:=by kernel_rfl
   have hm:t∈Tryz.f3.params.toList:=by
    obtain⟨h1,h2⟩:=Array.getElem?_eq_some_iff.1 ht
    rw [← h2]
    exact Array.getElem_mem_toList h1
   have:=List.all_eq_true.1 hall t hm
   exact(by simpa using this:Tryz.prog.wantsStandIn t=false))
  (by kernel_rfl)
#print axioms proved
end Go.Proofs.YtdfhfhcilfjdgaaGreatDoor.graphAsks
