import Derived.Test.YtdfhfhcilfjdgaaGreatDoorFw11
import Derived.Lib.Strings
import Derived.Maps.Keyed
import Derived.DeepKeys3
set_option linter.unusedVariables false
set_option linter.unusedSimpArgs false
open List renaming reduceReplicate → aA,getElem?_eq_some_iff → aB,getElem?_append_left → aC,replicate → aD,cons_append → aE,getElem?_set_ne → aF,append_nil → aG,nil_append → aH,map_cons → aI,take_of_length_le → aK,mem_of_getElem? → aL,map_nil → aM,getElem?_set_self → aO,length_map → aQ,getElem?_eq_none → aR,mem_map → aT,mem_append → aW,length_append → aX,mem_filter → aY,take_append_getElem → aZ,getD_eq_getElem?_getD → bA,take_length → bC,drop_zero → bF,getElem?_map → bG,getElem?_append_right → bH,mem_singleton → bI,getElem?_eq_getElem → bO,eq_nil_of_length_eq_zero → bP,getElem?_of_mem → bQ,length_replicate → bS,drop_of_length_le → bT,mem_cons → bU,append_assoc → bV,mem_append_right → bX
open Go.IntKind renaming i64 → aJ,u64 → bL
open Option renaming some → aN
open Bool renaming false_eq_true → aP,and_eq_true → aS
open Go.Builtin renaming zeroCells → aU,append_ → bD,firstCells → bM
open Go.Result renaming andThen_ok → aV
open Nat renaming le_refl → bB,mul_le_mul_right → bE,add_mul → bJ,lt_or_ge → bR
open Array renaming getElem?_eq_some_iff → bW
/- Slices of slices, of texts, of arrays; composite literals; lengths; interface values. -/
namespace Go.Dn
open Go.Lib

variable {P:Program} {g:Gh} {σ:St} {tk:List Nat} {w:World}

theorem lM {sz:Nat}{rows:List (List D)}(h:kV sz rows=true){i:Nat}{row:List D}(hr:rows[i]?=some row):row.length=sz:=by
 unfold kV at h
 have:=List.all_eq_true.1 h row (aL hr)
 simpa using this

theorem DR.list_drop {f:Nat→Nat→Prop}{rows:List (List D)}{cap:Nat}{sz:Nat}(hfit : ∀ (i:Nat)(row:List D),rows[i]?=some row→row.length=sz){a:Addr}(h:DR f w (.list rows) (.slice (some a) rows.length cap))(lo n c:Nat)(hn:lo+n≤rows.length)(hc:n≤c) :
  DR f w (.list ((rows.drop lo).take n)) (.slice (some (a.add (lo*sz))) n c):=by
 cases h with
 | list0 a cap =>
  obtain rfl:n=0:=by simp at hn; omega
  simp only [List.take_zero]
  exact .list0 _ _
 | list _ b o _ sz' cv hcap hsz hf hcell h1 hd =>
  rw [iJ]
  have hl:((rows.drop lo).take n).length=n:=by simp; omega
  by_cases hz:n=0
  ·subst hz
   simp only [List.take_zero]
   exact .list [] b _ c sz (fun _=>undef) (Nat.zero_le _) (fun i row h=>by simp at h) (fun k hk=>by simp at hk) (fun k hk=>by simp at hk) (fun k hk=>by simp at hk) (fun i row j d h=>by simp at h)
  ·have hs:sz'=sz:=by
    have h0:rows[lo]?=some (rows[lo]'(by omega)):=by simp
    rw [← hsz lo _ h0,hfit lo _ h0]
   subst hs
   have hbase : ∀ k,k<((rows.drop lo).take n).length*sz'→lo*sz'+k<rows.length*sz':=by
    intro k hk
    rw [hl] at hk
    have:=bE sz' hn
    rw [bJ] at this
    omega
   have get : ∀ (i:Nat) (row:List D),((rows.drop lo).take n)[i]?=some row→rows[lo+i]?=some row:=by
    intro i row hr
    rw [List.getElem?_take] at hr
    split at hr
    ·rwa [List.getElem?_drop] at hr
    ·cases hr
   have:=DR.list (frz:=f) (w:=w) ((rows.drop lo).take n) b (o+lo*sz') c sz' (fun k=>cv (lo*sz'+k)) (by rw [hl]; exact hc) (fun i row hr=>hsz _ row (get i row hr))
    (fun k hk=>by rw [Nat.add_assoc]; exact hf _ (hbase k hk)) (fun k hk=>by rw [Nat.add_assoc]; exact hcell _ (hbase k hk)) (fun k hk=>h1 _ (hbase k hk))
    (fun i row j d hr hj=>by
     have:=hd (lo+i) row j d (get i row hr) hj
     rw [bJ] at this
     rw [← Nat.add_assoc]; exact this)
   rw [hl] at this
   exact this

theorem DR.list_empty {f:Nat→Nat→Prop}(a:Addr)(c:Nat)(ha:a.spot=none):DR f w (.list []) (.slice (some a) 0 c):=.list0 a c

theorem aAk {t e:TypeId}(hu:P.underlying t=some (.slice e))(hc:P.cellsOf e≠0){a:Option Addr}{len cap l h m:Nat}{clo chi cmx:Option Value}
  (hb:(Instr.sliceBounds true len cap clo chi cmx).run P w = .ok (l,h,m) w) :
  (Instr.sliceAt t (.slice a len cap) clo chi cmx).run P w = .ok (.slice (if m=l then a else a.map (·.add (l*P.cellsOf e))) (h-l) (m-l)) w:=by
 simp [Instr.sliceAt,run_underlying hu,Instr.slice,hb,iP hc]

theorem aEZ {rows:List (List D)}{t st sz:Nat}{cx:Value}(h:VR g tk w (.tl rows t st sz) cx):DR g.frz w (.list rows) cx:=by
 cases h with
 | tl _ _ _ _ k a cap hd ht hle hh hsz ha=>exact hd
theorem aCE {rows:List (List D)}{cx:Value}(h:VR g tk w (.fl rows) cx):DR g.frz w (.list rows) cx:=by
 cases h with
 | fl _ a hd=>exact hd

theorem sW (hs:Sim g σ w){x:V}{cx:Value}(hx:VR g σ.toks w x cx){n:Nat}(h:lenV σ x=some n) : ∃ a c,cx = .slice a n c∧n≤c:=by
 unfold lenV at h
 split at h
 ·cases h; have:=hx.inv_d; cases this; exact⟨_,_,rfl,bB _⟩
 ·cases h; have:=hx.inv_d; cases this with | list _ b o cap sz cv hcap=>exact⟨_,_,rfl,hcap⟩ | list0 a cap=>exact⟨_,_,rfl,Nat.zero_le _⟩
 ·cases h; have:=aCE hx; cases this with | list _ b o cap sz cv hcap=>exact⟨_,_,rfl,hcap⟩ | list0 a cap=>exact⟨_,_,rfl,Nat.zero_le _⟩
 ·cases h; have:=aEZ hx; cases this with | list _ b o cap sz cv hcap=>exact⟨_,_,rfl,hcap⟩ | list0 a cap=>exact⟨_,_,rfl,Nat.zero_le _⟩
 ·cases h; cases hx with | sl _ _ _ _ cap a hh hcap=>exact⟨_,_,rfl,hcap⟩
 ·cases h

end Go.Dn

/- The slice expression. -/
namespace Go.Dn
open Go.Lib

variable {P:Program} {g:Gh} {σ:St} {tk:List Nat} {w:World}

theorem mB {f:Nat→Nat→Prop}{rows:List (List D)}{cap sz:Nat}{a:Addr}(hfit:kV sz rows=true)(h:DR f w (.list rows) (.slice (some a) rows.length cap)){lo hi m:Nat}(h1:lo≤hi)(h2:hi≤rows.length)(h3:hi≤m) :
  DR f w (.list ((rows.drop lo).take (hi-lo))) (.slice (if m=lo then some a else(some a).map (·.add (lo*sz))) (hi-lo) (m-lo)):=by
 split
 ·have:hi-lo=0:=by omega
  rw [this]
  simp only [List.take_zero]
  exact .list0 _ _
 ·simp only [Option.map_some]
  exact DR.list_drop (fun i row hr=>lM hfit hr) h lo (hi-lo) (m-lo) (by omega) (by omega)

theorem nW {f:Nat→Nat→Prop}{rows:List (List D)}{cx:Value}(h:DR f w (.list rows) cx) : ∃ a cap,cx = .slice (some a) rows.length cap∧rows.length≤cap:=by
 cases h with
 | list _ b o cap sz cv hcap=>exact⟨_,cap,rfl,hcap⟩
 | list0 a cap=>exact⟨a,cap,rfl,Nat.zero_le _⟩

theorem aDi {α:Type}(l:List α)(lo:Nat):(l.drop lo).take (l.length-lo)=l.drop lo:=aK (by simp)

theorem aF0 (hs : Sim g σ w) {t e : TypeId} (hu : P.underlying t = some (.slice e)) (hc : P.cellsOf e ≠ 0) {x v : V} {cx : Value} (hx : VR g σ.toks w x cx) {lo hi mx : Option V} {clo chi cmx : Option Value}
    (hlo : xP g σ.toks w lo clo) (hhi : xP g σ.toks w hi chi) (hmx : xP g σ.toks w mx cmx) (h : mD σ (P.cellsOf e) x lo hi mx = some v) : PStep P g σ w (Instr.sliceAt t cx clo chi cmx) v := by
  unfold mD at h
  split at h
  · rename_i len hlen
    split at h
    · rename_i l hh hl hh'
      split at h
      · rename_i hb
        obtain ⟨h0, h1⟩ := hb
        have main : ∀ (m : Nat) (a : Option Addr) (c : Nat), cx = .slice a len c → (Instr.sliceBounds true len c clo chi cmx).run P w = .ok (l.toNat, hh.toNat, m) w →
            (Instr.sliceAt t cx clo chi cmx).run P w = .ok (.slice (if m = l.toNat then a else a.map (·.add (l.toNat * P.cellsOf e))) (hh.toNat - l.toNat) (m - l.toNat)) w := by
          rintro m a c rfl hr
          exact aAk hu hc hr
        have hle : l.toNat ≤ hh.toNat := by omega
        split at h
        · -- no third index
          have hcm : cmx = none := by
            cases cmx with
            | none => rfl
            | some c => exact hmx.elim
          subst hcm
          unfold kL at h
          split at h
          · split at h
            · rename_i hz
              cases h
              have hd := hx.inv_d
              cases hd
              simp [lenV] at hlen
              subst hlen
              have hr := iU (P := P) hlo hhi (len := 0) (cap := 0) true hl hh' h0 h1 (by omega)
              refine PStep.still hs (main 0 none 0 rfl hr) ?_
              have : l.toNat = 0 := by omega
              rw [hz, this]
              exact .d _ _ .nils rfl
            · cases h
          · rename_i hm; cases hm
          · rename_i rows _
            split at h
            · rename_i hcnd
              cases h
              simp [lenV] at hlen
              subst hlen
              obtain ⟨a, cap, rfl, hcap⟩ := nW hx.inv_d
              have hr := iU (P := P) hlo hhi (len := rows.length) (cap := cap) true hl hh' h0 h1 (by omega)
              exact PStep.still hs (main cap _ cap rfl hr) (.d _ _ (mB hcnd.1 hx.inv_d hle hcnd.2 (by omega)) (by simp [iE]))
            · cases h
          · rename_i rows _
            simp [lenV] at hlen
            subst hlen
            split at h
            · cases h
            · rename_i hfit
              simp only [Bool.not_eq_false] at hfit
              have hd := aCE hx
              cases hx with
              | fl _ a hd' =>
              obtain ⟨a', cap, he, hcap⟩ := nW hd
              cases he
              split at h
              · rename_i hhl
                cases h
                have hr := iU (P := P) hlo hhi (len := rows.length) (cap := rows.length) true hl hh' h0 h1 (by omega)
                refine PStep.still hs (main rows.length _ rows.length rfl hr) ?_
                have := mB hfit hd hle (by omega) (show hh.toNat ≤ rows.length by omega)
                rw [hhl, aDi] at this
                rw [hhl]
                split at this
                · rename_i e1
                  rw [if_pos e1]
                  have hln : rows.length - l.toNat = (rows.drop l.toNat).length := by simp
                  rw [hln] at this ⊢
                  exact .fl _ _ this
                · rename_i e1
                  rw [if_neg e1]
                  simp only [Option.map_some] at this ⊢
                  have hln : rows.length - l.toNat = (rows.drop l.toNat).length := by simp
                  rw [hln] at this ⊢
                  exact .fl _ _ this
              · split at h
                · rename_i hhl
                  cases h
                  have hr := iU (P := P) hlo hhi (len := rows.length) (cap := rows.length) true hl hh' h0 h1 (by omega)
                  exact PStep.still hs (main rows.length _ rows.length rfl hr) (.d _ _ (mB hfit hd hle hhl (by omega)) (by simp [iE]))
                · cases h
          · rename_i rows tt st s _
            simp [lenV] at hlen
            subst hlen
            split at h
            · cases h
            · rename_i hfit
              simp only [not_or, Bool.not_eq_false, ne_eq, Decidable.not_not] at hfit
              obtain ⟨hfit, hsz⟩ := hfit
              have hd := aEZ hx
              cases hx with
              | tl _ _ _ _ k a cap hd' ht hle' hhh htsz ha =>
              obtain ⟨a', cap0, he, hcap⟩ := nW hd
              cases he
              split at h
              · rename_i hhl
                cases h
                have hr := iU (P := P) hlo hhi (len := rows.length) (cap := cap) true hl hh' h0 h1 (by omega)
                refine PStep.still hs (main cap _ cap rfl hr) ?_
                have := mB hfit hd hle (by omega) (show hh.toNat ≤ cap by omega)
                rw [hhl, aDi] at this
                rw [hhl]
                have hln : rows.length - l.toNat = (rows.drop l.toNat).length := by simp
                have hsub : ∀ row ∈ rows.drop l.toNat, row.length = s := fun row hr => hhh row (List.mem_of_mem_drop hr)
                split at this
                · rename_i e1
                  rw [if_pos e1]
                  rw [hln] at this ⊢
                  refine .tl _ tt (st + l.toNat) s k _ _ this ht (by simp; omega) hsub htsz (fun e2 hc2 => ?_)
                  simp at hc2
                  omega
                · rename_i e1
                  rw [if_neg e1]
                  simp only [Option.map_some] at this ⊢
                  rw [hln] at this ⊢
                  refine .tl _ tt (st + l.toNat) s k _ _ this ht (by simp; omega) hsub htsz (fun e2 hc2 => ?_)
                  simp at e2 hc2
                  obtain ⟨a0, a1, a2⟩ := ha (by omega) (by omega)
                  have hne : 0 < rows.length - l.toNat ∨ rows.length = l.toNat := by omega
                  subst a1
                  rw [iJ]
                  refine ⟨by omega, ?_, by omega⟩
                  simp only [Addr.mk.injEq, and_true, true_and]
                  have hszs : l.toNat * P.cellsOf e = l.toNat * (g.tok tt).sz := by rw [htsz, hsz]
                  rw [hszs, show st + l.toNat - (g.tok tt).s0 = (st - (g.tok tt).s0) + l.toNat by omega, bJ]
                  omega
              · split at h
                · rename_i hhl
                  cases h
                  have hr := iU (P := P) hlo hhi (len := rows.length) (cap := cap) true hl hh' h0 h1 (by omega)
                  exact PStep.still hs (main cap _ cap rfl hr) (.d _ _ (mB hfit hd hle hhl (by omega)) (by simp [iE]))
                · cases h
          · rename_i r off len' s _
            simp [lenV] at hlen
            subst hlen
            split at h
            · rename_i hcnd
              obtain ⟨rfl, hhl⟩ := hcnd
              cases h
              cases hx with
              | sl _ _ _ _ cap a hh2 hcap hsz hin hout ha hsp hlim =>
              have hr := iU (P := P) hlo hhi (len := len') (cap := cap) true hl hh' h0 h1 (by omega)
              refine PStep.still hs (main cap _ cap rfl hr) ?_
              have m1 := bE (P.cellsOf e) hhl
              have m2 : l.toNat * P.cellsOf e + (hh.toNat - l.toNat) * P.cellsOf e = hh.toNat * P.cellsOf e := by rw [← bJ]; congr 1; omega
              have m3 : l.toNat * P.cellsOf e + (cap - l.toNat) * P.cellsOf e = cap * P.cellsOf e := by rw [← bJ]; congr 1; omega
              split
              · rename_i e1
                refine .sl r _ _ _ _ _ hh2 (by omega) hsz (by omega) (by omega) (fun hlt => ?_) hsp (by omega)
                rw [e1] at hout
                omega
              · refine .sl r _ _ _ _ _ hh2 (by omega) hsz (by omega) (by omega) (fun hlt => ?_) (by show (Addr.add a _).spot = none; obtain ⟨ab, ao, asp⟩ := a; simp only at hsp; subst hsp; rw [iJ]) (by omega)
                rw [ha (by omega)]
                show (Addr.add _ _) = _
                rw [iJ, Nat.add_assoc]
            · cases h
          · rename_i hm; cases hm
          · rename_i hm; cases hm
          · rename_i hm; cases hm
          · rename_i hm; cases hm
          · cases h
        · -- the capacity given
          rename_i mv
          split at h
          · rename_i k hk
            split at h
            · rename_i hcnd
              obtain ⟨hsome, hhk⟩ := hcnd
              obtain ⟨y, rfl⟩ := Option.isSome_iff_exists.1 hsome
              cases cmx with
              | none => exact hmx.elim
              | some cm =>
              have bnd := fun (c : Nat) (hkc : k ≤ c) => vV (P := P) (len := len) hlo hhi hmx true hl rfl hh' hk h0 h1 hhk hkc
              unfold kL at h
              split at h
              · rename_i hm; cases hm
              · rename_i m' hm
                cases hm
                split at h
                · rename_i hz
                  cases h
                  have hd := hx.inv_d
                  cases hd
                  simp [lenV] at hlen
                  subst hlen
                  refine PStep.still hs (main k.toNat none 0 rfl (bnd 0 (by omega))) ?_
                  have e1 : l.toNat = 0 := by omega
                  have e2 : hh.toNat = 0 := by omega
                  rw [e1, e2, hz]
                  exact .d _ _ .nils rfl
                · cases h
              · rename_i hm; cases hm
              · rename_i hm; cases hm
              · rename_i hm; cases hm
              · rename_i hm; cases hm
              all_goals first
                | (rename_i rows m' hm
                   cases hm
                   simp [lenV] at hlen
                   subst hlen
                   split at h
                   · rename_i hcnd
                     obtain ⟨hfit, hkh, hhl⟩ := hcnd
                     cases h
                     have hd : DR g.frz w (.list rows) cx := by first | exact hx.inv_d | exact aCE hx
                     obtain ⟨a, cap, rfl, hcap⟩ := nW hd
                     refine PStep.still hs (main k.toNat _ cap rfl (bnd cap (by omega))) ?_
                     have := mB hfit hd hle hhl (show hh.toNat ≤ k.toNat by omega)
                     have hln : ((rows.drop l.toNat).take (hh.toNat - l.toNat)).length = hh.toNat - l.toNat := by simp; omega
                     rw [hkh] at this ⊢
                     split at this
                     · rename_i e1
                       rw [if_pos e1]
                       rw [← hln] at this ⊢
                       rw [hln] at this ⊢
                       have := VR.fl (g := g) (tk := σ.toks) (w := w) _ _ (by rw [hln]; exact this)
                       rw [hln] at this
                       exact this
                     · rename_i e1
                       rw [if_neg e1]
                       simp only [Option.map_some] at this ⊢
                       have := VR.fl (g := g) (tk := σ.toks) (w := w) _ _ (by rw [hln]; exact this)
                       rw [hln] at this
                       exact this
                   · cases h)
                | (rename_i rows tt st s m' hm
                   cases hm
                   simp [lenV] at hlen
                   subst hlen
                   split at h
                   · rename_i hcnd
                     obtain ⟨hfit, hkh, hhl⟩ := hcnd
                     cases h
                     have hd : DR g.frz w (.list rows) cx := aEZ hx
                     obtain ⟨a, cap, rfl, hcap⟩ := nW hd
                     refine PStep.still hs (main k.toNat _ cap rfl (bnd cap (by omega))) ?_
                     have := mB hfit hd hle hhl (show hh.toNat ≤ k.toNat by omega)
                     have hln : ((rows.drop l.toNat).take (hh.toNat - l.toNat)).length = hh.toNat - l.toNat := by simp; omega
                     rw [hkh] at this ⊢
                     split at this
                     · rename_i e1
                       rw [if_pos e1]
                       have := VR.fl (g := g) (tk := σ.toks) (w := w) _ _ (by rw [hln]; exact this)
                       rw [hln] at this
                       exact this
                     · rename_i e1
                       rw [if_neg e1]
                       simp only [Option.map_some] at this ⊢
                       have := VR.fl (g := g) (tk := σ.toks) (w := w) _ _ (by rw [hln]; exact this)
                       rw [hln] at this
                       exact this
                   · cases h)
                | (rename_i r off len' s m' hm
                   cases hm
                   simp [lenV] at hlen
                   subst hlen
                   split at h
                   · rename_i hcnd
                     obtain ⟨rfl, hz1, hz2⟩ := hcnd
                     cases h
                     cases hx with
                     | sl _ _ _ _ cap a hh2 hcap hsz hin hout ha hsp hlim =>
                     refine PStep.still hs (main k.toNat _ cap rfl (bnd cap (by omega))) ?_
                     have e1 : l.toNat = 0 := by omega
                     rw [hz1, hz2, e1]
                     exact .fl [] a (.list0 a 0)
                   · cases h)
                | cases h
            · cases h
          · cases h
      · cases h
    · cases h
  · cases h

end Go.Dn

/- Slices of texts and arrays; composite literals; lengths; least and greatest; interface values. -/
namespace Go.Dn
open Go.Lib

variable {P:Program} {g:Gh} {σ:St} {tk:List Nat} {w:World}

theorem tZ (l:List UInt8)(a b:Nat):(⟨l.toArray⟩:ByteArray).extract a b=⟨((l.drop a).take (b-a)).toArray⟩:=by
 apply ByteArray.ext
 apply Array.toList_inj.1
 rw [Lib.extract_data]

theorem aB6 (hs:Sim g σ w){t:TypeId}(hu:P.underlying t=some .string){x v:V}{cx:Value}(hx:VR g σ.toks w x cx){lo hi:Option V}{clo chi:Option Value}
  (hlo:xP g σ.toks w lo clo) (hhi:xP g σ.toks w hi chi) (h:vZ x lo hi=some v):PStep P g σ w (Instr.sliceAt t cx clo chi none) v:=by
 unfold vZ at h
 split at h
 ·rename_i s
  have:=hx.inv_str
  subst this
  split at h
  ·rename_i l hh hl hh'
   split at h
   ·rename_i hb
    obtain⟨h0,h1,h2⟩:=hb
    cases h
    have hr:=iU (P:=P) hlo hhi (len:=s.length) (cap:=s.length) false hl hh' h0 h1 h2
    refine PStep.still hs ?_ (.str _)
    simp [Instr.sliceAt,run_underlying hu,Instr.slice,kS,hr,tZ]
   ·cases h
  ·cases h
 ·cases h

theorem aB5 (hs:Sim g σ w){t e:TypeId}{n:Nat}(hu:P.underlying t=some (.array n e))(hc:P.cellsOf e≠0){x v:V}{cx:Value}(hx:VR g σ.toks w x cx){lo hi:Option V}{clo chi:Option Value}
  (hlo:xP g σ.toks w lo clo) (hhi:xP g σ.toks w hi chi) (h:lD σ n (P.cellsOf e) x lo hi=some v):PStep P g σ w (Instr.sliceAt t cx clo chi none) v:=by
 unfold lD at h
 split at h
 ·rename_i l hh hl hh'
  split at h
  ·rename_i hb
   obtain⟨h0,h1,h2⟩:=hb
   have hr:=iU (P:=P) hlo hhi (len:=n) (cap:=n) false hl hh' h0 h1 h2
   have run : ∀ a:Addr,(Instr.sliceAt t (.pointer (some a)) clo chi none).run P w = .ok (.slice (some (if n=l.toNat then a else a.add (l.toNat*P.cellsOf e))) (hh.toNat-l.toNat) (n-l.toNat)) w:=by
    intro a
    simp [Instr.sliceAt,run_underlying hu,Instr.sureAddr,hr,iP hc]
   have m1:=bE (P.cellsOf e) (show hh.toNat≤n by omega)
   have m2:l.toNat*P.cellsOf e+(hh.toNat-l.toNat)*P.cellsOf e=hh.toNat*P.cellsOf e:=by rw [← bJ]; congr 1; omega
   have m3:l.toNat*P.cellsOf e+(n-l.toNat)*P.cellsOf e=n*P.cellsOf e:=by rw [← bJ]; congr 1; omega
   split at h
   ·rename_i r o
    split at h
    ·rename_i cs hobj
     split at h
     ·rename_i hend
      cases h
      have hlen:=(hs.cells r cs hobj).1
      cases hx with
      | ref _ _ hh2 =>
       refine PStep.still hs (run _) ?_
       refine .sl r _ _ _ _ _ hh2 (by omega) (by omega) (by omega) (by omega) (fun hlt=>?_) (by split <;> first | rfl | rw [iJ]) (by have:=(hs.lims r cs hobj).1; omega)
       split
       ·rename_i e1
        rw [e1] at hend
        omega
       ·rw [iJ,Nat.add_assoc]
     ·cases h
    ·cases h
   ·rename_i cs
    split at h
    ·rename_i hcs
     cases h
     cases hx with
     | ro _ b o cv hf hc' h1' hd =>
      refine PStep.still hs (run _) (.d _ _ ?_ (by simp [iE]))
      have hln:(gJ (P.cellsOf e) (hh.toNat-l.toNat) (cs.drop (l.toNat*P.cellsOf e))).length=hh.toNat-l.toNat:=lC _ _ _
      by_cases he:n=l.toNat
      ·have:hh.toNat-l.toNat=0:=by omega
       rw [if_pos he,this]
       exact DR.list_empty _ _ rfl
      ·rw [if_neg he,iJ]
       have:=DR.list (frz:=g.frz) (w:=w) (gJ (P.cellsOf e) (hh.toNat-l.toNat) (cs.drop (l.toNat*P.cellsOf e))) b (o+l.toNat*P.cellsOf e) (n-l.toNat) (P.cellsOf e) (fun k=>cv (l.toNat*P.cellsOf e+k)) (by rw [hln]; omega)
        (fun i row hr=>by
         rw [mC] at hr
         split at hr
         ·rename_i hi
          cases hr
          have:=bE (P.cellsOf e) (show i+1≤hh.toNat-l.toNat from hi)
          rw [bJ] at this
          simp
          omega
         ·cases hr)
        (fun k hk=>by rw [hln] at hk; rw [Nat.add_assoc]; exact hf _ (by omega)) (fun k hk=>by rw [hln] at hk; rw [Nat.add_assoc]; exact hc' _ (by omega)) (fun k hk=>by rw [hln] at hk; exact h1' _ (by omega))
        (fun i row j d hr hj=>by
         rw [mC] at hr
         split at hr
         ·cases hr
          rw [List.getElem?_take] at hj
          split at hj
          ·rw [List.getElem?_drop,List.getElem?_drop] at hj
           exact hd _ d hj
          ·cases hj
         ·cases hr)
       rw [hln] at this
       exact this
    ·cases h
   ·cases h
  ·cases h
 ·cases h

def PartsR (g:Gh)(tk:List Nat)(w:World)(place:Nat→Option (Nat×Nat)):List (Nat×Nat×V)→List (Nat×Value)→Prop
 | [],[]=>True
 | (off,n,v)::l,(i,cv)::l'=>place i=some (off,n)∧VR g tk w v cv∧PartsR g tk w place l l'
 | _,_=>False

theorem rJ {place:Nat→Option (Nat×Nat)} : ∀ {l:List (Nat×Nat×V)} {l':List (Nat×Value)} {cs cs':List V} {vs:Array Value},PartsR g tk w place l l'→VRs g tk w cs vs.toList→(∀ v∈vs.toList,iE v=true)→fE cs l=some cs' →
  ∃ vs',Instr.fill place vs l'=some vs'∧VRs g tk w cs' vs'.toList∧(∀ v∈vs'.toList,iE v=true)
 | [],[],cs,cs',vs,_,h1,h2,h=>by simp [fE] at h; subst h; exact⟨vs,rfl,h1,h2⟩
 | (off,n,v)::l,(i,cv)::l',cs,cs',vs,hp,h1,h2,h=>by
  obtain⟨hpl,hv,hrest⟩:=hp
  unfold fE at h
  split at h
  ·rename_i us hus
   split at h
   ·rename_i hc
    obtain⟨hul,hoff⟩:=hc
    obtain⟨hvc,hvo⟩:=hv.cells hus
    have hcl:cv.cells.size=n:=by rw [← Array.length_toList,← hvc.length,hul]
    have hvl:vs.size=cs.length:=by rw [← Array.length_toList,← h1.length]
    have hfold:=aFo cv.cells.toList off 0 vs (by simp [hcl]; omega)
    have e:(cv.cells.zipIdx.foldl (fun cs (x:Value×Nat)=>cs.setIfInBounds (off+x.2) x.1) vs).toList=splice vs.toList off cv.cells.toList:=by
     rw [← Array.foldl_toList,Array.toList_zipIdx]
     simpa using hfold
    have ho : ∀ u∈splice vs.toList off cv.cells.toList,iE u=true:=by
     intro u hu
     unfold splice at hu
     rcases aW.1 hu with hu | hu
     ·rcases aW.1 hu with hu | hu
      ·exact h2 u (List.mem_of_mem_take hu)
      ·exact hvo u hu
     ·exact h2 u (List.mem_of_mem_drop hu)
    obtain⟨vs',r1,r2,r3⟩:=rJ (vs:=cv.cells.zipIdx.foldl (fun cs (x:Value×Nat)=>cs.setIfInBounds (off+x.2) x.1) vs) hrest (by rw [e]; exact h1.splice off hvc) (by rw [e]; exact ho) h
    refine⟨vs',?_,r2,r3⟩
    unfold Instr.fill
    rw [hpl]
    simp only
    rw [if_neg (by simp [hcl]; omega)]
    exact r1
   ·cases h
  ·cases h
 | [],_::_,_,_,_,hp,_,_,_=>hp.elim
 | _::_,[],_,_,_,hp,_,_,_=>hp.elim

theorem kD {t:TypeId}{z:List D}(h:kN P t=some z) : ∃ i zv,P.info? t=some i∧i.zero=some zv∧pN zv.cells.toList=some z:=by
 unfold kN at h
 split at h
 ·rename_i i hi
  split at h
  ·rename_i zv hz
   exact⟨i,zv,hi,hz,h⟩
  ·cases h
 ·cases h

theorem kT {vs:List Value}{ds:List D}(h:pN vs=some ds):VRs g tk w (ds.map .d) vs∧(∀ v∈vs,iE v=true):=by
 obtain⟨h1,h2⟩:=qS h
 have ho : ∀ v∈vs,iE v=true:=fun v hv=>by
  obtain⟨i,hi⟩:=bQ hv
  exact qR h i v hi
 exact⟨DRs.to_v ho (DRs.of_get h1 (fun i d v hd hv=>h2 g.frz w i d v hd hv)),ho⟩

theorem tC {α β:Type}(f:α→Sem β)(h:α→β) : ∀ (l:List α),(∀ x∈l,(f x).run P w = .ok (h x) w)→(l.mapM f).run P w = .ok (l.map h) w
 | [],_=>by simp
 | x::r,hx=>by
  have ih:=tC f h r (fun y hy=>hx y (by simp [hy]))
  simp [List.mapM_cons,hx x (by simp),ih]

theorem aHg {α β:Type}(f:α→Sem β)(h:α→β)(xs:Array α)(hx : ∀ x∈xs.toList,(f x).run P w = .ok (h x) w):(xs.mapM f).run P w = .ok (xs.map h) w:=by
 rw [Array.mapM_eq_mapM_toList]
 have:(xs.toList.map h).toArray=xs.map h:=by apply Array.ext'; simp
 simp [tC f h xs.toList hx,this]

theorem qP {t:TypeId}(h:nH P t=true):(sizeOf t).run P w = .ok (P.cellsOf t) w:=by
 obtain⟨i,hi⟩:=Option.isSome_iff_exists.1 h
 exact run_sizeOf w hi

theorem iX {t:TypeId}{i:TypeInfo}{z:Value}(hi:P.info? t=some i)(hz:i.zero=some z):(zeroValue t).run P w = .ok z w:=by
 simp [zeroValue,typeInfo,hi,hz]

theorem aAb {n:Nat}{e:Env}{a:Act}(he:EnvR g tk w n e a.tmps){t:TypeId} : ∀ {ps:List (Nat×Operand)} {l:List (Nat×Nat×Opd)},qC P t ps=some l →
  PartsR g tk w (sU P t) (l.map fun x=>(x.1,x.2.1,x.2.2.ev e)) (ps.map fun x=>(x.1,a.eval x.2))
 | [],l,h=>by simp [qC] at h; subst h; trivial
 | (i,x)::r,l,h=>by
  unfold qC at h
  split at h
  ·rename_i o n' a' l' hp hx hr
   cases h
   exact⟨hp,nK hx he,aAb he hr⟩
  ·cases h

theorem PartsR.mono {place place':Nat→Option (Nat×Nat)}(hp : ∀ i x,place i=some x→place' i=some x) : ∀ {l:List (Nat×Nat×V)} {l':List (Nat×Value)},PartsR g tk w place l l'→PartsR g tk w place' l l'
 | [],[],_=>trivial
 | _::_,_::_,h=>⟨hp _ _ h.1,h.2.1,PartsR.mono hp h.2.2⟩
 | [],_::_,h=>h.elim
 | _::_,[],h=>h.elim

theorem aE8 (hs:Sim g σ w){n:Nat}{e:Env}{a:Act}(he:EnvR g σ.toks w n e a.tmps){t:TypeId}{z:List D}{ps:Array (Nat×Operand)}{l:List (Nat×Nat×Opd)}(hz:kN P t=some z)(hl:qC P t ps.toList=some l)
  (hok:(match P.underlying t with | some (.struct fs)=>fs.toList.all (fun f=>nH P f.type) | some (.array _ e)=>nH P e | _=>false)=true) {cs:List V}
  (h:fE (z.map .d) (l.map fun x=>(x.1,x.2.1,x.2.2.ev e))=some cs):PStep P g σ w (Instr.build t (ps.map fun x=>(x.1,a.eval x.2))) (bZ cs):=by
 obtain⟨i,zv,hi,hzv,hleaf⟩:=kD hz
 obtain⟨z1,z2⟩:=kT (g:=g) (tk:=σ.toks) (w:=w) hleaf
 have hpr:=aAb (g:=g) (tk:=σ.toks) (w:=w) he hl
 have hps:(ps.map fun x=>(x.1,a.eval x.2)).toList=ps.toList.map fun x=>(x.1,a.eval x.2):=by simp
 split at hok
 ·rename_i fs hu
  have hall : ∀ f∈fs.toList,nH P f.type=true:=List.all_eq_true.1 hok
  have hpl : ∀ i x,sU P t i=some x→(fs.map fun f=>(f.offset,P.cellsOf f.type))[i]?=some x:=by
   intro i x hx
   unfold sU at hx
   simp only [hu,hok,if_true] at hx
   split at hx
   ·rename_i f hf
    cases hx
    simp [hf]
   ·cases hx
  obtain⟨vs',r1,r2,r3⟩:=rJ (hpr.mono hpl) z1 z2 h
  refine PStep.still hs ?_ (VR.mkAgg_of r3 r2)
  have hm:=aHg (P:=P) (w:=w) (fun f:Field=>(do pure (f.offset,← sizeOf f.type):Sem (Nat×Nat))) (fun f=>(f.offset,P.cellsOf f.type)) fs (fun f hf=>by simp [qP (hall f hf)])
  unfold Instr.build
  simp only [Sem.run_bind,iX hi hzv,aV,run_underlying hu,hm,hps]
  rw [r1]
  rfl
 ·rename_i n' el hu
  have hpl : ∀ i x,sU P t i=some x→(fun i=>some (i*P.cellsOf el,P.cellsOf el)) i=some x:=by
   intro i x hx
   unfold sU at hx
   simp only [hu,hok,if_true] at hx
   exact hx
  obtain⟨vs',r1,r2,r3⟩:=rJ (hpr.mono hpl) z1 z2 h
  refine PStep.still hs ?_ (VR.mkAgg_of r3 r2)
  unfold Instr.build
  simp only [Sem.run_bind,iX hi hzv,aV,run_underlying hu,qP hok,hps]
  rw [r1]
  rfl
 ·cases hok

theorem aIp (hs:Sim g σ w){t:TypeId}{ty:Ty}(ht:(ty = .str∧P.underlying t=some .string)∨(ty = .slice∧∃ e,P.underlying t=some (.slice e))∨(ty = .map∧∃ k e,P.underlying t=some (.map k e))){x:V}{cx:Value}(hx:VR g σ.toks w x cx){n:Nat}(h:gZ σ ty x=some n)(o:TypeId) :
  PStep P g σ w (Builtin.len_ #[t] o #[cx]) (.d (.int .i64 n)):=by
 rcases ht with⟨rfl,hu⟩ | ⟨rfl,e,hu⟩ | ⟨rfl,k,e,hu⟩
 ·simp only [gZ] at h
  split at h
  ·cases h
   have:=hx.inv_str
   subst this
   exact PStep.still hs (by simp [Builtin.len_,run_underlying hu,goInt,kS]) (.int _ _)
  ·cases h
 ·obtain⟨a,c,rfl,hc⟩:=sW hs hx h
  exact PStep.still hs (by simp [Builtin.len_,run_underlying hu,goInt]) (.int _ _)
 ·simp only [gZ] at h
  split at h
  ·cases h
   have:=hx.inv_d
   cases this
   exact PStep.still hs (by simp [Builtin.len_,run_underlying hu,goInt]) (.int _ _)
  ·split at h
   ·rename_i es c he
    cases h
    obtain⟨ho,h1,h2⟩:=hs.oth _ _ he trivial
    cases hx with
    | map _ hh =>
     cases ho <;> try exact h2.elim
     rename_i es' c'
     obtain⟨_,h3,_⟩:=h2
     refine PStep.still hs ?_ (.int _ _)
     simp [Builtin.len_,run_underlying hu,getObj,Sem.run,h1,goInt,h3]
   ·cases h
  ·cases h

theorem xB : ∀ {r:List V} {cs:List Value} {m m':Int} {k:IntKind},VRs g tk w r cs→pH m r k=some m'→(cs.foldlM Builtin.min2 (.int k m)).run P w = .ok (.int k m') w
 | [],[],m,m',k,_,h=>by simp [pH] at h; subst h; simp
 | v::r,c::cs,m,m',k,hr,h=>by
  unfold pH at h
  split at h
  ·rename_i hv; cases hv
  ·rename_i k' n r' k0 hv
   cases hv
   split at h
   ·rename_i hk
    subst hk
    have:=hr.1.inv_int
    subst this
    simp only [List.foldlM_cons,Builtin.min2,Sem.run_bind,Sem.run_pure,aV]
    exact xB hr.2 h
   ·cases h
  ·cases h
 | [],_::_,_,_,_,hr,_=>hr.elim
 | _::_,[],_,_,_,hr,_=>hr.elim

theorem xA : ∀ {r:List V} {cs:List Value} {m m':Int} {k:IntKind},VRs g tk w r cs→uG m r k=some m'→(cs.foldlM Builtin.max2 (.int k m)).run P w = .ok (.int k m') w
 | [],[],m,m',k,_,h=>by simp [uG] at h; subst h; simp
 | v::r,c::cs,m,m',k,hr,h=>by
  unfold uG at h
  split at h
  ·rename_i hv; cases hv
  ·rename_i k' n r' k0 hv
   cases hv
   split at h
   ·rename_i hk
    subst hk
    have:=hr.1.inv_int
    subst this
    simp only [List.foldlM_cons,Builtin.max2,Sem.run_bind,Sem.run_pure,aV]
    exact xA hr.2 h
   ·cases h
  ·cases h
 | [],_::_,_,_,_,hr,_=>hr.elim
 | _::_,[],_,_,_,hr,_=>hr.elim

theorem aIs (hs:Sim g σ w){xs:List V}{cs:Array Value}(hr:VRs g σ.toks w xs cs.toList){v:V}(h:vL xs=some v)(a:Array TypeId)(t:TypeId):PStep P g σ w (Builtin.min_ a t cs) v:=by
 unfold vL at h
 split at h
 ·rename_i k n r
  split at h
  ·rename_i m hm
   cases h
   unfold Builtin.min_
   cases hc:cs.toList with
   | nil=>rw [hc] at hr; exact hr.elim
   | cons c cl =>
    rw [hc] at hr
    have:=hr.1.inv_int
    subst this
    exact PStep.still hs (xB hr.2 hm) (.int _ _)
  ·cases h
 ·cases h

theorem aIr (hs:Sim g σ w){xs:List V}{cs:Array Value}(hr:VRs g σ.toks w xs cs.toList){v:V}(h:aDU xs=some v)(a:Array TypeId)(t:TypeId):PStep P g σ w (Builtin.max_ a t cs) v:=by
 unfold aDU at h
 split at h
 ·rename_i k n r
  split at h
  ·rename_i m hm
   cases h
   unfold Builtin.max_
   cases hc:cs.toList with
   | nil=>rw [hc] at hr; exact hr.elim
   | cons c cl =>
    rw [hc] at hr
    have:=hr.1.inv_int
    subst this
    exact PStep.still hs (xA hr.2 hm) (.int _ _)
  ·cases h
 ·cases h

theorem aGE {t:TypeId}(h:yV P t=true):P.concrete t=true:=by
 unfold yV at h
 unfold Program.concrete
 split at h <;> simp_all

theorem aGX (hs:Sim g σ w){t:TypeId}(hc:yV P t=true){x v:V}{cx:Value}(hx:VR g σ.toks w x cx)(h:rT t x=some v):PStep P g σ w (Instr.makeInterface t cx) v:=by
 have hr:=run_makeInterface (P:=P) w t cx (aGE hc)
 unfold rT at h
 split at h
 ·cases h; exact PStep.still hs hr (.d _ _ (.iface t _ _ hx.inv_d) rfl)
 ·cases h
  obtain⟨vs,rfl,h1,h2⟩:=hx.inv_da
  exact PStep.still hs hr (.d _ _ (.iface t _ _ (DR.agg_of h1 h2)) rfl)
 ·cases h
 ·cases h
 ·cases h
 ·cases h; exact PStep.still hs hr (.ifc t _ _ hx)

theorem aAz {d:D}{v:Value}(h:DR g.frz w d v):VR g tk w (yG d) v:=by
 cases h with
 | agg cs vs hl h1 h=>exact .da _ _ (.agg cs vs hl h1 h)
 | int k n=>exact .d _ _ (.int k n) rfl
 | bool b=>exact .d _ _ (.bool b) rfl
 | str l=>exact .d _ _ (.str l) rfl
 | nilp=>exact .d _ _ .nilp rfl
 | nils=>exact .d _ _ .nils rfl
 | nilm=>exact .d _ _ .nilm rfl
 | nilf=>exact .d _ _ .nilf rfl
 | nili=>exact .d _ _ .nili rfl
 | iface t d v h=>exact .d _ _ (.iface t d v h) rfl
 | list rows b o cap sz cv hcap hsz hf hc h1 hd=>exact .d _ _ (.list rows b o cap sz cv hcap hsz hf hc h1 hd) rfl
 | list0 a cap=>exact .d _ _ (.list0 a cap) rfl

theorem aCC (hs:Sim g σ w){x v:V}{cx:Value}(hx:VR g σ.toks w x cx){i:Nat}(h:cI x i=some v):PStep P g σ w (Instr.extract cx i) v:=by
 unfold cI at h
 split at h
 ·rename_i vs
  cases hx with
  | tup _ cs hl hh =>
   have hi:i<vs.length:=by
    rcases bR i vs.length with h' | h'
    ·exact h'
    ·simp [aR h'] at h
   have hci:cs[i]?=some (cs[i]'(by omega)):=by simp [show i<cs.size by omega]
   exact PStep.still hs (by simp [Instr.extract,hci]) (hh i v _ h hci)
 ·cases h

end Go.Dn

/- Every operation that leaves the store alone does in the world what it does in the abstract: one theorem. -/
namespace Go.Dn
open Go.Lib

variable {P:Program} {g:Gh} {σ:St} {tk:List Nat} {w:World}

theorem aDz (hs:Sim g σ w){t xt:TypeId}{z:Opd}(hz:aAB P t=some z)(hc:yV P t=true){ok:Bool}{x v:V}{cx:Value}(hx:VR g σ.toks w x cx)(h:xX t (z.ev []) ok x=some v) :
  PStep P g σ w (Instr.typeAssert cx xt t ok) v:=by
 have hu : ∃ d,P.underlying t=some d∧∀ ms,d ≠ .interface ms:=by
  unfold yV at hc
  split at hc
  ·cases hc
  ·cases hc
  ·rename_i h1 h2
   cases hd:P.underlying t with
   | none=>exact absurd hd h2
   | some d=>exact⟨d,rfl,fun ms e=>h1 ms (by rw [hd,e])⟩
 obtain⟨d,hu,hni⟩:=hu
 have hzero : ∃ zv,(zeroValue t).run P w = .ok zv w∧VR g σ.toks w (z.ev []) zv:=by
  unfold aAB at hz
  split at hz
  ·rename_i i hi
   split at hz
   ·rename_i zv hzv
    exact⟨zv,iX hi hzv,tI hz []⟩
   ·cases hz
  ·cases hz
 obtain⟨zv,hzr,hzv⟩:=hzero
 have two : ∀ {a b:V} {ca cb:Value},VR g σ.toks w a ca→VR g σ.toks w b cb→VR g σ.toks w (.tup [a,b]) (.tuple #[ca,cb]):=by
  intro a b ca cb ha hb
  refine .tup _ _ rfl (fun i c v hi hv=>?_)
  match i,hi,hv with
  | 0,hi,hv=>simp at hi hv; subst hi hv; exact ha
  | 1,hi,hv=>simp at hi hv; subst hi hv; exact hb
  | n+2,hi,hv=>simp at hi
 have runNil:ok=true→(Instr.typeAssert .nilIface xt t ok).run P w = .ok (.tuple #[zv,.bool false]) w:=by
  rintro rfl
  unfold Instr.typeAssert
  simp only [Sem.run_bind,run_underlying hu,aV]
  cases d <;> first | (exact absurd rfl (hni _)) | simp [hzr]
 have runHit : ∀ y,(Instr.typeAssert (.iface t y) xt t ok).run P w = .ok (if ok then .tuple #[y,.bool true] else y) w:=by
  intro y
  unfold Instr.typeAssert
  simp only [Sem.run_bind,run_underlying hu,aV]
  cases d <;> first | (exact absurd rfl (hni _)) | simp
 have runMiss : ∀ t' y,¬ t'=t→ok=true→(Instr.typeAssert (.iface t' y) xt t ok).run P w = .ok (.tuple #[zv,.bool false]) w:=by
  rintro t' y hne rfl
  unfold Instr.typeAssert
  simp only [Sem.run_bind,run_underlying hu,aV]
  cases d <;> first | (exact absurd rfl (hni _)) | simp [hzr,hne]
 unfold xX at h
 split at h
 ·rename_i t' y
  have hd:=hx.inv_d
  cases hd with
  | iface _ _ cy hy =>
   split at h
   ·rename_i ht
    subst ht
    cases h
    refine PStep.still hs (runHit cy) ?_
    cases ok
    ·simpa using aAz hy
    ·simpa using two (aAz hy) (.bool true)
   ·rename_i hne
    split at h
    ·rename_i hok
     cases h
     exact PStep.still hs (runMiss t' cy hne hok) (two hzv (.bool false))
    ·cases h
 ·have hd:=hx.inv_d
  cases hd
  split at h
  ·rename_i hok
   cases h
   exact PStep.still hs (runNil hok) (two hzv (.bool false))
  ·cases h
 ·rename_i t' y
  cases hx with
  | ifc _ _ cy hy =>
   split at h
   ·rename_i ht
    subst ht
    cases h
    refine PStep.still hs (runHit cy) ?_
    cases ok
    ·simpa using hy
    ·simpa using two hy (.bool true)
   ·rename_i hne
    split at h
    ·rename_i hok
     cases h
     exact PStep.still hs (runMiss t' cy hne hok) (two hzv (.bool false))
    ·cases h
 ·cases h

theorem kO (n:Nat)(z:List D):(iL n z).length=n*z.length:=by
 induction n with
 | zero=>simp [iL]
 | succ n ih=>simp [iL,ih,bJ]; omega

theorem aC2 (z:List D)(hz:0<z.length) : ∀ (n k:Nat),k<n*z.length→(iL n z)[k]?=(z.map V.d)[k % z.length]?
 | 0,k,h=>by simp at h
 | n+1,k,h=>by
  rw [bJ,Nat.one_mul] at h
  unfold iL
  by_cases hk:k<z.length
  ·rw [aC (by simpa using hk),Nat.mod_eq_of_lt hk]
  ·rw [bH (by simp; omega)]
   simp only [aQ]
   rw [aC2 z hz n (k-z.length) (by omega),← Nat.mod_eq_sub_mod (by omega)]

theorem oV {z:List D}{zs:Array Value}(hz:VRs g tk w (z.map .d) zs.toList)(ho : ∀ v∈zs.toList,iE v=true)(hpos:0<z.length)(n:Nat) :
  VRs g tk w (iL n z) ((Array.range (n*z.length)).map (zs[· % zs.size]!)).toList∧(∀ v∈((Array.range (n*z.length)).map (zs[· % zs.size]!)).toList,iE v=true):=by
 have hsz:zs.size=z.length:=by have:=hz.length; simp at this; exact this.symm
 have get : ∀ k,k<n*z.length→∃ u,zs[k % z.length]?=some u∧((Array.range (n*z.length)).map (zs[· % zs.size]!)).toList[k]?=some u:=by
  intro k hk
  have hm:k % z.length<zs.size:=by rw [hsz]; exact Nat.mod_lt _ hpos
  refine⟨zs[k % z.length],by simp [hm],?_⟩
  simp only [Array.toList_map,Array.toList_range,bG,List.getElem?_range hk,Option.map_some,hsz]
  rw [getElem!_pos zs _ hm]
 refine⟨VRs.of_get (by rw [kO]; simp) (fun i c v hc hv=>?_),fun v hv=>?_⟩
 ·have hi:i<n*z.length:=by
   rcases bR i (n*z.length) with h | h
   ·exact h
   ·rw [aR (by rw [kO]; exact h)] at hc; cases hc
  obtain⟨u,h1,h2⟩:=get i hi
  rw [h2] at hv
  cases hv
  rw [aC2 z hpos n i hi] at hc
  exact hz.get _ c v hc (by simpa using h1)
 ·obtain⟨i,hi⟩:=bQ hv
  have hlt:i<n*z.length:=by
   rcases bR i (n*z.length) with h | h
   ·exact h
   ·rw [aR (by simp; exact h)] at hi; cases hi
  obtain⟨u,h1,h2⟩:=get i hlt
  rw [h2] at hi
  cases hi
  exact ho v (aL (by simpa using h1))

theorem sT {n:Nat}{e:Env}{a:Act}(he:EnvR g tk w n e a.tmps)(sz:Nat) : ∀ {ps:List (Nat×Operand)} {l:List (Nat×Opd)},sS ps=some l →
  PartsR g tk w (fun i=>some (i*sz,sz)) (l.map fun x=>(x.1*sz,sz,x.2.ev e)) (ps.map fun x=>(x.1,a.eval x.2))
 | [],l,h=>by simp [sS] at h; subst h; trivial
 | (i,x)::r,l,h=>by
  unfold sS at h
  split at h
  ·rename_i a' l' hx hr
   cases h
   exact⟨rfl,nK hx he,sT he sz hr⟩
  ·cases h

theorem zT (hs:Sim g σ w){e:TypeId}{sz len:Nat}{l:List D}{c:Array Value}(hl:l.length=len*sz)(hd:DRs g.frz w l c.toList)(ho : ∀ v∈c.toList,iE v=true){w':World}(hw:Grown1 w (.cells c e) w') :
  ∃ g',Sim g' σ w'∧VR g' σ.toks w' (.fl (gJ sz len l)) (.slice (some ⟨w.heap.size,0,none⟩) len len)∧Ev g σ w g' σ w':=by
 obtain⟨h1,h2⟩:=hs.push_frz hw
 refine⟨_,h1,?_,h2⟩
 have hcs:c.size=len*sz:=by rw [← hl,hd.length]; simp
 have hln:(gJ sz len l).length=len:=lC _ _ _
 have cell : ∀ k,k<len*sz→∃ u,c[k]?=some u∧c.getD k undef=u∧iE u=true:=by
  intro k hk
  have:k<c.size:=by omega
  exact⟨c[k],by simp [this],by simp [Array.getD_eq_getD_getElem?,this],ho _ (by simp)⟩
 have:=aCO (f:=(g.freeze w.heap.size c.size).frz) (rows:=gJ sz len l) (sz:=sz) (cap:=len) hw.new (by rw [hln]; exact bB _)
  (fun i row hr=>by
   rw [mC] at hr
   split at hr
   ·rename_i hi
    cases hr
    have:=bE sz (show i+1≤len from hi)
    rw [bJ] at this
    simp [hl]; omega
   ·cases hr)
  (fun k hk=>by rw [hln] at hk; exact .inr ⟨rfl,by omega⟩) (by rw [hln]; omega)
  (fun k hk=>by
   rw [hln] at hk
   obtain⟨u,_,h2,h3⟩:=cell k hk
   rw [h2]; exact h3)
  (fun i row j d hr hj=>by
   rw [mC] at hr
   split at hr
   ·rename_i hi
    cases hr
    rw [List.getElem?_take] at hj
    split at hj
    ·rename_i hjs
     rw [List.getElem?_drop] at hj
     have hlt:i*sz+j<len*sz:=by
      have:=bE sz (show i+1≤len from hi)
      rw [bJ] at this
      omega
     obtain⟨u,h1',h2',_⟩:=cell _ hlt
     rw [h2']
     exact(hd.get _ d u hj (by simpa using h1')).mono h2.later.stay
    ·cases hj
   ·cases hr)
 rw [hln] at this
 have r:=VR.fl (g:=g.freeze w.heap.size c.size) (tk:=σ.toks) (w:=w') (gJ sz len l) ⟨w.heap.size,0,none⟩ (by rw [hln]; exact this)
 rw [hln] at r
 exact r

theorem aGM {v:V}{c:Value}(h:VR g tk w v c):VR g tk w (oR v) c:=by
 cases h with
 | fl rows a h=>exact .d _ _ h rfl
 | tl rows t st sz k a cap hd=>exact .d _ _ hd rfl
 | _=>constructor <;> assumption

theorem aAW : ∀ {vs:List V} {cs:List Value},VRs g tk w vs cs→VRs g tk w (vs.map oR) cs
 | [],[],_=>trivial
 | v::vs,c::cs,h=>⟨aGM h.1,aAW h.2⟩
 | [],_::_,h=>h.elim
 | _::_,[],h=>h.elim

theorem aDC (hs:Sim g σ w){a:Act}{t el:TypeId}(hu:P.underlying t=some (.slice el)){z:List D}{len:Nat}{ps:Array (Nat×Operand)}{pl:List (Nat×Nat×V)}(hz:kN P el=some z)
  (hpr:PartsR g σ.toks w (fun i=>some (i*P.cellsOf el,P.cellsOf el)) pl (ps.toList.map fun x=>(x.1,a.eval x.2))) (hc:P.cellsOf el≠0) (hbig : ¬ len*P.cellsOf el>2 ^ 24) (hzl:z.length=P.cellsOf el) {cs:List V} (h:fE (iL len z) pl=some cs) :
  ∃ vs':Array Value,VRs g σ.toks w cs vs'.toList∧(∀ v∈vs'.toList,iE v=true)∧cs.length=len*P.cellsOf el∧(Instr.buildSlice t len (ps.map fun x=>(x.1,a.eval x.2))).run P w = .ok (.slice (some ⟨w.heap.size,0,none⟩) len len) { w with heap:=w.heap.push (.cells vs' el) }:=by
 obtain⟨i,zv,hi,hzv,hleaf⟩:=kD hz
 obtain⟨z1,z2⟩:=kT (g:=g) (tk:=σ.toks) (w:=w) hleaf
 have hps:(ps.map fun x=>(x.1,a.eval x.2)).toList=ps.toList.map fun x=>(x.1,a.eval x.2):=by simp
 have hzs:zv.cells.size=P.cellsOf el:=by rw [← hzl]; have:=z1.length; simp at this; exact this.symm
 -- the zero cells
 have hrep:VRs g σ.toks w (iL len z) ((Array.range (len*P.cellsOf el)).map ((if len*P.cellsOf el=0 then(#[]:Array Value) else zv.cells)[· % (if len*P.cellsOf el=0 then(#[]:Array Value) else zv.cells).size]!)).toList ∧
   (∀ v∈((Array.range (len*P.cellsOf el)).map ((if len*P.cellsOf el=0 then(#[]:Array Value) else zv.cells)[· % (if len*P.cellsOf el=0 then(#[]:Array Value) else zv.cells).size]!)).toList,iE v=true):=by
  by_cases h0:len*P.cellsOf el=0
  ·have hl0:len=0:=by
    rcases Nat.mul_eq_zero.1 h0 with h | h
    ·exact h
    ·exact absurd h hc
   subst hl0
   simp [iL,VRs]
  ·rw [if_neg h0]
   have:=oV z1 z2 (by omega) len
   rw [hzl] at this
   exact this
 obtain⟨vs',r1,r2,r3⟩:=rJ hpr hrep.1 hrep.2 h
 have hcl:cs.length=len*P.cellsOf el:=by
  have : ∀ (l:List (Nat×Nat×V)) (cs cs':List V),fE cs l=some cs'→cs'.length=cs.length:=by
   intro l
   induction l with
   | nil=>intro cs cs' h; simp [fE] at h; rw [h]
   | cons p l ih =>
    intro cs cs' h
    obtain⟨off,sz,v⟩:=p
    unfold fE at h
    split at h
    ·split at h
     ·rename_i hcnd
      rw [ih _ _ h,kC _ _ _ (by omega)]
     ·cases h
    ·cases h
  rw [this _ _ _ h,kO,hzl]
 refine⟨vs',r2,r3,hcl,?_⟩
 unfold Instr.buildSlice
 simp only [Sem.run_bind,run_underlying hu,aV,iP hc,hbig,if_false]
 by_cases h0:len*P.cellsOf el=0
 ·simp only [h0,if_true] at r1 ⊢
  rw [Sem.run_bind]
  simp only [Sem.run_pure,aV,hps]
  rw [r1]
  simp [newRow,newObj,Sem.run]
 ·simp only [h0,if_false,Sem.run_bind,iX hi hzv,aV,Sem.run_pure] at r1 ⊢
  simp only [hps]
  rw [r1]
  simp [newRow,newObj,Sem.run]

theorem wE (hs:Sim g σ w){a:Act}{t el:TypeId}(hu:P.underlying t=some (.slice el)){z:List D}{len:Nat}{ps:Array (Nat×Operand)}{pl:List (Nat×Nat×V)}(hz:kN P el=some z)
  (hpr:PartsR g σ.toks w (fun i=>some (i*P.cellsOf el,P.cellsOf el)) pl (ps.toList.map fun x=>(x.1,a.eval x.2))) (hc:P.cellsOf el≠0) (hbig : ¬ len*P.cellsOf el>2 ^ 24) (hzl:z.length=P.cellsOf el) {cs:List V} (h:fE (iL len z) pl=some cs) {ds:List D} (hds:ofD (cs.map oR)=some ds) :
  PStep P g σ w (Instr.buildSlice t len (ps.map fun x=>(x.1,a.eval x.2))) (.fl (gJ (P.cellsOf el) len ds)):=by
 obtain⟨i,zv,hi,hzv,hleaf⟩:=kD hz
 obtain⟨z1,z2⟩:=kT (g:=g) (tk:=σ.toks) (w:=w) hleaf
 have hps:(ps.map fun x=>(x.1,a.eval x.2)).toList=ps.toList.map fun x=>(x.1,a.eval x.2):=by simp
 have hzs:zv.cells.size=P.cellsOf el:=by rw [← hzl]; have:=z1.length; simp at this; exact this.symm
 -- the zero cells
 have hrep:VRs g σ.toks w (iL len z) ((Array.range (len*P.cellsOf el)).map ((if len*P.cellsOf el=0 then(#[]:Array Value) else zv.cells)[· % (if len*P.cellsOf el=0 then(#[]:Array Value) else zv.cells).size]!)).toList ∧
   (∀ v∈((Array.range (len*P.cellsOf el)).map ((if len*P.cellsOf el=0 then(#[]:Array Value) else zv.cells)[· % (if len*P.cellsOf el=0 then(#[]:Array Value) else zv.cells).size]!)).toList,iE v=true):=by
  by_cases h0:len*P.cellsOf el=0
  ·have hl0:len=0:=by
    rcases Nat.mul_eq_zero.1 h0 with h | h
    ·exact h
    ·exact absurd h hc
   subst hl0
   simp [iL,VRs]
  ·rw [if_neg h0]
   have:=oV z1 z2 (by omega) len
   rw [hzl] at this
   exact this
 obtain⟨vs',r1,r2,r3⟩:=rJ hpr hrep.1 hrep.2 h
 have hcl:cs.length=len*P.cellsOf el:=by
  have : ∀ (l:List (Nat×Nat×V)) (cs cs':List V),fE cs l=some cs'→cs'.length=cs.length:=by
   intro l
   induction l with
   | nil=>intro cs cs' h; simp [fE] at h; rw [h]
   | cons p l ih =>
    intro cs cs' h
    obtain⟨off,sz,v⟩:=p
    unfold fE at h
    split at h
    ·split at h
     ·rename_i hcnd
      rw [ih _ _ h,kC _ _ _ (by omega)]
     ·cases h
    ·cases h
  rw [this _ _ _ h,kO,hzl]
 replace r2:=aAW r2
 rw [lX hds] at r2
 have hdl:ds.length=len*P.cellsOf el:=by rw [← hcl]; have:=congrArg List.length (lX hds); simp at this; omega
 have hgr:Grown1 w (.cells vs' el) { w with heap:=w.heap.push (.cells vs' el) }:=⟨rfl,rfl,rfl,rfl⟩
 obtain⟨g',s1,s2,s3⟩:=zT hs hdl r2.of_d r3 hgr
 refine⟨_,_,g',?_,s1,s2,s3⟩
 unfold Instr.buildSlice
 simp only [Sem.run_bind,run_underlying hu,aV,iP hc,hbig,if_false]
 by_cases h0:len*P.cellsOf el=0
 ·simp only [h0,if_true] at r1 ⊢
  rw [Sem.run_bind]
  simp only [Sem.run_pure,aV,hps]
  rw [r1]
  simp [newRow,newObj,Sem.run]
 ·simp only [h0,if_false,Sem.run_bind,iX hi hzv,aV,Sem.run_pure] at r1 ⊢
  simp only [hps]
  rw [r1]
  simp [newRow,newObj,Sem.run]

theorem aDB (hs:Sim g σ w){n:Nat}{e:Env}{a:Act}(he:EnvR g σ.toks w n e a.tmps){t el:TypeId}(hu:P.underlying t=some (.slice el)){z:List D}{len:Nat}{ps:Array (Nat×Operand)}{l:List (Nat×Opd)}(hz:kN P el=some z)
  (hl:sS ps.toList=some l) (hc:P.cellsOf el≠0) (hbig : ¬ len*P.cellsOf el>2 ^ 24) (hzl:z.length=P.cellsOf el) {cs:List V} (h:fE (iL len z) (l.map fun x=>(x.1*P.cellsOf el,P.cellsOf el,x.2.ev e))=some cs) {ds:List D} (hds:ofD (cs.map oR)=some ds) :
  PStep P g σ w (Instr.buildSlice t len (ps.map fun x=>(x.1,a.eval x.2))) (.fl (gJ (P.cellsOf el) len ds)) :=
 wE hs hu hz (sT he (P.cellsOf el) hl) hc hbig hzl h hds

end Go.Dn

/- Maps: keys. -/
namespace Go.Dn
open Go.Lib Go.Maps Go.MapKept

variable {P:Program} {g:Gh} {σ:St} {tk:List Nat} {w:World}

theorem wL {t:TypeId}{ka:Bool}{ks:List Lf}(h:compKey P t=some (ka,ks)) :
  (ka=false∧∃ k,ks=[k]∧P.underlying t=some (match k with | .int q=>.int q | .bool=>.bool | .str=>.string)) ∨
  (ka=true∧(match P.underlying t with | some (.array _ _) | some (.struct _)=>true | _=>false)=true∧kW P (P.types.size+1) t=some ks∧P.keyTypeAt (P.types.size+1) t=true∧P.tiled (P.types.size+1) t=true∧P.types.size+2≤10000∧P.cellsOf t=ks.length):=by
 have wide:compKey.wide P t=some (ka,ks)→ka=true∧kW P (P.types.size+1) t=some ks∧P.keyTypeAt (P.types.size+1) t=true∧P.tiled (P.types.size+1) t=true∧P.types.size+2≤10000∧P.cellsOf t=ks.length:=by
  intro h
  unfold compKey.wide at h
  split at h
  ·rename_i ks' hl
   split at h
   ·rename_i hc
    cases h
    simp only [aS,decide_eq_true_eq,beq_iff_eq] at hc
    exact⟨rfl,hl,hc.1.1.1,hc.1.1.2,hc.1.2,hc.2⟩
   ·cases h
  ·cases h
 unfold compKey at h
 split at h
 ·rename_i k hu; cases h; exact .inl ⟨rfl,_,rfl,hu⟩
 ·rename_i hu; cases h; exact .inl ⟨rfl,_,rfl,hu⟩
 ·rename_i hu; cases h; exact .inl ⟨rfl,_,rfl,hu⟩
 ·rename_i hu; obtain⟨h1,h2⟩:=wide h; exact .inr ⟨h1,by simp [hu],h2⟩
 ·rename_i hu; obtain⟨h1,h2⟩:=wide h; exact .inr ⟨h1,by simp [hu],h2⟩
 ·cases h

theorem rG {t:TypeId}{ka:Bool}{ks:List Lf}(h:compKey P t=some (ka,ks)):Keyed P t:=by
 rcases wL h with⟨rfl,k,rfl,hu⟩ | ⟨rfl,hw,hl,hk,ht,hz,hc⟩
 ·cases k with
  | int q=>exact int_keyed hu
  | bool=>exact bool_keyed hu
  | str=>exact string_keyed hu
 ·exact Keyed.of_law (Go.deep_law (m:=P.types.size+1) (by omega) hk ht hw)

theorem pZ {ka:Bool}{ks:List Lf}{k:V}(h:jB ka ks k=true):(ka=false∧∃ d,k = .d d∧fI ks [d]=true)∨(ka=true∧∃ l,k = .da l∧fI ks l=true):=by
 cases k <;> simp [jB] at h
 ·exact .inl ⟨h.1,_,rfl,h.2⟩
 ·exact .inr ⟨h.1,_,rfl,h.2⟩

theorem sN {t:TypeId}{ka:Bool}{ks:List Lf}(h:compKey P t=some (ka,ks)){k:V}(hk:jB ka ks k=true){ck:Value}(hv:VR g tk w k ck) : ∃ l,keyOf P t ck=some l:=by
 rcases wL h with⟨rfl,f,rfl,hu⟩ | ⟨rfl,hw,hl,hkt,ht,hz,hc⟩
 ·rcases pZ hk with⟨_,d,rfl,hf⟩ | ⟨h,_⟩
  ·have hd:=hv.inv_d
   cases f with
   | int q =>
    cases d <;> simp [fI,Lf.fits] at hf
    obtain⟨⟨rfl,h1⟩,h2⟩:=hf
    cases hd
    exact⟨_,by simp [keyOf,hu,mapKey,Lit.wf,h1,h2]; rfl⟩
   | bool =>
    cases d <;> simp [fI,Lf.fits] at hf
    cases hd
    exact⟨_,by simp [keyOf,hu,mapKey]; rfl⟩
   | str =>
    cases d <;> simp [fI,Lf.fits] at hf
    rename_i s
    cases hd
    have:(⟨s.toArray⟩:ByteArray).size≤maxLen:=by rw [kS]; simp only [maxLen]; omega
    exact⟨_,by simp [keyOf,hu,mapKey,this]; rfl⟩
  ·cases h
 ·rcases pZ hk with⟨h,_⟩ | ⟨_,l,rfl,hf⟩
  ·cases h
  ·obtain⟨vs,rfl,h1,h2⟩:=hv.inv_da
   have hlits:=lO _ t ks hl l vs.toList hf h2
   have hz:vs.size=P.cellsOf t:=by rw [hc,iY hf,h2.length]; simp
   have hform:(Value.agg vs).formed P t=true:=by
    unfold Value.formed
    split at hw <;> simp_all
   have hkt':P.keyType t=true:=hkt
   refine⟨.string (keyBytes (l.map oB)),?_⟩
   unfold keyOf
   split at hw <;> simp_all [Value.cells]

theorem zE {f:Nat→Nat→Prop} : ∀ {ks:List Lf} {a:List D} {xs ys:List Value},fI ks a=true→DRs f w a xs→DRs f w a ys→xs=ys
 | [],[],[],[],_,_,_=>rfl
 | k::ks,d::a,x::xs,y::ys,hf,h1,h2=>by
  simp only [fI,aS] at hf
  have e:x=y:=by
   have a1:=h1.1
   have a2:=h2.1
   cases k <;> cases d <;> simp [Lf.fits] at hf <;> cases a1 <;> cases a2 <;> rfl
  rw [e,zE hf.2 h1.2 h2.2]
 | [],_::_,_,_,hf,_,_=>by simp [fI] at hf
 | _::_,[],_,_,hf,_,_=>by simp [fI] at hf
 | [],[],_::_,_,_,h,_=>h.elim
 | [],[],[],_::_,_,_,h=>h.elim
 | _::_,_::_,[],_,_,h,_=>h.elim
 | _::_,_::_,_::_,[],_,_,h=>h.elim

theorem zB {f:Nat→Nat→Prop} : ∀ {ks:List Lf} {a b:List D} {xs:List Value},fI ks a=true→fI ks b=true→DRs f w a xs→DRs f w b xs→a=b
 | [],[],[],_,_,_,_,_=>rfl
 | k::ks,d::a,e::b,x::xs,hf,hg,h1,h2=>by
  simp only [fI,aS] at hf hg
  have e:d=e:=by
   have a1:=h1.1
   have a2:=h2.1
   cases k <;> cases d <;> simp [Lf.fits] at hf <;> cases e <;> simp [Lf.fits] at hg <;> cases a1 <;> cases a2 <;> rfl
  rw [e,zB hf.2 hg.2 h1.2 h2.2]
 | [],_::_,_,_,hf,_,_,_=>by simp [fI] at hf
 | [],[],_::_,_,_,hf,_,_=>by simp [fI] at hf
 | _::_,[],_,_,hf,_,_,_=>by simp [fI] at hf
 | _::_,_::_,[],_,_,hf,_,_=>by simp [fI] at hf
 | _::_,_::_,_::_,[],_,_,h,_=>h.elim

theorem aGS {ka:Bool}{ks:List Lf}{k k':V}(h:jB ka ks k=true)(h':jB ka ks k'=true){x x':Value}(hx:VR g tk w k x)(hx':VR g tk w k' x'):x=x'↔k=k':=by
 rcases pZ h with⟨rfl,d,rfl,hf⟩ | ⟨rfl,l,rfl,hf⟩
 ·rcases pZ h' with⟨_,d',rfl,hf'⟩ | ⟨h,_⟩
  ·constructor
   ·rintro rfl
    have:=zB (w:=w) (f:=g.frz) (xs:=[x]) hf hf' ⟨hx.inv_d,trivial⟩ ⟨hx'.inv_d,trivial⟩
    simp at this
    rw [this]
   ·intro e
    cases e
    have:=zE (w:=w) (f:=g.frz) (xs:=[x]) (ys:=[x']) hf ⟨hx.inv_d,trivial⟩ ⟨hx'.inv_d,trivial⟩
    simpa using this
  ·cases h
 ·rcases pZ h' with⟨h,_⟩ | ⟨_,l',rfl,hf'⟩
  ·cases h
  ·obtain⟨vs,rfl,_,h2⟩:=hx.inv_da
   obtain⟨vs',rfl,_,h2'⟩:=hx'.inv_da
   constructor
   ·intro e
    cases e
    rw [zB (w:=w) hf hf' h2 h2']
   ·intro e
    cases e
    have:=zE (w:=w) hf h2 h2'
    congr 1
    apply Array.ext'
    exact this

theorem oP {k:V} : ∀ {es:List (Nat×V×V)},(∀ x∈es,x.2.1≠k)→uB k es=none∧tX k es=es
 | [],_=>⟨rfl,rfl⟩
 | (b,k',v)::r,h=>by
  have h0 : ¬ k'=k:=h (b,k',v) (by simp)
  obtain⟨h1,h2⟩:=oP (es:=r) fun x hx=>h x (by simp [hx])
  simp [uB,tX,h0,h1,h2]

theorem rK {k v:V}{b:Nat} : ∀ {es:List (Nat×V×V)} {j:Nat},(es.map fun x=>x.2.1).Nodup→es[j]?=some (b,k,v) →
  uB k es=some v∧(∀ x,aAF k x es=es.set j (b,k,x))∧tX k es=es.eraseIdx j
 | [],j,_,h=>by simp at h
 | (b',k',v')::r,0,hn,h=>by
  simp at h
  obtain⟨rfl,rfl,rfl⟩:=h
  simp [uB,aAF,tX]
 | (b',k',v')::r,j+1,hn,h=>by
  simp at h
  simp only [aI,List.nodup_cons] at hn
  have hne : ¬ k'=k:=fun e=>hn.1 (by
   rw [e]
   exact aT.2 ⟨_,aL h,rfl⟩)
  obtain⟨h1,h2,h3⟩:=rK hn.2 h
  simp [uB,aAF,tX,hne,h1,h2,h3]

theorem uC {t:TypeId}{ka:Bool}{ks:List Lf}(hc:compKey P t=some (ka,ks)){k:V}{ck:Value}(hk:jB ka ks k=true)(hv:VR g tk w k ck){es:List (Nat×V×V)}{clock:Nat}{es':Array MapEntry}{clock':Nat}
  (he:zK ka ks es) (h:OthR g tk w (.map es clock) (.map es' clock')) (w':World) :
  ((Instr.findKey t ck es'.toList).run P w' = .ok none w'∧∀ x∈es,x.2.1≠k) ∨
  ∃ (j b:Nat) (v:V) (x:MapEntry),(Instr.findKey t ck es'.toList).run P w' = .ok (some (j,x.val)) w'∧es[j]?=some (b,k,v)∧es'[j]?=some x∧x.born=b∧x.key=ck∧VR g tk w v x.val∧v.cells.isSome=true:=by
 obtain⟨_,hl,hn,hh⟩:=h
 obtain⟨lit,hlit⟩:=sN hc hk hv
 have both : ∀ (i:Nat) (x:MapEntry),es'[i]?=some x→∃ b k' v,es[i]?=some (b,k',v)∧x.born=b∧VR g tk w k' x.key∧VR g tk w v x.val∧v.cells.isSome=true∧jB ka ks k'=true:=by
  intro i x hx
  have hi:i<es.length:=by rw [hl]; exact(bW.1 hx).1
  obtain⟨y,a1,a2,a3,a4,a5⟩:=hh i es[i].1 es[i].2.1 es[i].2.2 (by simp [hi])
  rw [hx] at a1
  cases a1
  exact⟨es[i].1,es[i].2.1,es[i].2.2,by simp [hi],a2,a3,a4,a5,he _ (List.getElem_mem hi)⟩
 have hall : ∀ x∈es'.toList,∃ l,keyOf P t x.key=some l:=fun x hx=>by
  obtain⟨i,hi⟩:=bQ hx
  obtain⟨b,k',v,_,_,h3,_,_,h5⟩:=both i x (by simpa using hi)
  exact sN hc h5 h3
 rcases (rG hc).find w' hlit es'.toList hall with⟨h1,h2⟩ | ⟨j,x,h1,h2,h3⟩
 ·refine .inl ⟨h1,fun x hx e=>?_⟩
  obtain⟨i,hi⟩:=bQ hx
  obtain⟨y,a1,a2,a3,a4,a5⟩:=hh i x.1 x.2.1 x.2.2 hi
  have:=(aGS (he x hx) hk a3 hv).2 e
  exact h2 y (by rw [Array.mem_toList_iff]; exact Array.mem_of_getElem? a1) this
 ·obtain⟨b,k',v,a1,a2,a3,a4,a5,a6⟩:=both j x (by simpa using h2)
  have e:k'=k:=(aGS a6 hk a3 hv).1 h3
  subst e
  exact .inr ⟨j,b,v,x,h1,a1,by simpa using h2,a2,h3,a4,a5⟩

theorem mF {t:TypeId}{ka:Bool}{ks:List Lf}(hc:compKey P t=some (ka,ks)){k:V}{ck:Value}(hk:jB ka ks k=true)(hv:VR g tk w k ck)(w':World)(em:Bool):(Instr.checkKey em 10000 t ck).run P w' = .ok () w':=by
 obtain⟨lit,hlit⟩:=sN hc hk hv
 exact(rG hc).check w' em hlit

theorem aF9 {t:TypeId}{z:Opd}(hz:aAB P t=some z)(w':World) : ∃ zv,(zeroValue t).run P w' = .ok zv w'∧VR g tk w (z.ev []) zv:=by
 unfold aAB at hz
 split at hz
 ·rename_i i hi
  split at hz
  ·rename_i zv hzv
   exact⟨zv,iX hi hzv,tI hz []⟩
  ·cases hz
 ·cases hz

theorem VR.two {a b:V}{ca cb:Value}(ha:VR g tk w a ca)(hb:VR g tk w b cb):VR g tk w (.tup [a,b]) (.tuple #[ca,cb]):=by
 refine .tup _ _ rfl (fun i c v hi hv=>?_)
 match i,hi,hv with
 | 0,hi,hv=>simp at hi hv; subst hi hv; exact ha
 | 1,hi,hv=>simp at hi hv; subst hi hv; exact hb
 | n+2,hi,hv=>simp at hi

theorem aDT (hs:Sim g σ w){t kt et:TypeId}(hu:P.underlying t=some (.map kt et)){ka:Bool}{ks:List Lf}(hc:compKey P kt=some (ka,ks)){z:Opd}(hz:aAB P et=some z){ok:Bool}{x k v:V}{cx ck:Value}
  (hx:VR g σ.toks w x cx) (hk:VR g σ.toks w k ck) (h:jH σ ka ks (z.ev []) ok x k=some v):PStep P g σ w (Instr.lookup t cx ck ok) v:=by
 obtain⟨zv,z1,z2⟩:=aF9 (g:=g) (tk:=σ.toks) (w:=w) hz w
 unfold jH at h
 cases hm:rR σ ka ks x k with
 | none=>rw [hm] at h; cases h
 | some r =>
  rw [hm] at h
  unfold rR at hm
  split at hm
  ·cases hm
  ·rename_i hko
   have hko:jB ka ks k=true:=by simpa using hko
   have fin : ∀ {u:V} {cu:Value} {b:Bool},VR g σ.toks w u cu→VR g σ.toks w (if ok then .tup [u,.d (.bool b)] else u) (if ok then .tuple #[cu,.bool b] else cu):=by
    intro u cu b hu
    cases ok
    ·exact hu
    ·exact VR.two hu (.bool b)
   split at hm
   ·cases hm
    cases h
    have:=hx.inv_d
    cases this
    refine⟨_,w,g,?_,hs,fin z2,Ev.refl _ _ _⟩
    simp [Instr.lookup,run_underlying hu,mF hc hko hk w,z1,(by
     have:=uC (P:=P) (g:=g) (tk:=σ.toks) (w:=w) hc hko hk (es:=[]) (clock:=0) (es' := #[]) (clock':=0) (fun x hx=>by simp at hx) ⟨rfl,rfl,by simp,fun i b k v h=>by simp at h⟩ w
     rcases this with⟨h1,_⟩ | ⟨j,b,v,x,_,h2,_⟩
     ·exact h1
     ·simp at h2:(Instr.findKey kt ck []).run P w = .ok none w)]
   ·rename_i r'
    split at hm
    ·rename_i es clock ho
     split at hm
     ·rename_i hks
      cases hm
      cases hx with
      | map _ hh =>
       obtain⟨hob,h1,h2⟩:=hs.oth _ _ ho trivial
       cases hob <;> try exact h2.elim
       rename_i es' clock'
       rcases uC hc hko hk hks h2 w with⟨f1,f2⟩ | ⟨j,b,v',y,f1,f2,f3,f4,f5,f6,f7⟩
       ·rw [(oP f2).1] at h
        cases h
        refine⟨_,w,g,?_,hs,fin z2,Ev.refl _ _ _⟩
        simp [Instr.lookup,run_underlying hu,getObj,Sem.run,h1,mF hc hko hk w,z1,f1]
       ·rw [(rK h2.2.2.1 f2).1] at h
        cases h
        refine⟨_,w,g,?_,hs,fin f6,Ev.refl _ _ _⟩
        simp [Instr.lookup,run_underlying hu,getObj,Sem.run,h1,mF hc hko hk w,z1,f1]
     ·cases hm
    ·cases hm
   ·cases hm

end Go.Dn

/- The theorem on operations that leave the store alone. -/
namespace Go.Dn
open Go.Lib

variable {P:Program} {g:Gh} {σ:St} {tk:List Nat} {w:World}

def NStep (P:Program)(g:Gh) (σ:St)(w:World)(s:Sem Next)(v:V):Prop :=
 ∃ cv w' g',s.run P w = .ok (.value cv) w'∧Sim g' σ w'∧VR g' σ.toks w' v cv∧Ev g σ w g' σ w'

theorem PStep.next {s:Sem Value}{v:V}(h:PStep P g σ w s v):NStep P g σ w (do pure (.value (← s))) v:=by
 obtain⟨cv,w',g',h1,h2⟩:=h
 exact⟨cv,w',g',by simp [h1],h2⟩

theorem NStep.pure (hs:Sim g σ w){v:V}{cv:Value}(h:VR g σ.toks w v cv):NStep P g σ w (pure (.value cv)) v:=⟨cv,w,g,rfl,hs,h,Ev.refl _ _ _⟩

theorem qV {n:Nat}{e:Env}{a:Act}(he:EnvR g tk w n e a.tmps){x:Option Operand}{x':Option Opd}(h:rV x=some x'):xP g tk w (x'.map (Opd.ev e)) (x.map a.eval):=by
 cases x with
 | none=>simp [rV] at h; subst h; trivial
 | some y =>
  simp only [rV] at h
  split at h
  ·rename_i a' hy
   cases h
   exact nK hy he
  ·cases h

theorem jR {n:Nat}{e:Env}{a:Act}(he:EnvR g tk w n e a.tmps) : ∀ {xs:List Operand} {l:List Opd},iT xs=some l→VRs g tk w (l.map (Opd.ev e)) (xs.map a.eval)
 | [],l,h=>by simp [iT] at h; subst h; trivial
 | x::r,l,h=>by
  unfold iT at h
  split at h
  ·rename_i a' l' hx hl
   cases h
   exact⟨nK hx he,jR he hl⟩
  ·cases h

theorem kR {b:Builtin}{args:Array Operand}{argTypes:Array TypeId}{o:Oper}{a:Act}(ho:o.op = .call { callee:=.builtin b,args,argTypes }){s:Sem Value}{v:V}
  (hb : ∀ consts,Go.builtin b argTypes o.type consts (args.map a.eval)=(do pure (.value (← s)))) (h:PStep P g σ w s v):NStep P g σ w (execOp a.eval o) v:=by
 obtain⟨cv,w',g',h1,h2⟩:=h.next
 refine⟨cv,w',g',?_,h2⟩
 unfold execOp
 simp only [ho,resolve,Sem.run_bind,Sem.run_pure,aV,invoke]
 rw [hb]
 exact h1

theorem oT {α:Type}{c:Prop} [Decidable c]{x:Option α}{y:α}(h:(if c then x else none)=some y):c∧x=some y:=by
 split at h
 ·exact⟨by assumption,h⟩
 ·cases h

theorem aAV (hs : Sim g σ w) {n : Nat} {e : Env} {a : Act} (he : EnvR g σ.toks w n e a.tmps) {o : Oper} {dst : Option Nat} {op : POp} (hc : jV P o = some (.p dst op)) {v : V} (h : dC op e σ = some v) :
    dst = o.dst ∧ NStep P g σ w (execOp a.eval o) v := by
  have rel : ∀ {x : Operand} {x' : Opd}, iF x = some x' → VR g σ.toks w (x'.ev e) (a.eval x) := fun hx => nK hx he
  obtain ⟨od, oop, oty, opos, oaft, ogd⟩ := o
  cases oop <;> simp only [jV] at hc
  case move x =>
    split at hc
    · rename_i x' hx
      simp only [aN.injEq, Ins.p.injEq] at hc
      obtain ⟨rfl, rfl⟩ := hc
      simp only [dC, aN.injEq] at h
      subst h
      exact ⟨rfl, NStep.pure hs (rel hx)⟩
    · cases hc
  case assign x =>
    split at hc
    · rename_i x' hx
      simp only [aN.injEq, Ins.p.injEq] at hc
      obtain ⟨rfl, rfl⟩ := hc
      simp only [dC, aN.injEq] at h
      subst h
      exact ⟨rfl, NStep.pure hs (rel hx)⟩
    · cases hc
  case pick c x y =>
    split at hc
    · rename_i c' hcc
      split at hc
      · rename_i x' y' hx hy
        simp only [aN.injEq, Ins.p.injEq] at hc
        obtain ⟨rfl, rfl⟩ := hc
        simp only [dC] at h
        refine ⟨rfl, ?_⟩
        split at h
        · rename_i t ht
          cases h
          have hb := rel hcc
          rw [ht] at hb
          have hb := hb.inv_bool
          refine ⟨_, w, g, ?_, hs, (?_ : VR g σ.toks w _ (if t then a.eval x else a.eval y)), Ev.refl _ _ _⟩
          · simp only [execOp, hb, asBool, Sem.run_bind, Sem.run_pure, aV]
          · cases t
            · simpa using rel hy
            · simpa using rel hx
        · cases h
      · cases hc
    · cases hc
  case alloc => split at hc <;> cases hc
  case box => split at hc <;> cases hc
  case build t parts =>
    split at hc
    · rename_i z l hz hl
      obtain ⟨hok, hc⟩ := oT hc
      simp only [aN.injEq, Ins.p.injEq] at hc
      obtain ⟨rfl, rfl⟩ := hc
      simp only [dC] at h
      split at h
      · rename_i cs hcs
        cases h
        exact ⟨rfl, (aE8 hs he hz hl hok hcs).next⟩
      · cases h
    · cases hc
  case buildSlice t len parts =>
    split at hc
    · rename_i el hu
      split at hc
      · rename_i z l hz hl
        split at hc
        · cases hc
        · rename_i hcnd
          simp only [not_or, Decidable.not_not] at hcnd
          simp only [aN.injEq, Ins.p.injEq] at hc
          obtain ⟨rfl, rfl⟩ := hc
          simp only [dC] at h
          split at h
          · rename_i cs hcs
            split at h
            · rename_i ds hds
              cases h
              exact ⟨rfl, (aDB hs he hu hz hl hcnd.1 hcnd.2.1 hcnd.2.2 hcs hds).next⟩
            · cases h
          · cases h
      · cases hc
    · cases hc
  case insert => cases hc
  case load t x =>
    obtain ⟨hok, hc⟩ := oT hc
    split at hc
    · rename_i x' hx
      simp only [aN.injEq, Ins.p.injEq] at hc
      obtain ⟨rfl, rfl⟩ := hc
      obtain ⟨cv, h1, h2⟩ := zQ hs hok (rel hx) h
      exact ⟨rfl, (PStep.still hs h1 h2).next⟩
    · cases hc
  case store =>
    exfalso; revert hc; (repeat' split) <;> simp
  case ready => cases hc
  case waits => cases hc
  case nilCheck x =>
    split at hc
    · rename_i x' hx
      simp only [aN.injEq, Ins.p.injEq] at hc
      obtain ⟨rfl, rfl⟩ := hc
      simp only [dC] at h
      refine ⟨rfl, ?_⟩
      have hr := rel hx
      generalize x'.ev e = y at h hr
      unfold gQ at h
      split at h
      · cases h
        refine ⟨_, w, g, ?_, hs, hr, Ev.refl _ _ _⟩
        have : ∃ q, a.eval x = .pointer (some q) := by generalize a.eval x = z at hr; cases hr; exact ⟨_, rfl⟩
        obtain ⟨q, hq⟩ := this
        simp [execOp, hq]
      · cases h
        refine ⟨_, w, g, ?_, hs, hr, Ev.refl _ _ _⟩
        have : ∃ q, a.eval x = .pointer (some q) := by generalize a.eval x = z at hr; cases hr; exact ⟨_, rfl⟩
        obtain ⟨q, hq⟩ := this
        simp [execOp, hq]
      · cases h
        refine ⟨_, w, g, ?_, hs, hr, Ev.refl _ _ _⟩
        have : ∃ k f' c', a.eval x = .func (.func k) f' c' := by generalize a.eval x = z at hr; cases hr; exact ⟨_, _, _, rfl⟩
        obtain ⟨k, f', c', hq⟩ := this
        simp [execOp, hq]
      · cases h
    · cases hc
  case binOp bop t x y yt =>
    split at hc
    · rename_i ty ks ht
      split at hc
      · rename_i x' y' hx hy
        simp only [aN.injEq, Ins.p.injEq] at hc
        obtain ⟨rfl, rfl⟩ := hc
        obtain ⟨cv, h1, h2⟩ := aCA ht hx hy (rel hx) (rel hy) h
        exact ⟨rfl, (PStep.still hs h1 h2).next⟩
      · cases hc
    · cases hc
  case unOp uop t x =>
    split at hc
    · rename_i x' hx
      simp only [aN.injEq, Ins.p.injEq] at hc
      obtain ⟨rfl, rfl⟩ := hc
      obtain ⟨cv, h1, h2⟩ := aDM (P := P) (rel hx) h
      exact ⟨rfl, (PStep.still hs h1 h2).next⟩
    · cases hc
  case convert src dt x =>
    split at hc
    · rename_i k hk
      split at hc
      · rename_i x' hx
        simp only [aN.injEq, Ins.p.injEq] at hc
        obtain ⟨rfl, rfl⟩ := hc
        exact ⟨rfl, (aGF hs hk (rel hx) h).next⟩
      · cases hc
    · cases hc
  case sliceToArrayPointer => cases hc
  case makeInterface t x =>
    obtain ⟨hok, hc⟩ := oT hc
    split at hc
    · rename_i x' hx
      simp only [aN.injEq, Ins.p.injEq] at hc
      obtain ⟨rfl, rfl⟩ := hc
      exact ⟨rfl, (aGX hs hok (rel hx) h).next⟩
    · cases hc
  case makeFunc f first caps =>
    split at hc
    · rename_i l1 l2 h1 h2
      simp only [aN.injEq, Ins.p.injEq] at hc
      obtain ⟨rfl, rfl⟩ := hc
      simp only [dC, aN.injEq] at h
      subst h
      refine ⟨rfl, (PStep.still hs (cv := .func f (first.map a.eval) (caps.map a.eval)) (by simp [Instr.makeFunc]) ?_).next⟩
      have v1 := jR he h1
      have v2 := jR he h2
      exact .fn _ _ _ _ _ (by have := v1.length; simpa using this) (by have := v2.length; simpa using this) (fun i c v hc hv => v1.get i c v hc (by simpa using hv)) (fun i c v hc hv => v2.get i c v hc (by simpa using hv))
    · cases hc
  case makeMap t r => cases r <;> cases hc
  case makeChan => cases hc
  case makeSlice =>
    split at hc
    · split at hc
      · split at hc <;> cases hc
      · cases hc
    · cases hc
  case slice t x lo hi mx =>
    split at hc
    · rename_i hu hl hh hm
      split at hc
      · rename_i x' hx
        simp only [aN.injEq, Ins.p.injEq] at hc
        obtain ⟨rfl, rfl⟩ := hc
        have hmx : mx = none := by
          cases mx with
          | none => rfl
          | some m => simp [rV] at hm; split at hm <;> simp at hm
        subst hmx
        exact ⟨rfl, (aB6 hs hu (rel hx) (qV he hl) (qV he hh) h).next⟩
      · cases hc
    · rename_i el hu hl hh hm
      split at hc
      · cases hc
      · rename_i hcell
        split at hc
        · rename_i x' hx
          simp only [aN.injEq, Ins.p.injEq] at hc
          obtain ⟨rfl, rfl⟩ := hc
          exact ⟨rfl, (aF0 hs hu hcell (rel hx) (qV he hl) (qV he hh) (qV he hm) h).next⟩
        · cases hc
    · rename_i n' el hu hl hh hm
      split at hc
      · cases hc
      · rename_i hcell
        split at hc
        · rename_i x' hx
          simp only [aN.injEq, Ins.p.injEq] at hc
          obtain ⟨rfl, rfl⟩ := hc
          have hmx : mx = none := by
            cases mx with
            | none => rfl
            | some m => simp [rV] at hm; split at hm <;> simp at hm
          subst hmx
          exact ⟨rfl, (aB5 hs hu hcell (rel hx) (qV he hl) (qV he hh) h).next⟩
        · cases hc
    · cases hc
  case fieldAddr t x i =>
    split at hc
    · rename_i off ft hf
      split at hc
      · rename_i x' hx
        simp only [aN.injEq, Ins.p.injEq] at hc
        obtain ⟨rfl, rfl⟩ := hc
        exact ⟨rfl, (aFk hs hf (rel hx) h).next⟩
      · cases hc
    · cases hc
  case field t x i =>
    split at hc
    · rename_i off ft hf
      split at hc
      · rename_i x' hx
        simp only [aN.injEq, Ins.p.injEq] at hc
        obtain ⟨rfl, rfl⟩ := hc
        exact ⟨rfl, (aFl hs hf (rel hx) h).next⟩
      · cases hc
    · cases hc
  case indexAddr t x i =>
    split at hc
    · rename_i el hu
      split at hc
      · cases hc
      · rename_i hcell
        split at hc
        · rename_i x' i' hx hi
          simp only [aN.injEq, Ins.p.injEq] at hc
          obtain ⟨rfl, rfl⟩ := hc
          exact ⟨rfl, (aFr hs hu hcell (rel hx) (rel hi) h).next⟩
        · cases hc
    · rename_i n' el hu
      split at hc
      · cases hc
      · rename_i hcell
        split at hc
        · rename_i x' i' hx hi
          simp only [aN.injEq, Ins.p.injEq] at hc
          obtain ⟨rfl, rfl⟩ := hc
          exact ⟨rfl, (aBE hs hu hcell (rel hx) (rel hi) h).next⟩
        · cases hc
    · cases hc
  case index t x i =>
    split at hc
    · rename_i hu
      split at hc
      · rename_i x' i' hx hi
        simp only [aN.injEq, Ins.p.injEq] at hc
        obtain ⟨rfl, rfl⟩ := hc
        exact ⟨rfl, (aBH hs hu (rel hx) (rel hi) h).next⟩
      · cases hc
    · rename_i n' el hu
      split at hc
      · cases hc
      · rename_i hcell
        simp only [not_or, Bool.not_eq_false] at hcell
        split at hc
        · rename_i x' i' hx hi
          simp only [aN.injEq, Ins.p.injEq] at hc
          obtain ⟨rfl, rfl⟩ := hc
          exact ⟨rfl, (aFs hs hu hcell.2 (rel hx) (rel hi) h).next⟩
        · cases hc
    · cases hc
  case lookup t x k ok =>
    split at hc
    · rename_i kt et hu
      split at hc
      · rename_i ka ks z hcK hz
        split at hc
        · rename_i x' k' hx hk
          simp only [aN.injEq, Ins.p.injEq] at hc
          obtain ⟨rfl, rfl⟩ := hc
          exact ⟨rfl, (aDT hs hu hcK hz (rel hx) (rel hk) h).next⟩
        · cases hc
      · cases hc
    · cases hc
  case mapUpdate => split at hc <;> cases hc
  case mapEntry => cases hc
  case entryStore => cases hc
  case range => split at hc <;> cases hc
  case next =>
    split at hc
    · split at hc <;> cases hc
    · cases hc
  case entry => split at hc <;> cases hc
  case typeAssert x xt t ok =>
    split at hc
    · rename_i z hz
      obtain ⟨hct, hc⟩ := oT hc
      split at hc
      · rename_i x' hx
        simp only [aN.injEq, Ins.p.injEq] at hc
        obtain ⟨rfl, rfl⟩ := hc
        exact ⟨rfl, (aDz hs hz hct (rel hx) h).next⟩
      · cases hc
    · cases hc
  case extract x i =>
    split at hc
    · rename_i x' hx
      simp only [aN.injEq, Ins.p.injEq] at hc
      obtain ⟨rfl, rfl⟩ := hc
      exact ⟨rfl, (aCC hs (rel hx) h).next⟩
    · cases hc
  case call c =>
    obtain ⟨callee, args, argTypes⟩ := c
    unfold jZ at hc
    split at hc
    case h_3 b hb =>
      simp only at hb
      subst hb
      unfold jL at hc
      split at hc
      case h_1 =>
        simp only at hc
        split at hc
        · rename_i t x ht hx
          have hargs : args.toList.map a.eval = (args.map a.eval).toList := by simp
          have hv := jR he hx
          rw [hargs] at hv
          have h1 : ∃ cx, args.map a.eval = #[cx] ∧ VR g σ.toks w (x.ev e) cx := by
            match hm : (args.map a.eval).toList, hv with
            | [cx], hv => exact ⟨cx, by apply Array.ext'; simpa using hm, hv.1⟩
            | [], hv => exact hv.elim
            | _ :: _ :: _, hv => exact hv.2.elim
          obtain ⟨cx, hcx, hvr⟩ := h1
          have hat : ∃ rest, argTypes = (t :: rest).toArray := by
            cases hl : argTypes.toList with
            | nil => have : argTypes = #[] := by apply Array.ext'; simpa using hl
                     subst this; simp at ht
            | cons u r =>
              have : argTypes = (u :: r).toArray := by apply Array.ext'; simpa using hl
              subst this
              simp at ht
              subst ht
              exact ⟨r, rfl⟩
          have hlen0 : ∀ {ty : Ty} {m : Nat}, ((ty = .str ∧ P.underlying t = some .string) ∨ (ty = .slice ∧ ∃ e, P.underlying t = some (.slice e)) ∨ (ty = .map ∧ ∃ k e, P.underlying t = some (.map k e))) → gZ σ ty (x.ev e) = some m → PStep P g σ w (Builtin.len_ argTypes oty #[cx]) (.d (.int .i64 m)) := by
            intro ty m h1 h2
            obtain ⟨cv, w', g', r1, r2⟩ := aIp (P := P) hs h1 hvr h2 oty
            refine ⟨cv, w', g', ?_, r2⟩
            unfold Builtin.len_ at r1 ⊢
            simp only [ht]
            simpa using r1
          split at hc
          · rename_i n' el hu
            simp only [aN.injEq, Ins.p.injEq] at hc
            obtain ⟨rfl, rfl⟩ := hc
            simp only [dC, aN.injEq] at h
            subst h
            refine ⟨rfl, kR rfl (s := Builtin.len_ argTypes oty #[cx]) (fun _ => by rw [hcx]; rfl) ?_⟩
            refine PStep.still hs (cv := .int .i64 n') ?_ (.int _ _)
            unfold Builtin.len_
            simp [ht, run_underlying hu, goInt]
          · rename_i hu
            simp only [aN.injEq, Ins.p.injEq] at hc
            obtain ⟨rfl, rfl⟩ := hc
            simp only [dC] at h
            split at h
            · cases h
              exact ⟨rfl, kR rfl (s := Builtin.len_ argTypes oty #[cx]) (fun _ => by rw [hcx]; rfl) (hlen0 (.inl ⟨rfl, hu⟩) (by assumption))⟩
            · cases h
          · rename_i el hu
            simp only [aN.injEq, Ins.p.injEq] at hc
            obtain ⟨rfl, rfl⟩ := hc
            simp only [dC] at h
            split at h
            · cases h
              exact ⟨rfl, kR rfl (s := Builtin.len_ argTypes oty #[cx]) (fun _ => by rw [hcx]; rfl) (hlen0 (.inr (.inl ⟨rfl, el, hu⟩)) (by assumption))⟩
            · cases h
          · rename_i k el hu
            simp only [aN.injEq, Ins.p.injEq] at hc
            obtain ⟨rfl, rfl⟩ := hc
            simp only [dC] at h
            split at h
            · cases h
              exact ⟨rfl, kR rfl (s := Builtin.len_ argTypes oty #[cx]) (fun _ => by rw [hcx]; rfl) (hlen0 (.inr (.inr ⟨rfl, k, el, hu⟩)) (by assumption))⟩
            · cases h
          · cases hc
        · cases hc
      case h_5 =>
        split at hc
        · rename_i l hx
          simp only [aN.injEq, Ins.p.injEq] at hc
          obtain ⟨rfl, rfl⟩ := hc
          have hv := jR he hx
          rw [show args.toList.map a.eval = (args.map a.eval).toList by simp] at hv
          exact ⟨rfl, kR rfl (s := Builtin.min_ argTypes oty (args.map a.eval)) (fun _ => rfl) (aIs hs hv h _ _)⟩
        · cases hc
      case h_6 =>
        split at hc
        · rename_i l hx
          simp only [aN.injEq, Ins.p.injEq] at hc
          obtain ⟨rfl, rfl⟩ := hc
          have hv := jR he hx
          rw [show args.toList.map a.eval = (args.map a.eval).toList by simp] at hv
          exact ⟨rfl, kR rfl (s := Builtin.max_ argTypes oty (args.map a.eval)) (fun _ => rfl) (aIr hs hv h _ _)⟩
        · cases hc
      case h_8 =>
        split at hc
        · rename_i t x ht hx
          have hargs : args.toList.map a.eval = (args.map a.eval).toList := by simp
          have hv := jR he hx
          rw [hargs] at hv
          have h1 : ∃ cx, args.map a.eval = #[cx] ∧ VR g σ.toks w (x.ev e) cx := by
            match hm : (args.map a.eval).toList, hv with
            | [cx], hv => exact ⟨cx, by apply Array.ext'; simpa using hm, hv.1⟩
            | [], hv => exact hv.elim
            | _ :: _ :: _, hv => exact hv.2.elim
          obtain ⟨cx, hcx, hvr⟩ := h1
          split at hc
          · rename_i el hu
            simp only [aN.injEq, Ins.p.injEq] at hc
            obtain ⟨rfl, rfl⟩ := hc
            simp only [dC] at h
            split at h
            · rename_i hx0
              cases h
              rw [hx0] at hvr
              cases hvr.inv_d
              refine ⟨rfl, kR rfl (s := Builtin.cap_ argTypes oty #[.slice none 0 0]) (fun _ => by rw [hcx]; rfl) ?_⟩
              refine PStep.still hs (cv := .int .i64 0) ?_ (.int _ _)
              unfold Builtin.cap_
              simp [ht, run_underlying hu, goInt]
            · cases h
          · cases hc
        · cases hc
      all_goals (exfalso; revert hc; (repeat' split) <;> simp)
    all_goals (exfalso; revert hc; (repeat' split) <;> simp)
  case go => cases hc
  case defer => cases hc
  case panic =>
    simp only [aN.injEq, Ins.p.injEq] at hc
    obtain ⟨rfl, rfl⟩ := hc
    simp [dC, Opd.ev, cI] at h
  case send => cases hc
  case recv => cases hc
  case select => cases hc

end Go.Dn

/- New objects; writes into objects. -/
namespace Go.Dn
open Go.Lib

variable {P:Program} {g:Gh} {σ:St} {tk:List Nat} {w:World}

def Gh.add (g:Gh)(r b n m:Nat):Gh :=
 { g with has:=fun q=>g.has q∨q=r,obj:=fun q=>if q=r then(b,0) else g.obj q,len:=fun q=>if q=r then n else g.len q,lim:=fun q=>if q=r then m else g.lim q }

theorem vQ {tg:Option Nat}{o:Obj} {σ':St}(h:σ.place tg o=some σ') :
  σ'.toks=σ.toks∧(∀ q,q≠σ.spot tg→σ'.objs[q]?=σ.objs[q]?)∧σ'.objs[σ.spot tg]?=some o∧σ.objs.length≤σ'.objs.length∧(σ.objs[σ.spot tg]?=none∨σ.objs[σ.spot tg]?=some .free):=by
 unfold St.place at h
 cases tg with
 | none =>
  simp only [aN.injEq] at h
  subst h
  refine⟨rfl,fun q hq=>?_,?_,by simp [St.push],?_⟩
  ·simp only [St.spot] at hq
   simp only [St.push]
   rcases bR q σ.objs.length with h | h
   ·rw [aC h]
   ·rw [aR (by simp; omega),aR h]
  ·simp [St.push,St.spot]
  ·left; simp [St.spot]
 | some r =>
  simp only at h
  split at h
  ·rename_i hr
   simp only [aN.injEq] at h
   subst h
   have hlt:r<σ.objs.length:=by
    rcases bR r σ.objs.length with h | h
    ·exact h
    ·rw [aR h] at hr; cases hr
   refine⟨rfl,fun q hq=>?_,?_,by simp [St.setObj],.inr hr⟩
   ·simp only [St.spot] at hq
    simp only [St.setObj]
    rw [aF (fun e=>hq e.symm)]
   ·simp [St.setObj,St.spot,hlt]
  ·cases h

theorem Sim.new_obj2 (hs:Sim g σ w){tg:Option Nat}{cs:List V} {σ':St}(hp:σ.place tg (.cells cs)=some σ'){c:Array Value}{e:TypeId}{us:List Value}(hr:VRs g σ.toks w cs us)(ho : ∀ v∈us,iE v=true)(hus : ∀ (j:Nat)(v:Value),us[j]?=some v→c[j]?=some v)
  {w':World} (hw:Grown1 w (.cells c e) w') :
  Sim (g.add (σ.spot tg) w.heap.size cs.length c.size) σ' w'∧Ev g σ w (g.add (σ.spot tg) w.heap.size cs.length c.size) σ' w':=by
 obtain⟨p1,p2,p3,p4,p5⟩:=vQ hp
 have hnh : ¬ g.has (σ.spot tg):=by
  intro hh
  rcases p5 with h | h
  ·have:=hs.bound _ hh
   rw [List.getElem?_eq_none_iff] at h
   omega
  ·exact hs.free _ h hh
 have hcell : ∀ b q,g.frz b q→w'.cell? ⟨b,q,none⟩=w.cell? ⟨b,q,none⟩:=fun b q hf=>by
  obtain⟨v,hv⟩:=hs.frzb b q hf
  exact hw.cell (nG hv) q
 have keep : ∀ r,g.has r→r≠σ.spot tg:=fun r hr e=>hnh (e▸hr)
 have hl:Later g σ.toks w (g.add (σ.spot tg) w.heap.size cs.length c.size) σ'.toks w':=by
  refine⟨⟨fun b q hf=>hf,hcell⟩,fun r hr=>⟨.inl hr,?_,?_⟩,fun t k ht=>⟨k,by rw [p1]; exact ht,bB _,fun _=>rfl,rfl⟩,rfl,fun r hr=>by simp [Gh.add,keep r hr]⟩
  ·simp [Gh.add,keep r hr]
  ·simp [Gh.add,keep r hr]
 have hlt : ∀ (r:Nat) (o:Obj),σ.objs[r]?=some o→o.live→(g.obj r).1<w.heap.size:=fun r o h1 h2=>hs.blk h1 h2
 refine⟨⟨fun r o h1 h2=>?_,fun r hr=>?_,fun r hr=>?_,fun r cs' hr'=>?_,fun r o hr' hoth=>?_,fun r r' o o' h1 h2 h3 h4 hne=>?_,fun r o h1 h2 q=>?_,fun t k ht=>?_,fun t t' k k' h1 h2 h3=>?_,fun t k r o h1 h2 h3=>?_,fun b q hf=>?_,fun r cs' hr'=>?_⟩,
  ⟨hl,by rw [hw.size]; omega,hw.os,hw.tape,hw.output,fun b hb _=>hw.old hb,fun b hb=>?_,fun b q hf=>.inl hf⟩⟩
 ·by_cases hq:r=σ.spot tg
  ·exact .inr hq
  ·exact .inl (hs.has r o (by rw [← p2 r hq]; exact h1) h2)
 ·rcases hr with hr | rfl
  ·exact Nat.lt_of_lt_of_le (hs.bound r hr) p4
  ·rcases bR (σ.spot tg) σ'.objs.length with h | h
   ·exact h
   ·rw [aR h] at p3; cases p3
 ·intro hh
  by_cases hq:r=σ.spot tg
  ·subst hq; rw [p3] at hr; cases hr
  ·rcases hh with hh | hh
   ·exact hs.free r (by rw [← p2 r hq]; exact hr) hh
   ·exact hq hh
 ·by_cases hq:r=σ.spot tg
  ·subst hq
   rw [p3] at hr'
   cases hr'
   refine⟨by simp [Gh.add],c,e,(0,0),by simp [Gh.add,hw.new],fun o h=>by omega,fun j v hj=>?_⟩
   have hj':j<cs.length:=by
    rcases bR j cs.length with h | h
    ·exact h
    ·rw [aR h] at hj; cases hj
   have hju:j<us.length:=by have:=hr.length; omega
   have huj:us[j]?=some us[j]:=by simp [hju]
   refine⟨us[j],by simpa [Gh.add] using hus j _ huj,ho _ (by simp),?_⟩
   exact(hr.get j v us[j] hj huj).later hl
  ·obtain⟨h1,c',e',fz',hb,hn,hc⟩:=hs.cells r cs' (by rw [← p2 r hq]; exact hr')
   refine⟨by simp [Gh.add,hq,h1],c',e',fz',by simp only [Gh.add,hq,if_false]; rw [hw.old (hO hb)]; exact hb,hn,fun j v hj=>?_⟩
   obtain⟨cv,r1,r2,r3⟩:=hc j v hj
   exact⟨cv,by simp only [Gh.add,hq,if_false]; exact r1,r2,r3.later hl⟩
 ·by_cases hq:r=σ.spot tg
  ·subst hq; rw [p3] at hr'; cases hr'; exact hoth.elim
  ·obtain⟨x,a1,a2⟩:=hs.oth r o (by rw [← p2 r hq]; exact hr') hoth
   exact⟨x,by simp only [Gh.add,hq,if_false]; rw [hw.old (hO a1)]; exact a1,(by rw [p1] at *; exact a2.later hl:OthR _ σ'.toks w' o x)⟩
 ·by_cases hq:r=σ.spot tg
  ·by_cases hq':r'=σ.spot tg
   ·exact absurd (hq.trans hq'.symm) hne
   ·have:=hlt r' o' (by rw [← p2 r' hq']; exact h3) h4
    simp only [Gh.add,hq,hq',if_true,if_false]
    omega
  ·have l1:=hlt r o (by rw [← p2 r hq]; exact h1) h2
   by_cases hq':r'=σ.spot tg
   ·simp only [Gh.add,hq,hq',if_true,if_false]
    omega
   ·simp only [Gh.add,hq,hq',if_false]
    exact hs.dist r r' o o' (by rw [← p2 r hq]; exact h1) h2 (by rw [← p2 r' hq']; exact h3) h4 hne
 ·by_cases hq:r=σ.spot tg
  ·simp only [Gh.add,hq,if_true]
   intro hf
   obtain⟨v,hv⟩:=hs.frzb _ _ hf
   have:=nG hv
   omega
  ·simp only [Gh.add,hq,if_false]
   exact hs.nofrz r o (by rw [← p2 r hq]; exact h1) h2 q
 ·rw [p1] at ht
  obtain⟨h0,c',e',fz',hb,hn,hsz,hf⟩:=hs.tok t k ht
  exact⟨h0,c',e',fz',by rw [show((g.add (σ.spot tg) w.heap.size cs.length c.size).tok t)=g.tok t from rfl,hw.old (hO hb)]; exact hb,hn,hsz,hf⟩
 ·rw [p1] at h1 h2
  exact hs.tdist t t' k k' h1 h2 h3
 ·rw [p1] at h1
  obtain⟨h0,c',e',fz',hb,_⟩:=hs.tok t k h1
  have:=hO hb
  by_cases hq:r=σ.spot tg
  ·simp only [Gh.add,hq,if_true]
   omega
  ·simp only [Gh.add,hq,if_false]
   exact hs.tobj t k r o h1 (by rw [← p2 r hq]; exact h2) h3
 ·obtain⟨v,hv⟩:=hs.frzb b q hf
  exact⟨v,by rw [hcell b q hf]; exact hv⟩
 ·by_cases hq:r=σ.spot tg
  ·subst hq
   rw [p3] at hr'
   cases hr'
   refine⟨?_,fun c' e' fz' hb=>?_⟩
   ·simp only [Gh.add,if_true]
    rw [hr.length]
    rcases Nat.eq_zero_or_pos us.length with h0 | h0
    ·omega
    ·have h1:=hus (us.length-1) us[us.length-1] (by simp [show us.length-1<us.length by omega])
     have:=(bW.1 h1).1
     omega
   ·simp only [Gh.add,if_true] at hb ⊢
    rw [hw.new] at hb
    cases hb
    omega
  ·have hr2:σ.objs[r]?=some (.cells cs'):=by rw [← p2 r hq]; exact hr'
   refine⟨by simp only [Gh.add,hq,if_false]; exact(hs.lims r cs' hr2).1,fun c' e' fz' hb=>?_⟩
   simp only [Gh.add,hq,if_false] at hb ⊢
   exact(hs.lims r cs' hr2).2 c' e' fz' (by rw [← hw.old (hs.blk hr2 trivial)]; exact hb)
 ·rcases hb with⟨r,o,h1,h2,rfl⟩ | ⟨t,k,ht,rfl⟩
  ·by_cases hq:r=σ.spot tg
   ·right; simp [Gh.add,hq]
   ·left
    simp only [Gh.add,hq,if_false]
    exact .inl ⟨r,o,by rw [← p2 r hq]; exact h1,h2,rfl⟩
  ·left
   exact .inr ⟨t,k,by rw [← p1]; exact ht,rfl⟩

theorem Sim.new_obj (hs:Sim g σ w){tg:Option Nat}{cs:List V} {σ':St}(hp:σ.place tg (.cells cs)=some σ'){c:Array Value}{e:TypeId}(hr:VRs g σ.toks w cs c.toList)(ho : ∀ v∈c.toList,iE v=true)
  {w':World} (hw:Grown1 w (.cells c e) w') :
  Sim (g.add (σ.spot tg) w.heap.size cs.length c.size) σ' w'∧Ev g σ w (g.add (σ.spot tg) w.heap.size cs.length c.size) σ' w' :=
 hs.new_obj2 hp hr ho (fun j v h=>by simpa using h) hw

def EStep (P:Program)(g:Gh) (σ:St)(w:World)(s:Sem Value)(v:V) (σ':St):Prop :=
 ∃ cv w' g',s.run P w = .ok cv w'∧Sim g' σ' w'∧VR g' σ'.toks w' v cv∧Ev g σ w g' σ' w'

theorem jJ {tg:Option Nat}{o:Obj}{f:Nat→V}{v:V} {σ':St}(h:Dn.newObj σ tg o f=some (v,σ')):σ.place tg o=some σ'∧v=f (σ.spot tg):=by
 unfold Dn.newObj at h
 split at h
 ·cases h; exact⟨by assumption,rfl⟩
 ·cases h

theorem lN (w:World)(o:Go.Obj):Grown1 w o { w with heap:=w.heap.push o }:=⟨rfl,rfl,rfl,rfl⟩

theorem aE7 (hs:Sim g σ w){t:TypeId}{z:List D}(hz:kN P t=some z){tg:Option Nat}{v:V} {σ':St}(h:Dn.newObj σ tg (.cells (z.map .d)) (fun r=>.ref r 0)=some (v,σ')) :
  EStep P g σ w (Instr.alloc t true (.tuple #[])) v σ':=by
 obtain⟨hp,rfl⟩:=jJ h
 obtain⟨i,zv,hi,hzv,hleaf⟩:=kD hz
 obtain⟨z1,z2⟩:=kT (g:=g) (tk:=σ.toks) (w:=w) hleaf
 obtain⟨s1,s2⟩:=hs.new_obj hp z1 z2 (lN w (.cells zv.cells t))
 refine⟨.pointer (some ⟨w.heap.size,0,none⟩),_,_,?_,s1,?_,s2⟩
 ·simp [Instr.alloc,iX hi hzv,newVar,newRow,newObj,Sem.run]
 ·have:=VR.ref (g:=g.add (σ.spot tg) w.heap.size (z.map V.d).length zv.cells.size) (tk:=σ'.toks) (w:={ w with heap:=w.heap.push (.cells zv.cells t) }) (σ.spot tg) 0 (.inr rfl)
  simpa [Gh.add] using this

theorem aIb (hs:Sim g σ w){t:TypeId}{x v:V}{cx:Value}(hx:VR g σ.toks w x cx){l:List V}(hl:x.cells=some l){tg:Option Nat} {σ':St}(h:Dn.newObj σ tg (.cells l) (fun r=>.ref r 0)=some (v,σ')) :
  EStep P g σ w (Instr.box t cx) v σ':=by
 obtain⟨hp,rfl⟩:=jJ h
 obtain⟨z1,z2⟩:=hx.cells hl
 obtain⟨s1,s2⟩:=hs.new_obj hp z1 z2 (lN w (.cells cx.cells t))
 refine⟨.pointer (some ⟨w.heap.size,0,none⟩),_,_,?_,s1,?_,s2⟩
 ·simp [Instr.box,newVar,newRow,newObj,Sem.run]
 ·have:=VR.ref (g:=g.add (σ.spot tg) w.heap.size l.length cx.cells.size) (tk:=σ'.toks) (w:={ w with heap:=w.heap.push (.cells cx.cells t) }) (σ.spot tg) 0 (.inr rfl)
  simpa [Gh.add] using this

end Go.Dn

/- Writes into objects. -/
namespace Go.Dn
open Go.Lib

variable {P:Program} {g:Gh} {σ:St} {tk:List Nat} {w:World}

def jS (w:World)(b:Nat)(o:Go.Obj):World:={ w with heap:=w.heap.setIfInBounds b o }

theorem lB (w:World){b:Nat}(o:Go.Obj)(h:b<w.heap.size):(jS w b o).heap[b]?=some o:=by simp [jS,h]
theorem gV (w:World){b b':Nat}(o:Go.Obj)(h:b≠b'):(jS w b o).heap[b']?=w.heap[b']?:=by simp [jS,Array.getElem?_setIfInBounds_ne h]
theorem aFD (w:World)(b:Nat)(o o':Go.Obj):jS (jS w b o) b o'=jS w b o':=by
 simp [jS]
theorem qD (w:World){b b':Nat}(o:Go.Obj)(h:b≠b')(q:Nat):(jS w b o).cell? ⟨b',q,none⟩=w.cell? ⟨b',q,none⟩:=by
 unfold World.cell?
 rw [gV w o h]

theorem aFy {v:Value}(h:iE v=true):v.oneCell'=true:=by
 cases v <;> simp [iE] at h <;> rfl

theorem aB3 {b o:Nat}{c:Array Value}{e:TypeId}{fz:Nat×Nat}(h:w.heap[b]?=some (.cells c e fz))(v:Value) :
  w.setCell ⟨b,o,none⟩ v=jS w b (.cells (c.setIfInBounds o v) e fz):=by
 have hlt:=hO h
 have hb:w.heap[b] = .cells c e fz:=by simpa [hlt] using h
 unfold World.setCell jS
 congr 1
 apply Array.ext_getElem?
 intro i
 rw [Array.getElem?_modify,Array.getElem?_setIfInBounds]
 by_cases hi:b=i
 ·subst hi
  simp [hlt,hb]
 ·simp [hi]

theorem kU (b o:Nat)(e:TypeId)(fz:Nat×Nat) : ∀ (vs:List Value) (i:Nat) (c:Array Value) (w:World),w.heap[b]?=some (.cells c e fz)→aGn c fz→o+i+vs.length≤c.size→(∀ v∈vs,iE v=true) →
  (storeCells ⟨b,o,none⟩ vs i).run P w = .ok () (jS w b (.cells (splice c.toList (o+i) vs).toArray e fz))
 | [],i,c,w,h,hn,hl,h1=>by
  have:jS w b (.cells (splice c.toList (o+i) []).toArray e fz)=w:=by
   have hlt:=hO h
   have hb:w.heap[b] = .cells c e fz:=by simpa [hlt] using h
   unfold jS
   have:(splice c.toList (o+i) []).toArray=c:=by simp [splice]
   rw [this]
   have:w.heap.setIfInBounds b (.cells c e fz)=w.heap:=by
    apply Array.ext_getElem?
    intro j
    rw [Array.getElem?_setIfInBounds]
    split
    ·rename_i hj; subst hj; simp [hlt,hb]
    ·rfl
   rw [this]
  rw [this]
  rfl
 | v::vs,i,c,w,h,hn,hl,h1=>by
  simp only [List.length_cons] at hl
  have hadd:(⟨b,o,none⟩:Addr).add i=⟨b,o+i,none⟩:=iJ b o i
  have hcell:w.cell? ⟨b,o+i,none⟩=some c[o+i]:=by rw [iS h]; simp [show o+i<c.size by omega]
  have hfz:w.frozen? ⟨b,o+i,none⟩=false:=by
   obtain⟨lo,hi⟩:=fz
   have:=hn (o+i) (by omega)
   simp only [World.frozen?,h]
   by_cases h1:lo≤o+i
   ·have h2 : ¬ (o+i<hi):=fun h2=>this ⟨h1,h2⟩
    simp [h1,h2]
   ·simp [h1]
  have hst:(store ((⟨b,o,none⟩:Addr).add i) v).run P w = .ok () (jS w b (.cells (c.setIfInBounds (o+i) v) e fz)):=by
   rw [hadd,run_store P w _ v _ (aFy (h1 v (by simp))),← aB3 h]
   simp [hcell,hfz]
  have hn':aGn (c.setIfInBounds (o+i) v) fz:=fun q hq=>hn q (by simpa using hq)
  have ih:=kU b o e fz vs (i+1) (c.setIfInBounds (o+i) v) (jS w b (.cells (c.setIfInBounds (o+i) v) e fz)) (lB w _ (hO h)) hn' (by simp; omega) (fun u hu=>h1 u (by simp [hu]))
  unfold storeCells
  simp only [Sem.run_bind,hst,aV,ih,aFD]
  congr 4
  apply List.ext_getElem?
  intro k
  rw [kB _ _ _ (by simp; omega),kB _ _ _ (by simp; omega)]
  simp only [List.length_cons,Array.toList_setIfInBounds]
  by_cases hk:o+(i+1)≤k∧k<o+(i+1)+vs.length
  ·rw [if_pos hk,if_pos ⟨by omega,by omega⟩,show k-(o+i)=(k-(o+(i+1)))+1 by omega,List.getElem?_cons_succ]
  ·rw [if_neg hk]
   by_cases hk2:k=o+i
   ·subst hk2
    rw [if_pos ⟨by omega,by omega⟩,aO (by simp; omega)]
    simp
   ·rw [if_neg (by omega),aF (fun e=>hk2 e.symm)]

theorem Sim.write (hs:Sim g σ w){r:Nat}{cs cs':List V}(hr:σ.objs[r]?=some (.cells cs))(hlen:cs'.length=cs.length){c c':Array Value}{e:TypeId}{fz:Nat×Nat}(hb:w.heap[(g.obj r).1]?=some (.cells c e fz))(hc':c'.size=c.size)
  (hrel : ∀ (j:Nat) (v:V),cs'[j]?=some v→∃ cv,c'[(g.obj r).2+j]?=some cv∧iE cv=true∧VR g σ.toks w v cv) :
  Sim g (σ.setObj r (.cells cs')) (jS w (g.obj r).1 (.cells c' e fz))∧Ev g σ w g (σ.setObj r (.cells cs')) (jS w (g.obj r).1 (.cells c' e fz)):=by
 have hrl:r<σ.objs.length:=by
  rcases bR r σ.objs.length with h | h
  ·exact h
  ·rw [aR h] at hr; cases hr
 have hcell : ∀ b q,g.frz b q→(jS w (g.obj r).1 (.cells c' e fz)).cell? ⟨b,q,none⟩=w.cell? ⟨b,q,none⟩:=fun b q hf =>
  qD w _ (fun e=>hs.nofrz r _ hr trivial q (by rw [e]; exact hf)) q
 have hl:Later g σ.toks w g (σ.setObj r (.cells cs')).toks (jS w (g.obj r).1 (.cells c' e fz)) :=
  ⟨⟨fun b q hf=>hf,hcell⟩,fun q hq=>⟨hq,rfl,rfl⟩,fun t k ht=>⟨k,ht,bB _,fun _=>rfl,rfl⟩,rfl,fun _ _=>rfl⟩
 have obj : ∀ (q:Nat) (o:Obj),(σ.setObj r (.cells cs')).objs[q]?=some o→(q=r∧o = .cells cs')∨(q≠r∧σ.objs[q]?=some o):=by
  intro q o h
  simp only [St.setObj] at h
  by_cases hq:q=r
  ·subst hq
   rw [aO hrl] at h
   cases h
   exact .inl ⟨rfl,rfl⟩
  ·rw [aF (fun e=>hq e.symm)] at h
   exact .inr ⟨hq,h⟩
 have old : ∀ (q:Nat) (o:Obj),(σ.setObj r (.cells cs')).objs[q]?=some o→o.live→∃ o',σ.objs[q]?=some o'∧o'.live:=by
  intro q o h1 h2
  rcases obj q o h1 with⟨rfl,rfl⟩ | ⟨_,h⟩
  ·exact⟨_,hr,trivial⟩
  ·exact⟨o,h,h2⟩
 refine⟨⟨fun q o h1 h2=>?_,fun q hq=>?_,fun q hq=>?_,fun q cs2 hq=>?_,fun q o hq hoth=>?_,fun q q' o o' h1 h2 h3 h4 hne=>?_,fun q o h1 h2=>?_,fun t k ht=>?_,hs.tdist,fun t k q o h1 h2 h3=>?_,fun b q hf=>?_,fun q cs2 hq=>?_⟩,
  ⟨hl,by simp [jS],rfl,rfl,rfl,fun b hb' hm=>?_,fun b hb'=>?_,fun b q hf=>.inl hf⟩⟩
 ·obtain⟨o',h3,h4⟩:=old q o h1 h2
  exact hs.has q o' h3 h4
 ·simpa [St.setObj] using hs.bound q hq
 ·rcases obj q _ hq with⟨_,h⟩ | ⟨_,h⟩
  ·cases h
  ·exact hs.free q h
 ·rcases obj q _ hq with⟨rfl,h⟩ | ⟨hne,h⟩
  ·cases h
   obtain⟨h1,c0,e0,fz0,hb0,hn0,_⟩:=hs.cells q cs hr
   rw [hb] at hb0
   cases hb0
   refine⟨by rw [hlen]; exact h1,c',e,fz,lB w _ (hO hb),fun o ho=>hn0 o (by omega),fun j v hj=>?_⟩
   obtain⟨cv,r1,r2,r3⟩:=hrel j v hj
   exact⟨cv,r1,r2,r3.later hl⟩
  ·obtain⟨h1,c0,e0,fz0,hb0,hn0,hcc⟩:=hs.cells q cs2 h
   have hbne:=hs.dist r q _ _ hr trivial h trivial (fun e=>hne e.symm)
   refine⟨h1,c0,e0,fz0,by rw [gV w _ hbne]; exact hb0,hn0,fun j v hj=>?_⟩
   obtain⟨cv,r1,r2,r3⟩:=hcc j v hj
   exact⟨cv,r1,r2,r3.later hl⟩
 ·rcases obj q _ hq with⟨_,rfl⟩ | ⟨hne,h⟩
  ·exact hoth.elim
  ·obtain⟨x,a1,a2⟩:=hs.oth q o h hoth
   exact⟨x,by rw [gV w _ (hs.dist r q _ _ hr trivial h hoth.live (fun e=>hne e.symm))]; exact a1,a2.later hl⟩
 ·obtain⟨p,a1,a2⟩:=old q o h1 h2
  obtain⟨p',b1,b2⟩:=old q' o' h3 h4
  exact hs.dist q q' p p' a1 a2 b1 b2 hne
 ·obtain⟨p,a1,a2⟩:=old q o h1 h2
  exact hs.nofrz q p a1 a2
 ·obtain⟨h0,c0,e0,fz0,hb0,hn0,hsz,hf⟩:=hs.tok t k ht
  have hbne:=hs.tobj t k r _ ht hr trivial
  exact⟨h0,c0,e0,fz0,by rw [gV w _ (fun e=>hbne e.symm)]; exact hb0,hn0,hsz,hf⟩
 ·obtain⟨p,a1,a2⟩:=old q o h2 h3
  exact hs.tobj t k q p h1 a1 a2
 ·obtain⟨v,hv⟩:=hs.frzb b q hf
  exact⟨v,by rw [hcell b q hf]; exact hv⟩
 ·rcases obj q _ hq with⟨rfl,h⟩ | ⟨hne,h⟩
  ·refine⟨(hs.lims q cs hr).1,fun c2 e2 fz2 hb2=>?_⟩
   rw [lB w _ (hO hb)] at hb2
   cases hb2
   rw [hc']
   exact(hs.lims q cs hr).2 _ _ _ hb
  ·refine⟨(hs.lims q cs2 h).1,fun c2 e2 fz2 hb2=>?_⟩
   rw [gV w _ (hs.dist r q _ _ hr trivial h trivial (fun e=>hne e.symm))] at hb2
   exact(hs.lims q cs2 h).2 _ _ _ hb2
 ·exact gV w _ (fun e=>hm (.inl ⟨r,_,hr,trivial,e⟩))
 ·left
  rcases hb' with⟨q,o,h1,h2,rfl⟩ | h
  ·obtain⟨p,a1,a2⟩:=old q o h1 h2
   exact .inl ⟨q,p,a1,a2,rfl⟩
  ·exact .inr h

theorem Sim.splice (hs:Sim g σ w){r:Nat}{cs:List V}(hr:σ.objs[r]?=some (.cells cs)){off:Nat}{xs:List V}{us:List Value}(hx:VRs g σ.toks w xs us)(h1 : ∀ u∈us,iE u=true)(hoff:off+xs.length≤cs.length) :
  ∃ w':World,(storeCells ⟨(g.obj r).1,(g.obj r).2+off,none⟩ us).run P w = .ok () w'∧Sim g (σ.setObj r (.cells (Dn.splice cs off xs))) w'∧Ev g σ w g (σ.setObj r (.cells (Dn.splice cs off xs))) w':=by
 obtain⟨hl,c,e,fz,hb,hn,hc⟩:=hs.cells r cs hr
 have hul:us.length=xs.length:=hx.length.symm
 have hsz:(g.obj r).2+cs.length≤c.size∨cs.length=0:=by
  rcases Nat.eq_zero_or_pos cs.length with h | h
  ·exact .inr h
  ·left
   obtain⟨v,hv⟩ : ∃ v,cs[cs.length-1]?=some v:=⟨cs[cs.length-1],by simp [show cs.length-1<cs.length by omega]⟩
   obtain⟨cv,h1,_⟩:=hc _ v hv
   have:=(bW.1 h1).1
   omega
 by_cases hz:cs.length=0
 ·have hx0:xs=[]:=bP (by omega)
  have hu0:us=[]:=bP (by omega)
  subst hx0 hu0
  have e1:Dn.splice cs off []=cs:=by simp [Dn.splice]
  have e2:σ.setObj r (.cells cs)=σ:=by
   unfold St.setObj
   have:σ.objs.set r (.cells cs)=σ.objs:=by
    apply List.ext_getElem?
    intro i
    by_cases hi:i=r
    ·subst hi
     rw [hr,aO]
     exact(aB.1 hr).1
    ·rw [aF (fun e=>hi e.symm)]
   rw [this]
  rw [e1,e2]
  exact⟨w,rfl,hs,Ev.refl _ _ _⟩
 ·have hsz:=hsz.resolve_right hz
  have hrun:=kU (P:=P) (g.obj r).1 ((g.obj r).2+off) e fz us 0 c w hb hn (by omega) h1
  rw [Nat.add_zero] at hrun
  have hw:=hs.write hr (cs':=Dn.splice cs off xs) (kC _ _ _ hoff) hb (c':=(Dn.splice c.toList ((g.obj r).2+off) us).toArray) (by rw [List.size_toArray,kC c.toList ((g.obj r).2+off) us (by simp; omega)]; simp) (fun j v hj=>by
   rw [kB _ _ _ hoff] at hj
   simp only [List.getElem?_toArray]
   rw [kB _ _ _ (by simp; omega)]
   split at hj
   ·rename_i hin
    rw [if_pos ⟨by omega,by omega⟩]
    have hju:j-off<us.length:=by omega
    refine⟨us[j-off],by rw [show(g.obj r).2+j-((g.obj r).2+off)=j-off by omega]; simp [hju],h1 _ (by simp),?_⟩
    exact hx.get (j-off) v _ hj (by simp [hju])
   ·rename_i hout
    rw [if_neg (by omega)]
    obtain⟨cv,r1,r2,r3⟩:=hc j v hj
    exact⟨cv,by simpa using r1,r2,r3⟩)
  exact⟨_,hrun,hw.1,hw.2⟩

theorem aF4 (hs:Sim g σ w){t:TypeId}(hok:nH P t=true){x y:V}{cx cy:Value}(hx:VR g σ.toks w x cx)(hy:VR g σ.toks w y cy){r off:Nat}(hxr:x = .ref r off){cs l:List V}(hr:σ.objs[r]?=some (.cells cs))(hl:y.cells=some l)
  (hn:l.length=P.cellsOf t) (hoff:off+P.cellsOf t≤cs.length) :
  ∃ w',(Instr.storeAt t cx cy).run P w = .ok () w'∧Sim g (σ.setObj r (.cells (Dn.splice cs off l))) w'∧Ev g σ w g (σ.setObj r (.cells (Dn.splice cs off l))) w':=by
 subst hxr
 cases hx with
 | ref _ _ hh =>
  obtain⟨h1,h2⟩:=hy.cells hl
  obtain⟨w',r1,r2⟩:=hs.splice (P:=P) (off:=off) hr h1 h2 (by omega)
  refine⟨w',?_,r2⟩
  have hcs:cy.cells.size=P.cellsOf t:=by rw [← hn,h1.length]; simp
  simp only [Instr.storeAt,Instr.sureAddr,Sem.run_bind,Sem.run_pure,aV,storeVar,qP hok,hcs,ne_eq,not_true_eq_false,if_false]
  exact r1

end Go.Dn

/- append. -/
namespace Go.Dn
open Go.Lib

variable {P:Program} {g:Gh} {σ:St} {tk:List Nat} {w:World}

theorem nY {t xT ty e:TypeId}{i:TypeInfo}(ht:P.underlying t=some (.slice e))(hi:P.info? e=some i){dx:TypeDesc}(hx:P.underlying xT=some dx)(hni : ∀ k,dx ≠ .int k){a:Addr}{sLen sCap n:Nat}{cx:Value}{news:Array Value}
  (hlen:(Builtin.lenOf cx).run P w = .ok n w) (hnew:(bM i.size n cx).run P w = .ok news w) (hfit:sLen+n≤sCap) :
  (bD #[t,xT] ty #[.slice (some a) sLen sCap,cx]).run P w=((storeCells (a.add (sLen*i.size)) news.toList).run P w).andThen fun _ w'=>.ok (.slice (some a) (sLen+n) sCap) w':=by
 have hz:(match dx with | .int _=>true | _=>false)=false:=by cases dx <;> first | rfl | exact absurd rfl (hni _)
 simp [bD,run_underlying ht,run_underlying hx,sizeOf,typeInfo,hi,hz,hlen,hnew,hfit]

theorem nC {t xT ty e:TypeId}{i:TypeInfo}{z:Value}(ht:P.underlying t=some (.slice e))(hi:P.info? e=some i)(hzv:i.zero=some z){dx:TypeDesc}(hx:P.underlying xT=some dx)(hni : ∀ k,dx ≠ .int k){base:Option Addr}{sLen sCap n:Nat}{cx:Value}{news olds:Array Value}
  (hlen:(Builtin.lenOf cx).run P w = .ok n w) (hnew : ∀ w',w'.heap=w.heap→(bM i.size n cx).run P w' = .ok news w') (hold : ∀ w',w'.heap=w.heap→(bM i.size sLen (.slice base sLen sCap)).run P w' = .ok olds w') (hgt:sCap<sLen+n)
  (h63:sLen+n≤9223372036854775807) (h48:(sLen+n)*i.bytes≤140737488355328) :
  (bD #[t,xT] ty #[.slice base sLen sCap,cx]).run P w = .ok (.slice (some ⟨w.heap.size,0,none⟩) (sLen+n) (grownCap w (sLen+n) sCap e))
   (w.drew.alloc (.cells (olds++news++aU z.cells (grownCap w (sLen+n) sCap e-(sLen+n))) e)):=by
 have hz:(match dx with | .int _=>true | _=>false)=false:=by cases dx <;> first | rfl | exact absurd rfl (hni _)
 have hnf : ¬ (sLen+n≤sCap):=by omega
 have h63' : ¬ ((9223372036854775807:Int)<(sLen:Int)+(n:Int)):=by omega
 have hfit:=growslice_fits hgt h48
 have h48' : ¬ (281474976710656<Builtin.nextslicecap (sLen+n) sCap*i.bytes):=by omega
 have e1:w.drew.heap=w.heap:=rfl
 have hn1:=hnew w.drew e1
 have ho1:=hold w.drew e1
 simp [bD,run_underlying ht,run_underlying hx,sizeOf,typeInfo,zeroValue,hi,hzv,hz,hlen,hnf,h63',h48',Question.forced,hn1,ho1,newRow,grownCap]

theorem xU {t xT ty e:TypeId}{i:TypeInfo}{z:Value}(ht:P.underlying t=some (.slice e))(hi:P.info? e=some i)(hzv:i.zero=some z){k k':IntKind}(hx:P.underlying xT=some (.int k)){l:Int}(h0:0<l)(h63:l≤9223372036854775807)
  (hsz:0<i.size) (h48:l.toNat*i.bytes≤140737488355328) :
  (bD #[t,xT] ty #[.slice none 0 0,.int k' l]).run P w = .ok (.slice (some ⟨w.heap.size,0,none⟩) l.toNat (grownCap w l.toNat 0 e))
   (w.drew.alloc (.cells (aU z.cells l.toNat++aU z.cells (grownCap w l.toNat 0 e-l.toNat)) e)):=by
 have w1:aJ.wrap l=l:=by simp only [IntKind.wrap,IntKind.signed,IntKind.bits]; simp; omega
 have hgt:(0:Nat)<0+l.toNat:=by omega
 have hcn:(l.toNat:Int)=l:=Int.toNat_of_nonneg (by omega)
 have hprod:((l.toNat*i.bytes:Nat):Int)=l*i.bytes:=by rw [Int.natCast_mul,hcn]
 have e1 : ¬ (l<0):=by omega
 have e2 : ¬ (281474976710656<l*(i.bytes:Int)):=by omega
 have hfit:=growslice_fits (need:=0+l.toNat) hgt (by rw [Nat.zero_add]; exact h48)
 rw [Nat.zero_add] at hfit
 have h48' : ¬ (281474976710656<Builtin.nextslicecap l.toNat 0*i.bytes):=by omega
 have e3 : ¬ (l≤0):=by omega
 have e4 : ¬ (l.toNat*i.size=0):=by
  have:=Nat.mul_pos (show 0<l.toNat by omega) hsz
  omega
 have e5 : ¬ ((9223372036854775807:Int)<(l.toNat:Int)):=by omega
 simp [bD,run_underlying ht,run_underlying hx,sizeOf,typeInfo,zeroValue,hi,hzv,asInt,asIntOf,w1,e1,e2,e3,e4,e5,h48',Question.forced,newRow,grownCap,bM]
 intro h
 omega

theorem rL {sz:Nat}(hpos:0<sz) : ∀ (ys:List (List D)),(∀ (i:Nat) (row:List D),ys[i]?=some row→row.length=sz)→∀ k,ys.flatten[k]?=(ys[k / sz]?).bind (·[k % sz]?)
 | [],_,k=>by simp
 | y::ys,h,k=>by
  have h0:y.length=sz:=h 0 y rfl
  have ih:=rL hpos ys (fun i row hr=>h (i+1) row (by simpa using hr))
  simp only [List.flatten_cons]
  by_cases hk:k<sz
  ·rw [aC (by omega),Nat.div_eq_of_lt hk,Nat.mod_eq_of_lt hk]
   rfl
  ·rw [bH (by omega),ih,h0]
   have e1:k / sz=(k-sz) / sz+1:=by
    rw [Nat.div_eq_sub_div hpos (by omega)]
   have e2:k % sz=(k-sz) % sz:=Nat.mod_eq_sub_mod (by omega)
   rw [e1,e2]
   simp

theorem iV {sz:Nat} : ∀ (ys:List (List D)),(∀ (i:Nat) (row:List D),ys[i]?=some row→row.length=sz)→ys.flatten.length=ys.length*sz
 | [],_=>by simp
 | y::ys,h=>by
  have h0:y.length=sz:=h 0 y rfl
  have ih:=iV ys (fun i row hr=>h (i+1) row (by simpa using hr))
  simp [h0,ih,bJ]; omega

structure Src (P:Program)(f:Nat→Nat→Prop)(w:World)(sz:Nat)(ys:List (List D))(cx:Value)(news:Array Value):Prop where
 len:(Builtin.lenOf cx).run P w = .ok ys.length w
 first : ∀ w':World,w'.heap=w.heap→(bM sz ys.length cx).run P w' = .ok news w'
 rel:DRs f w ys.flatten news.toList
 one : ∀ v∈news.toList,iE v=true

structure AppRun0 (P:Program)(w:World)(t xT ty e:TypeId)(i:TypeInfo)(m:Nat)(cx:Value)(news:Array Value):Prop where
 one : ∀ v∈news.toList,iE v=true
 fit : ∀ {a:Addr} {sLen sCap:Nat},0<m→m*i.bytes≤140737488355328→m≤9223372036854775807→sLen+m≤sCap →
  (bD #[t,xT] ty #[.slice (some a) sLen sCap,cx]).run P w=((storeCells (a.add (sLen*i.size)) news.toList).run P w).andThen fun _ w'=>.ok (.slice (some a) (sLen+m) sCap) w'
 grow : ∀ {z:Value} {base:Option Addr} {sLen sCap:Nat} {olds:Array Value},i.zero=some z→0<m→(∀ w',w'.heap=w.heap→(bM i.size sLen (.slice base sLen sCap)).run P w' = .ok olds w')→sCap<sLen+m →
  sLen+m≤9223372036854775807→(sLen+m)*i.bytes≤140737488355328 →
  (bD #[t,xT] ty #[.slice base sLen sCap,cx]).run P w = .ok (.slice (some ⟨w.heap.size,0,none⟩) (sLen+m) (grownCap w (sLen+m) sCap e))
   (w.drew.alloc (.cells (olds++news++aU z.cells (grownCap w (sLen+m) sCap e-(sLen+m))) e))
structure aBo (P:Program)(f:Nat→Nat→Prop)(w:World)(t xT ty e:TypeId)(i:TypeInfo)(ys:List (List D))(cx:Value)(news:Array Value):Prop extends AppRun0 P w t xT ty e i ys.length cx news where
 rel:DRs f w ys.flatten news.toList

theorem Src.app {f:Nat→Nat→Prop}{t xT ty e:TypeId}{i:TypeInfo}{ys:List (List D)}{cx:Value}{news:Array Value}(ht:P.underlying t=some (.slice e))(hi:P.info? e=some i){dx:TypeDesc}(hx:P.underlying xT=some dx)(hni : ∀ k,dx ≠ .int k)(h:Src P f w i.size ys cx news):aBo P f w t xT ty e i ys cx news :=
 ⟨⟨h.one,fun _ _ _ hf=>nY ht hi hx hni h.len (h.first w rfl) hf,fun hz _ ho hg h63 h48=>nC ht hi hz hx hni h.len h.first ho hg h63 h48⟩,h.rel⟩

theorem xR {t xT ty e:TypeId}{i:TypeInfo}{z:Value}(ht:P.underlying t=some (.slice e))(hi:P.info? e=some i)(hzv:i.zero=some z){k:IntKind}(hx:P.underlying xT=some (.int k)){n:Nat}(h0:0<n)(h63:n≤9223372036854775807)
  (hsz:0<i.size) (h48:n*i.bytes≤140737488355328) {a:Addr} {sLen sCap:Nat} (hfit:sLen+n≤sCap) :
  (bD #[t,xT] ty #[.slice (some a) sLen sCap,.int .i64 n]).run P w=((storeCells (a.add (sLen*i.size)) (aU z.cells n).toList).run P w).andThen fun _ w'=>.ok (.slice (some a) (sLen+n) sCap) w':=by
 have w1:aJ.wrap (n:Int)=n:=by simp only [IntKind.wrap,IntKind.signed,IntKind.bits]; simp; omega
 have e1 : ¬ ((n:Int)<0):=by omega
 have e2 : ¬ (281474976710656<(n:Int)*(i.bytes:Int)):=by omega
 have e4 : ¬ (n*i.size=0):=by
  have:=Nat.mul_pos h0 hsz
  omega
 have e6 : ¬ (n=0∨i.size=0):=by omega
 simp [bD,run_underlying ht,run_underlying hx,sizeOf,typeInfo,zeroValue,hi,hzv,asInt,asIntOf,w1,e1,e2,e6,hfit]
 intro h
 exact absurd h e4
theorem vT {t xT ty e:TypeId}{i:TypeInfo}{z:Value}(ht:P.underlying t=some (.slice e))(hi:P.info? e=some i)(hzv:i.zero=some z){k:IntKind}(hx:P.underlying xT=some (.int k)){n:Nat}(h0:0<n)
  (hsz:0<i.size) {base:Option Addr} {sLen sCap:Nat} {olds:Array Value} (hold : ∀ w',w'.heap=w.heap→(bM i.size sLen (.slice base sLen sCap)).run P w' = .ok olds w') (hgt:sCap<sLen+n)
  (h63:sLen+n≤9223372036854775807) (h48:(sLen+n)*i.bytes≤140737488355328) :
  (bD #[t,xT] ty #[.slice base sLen sCap,.int .i64 n]).run P w = .ok (.slice (some ⟨w.heap.size,0,none⟩) (sLen+n) (grownCap w (sLen+n) sCap e))
   (w.drew.alloc (.cells (olds++aU z.cells n++aU z.cells (grownCap w (sLen+n) sCap e-(sLen+n))) e)):=by
 have w1:aJ.wrap (n:Int)=n:=by simp only [IntKind.wrap,IntKind.signed,IntKind.bits]; simp; omega
 have e1 : ¬ ((n:Int)<0):=by omega
 have hm:n*i.bytes≤(sLen+n)*i.bytes:=bE _ (by omega)
 have e2 : ¬ (281474976710656<(n:Int)*(i.bytes:Int)):=by omega
 have e4 : ¬ (n*i.size=0):=by
  have:=Nat.mul_pos h0 hsz
  omega
 have e6 : ¬ (n=0∨i.size=0):=by omega
 have hnf : ¬ (sLen+n≤sCap):=by omega
 have h63' : ¬ ((9223372036854775807:Int)<(sLen:Int)+(n:Int)):=by omega
 have hfit:=growslice_fits hgt h48
 have h48' : ¬ (281474976710656<Builtin.nextslicecap (sLen+n) sCap*i.bytes):=by omega
 have e7:w.drew.heap=w.heap:=rfl
 have ho1:=hold w.drew e7
 simp [bD,run_underlying ht,run_underlying hx,sizeOf,typeInfo,zeroValue,hi,hzv,asInt,asIntOf,w1,e1,e2,e6,hnf,h63',h48',Question.forced,ho1,newRow,grownCap]
 intro h
 exact absurd h e4

theorem aAP {w w':World}(h:w'.heap=w.heap)(a:Addr):w'.cell? a=w.cell? a:=by
 unfold World.cell?
 rw [h]

theorem qH {f:Nat→Nat→Prop}{ys:List (List D)}{cx:Value}(h:aCi f w ys cx){sz:Nat}(hpos:0<sz)(hfit:kV sz ys=true) : ∃ news,Src P f w sz ys cx news:=by
 have hf : ∀ (i:Nat) (row:List D),ys[i]?=some row→row.length=sz:=fun i row hr=>lM hfit hr
 rcases h with⟨rfl,rfl⟩ | ⟨a,cap,sz',cv,rfl,hcap,hat⟩
 ·exact⟨#[],rfl,fun w' _=>by simp [bM],trivial,by simp⟩
 ·by_cases hz:ys.length=0
  ·have:ys=[]:=bP hz
   subst this
   exact⟨#[],rfl,fun w' _=>by simp [bM,loadCells,loadCellsFrom],trivial,by simp⟩
  ·have hs:sz'=sz:=by
    have h0:ys[0]?=some (ys[0]'(by omega)):=by simp
    rw [← hat.hsz 0 _ h0,hf 0 _ h0]
   subst hs
   refine⟨((List.range (ys.length*sz')).map cv).toArray,rfl,fun w' hw'=>?_,?_,fun v hv=>?_⟩
   ·simp only [bM]
    exact run_loadCells w' a (ys.length*sz') cv (fun j hj=>by rw [aAP hw']; exact hat.hc j hj)
   ·refine DRs.of_get (by rw [iV ys hf]; simp) (fun k d v hk hv=>?_)
    have hlt:k<ys.length*sz':=by
     rcases bR k (ys.length*sz') with h | h
     ·exact h
     ·rw [aR (by rw [iV ys hf]; exact h)] at hk; cases hk
    simp [hlt] at hv
    subst hv
    rw [rL hpos ys hf] at hk
    cases hr:ys[k / sz']? with
    | none=>rw [hr] at hk; cases hk
    | some row =>
     rw [hr] at hk
     have:=hat.hd (k / sz') row (k % sz') d hr hk
     rw [Nat.div_add_mod'] at this
     exact this
   ·simp at hv
    obtain⟨k,hk,rfl⟩:=hv
    exact hat.h1 k hk

theorem vF (l:List UInt8):(cC l).flatten=l.map fun b=>D.int .u8 b.toNat:=by
 induction l with
 | nil=>rfl
 | cons a r ih=>simp only [cC,aI,List.flatten_cons] at ih ⊢; rw [ih]; rfl

theorem aEV {f:Nat→Nat→Prop}(l:List UInt8) : ∃ news,Src P f w 1 (cC l) (.string ⟨l.toArray⟩) news:=by
 have hl:(cC l).length=l.length:=by simp [cC]
 refine⟨(l.map fun b=>Value.int .u8 b.toNat).toArray,?_,fun w' _=>?_,?_,fun v hv=>?_⟩
 ·simp [Builtin.lenOf,kS,hl]
 ·simp only [bM,hl,tZ]
  simp
 ·rw [vF]
  refine DRs.of_get (by simp) (fun i d v hd hv=>?_)
  simp only [bG,Option.map_eq_some_iff] at hd hv
  obtain⟨b,hb,rfl⟩:=hd
  obtain⟨b',hb',rfl⟩:=hv
  rw [hb] at hb'
  cases hb'
  exact .int _ _
 ·simp at hv
  obtain⟨b,_,rfl⟩:=hv
  rfl

def Gh.tokNew (g:Gh)(tid b s0 sz lim n:Nat):Gh :=
 { g with tok:=fun t=>if t=tid then⟨b,0,s0,sz,lim⟩ else g.tok t,frz:=fun b' q=>g.frz b' q∨(b'=b∧q<n) }

theorem Sim.tok_new (hs:Sim g σ w){tid k sz lim s0:Nat} {σ':St}(hobjs:σ'.objs=σ.objs)(htk:σ'.toks[tid]?=some k)(hother : ∀ t,t≠tid→σ'.toks[t]?=σ.toks[t]?)(hgrow : ∀ k0,σ.toks[tid]?=some k0→k0<k∧(g.tok tid).sz=sz)
  (hs0:s0≤k) (hsz:0<sz) {c:Array Value} {e:TypeId} (hc:(lim-s0)*sz≤c.size) (hcf:(k-s0)*sz≤c.size) {w':World} (hw:Grown1 w (.cells c e (0,0)) w') :
  Sim (g.tokNew tid w.heap.size s0 sz lim ((k-s0)*sz)) σ' w'∧Ev g σ w (g.tokNew tid w.heap.size s0 sz lim ((k-s0)*sz)) σ' w':=by
 have hcell : ∀ b q,g.frz b q→w'.cell? ⟨b,q,none⟩=w.cell? ⟨b,q,none⟩:=fun b q hf=>by
  obtain⟨v,hv⟩:=hs.frzb b q hf
  exact hw.cell (nG hv) q
 have hl:Later g σ.toks w (g.tokNew tid w.heap.size s0 sz lim ((k-s0)*sz)) σ'.toks w':=by
  refine⟨⟨fun b q hf=>.inl hf,hcell⟩,fun r hr=>⟨hr,rfl,rfl⟩,fun t k0 ht=>?_,rfl,fun _ _=>rfl⟩
  by_cases hq:t=tid
  ·subst hq
   obtain⟨h1,h2⟩:=hgrow k0 ht
   exact⟨k,htk,by omega,fun e=>by omega,by simp [Gh.tokNew,h2]⟩
  ·exact⟨k0,by rw [hother t hq]; exact ht,bB _,fun _=>by simp [Gh.tokNew,hq],by simp [Gh.tokNew,hq]⟩
 have hlt : ∀ (r:Nat) (o:Obj),σ.objs[r]?=some o→o.live→(g.obj r).1<w.heap.size:=fun r o h1 h2=>hs.blk h1 h2
 have tlt : ∀ t k,σ.toks[t]?=some k→(g.tok t).b<w.heap.size:=fun t k ht=>by
  obtain⟨_,c',e',fz',hb,_⟩:=hs.tok t k ht
  exact hO hb
 refine⟨⟨fun r o h1 h2=>hs.has r o (by rw [← hobjs]; exact h1) h2,fun r hr=>by rw [hobjs]; exact hs.bound r hr,fun r hr=>hs.free r (by rw [← hobjs]; exact hr),fun r cs' hr'=>?_,fun r o hr' hoth=>?_,fun r r' o o' h1 h2 h3 h4=>?_,fun r o h1 h2 q=>?_,fun t k' ht=>?_,fun t t' k1 k2 h1 h2 h3=>?_,fun t k' r o h1 h2 h3=>?_,fun b q hf=>?_,fun r cs' hr'=>?_⟩,
  ⟨hl,by rw [hw.size]; omega,hw.os,hw.tape,hw.output,fun b hb _=>hw.old hb,fun b hb=>?_,fun b q hf=>?_⟩⟩
 ·rw [hobjs] at hr'
  obtain⟨h1,c',e',fz',hb,hn,hc'⟩:=hs.cells r cs' hr'
  refine⟨h1,c',e',fz',by rw [show((g.tokNew tid w.heap.size s0 sz lim ((k-s0)*sz)).obj r)=g.obj r from rfl,hw.old (hO hb)]; exact hb,hn,fun j v hj=>?_⟩
  obtain⟨cv,r1,r2,r3⟩:=hc' j v hj
  exact⟨cv,r1,r2,r3.later hl⟩
 ·rw [hobjs] at hr'
  obtain⟨x,a1,a2⟩:=hs.oth r o hr' hoth
  exact⟨x,by rw [show((g.tokNew tid w.heap.size s0 sz lim ((k-s0)*sz)).obj r)=g.obj r from rfl,hw.old (hO a1)]; exact a1,a2.later hl⟩
 ·rw [hobjs] at h1 h3
  exact hs.dist r r' o o' h1 h2 h3 h4
 ·rw [hobjs] at h1
  rintro (hf | ⟨hb,_⟩)
  ·exact hs.nofrz r o h1 h2 q hf
  ·have:=hlt r o h1 h2
   have hb2:(g.obj r).1=w.heap.size:=hb
   omega
 ·by_cases hq:t=tid
  ·subst hq
   rw [htk] at ht
   cases ht
   simp only [Gh.tokNew,if_true]
   refine⟨⟨hsz,hs0⟩,c,e,(0,0),hw.new,fun o _ h=>by omega,by simpa using hc,fun q hq=>?_⟩
   rintro (hf | ⟨_,hlt'⟩)
   ·obtain⟨v,hv⟩:=hs.frzb _ _ hf
    have:=nG hv
    omega
   ·omega
  ·rw [hother t hq] at ht
   obtain⟨h0,c',e',fz',hb,hn,hsz',hf⟩:=hs.tok t k' ht
   simp only [Gh.tokNew,hq,if_false]
   refine⟨h0,c',e',fz',by rw [hw.old (hO hb)]; exact hb,hn,hsz',fun q hq'=>?_⟩
   rintro (hf' | ⟨hb',_⟩)
   ·exact hf q hq' hf'
   ·have:=hO hb
    omega
 ·by_cases hq:t=tid
  ·by_cases hq':t'=tid
   ·exact absurd (hq.trans hq'.symm) h3
   ·have:=tlt t' k2 (by rw [← hother t' hq']; exact h2)
    simp only [Gh.tokNew,hq,hq',if_true,if_false]
    omega
  ·have l1:=tlt t k1 (by rw [← hother t hq]; exact h1)
   by_cases hq':t'=tid
   ·simp only [Gh.tokNew,hq,hq',if_true,if_false]
    omega
   ·simp only [Gh.tokNew,hq,hq',if_false]
    exact hs.tdist t t' k1 k2 (by rw [← hother t hq]; exact h1) (by rw [← hother t' hq']; exact h2) h3
 ·rw [hobjs] at h2
  have l1:=hlt r o h2 h3
  by_cases hq:t=tid
  ·simp only [Gh.tokNew,hq,if_true]
   omega
  ·simp only [Gh.tokNew,hq,if_false]
   exact hs.tobj t k' r o (by rw [← hother t hq]; exact h1) h2 h3
 ·rcases hf with hf | ⟨rfl,hq⟩
  ·obtain⟨v,hv⟩:=hs.frzb b q hf
   exact⟨v,by rw [hcell b q hf]; exact hv⟩
  ·exact⟨c[q],by rw [iS hw.new]; simp [show q<c.size by omega]⟩
 ·rw [hobjs] at hr'
  exact⟨(hs.lims r cs' hr').1,fun c2 e2 fz2 hb2=>(hs.lims r cs' hr').2 c2 e2 fz2 (by rw [← hw.old (hs.blk hr' trivial)]; exact hb2)⟩
 ·rcases hb with⟨r,o,h1,h2,rfl⟩ | ⟨t,k',ht,rfl⟩
  ·left
   exact .inl ⟨r,o,by rw [← hobjs]; exact h1,h2,rfl⟩
  ·by_cases hq:t=tid
   ·right; simp [Gh.tokNew,hq]
   ·left
    exact .inr ⟨t,k',by rw [← hother t hq]; exact ht,by simp [Gh.tokNew,hq]⟩
 ·rcases hf with hf | ⟨rfl,_⟩
  ·exact .inl hf
  ·exact .inr (.inr (bB _))

end Go.Dn

/- append, its three ways. -/
namespace Go.Dn
open Go.Lib

variable {P:Program} {g:Gh} {σ:St} {tk:List Nat} {w:World}

def Gh.tokFit (g:Gh)(b lo hi:Nat):Gh:={ g with frz:=fun b' q=>g.frz b' q∨(b'=b∧lo≤q∧q<hi) }

theorem Sim.tok_fit (hs:Sim g σ w){tid k n:Nat}(htk:σ.toks[tid]?=some k)(hn:0<n)(hlim:k+n≤(g.tok tid).lim){news:List Value}(hnl:news.length=n*(g.tok tid).sz)(h1 : ∀ v∈news,iE v=true) :
  ∃ w':World,(storeCells ⟨(g.tok tid).b,(g.tok tid).o+(k-(g.tok tid).s0)*(g.tok tid).sz,none⟩ news).run P w = .ok () w' ∧
   Sim (g.tokFit (g.tok tid).b ((g.tok tid).o+(k-(g.tok tid).s0)*(g.tok tid).sz) ((g.tok tid).o+(k-(g.tok tid).s0)*(g.tok tid).sz+news.length)) (σ.setTok tid (k+n)) w' ∧
   Ev g σ w (g.tokFit (g.tok tid).b ((g.tok tid).o+(k-(g.tok tid).s0)*(g.tok tid).sz) ((g.tok tid).o+(k-(g.tok tid).s0)*(g.tok tid).sz+news.length)) (σ.setTok tid (k+n)) w' ∧
   (∀ j v,news[j]?=some v→w'.cell? ⟨(g.tok tid).b,(g.tok tid).o+(k-(g.tok tid).s0)*(g.tok tid).sz+j,none⟩=some v):=by
 obtain⟨⟨hsz,hs0⟩,c,e,fz,hb,hnf,hcs,hnz⟩:=hs.tok tid k htk
 generalize hL:(g.tok tid).o+(k-(g.tok tid).s0)*(g.tok tid).sz=L at *
 have htl:tid<σ.toks.length:=by
  rcases bR tid σ.toks.length with h | h
  ·exact h
  ·rw [aR h] at htk; cases htk
 have hfit:L+news.length≤c.size:=by
  have m1:(k-(g.tok tid).s0)*(g.tok tid).sz+n*(g.tok tid).sz=(k+n-(g.tok tid).s0)*(g.tok tid).sz:=by rw [← bJ]; congr 1; omega
  have m2:=bE (g.tok tid).sz (show k+n-(g.tok tid).s0≤(g.tok tid).lim-(g.tok tid).s0 by omega)
  rw [hnl]
  omega
 have hrun:=kU (P:=P) (g.tok tid).b L e fz news 0 c w hb hnf (by omega) h1
 rw [Nat.add_zero] at hrun
 have hcell : ∀ b q,g.frz b q→(jS w (g.tok tid).b (.cells (Dn.splice c.toList L news).toArray e fz)).cell? ⟨b,q,none⟩=w.cell? ⟨b,q,none⟩:=fun b q hf=>by
  by_cases hbb:(g.tok tid).b=b
  ·subst hbb
   rw [iS (lB w _ (hO hb)),iS hb]
   have hq:q<L:=by
    rcases bR q L with h | h
    ·exact h
    ·exact absurd hf (hnz q h)
   rw [List.getElem?_toArray,kB _ _ _ (by simpa using hfit),if_neg (by omega)]
   simp
  ·exact qD w _ hbb q
 have hset : ∀ t,(σ.setTok tid (k+n)).toks[t]?=if t=tid then some (k+n) else σ.toks[t]?:=by
  intro t
  simp only [St.setTok]
  by_cases hq:t=tid
  ·subst hq; rw [if_pos rfl,aO htl]
  ·rw [if_neg hq,aF (fun e=>hq e.symm)]
 have hl:Later g σ.toks w (g.tokFit (g.tok tid).b L (L+news.length)) (σ.setTok tid (k+n)).toks (jS w (g.tok tid).b (.cells (Dn.splice c.toList L news).toArray e fz)):=by
  refine⟨⟨fun b q hf=>.inl hf,hcell⟩,fun r hr=>⟨hr,rfl,rfl⟩,fun t k0 ht=>?_,rfl,fun _ _=>rfl⟩
  by_cases hq:t=tid
  ·subst hq
   rw [htk] at ht
   cases ht
   exact⟨k+n,by rw [hset,if_pos rfl],by omega,fun _=>rfl,rfl⟩
  ·exact⟨k0,by rw [hset,if_neg hq]; exact ht,bB _,fun _=>rfl,rfl⟩
 refine⟨_,hrun,⟨hs.has,hs.bound,hs.free,fun r cs' hr'=>?_,fun r o hr' hoth=>?_,hs.dist,fun r o h1 h2 q=>?_,fun t k' ht=>?_,fun t t' k1 k2 h1 h2 h3=>?_,fun t k' r o h1 h2 h3=>?_,fun b q hf=>?_,fun r cs' hr'=>⟨(hs.lims r cs' hr').1,fun c2 e2 fz2 hb2=>(hs.lims r cs' hr').2 c2 e2 fz2 (by rw [← gV w _ (hs.tobj tid k r _ htk hr' trivial)]; exact hb2)⟩⟩,
  ⟨hl,by simp [jS],rfl,rfl,rfl,fun b hb' hm=>gV w _ (fun e=>hm (.inr ⟨tid,k,htk,e⟩)),fun b hb'=>?_,fun b q hf=>?_⟩,fun j v hj=>?_⟩
 ·obtain⟨h1,c',e',fz',hb',hn',hc'⟩:=hs.cells r cs' hr'
  have hne:=hs.tobj tid k r _ htk hr' trivial
  refine⟨h1,c',e',fz',by rw [show((g.tokFit (g.tok tid).b L (L+news.length)).obj r)=g.obj r from rfl,gV w _ hne]; exact hb',hn',fun j v hj=>?_⟩
  obtain⟨cv,r1,r2,r3⟩:=hc' j v hj
  exact⟨cv,r1,r2,r3.later hl⟩
 ·obtain⟨x,a1,a2⟩:=hs.oth r o hr' hoth
  exact⟨x,by rw [show((g.tokFit (g.tok tid).b L (L+news.length)).obj r)=g.obj r from rfl,gV w _ (hs.tobj tid k r _ htk hr' hoth.live)]; exact a1,a2.later hl⟩
 ·rintro (hf | ⟨hb',_⟩)
  ·exact hs.nofrz r o h1 h2 q hf
  ·exact hs.tobj tid k r o htk h1 h2 hb'.symm
 ·rw [hset] at ht
  split at ht
  ·rename_i hq
   subst hq
   cases ht
   refine⟨⟨hsz,by show(g.tok t).s0≤k+n; omega⟩,(Dn.splice c.toList L news).toArray,e,fz,lB w _ (hO hb),fun o ho=>hnf o (by rw [List.size_toArray,kC _ _ _ (by simpa using hfit)] at ho; simpa using ho),?_,fun q hq=>?_⟩
   ·rw [List.size_toArray,kC _ _ _ (by simpa using hfit)]
    show(g.tok t).o+((g.tok t).lim-(g.tok t).s0)*(g.tok t).sz≤_
    simpa using hcs
   ·have m1:(k-(g.tok t).s0)*(g.tok t).sz+n*(g.tok t).sz=(k+n-(g.tok t).s0)*(g.tok t).sz:=by rw [← bJ]; congr 1; omega
    have hq':(g.tok t).o+(k+n-(g.tok t).s0)*(g.tok t).sz≤q:=hq
    rintro (hf | ⟨_,h1',h2'⟩)
    ·exact hnz q (by omega) hf
    ·omega
  ·rename_i hq
   obtain⟨h0,c',e',fz',hb',hn',hsz',hf⟩:=hs.tok t k' ht
   have hne:=hs.tdist tid t k k' htk ht (fun e=>hq e.symm)
   refine⟨h0,c',e',fz',by rw [show((g.tokFit (g.tok tid).b L (L+news.length)).tok t)=g.tok t from rfl,gV w _ hne]; exact hb',hn',hsz',fun q hq'=>?_⟩
   rintro (hf' | ⟨hb2,_⟩)
   ·exact hf q hq' hf'
   ·exact hne hb2.symm
 ·rw [hset] at h1 h2
  have f1 : ∃ k,σ.toks[t]?=some k:=by
   split at h1
   ·rename_i hq; subst hq; exact⟨k,htk⟩
   ·exact⟨_,h1⟩
  have f2 : ∃ k,σ.toks[t']?=some k:=by
   split at h2
   ·rename_i hq; subst hq; exact⟨k,htk⟩
   ·exact⟨_,h2⟩
  obtain⟨a,ha⟩:=f1
  obtain⟨b,hb⟩:=f2
  exact hs.tdist t t' a b ha hb h3
 ·rw [hset] at h1
  have f1 : ∃ k,σ.toks[t]?=some k:=by
   split at h1
   ·rename_i hq; subst hq; exact⟨k,htk⟩
   ·exact⟨_,h1⟩
  obtain⟨a,ha⟩:=f1
  exact hs.tobj t a r o ha h2 h3
 ·rcases hf with hf | ⟨rfl,hq1,hq2⟩
  ·obtain⟨v,hv⟩:=hs.frzb b q hf
   exact⟨v,by rw [hcell b q hf]; exact hv⟩
  ·rw [iS (lB w _ (hO hb)),List.getElem?_toArray,kB _ _ _ (by simpa using hfit),if_pos ⟨hq1,hq2⟩]
   exact⟨news[q-L]'(by omega),by simp [show q-L<news.length by omega]⟩
 ·left
  rcases hb' with⟨r,o,h1,h2,rfl⟩ | ⟨t,k',ht,rfl⟩
  ·exact .inl ⟨r,o,h1,h2,rfl⟩
  ·rw [hset] at ht
   split at ht
   ·rename_i hq; subst hq; exact .inr ⟨t,k,htk,rfl⟩
   ·exact .inr ⟨t,k',ht,rfl⟩
 ·rcases hf with hf | ⟨rfl,_⟩
  ·exact .inl hf
  ·exact .inr (.inl (.inr ⟨tid,k,htk,rfl⟩))
 ·have hj':j<news.length:=by
   rcases bR j news.length with h | h
   ·exact h
   ·rw [aR h] at hj; cases hj
  rw [iS (lB w _ (hO hb)),List.getElem?_toArray,kB _ _ _ (by simpa using hfit),if_pos ⟨by omega,by omega⟩,show L+j-L=j by omega]
  exact hj

theorem wY {f:Nat→Nat→Prop}{rows ys:List (List D)}{b o cap:Nat}{sz:Nat}(hf1 : ∀ (i:Nat)(row:List D),rows[i]?=some row→row.length=sz)(hf2 : ∀ (i:Nat)(row:List D),ys[i]?=some row→row.length=sz)(hpos:0<sz)
  (h:DR f w (.list rows) (.slice (some ⟨b,o,none⟩) rows.length cap)) {news:List Value} (hd:DRs f w ys.flatten news) (h1 : ∀ v∈news,iE v=true)
  (hfr : ∀ j,j<news.length→f b (o+rows.length*sz+j)) (hc : ∀ j v,news[j]?=some v→w.cell? ⟨b,o+rows.length*sz+j,none⟩=some v) (hcap:rows.length+ys.length≤cap) :
  DR f w (.list (rows++ys)) (.slice (some ⟨b,o,none⟩) (rows++ys).length cap):=by
 have hnl:news.length=ys.length*sz:=by rw [← hd.length,iV ys hf2]
 obtain⟨_,sz',cv,hcap',hsz,hf,hcell,ho,hdd⟩:=h.asList
 ·have cast : ∀ k,k<rows.length*sz→k<rows.length*sz':=by
   intro k hk
   by_cases hz:rows.length=0
   ·rw [hz] at hk; simp at hk
   ·have h0:rows[0]?=some (rows[0]'(by omega)):=by simp
    have:sz'=sz:=by rw [← hsz 0 _ h0,hf1 0 _ h0]
    rw [this]; exact hk
  have getNew : ∀ k,rows.length*sz≤k→k<(rows++ys).length*sz→∃ v,news[k-rows.length*sz]?=some v∧news.getD (k-rows.length*sz) undef=v:=by
   intro k hk1 hk2
   rw [aX,bJ] at hk2
   have:k-rows.length*sz<news.length:=by omega
   exact⟨news[k-rows.length*sz],by simp [this],by simp [bA,this]⟩
  refine .list (rows++ys) b o cap sz (fun k=>if k<rows.length*sz then cv k else news.getD (k-rows.length*sz) undef) (by simpa using hcap) (fun i row hr=>?_) (fun k hk=>?_) (fun k hk=>?_) (fun k hk=>?_) (fun i row j d hr hj=>?_)
  ·by_cases hi:i<rows.length
   ·rw [aC hi] at hr; exact hf1 i row hr
   ·rw [bH (by omega)] at hr; exact hf2 _ row hr
  ·by_cases hk1:k<rows.length*sz
   ·exact hf k (cast k hk1)
   ·obtain⟨v,hv,_⟩:=getNew k (by omega) hk
    have hlt:k-rows.length*sz<news.length:=by
     rcases bR (k-rows.length*sz) news.length with h | h
     ·exact h
     ·rw [aR h] at hv; cases hv
    have:=hfr _ hlt
    rwa [show o+rows.length*sz+(k-rows.length*sz)=o+k by omega] at this
  ·by_cases hk1:k<rows.length*sz
   ·simp only [hk1,if_true]; exact hcell k (cast k hk1)
   ·simp only [hk1,if_false]
    obtain⟨v,hv,hg⟩:=getNew k (by omega) hk
    rw [hg]
    have:=hc _ v hv
    rwa [show o+rows.length*sz+(k-rows.length*sz)=o+k by omega] at this
  ·by_cases hk1:k<rows.length*sz
   ·simp only [hk1,if_true]; exact ho k (cast k hk1)
   ·simp only [hk1,if_false]
    obtain⟨v,hv,hg⟩:=getNew k (by omega) hk
    rw [hg]
    exact h1 v (aL hv)
  ·by_cases hi:i<rows.length
   ·rw [aC hi] at hr
    have hrl:=hf1 i row hr
    have hj':j<sz:=by
     rcases bR j sz with h | h
     ·exact h
     ·rw [aR (by omega)] at hj; cases hj
    have hm:=bE sz (show i+1≤rows.length from hi)
    rw [bJ] at hm
    have hss:sz'=sz:=by rw [← hsz i row hr,hrl]
    simp only [show i*sz+j<rows.length*sz by omega,if_true]
    have:=hdd i row j d hr hj
    rw [hss] at this
    exact this
   ·rw [bH (by omega)] at hr
    have hrl:=hf2 _ row hr
    have hj':j<sz:=by
     rcases bR j sz with h | h
     ·exact h
     ·rw [aR (by omega)] at hj; cases hj
    have hm:=bE sz (show rows.length≤i by omega)
    have hiy:i-rows.length<ys.length:=by
     rcases bR (i-rows.length) ys.length with h | h
     ·exact h
     ·rw [aR h] at hr; cases hr
    have hm2:=bE sz (show i-rows.length+1≤ys.length by omega)
    rw [bJ] at hm2
    have e1:i*sz+j-rows.length*sz=(i-rows.length)*sz+j:=by rw [Nat.sub_mul]; omega
    simp only [show ¬ (i*sz+j<rows.length*sz) by omega,if_false,e1]
    have hlt:(i-rows.length)*sz+j<news.length:=by omega
    have hfl:ys.flatten[(i-rows.length)*sz+j]?=some d:=by
     rw [rL hpos ys hf2]
     have d1:((i-rows.length)*sz+j) / sz=i-rows.length:=by
      rw [Nat.add_comm,Nat.add_mul_div_right _ _ hpos,Nat.div_eq_of_lt hj',Nat.zero_add]
     have d2:((i-rows.length)*sz+j) % sz=j:=by
      rw [Nat.add_comm,Nat.add_mul_mod_self_right,Nat.mod_eq_of_lt hj']
     rw [d1,d2,hr]
     exact hj
    have:=hd.get _ d news[(i-rows.length)*sz+j] hfl (by simp [hlt])
    simpa [bA,hlt] using this

end Go.Dn

/- append as the abstract machine has it. -/
namespace Go.Dn
open Go.Lib

variable {P:Program} {g:Gh} {σ:St} {tk:List Nat} {w:World}

theorem jC {e:TypeId}(h:lV P e=true) : ∃ i z,P.info? e=some i∧i.zero=some z∧i.size=P.cellsOf e∧i.bytes=P.bytesOf e∧P.cellsOf e≠0∧z.cells.size=P.cellsOf e∧(∀ v∈z.cells.toList,iE v=true):=by
 unfold lV at h
 split at h
 ·rename_i zl hz
  simp only [aS,bne_iff_ne,ne_eq,beq_iff_eq] at h
  obtain⟨i,z,hi,hzv,hleaf⟩:=kD hz
  obtain⟨z1,_⟩:=qS hleaf
  refine⟨i,z,hi,hzv,by simp [Program.cellsOf,hi],by simp [Program.bytesOf,hi],h.1,by rw [← h.2,z1]; simp,fun v hv=>?_⟩
  obtain⟨k,hk⟩:=bQ hv
  exact qR hleaf k v hk
 ·cases h

theorem aDO {f:Nat→Nat→Prop}{b sz cap:Nat}{rows:List (List D)}{c:Array Value}{e:TypeId}{fz:Nat×Nat}{w':World}(hb:w'.heap[b]?=some (.cells c e fz))(hpos:0<sz)(hfit : ∀ (i:Nat)(row:List D),rows[i]?=some row→row.length=sz)
  {l:List Value} (hd:DRs f w' rows.flatten l) (h1 : ∀ v∈l,iE v=true) (hc : ∀ (j:Nat) (v:Value),l[j]?=some v→c[j]?=some v) (hf : ∀ j,j<l.length→f b j) (hcap:rows.length≤cap) :
  DR f w' (.list rows) (.slice (some ⟨b,0,none⟩) rows.length cap):=by
 have:=wY (f:=f) (w:=w') (rows:=[]) (ys:=rows) (b:=b) (o:=0) (cap:=cap) (sz:=sz) (fun i row h=>by simp at h) hfit hpos (DR.list_empty _ _ rfl) hd h1
  (fun j hj=>by simpa using hf j hj) (fun j v hj=>by rw [iS hb]; simpa using hc j v hj) (by simpa using hcap)
 simpa using this

theorem DRs.append {f:Nat→Nat→Prop} : ∀ {as bs:List D} {xs ys:List Value},DRs f w as xs→DRs f w bs ys→DRs f w (as++bs) (xs++ys)
 | [],_,[],_,_,h=>h
 | _::_,_,_::_,_,h,h'=>⟨h.1,DRs.append h.2 h'⟩
 | [],_,_::_,_,h,_=>h.elim
 | _::_,_,[],_,h,_=>h.elim

theorem DRs.mono {f f':Nat→Nat→Prop}{w w':World}(hs:Stay f f' w w') : ∀ {ds:List D} {vs:List Value},DRs f w ds vs→DRs f' w' ds vs
 | [],[],_=>trivial
 | _::_,_::_,h=>⟨h.1.mono hs,DRs.mono hs h.2⟩
 | [],_::_,h=>h.elim
 | _::_,[],h=>h.elim

theorem qO {sz:Nat}{rows ys:List (List D)}(h:kV sz rows=true)(h':kV sz ys=true) : ∀ (i:Nat) (row:List D),(rows++ys)[i]?=some row→row.length=sz:=fun i row hr=>by
 have:kV sz (rows++ys)=true:=by
  unfold kV at *
  rw [List.all_append,h,h']
  rfl
 exact lM this hr

theorem yK (hs:Sim g σ w){t xT e ty:TypeId}(ht:P.underlying t=some (.slice e))(hg:lV P e=true){dx:TypeDesc}(hx:P.underlying xT=some dx)(hni : ∀ k,dx ≠ .int k){s v:V}{cs cx:Value}(hsv:VR g σ.toks w s cs)
  {ys:List (List D)} {news:Array Value} (hsrc:kV (P.cellsOf e) ys=true→Src P g.frz w (P.cellsOf e) ys cx news) {tg:Option Nat} {σ':St} (h:jE σ tg (P.cellsOf e) (P.bytesOf e) s ys=some (v,σ')) :
  EStep P g σ w (bD #[t,xT] ty #[cs,cx]) v σ':=by
 obtain⟨i,z,hi,hzv,hisz,hiby,hc0,hzs,hz1⟩:=jC hg
 have hpos:0<P.cellsOf e:=by omega
 unfold jE at h
 split at h
 ·cases h
 ·rename_i hfit0
  simp only [Bool.not_eq_false] at hfit0
  have hsrc:=hsrc hfit0
  have hys : ∀ (i:Nat) (row:List D),ys[i]?=some row→row.length=P.cellsOf e:=fun i row hr=>lM hfit0 hr
  have hnl:news.toList.length=ys.length*P.cellsOf e:=by rw [← hsrc.rel.length,iV ys hys]
  have runFit : ∀ {a:Addr} {sLen sCap:Nat},sLen+ys.length≤sCap→(bD #[t,xT] ty #[.slice (some a) sLen sCap,cx]).run P w=((storeCells (a.add (sLen*P.cellsOf e)) news.toList).run P w).andThen fun _ w'=>.ok (.slice (some a) (sLen+ys.length) sCap) w':=by
   intro a sLen sCap hf
   have:=nY (w:=w) (ty:=ty) ht hi hx hni (a:=a) (sLen:=sLen) (sCap:=sCap) (n:=ys.length) (cx:=cx) (news:=news) hsrc.len (by rw [hisz]; exact hsrc.first w rfl) hf
   rw [hisz] at this
   exact this
  have runGrow : ∀ {base:Option Addr} {sLen sCap:Nat} {olds:Array Value},(∀ w':World,w'.heap=w.heap→(bM (P.cellsOf e) sLen (.slice base sLen sCap)).run P w' = .ok olds w')→sCap<sLen+ys.length→sLen+ys.length≤9223372036854775807→(sLen+ys.length)*P.bytesOf e≤140737488355328 →
    (bD #[t,xT] ty #[.slice base sLen sCap,cx]).run P w = .ok (.slice (some ⟨w.heap.size,0,none⟩) (sLen+ys.length) (grownCap w (sLen+ys.length) sCap e))
     (w.drew.alloc (.cells (olds++news++aU z.cells (grownCap w (sLen+ys.length) sCap e-(sLen+ys.length))) e)):=by
   intro base sLen sCap olds ho hgt h63 h48
   exact nC (w:=w) (ty:=ty) ht hi hzv hx hni (base:=base) (sLen:=sLen) (sCap:=sCap) (n:=ys.length) (cx:=cx) (news:=news) (olds:=olds) hsrc.len (by rw [hisz]; exact hsrc.first) (by rw [hisz]; exact ho) hgt h63 (by rw [hiby]; exact h48)
  have hgr : ∀ c:Array Value,Grown1 w (.cells c e (0,0)) (w.drew.alloc (.cells c e)):=fun c=>⟨by simp [World.alloc,World.drew,-World.alloc_eq,-World.drew_eq],by simp [World.alloc,World.drew,-World.alloc_eq,-World.drew_eq],by simp [World.alloc,World.drew,-World.alloc_eq,-World.drew_eq],by simp [World.alloc,World.drew,-World.alloc_eq,-World.drew_eq]⟩
  -- a new block, with a token of its own or the old one's
  have grow : ∀ {sLen sCap tid k st:Nat} {base:Option Addr} {rows:List (List D)} {olds:Array Value} {σ2:St},rows.length=sLen→kV (P.cellsOf e) rows=true→(∀ w':World,w'.heap=w.heap→(bM (P.cellsOf e) sLen (.slice base sLen sCap)).run P w' = .ok olds w') →
    DRs g.frz w rows.flatten olds.toList→(∀ v∈olds.toList,iE v=true)→sCap<sLen+ys.length→sLen+ys.length≤9223372036854775807→(sLen+ys.length)*P.bytesOf e≤140737488355328 →
    σ2.objs=σ.objs→σ2.toks[tid]?=some k→(∀ t,t≠tid→σ2.toks[t]?=σ.toks[t]?)→(∀ k0,σ.toks[tid]?=some k0→k0<k∧(g.tok tid).sz=P.cellsOf e)→k=st+(sLen+ys.length) →
    EStep P g σ w (bD #[t,xT] ty #[.slice base sLen sCap,cx]) (.tl (rows++ys) tid st (P.cellsOf e)) σ2:=by
   intro sLen sCap tid k st base rows olds σ2 hrl hfit ho hor ho1 hgt h63 h48 hobjs htk hother hgrow hk
   have hrows : ∀ (i:Nat) (row:List D),rows[i]?=some row→row.length=P.cellsOf e:=fun i row hr=>lM hfit hr
   have hol:olds.toList.length=sLen*P.cellsOf e:=by rw [← hor.length,iV rows hrows,hrl]
   have hcge:=grownCap_ge w (sLen+ys.length) sCap e
   generalize hcap:grownCap w (sLen+ys.length) sCap e=newCap at *
   have hrun:=runGrow ho hgt h63 h48
   rw [hcap] at hrun
   generalize hce:olds++news++aU z.cells (newCap-(sLen+ys.length))=c at *
   have hcs:c.size=newCap*P.cellsOf e:=by
    rw [← hce]
    simp only [Array.size_append,size_zeroCells,hzs]
    have a1:olds.size=sLen*P.cellsOf e:=by simpa using hol
    have a2:news.size=ys.length*P.cellsOf e:=by simpa using hnl
    rw [a1,a2,← bJ,← bJ]
    congr 1
    omega
   have m1:=bE (P.cellsOf e) hcge
   obtain⟨s1,s2⟩:=hs.tok_new (lim:=st+newCap) (s0:=st) hobjs htk hother hgrow (by omega) hpos (c:=c) (e:=e) (by rw [Nat.add_sub_cancel_left,hcs]; exact bB _) (by rw [hk,Nat.add_sub_cancel_left,hcs]; exact m1) (hgr c)
   have hlen:(rows++ys).length=sLen+ys.length:=by simp [hrl]
   refine⟨_,_,_,hrun,s1,?_,s2⟩
   have hd:DRs (g.tokNew tid w.heap.size st (P.cellsOf e) (st+newCap) ((k-st)*P.cellsOf e)).frz (w.drew.alloc (.cells c e)) (rows++ys).flatten (olds.toList++news.toList):=by
    rw [List.flatten_append]
    exact(hor.append hsrc.rel).mono s2.later.stay
   have hlst:=aDO (cap:=newCap) (hgr c).new hpos (qO hfit hfit0) hd (fun v hv=>by
     rcases aW.1 hv with h | h
     ·exact ho1 v h
     ·exact hsrc.one v h)
    (fun j v hj=>by
     rw [← hce]
     have hj2:(olds++news).toList[j]?=some v:=by simpa using hj
     have hlt:j<(olds++news).size:=by
      rcases bR j (olds++news).size with h | h
      ·exact h
      ·rw [aR (by simpa using h)] at hj2; cases hj2
     rw [Array.getElem?_append_left hlt]
     rw [← Array.getElem?_toList]; exact hj2)
    (fun j hj=>.inr ⟨rfl,by
     rw [aX,hol,hnl,← bJ] at hj
     rw [hk,Nat.add_sub_cancel_left]
     exact hj⟩) (by rw [hlen]; exact hcge)
   rw [← hlen]
   refine .tl (rows++ys) tid st (P.cellsOf e) k _ newCap hlst htk (by rw [hlen,hk]; exact bB _) (fun row hr=>?_) (by simp [Gh.tokNew]) (fun _ _=>⟨by simp [Gh.tokNew],by simp [Gh.tokNew],by simp [Gh.tokNew]⟩)
   obtain⟨i,hi'⟩:=bQ hr
   exact qO hfit hfit0 i row hi'
  split at h
  ·-- into a mutable array's own room
   rename_i r off len s'
   split at h
   ·rename_i hcnd
    obtain⟨rfl,_⟩:=hcnd
    split at h
    ·rename_i ocs hobj
     split at h
     ·rename_i hroom
      cases h
      cases hsv with
      | sl _ _ _ _ cap a hh hcap hsz hin hout ha hsp hlim =>
       have hln:ocs.length=g.len r:=(hs.cells r ocs hobj).1
       have hcap2:len+ys.length≤cap:=by
        rw [bJ] at hroom
        have:(len+ys.length)*P.cellsOf e≤cap*P.cellsOf e:=by rw [bJ]; omega
        exact Nat.le_of_mul_le_mul_right this hpos
       have hxl:((ys.flatten).map V.d).length=ys.length*P.cellsOf e:=by rw [aQ,iV ys hys]
       rw [bJ] at hroom
       obtain⟨w',r1,r2,r3⟩:=hs.splice (P:=P) hobj (off:=off+len*P.cellsOf e) (DRs.to_v hsrc.one hsrc.rel) hsrc.one (by rw [hxl]; omega)
       by_cases hlt:off<g.len r
       ·have haa:=ha hlt
        subst haa
        refine⟨_,w',g,?_,r2,.sl r off (len+ys.length) (P.cellsOf e) cap _ hh hcap2 hpos (by rw [bJ]; omega) hout (fun _=>rfl) rfl hlim,r3⟩
        rw [runFit hcap2,iJ,Nat.add_assoc,r1]
        rfl
       ·have hz1:len*P.cellsOf e=0:=by omega
        have hz2:ys.length*P.cellsOf e=0:=by omega
        have hn0:news.toList=[]:=bP (by rw [hnl]; exact hz2)
        rw [hn0] at r1
        have hw:w'=w:=by simp [storeCells] at r1; exact r1.symm
        subst hw
        refine⟨_,w',g,?_,r2,.sl r off (len+ys.length) (P.cellsOf e) cap a hh hcap2 hpos (by rw [bJ]; omega) hout (fun h=>absurd h hlt) hsp hlim,r3⟩
        rw [runFit hcap2,hn0]
        simp [storeCells]
     ·cases h
    ·cases h
   ·cases h
  ·split at h
   ·-- nothing is appended
    rename_i hnil
    subst hnil
    split at h
    ·rename_i hrows
     cases h
     obtain⟨rows,hr⟩:=Option.isSome_iff_exists.1 hrows
     have hn0:news.toList=[]:=bP (by rw [hnl]; simp)
     rcases oW hs hsv hr with⟨rfl,rfl⟩ | ⟨a,cap,sz,cv,rfl,hcap,_⟩
     ·refine⟨_,w,g,?_,hs,hsv,Ev.refl _ _ _⟩
      have hz:(match dx with | .int _=>true | _=>false)=false:=by cases dx <;> first | rfl | exact absurd rfl (hni _)
      have hl:=hsrc.len
      have hf:=hsrc.first w rfl
      simp at hl hf
      simp [bD,run_underlying ht,run_underlying hx,sizeOf,typeInfo,hi,hz,hl,hisz,hf]
     ·refine⟨_,w,g,?_,hs,hsv,Ev.refl _ _ _⟩
      rw [runFit (by simpa using hcap),hn0]
      simp [storeCells]
    ·cases h
   ·rename_i hne
    have hn:0<ys.length:=List.length_pos_iff.2 hne
    split at h
    ·-- onto nil
     split at h
     ·rename_i hcnd
      obtain⟨_,h48,h63⟩:=hcnd
      cases h
      have:=hsv.inv_d
      cases this
      have:=grow (sLen:=0) (sCap:=0) (tid:=σ.toks.length) (k:=ys.length) (st:=0) (base:=none) (rows:=[]) (olds := #[]) (σ2:=σ.pushTok ys.length) rfl rfl (fun w' _=>by simp [bM]) trivial (by simp) (by omega) (by omega) (by rw [Nat.zero_add]; exact h48) rfl
       (by simp [St.pushTok]) (fun t' ht'=>by
        simp only [St.pushTok]
        rcases bR t' σ.toks.length with h | h
        ·rw [aC h]
        ·rw [aR (by simp; omega),aR h]) (fun k0 hk0=>by simp at hk0) (by omega)
      simpa using this
     ·cases h
    ·-- onto a full slice
     rename_i rows _
     split at h
     ·rename_i hcnd
      obtain⟨_,hfit,h48,h63⟩:=hcnd
      cases h
      have hd:=aCE hsv
      cases hsv with
      | fl _ a hd' =>
       have hro:aCi g.frz w rows (.slice (some a) rows.length rows.length):=.inr hd.rows
       obtain⟨olds,ho⟩:=qH (P:=P) hro hpos hfit
       exact grow (sLen:=rows.length) (sCap:=rows.length) (tid:=σ.toks.length) (k:=rows.length+ys.length) (st:=0) (base:=some a) (rows:=rows) (olds:=olds) (σ2:=σ.pushTok (rows.length+ys.length)) rfl hfit ho.first ho.rel ho.one (by omega) h63 h48 rfl
        (by simp [St.pushTok]) (fun t' ht'=>by
         simp only [St.pushTok]
         rcases bR t' σ.toks.length with h | h
         ·rw [aC h]
         ·rw [aR (by simp; omega),aR h]) (fun k0 hk0=>by simp at hk0) (by omega)
     ·cases h
    ·-- onto a list that may grow
     rename_i rows tid st s' _
     split at h
     ·rename_i hcnd
      obtain⟨rfl,hfit,htk,h48,h63⟩:=hcnd
      cases h
      have hd:=aEZ hsv
      cases hsv with
      | tl _ _ _ _ k a cap hd' ht' hle hh hsz ha =>
       rw [htk] at ht'
       cases ht'
       have htl:tid<σ.toks.length:=by
        rcases bR tid σ.toks.length with h | h
        ·exact h
        ·rw [aR h] at htk; cases htk
       by_cases hroom:rows.length+ys.length≤cap
       ·obtain⟨a0,rfl,a2⟩:=ha rfl (by omega)
        obtain⟨w',r1,r2,r3,r4⟩:=hs.tok_fit (P:=P) htk hn (by omega) (news:=news.toList) (by rw [hsz]; exact hnl) hsrc.one
        have hL:(g.tok tid).o+(st-(g.tok tid).s0)*(g.tok tid).sz+rows.length*P.cellsOf e=(g.tok tid).o+(st+rows.length-(g.tok tid).s0)*(g.tok tid).sz:=by
         rw [show st+rows.length-(g.tok tid).s0=(st-(g.tok tid).s0)+rows.length by omega,bJ,hsz]
         omega
        have hlen:(rows++ys).length=rows.length+ys.length:=by simp
        refine⟨.slice (some ⟨(g.tok tid).b,(g.tok tid).o+(st-(g.tok tid).s0)*(g.tok tid).sz,none⟩) (rows.length+ys.length) cap,w',_,?_,r2,?_,r3⟩
        ·rw [runFit hroom,iJ,hL,r1]
         rfl
        ·rw [← hlen]
         have hla:=wY (w:=w') (f:=(g.tokFit (g.tok tid).b ((g.tok tid).o+(st+rows.length-(g.tok tid).s0)*(g.tok tid).sz) ((g.tok tid).o+(st+rows.length-(g.tok tid).s0)*(g.tok tid).sz+news.toList.length)).frz)
          (fun i row hr=>lM hfit hr) hys hpos (hd.mono r3.later.stay) (hsrc.rel.mono r3.later.stay) hsrc.one (fun j hj=>.inr ⟨rfl,by rw [hL]; omega,by rw [hL]; omega⟩) (fun j v hj=>by rw [hL]; exact r4 j v hj) (by simpa using hroom)
         refine .tl (rows++ys) tid st (P.cellsOf e) (st+rows.length+ys.length) _ cap hla ?_ (by rw [hlen]; omega) (fun row hr=>?_) hsz (fun _ _=>⟨a0,rfl,a2⟩)
         ·simp [St.setTok,htl]
         ·obtain⟨i,hi'⟩:=bQ hr
          exact qO hfit hfit0 i row hi'
       ·have hro:aCi g.frz w rows (.slice (some a) rows.length cap):=.inr hd.rows
        obtain⟨olds,ho⟩:=qH (P:=P) hro hpos hfit
        refine grow (sLen:=rows.length) (sCap:=cap) (tid:=tid) (k:=st+rows.length+ys.length) (st:=st) (base:=some a) (rows:=rows) (olds:=olds) (σ2:=σ.setTok tid (st+rows.length+ys.length)) rfl hfit ?_ ho.rel ho.one (by omega) h63 h48 rfl
         (by simp [St.setTok,htl]) (fun t' ht'=>by simp only [St.setTok]; rw [aF (fun e=>ht' e.symm)]) (fun k0 hk0=>by rw [htk] at hk0; cases hk0; exact⟨by omega,hsz⟩) (by omega)
        exact ho.first
     ·cases h
    ·cases h

end Go.Dn
