import Derived.Test.YtmlkdfjojoophaaFw151
/- The theorem on operations that leave the store alone. -/
namespace Go.Dn
open Go.Lib

set_option linter.unusedSimpArgs false

variable {P:Program} {g:Gh} {σ:St} {tk:List Nat} {w:World}

def NStep (P:Program)(g:Gh) (σ:St)(w:World)(s:Sem Next)(v:V):Prop :=
 ∃ cv w' g',s.run P w = .ok (.value cv) w'∧Sim g' σ w'∧VR g' σ.toks w' v cv∧Ev g σ w g' σ w'

theorem PStep.next {s:Sem Value}{v:V}(h:PStep P g σ w s v):NStep P g σ w (do pure (.value (← s))) v:=by
 obtain⟨cv,w',g',h1,h2⟩:=h
 exact⟨cv,w',g',by simp [h1],h2⟩

theorem NStep.pure (hs:Sim g σ w){v:V}{cv:Value}(h:VR g σ.toks w v cv):NStep P g σ w (pure (.value cv)) v:=⟨cv,w,g,rfl,hs,h,Ev.refl _ _ _⟩

theorem opt_rel {n:Nat}{e:Env}{a:Act}(he:EnvR g tk w n e a.tmps){x:Option Operand}{x':Option Opd}(h:optOpd x=some x'):OptR g tk w (x'.map (Opd.ev e)) (x.map a.eval):=by
 cases x with
 | none=>simp [optOpd] at h; subst h; trivial
 | some y =>
  simp only [optOpd] at h
  split at h
  ·rename_i a' hy
   cases h
   exact opd_rel hy he
  ·cases h

theorem opds_vrs {n:Nat}{e:Env}{a:Act}(he:EnvR g tk w n e a.tmps) : ∀ {xs:List Operand}{l:List Opd},compOpds xs=some l→VRs g tk w (l.map (Opd.ev e)) (xs.map a.eval)
 | [],l,h=>by simp [compOpds] at h; subst h; trivial
 | x::r,l,h=>by
  unfold compOpds at h
  split at h
  ·rename_i a' l' hx hl
   cases h
   exact⟨opd_rel hx he,opds_vrs he hl⟩
  ·cases h

theorem builtin_next {b:Builtin}{args:Array Operand}{argTypes:Array TypeId}{o:Oper}{a:Act}(ho:o.op = .call { callee:=.builtin b,args,argTypes }){s:Sem Value}{v:V}
  (hb : ∀ consts,Go.builtin b argTypes o.type consts (args.map a.eval)=(do pure (.value (← s)))) (h:PStep P g σ w s v):NStep P g σ w (execOp a.eval o) v:=by
 obtain⟨cv,w',g',h1,h2⟩:=h.next
 refine⟨cv,w',g',?_,h2⟩
 unfold execOp
 simp only [ho,resolve,Sem.run_bind,Sem.run_pure,Result.andThen_ok,invoke]
 rw [hb]
 exact h1

theorem ite_some {α:Type}{c:Prop} [Decidable c]{x:Option α}{y:α}(h:(if c then x else none)=some y):c∧x=some y:=by
 split at h
 ·exact⟨by assumption,h⟩
 ·cases h

theorem evalP_rel (hs : Sim g σ w) {n : Nat} {e : Env} {a : Act} (he : EnvR g σ.toks w n e a.tmps) {o : Oper} {dst : Option Nat} {op : POp} (hc : compOp P o = some (.p dst op)) {v : V} (h : evalP op e σ = some v) :
    dst = o.dst ∧ NStep P g σ w (execOp a.eval o) v := by
  have rel : ∀ {x : Operand} {x' : Opd}, compOpd x = some x' → VR g σ.toks w (x'.ev e) (a.eval x) := fun hx => opd_rel hx he
  obtain ⟨od, oop, oty, opos, oaft, ogd⟩ := o
  cases oop <;> simp only [compOp] at hc
  case move x =>
    split at hc
    · rename_i x' hx
      simp only [Option.some.injEq, Ins.p.injEq] at hc
      obtain ⟨rfl, rfl⟩ := hc
      simp only [evalP, Option.some.injEq] at h
      subst h
      exact ⟨rfl, NStep.pure hs (rel hx)⟩
    · cases hc
  case assign x =>
    split at hc
    · rename_i x' hx
      simp only [Option.some.injEq, Ins.p.injEq] at hc
      obtain ⟨rfl, rfl⟩ := hc
      simp only [evalP, Option.some.injEq] at h
      subst h
      exact ⟨rfl, NStep.pure hs (rel hx)⟩
    · cases hc
  case pick c x y =>
    split at hc
    · rename_i c' hcc
      split at hc
      · rename_i x' y' hx hy
        simp only [Option.some.injEq, Ins.p.injEq] at hc
        obtain ⟨rfl, rfl⟩ := hc
        simp only [evalP] at h
        refine ⟨rfl, ?_⟩
        split at h
        · rename_i t ht
          cases h
          have hb := rel hcc
          rw [ht] at hb
          have hb := hb.inv_bool
          refine ⟨_, w, g, ?_, hs, (?_ : VR g σ.toks w _ (if t then a.eval x else a.eval y)), Ev.refl _ _ _⟩
          · simp only [execOp, hb, asBool, Sem.run_bind, Sem.run_pure, Result.andThen_ok]
          · cases t
            · simpa using rel hy
            · simpa using rel hx
        · cases h
      · cases hc
    · cases hc
  case alloc => split at hc <;> cases hc
  case box => split at hc <;> cases hc
  case build t parts =>
    split at hc
    · rename_i z l hz hl
      obtain ⟨hok, hc⟩ := ite_some hc
      simp only [Option.some.injEq, Ins.p.injEq] at hc
      obtain ⟨rfl, rfl⟩ := hc
      simp only [evalP] at h
      split at h
      · rename_i cs hcs
        cases h
        exact ⟨rfl, (build_rel hs he hz hl hok hcs).next⟩
      · cases h
    · cases hc
  case buildSlice t len parts =>
    split at hc
    · rename_i el hu
      split at hc
      · rename_i z l hz hl
        split at hc
        · cases hc
        · rename_i hcnd
          simp only [not_or, Decidable.not_not] at hcnd
          simp only [Option.some.injEq, Ins.p.injEq] at hc
          obtain ⟨rfl, rfl⟩ := hc
          simp only [evalP] at h
          split at h
          · rename_i cs hcs
            split at h
            · rename_i ds hds
              cases h
              exact ⟨rfl, (bslice_rel hs he hu hz hl hcnd.1 hcnd.2.1 hcnd.2.2 hcs hds).next⟩
            · cases h
          · cases h
      · cases hc
    · cases hc
  case insert => cases hc
  case load t x =>
    obtain ⟨hok, hc⟩ := ite_some hc
    split at hc
    · rename_i x' hx
      simp only [Option.some.injEq, Ins.p.injEq] at hc
      obtain ⟨rfl, rfl⟩ := hc
      obtain ⟨cv, h1, h2⟩ := loadAt_rel hs hok (rel hx) h
      exact ⟨rfl, (PStep.still hs h1 h2).next⟩
    · cases hc
  case store =>
    exfalso; revert hc; (repeat' split) <;> simp
  case ready => cases hc
  case waits => cases hc
  case nilCheck x =>
    split at hc
    · rename_i x' hx
      simp only [Option.some.injEq, Ins.p.injEq] at hc
      obtain ⟨rfl, rfl⟩ := hc
      simp only [evalP] at h
      refine ⟨rfl, ?_⟩
      have hr := rel hx
      generalize x'.ev e = y at h hr
      unfold nilCheckV at h
      split at h
      · cases h
        refine ⟨_, w, g, ?_, hs, hr, Ev.refl _ _ _⟩
        have : ∃ q, a.eval x = .pointer (some q) := by generalize a.eval x = z at hr; cases hr; exact ⟨_, rfl⟩
        obtain ⟨q, hq⟩ := this
        simp [execOp, hq]
      · cases h
        refine ⟨_, w, g, ?_, hs, hr, Ev.refl _ _ _⟩
        have : ∃ q, a.eval x = .pointer (some q) := by generalize a.eval x = z at hr; cases hr; exact ⟨_, rfl⟩
        obtain ⟨q, hq⟩ := this
        simp [execOp, hq]
      · cases h
        refine ⟨_, w, g, ?_, hs, hr, Ev.refl _ _ _⟩
        have : ∃ k f' c', a.eval x = .func (.func k) f' c' := by generalize a.eval x = z at hr; cases hr; exact ⟨_, _, _, rfl⟩
        obtain ⟨k, f', c', hq⟩ := this
        simp [execOp, hq]
      · cases h
    · cases hc
  case binOp bop t x y yt =>
    split at hc
    · rename_i ty ks ht
      split at hc
      · rename_i x' y' hx hy
        simp only [Option.some.injEq, Ins.p.injEq] at hc
        obtain ⟨rfl, rfl⟩ := hc
        obtain ⟨cv, h1, h2⟩ := evalBin_rel ht hx hy (rel hx) (rel hy) h
        exact ⟨rfl, (PStep.still hs h1 h2).next⟩
      · cases hc
    · cases hc
  case unOp uop t x =>
    split at hc
    · rename_i x' hx
      simp only [Option.some.injEq, Ins.p.injEq] at hc
      obtain ⟨rfl, rfl⟩ := hc
      obtain ⟨cv, h1, h2⟩ := evalUn_rel (P := P) (rel hx) h
      exact ⟨rfl, (PStep.still hs h1 h2).next⟩
    · cases hc
  case convert src dt x =>
    split at hc
    · rename_i k hk
      split at hc
      · rename_i x' hx
        simp only [Option.some.injEq, Ins.p.injEq] at hc
        obtain ⟨rfl, rfl⟩ := hc
        exact ⟨rfl, (conv_rel hs hk (rel hx) h).next⟩
      · cases hc
    · cases hc
  case sliceToArrayPointer => cases hc
  case makeInterface t x =>
    obtain ⟨hok, hc⟩ := ite_some hc
    split at hc
    · rename_i x' hx
      simp only [Option.some.injEq, Ins.p.injEq] at hc
      obtain ⟨rfl, rfl⟩ := hc
      exact ⟨rfl, (mkif_rel hs hok (rel hx) h).next⟩
    · cases hc
  case makeFunc f first caps =>
    split at hc
    · rename_i l1 l2 h1 h2
      simp only [Option.some.injEq, Ins.p.injEq] at hc
      obtain ⟨rfl, rfl⟩ := hc
      simp only [evalP, Option.some.injEq] at h
      subst h
      refine ⟨rfl, (PStep.still hs (cv := .func f (first.map a.eval) (caps.map a.eval)) (by simp [Instr.makeFunc]) ?_).next⟩
      have v1 := opds_vrs he h1
      have v2 := opds_vrs he h2
      exact .fn _ _ _ _ _ (by have := v1.length; simpa using this) (by have := v2.length; simpa using this) (fun i c v hc hv => v1.get i c v hc (by simpa using hv)) (fun i c v hc hv => v2.get i c v hc (by simpa using hv))
    · cases hc
  case makeMap t r => cases r <;> cases hc
  case makeChan => cases hc
  case makeSlice =>
    split at hc
    · split at hc
      · split at hc <;> cases hc
      · cases hc
    · cases hc
  case slice t x lo hi mx =>
    split at hc
    · rename_i hu hl hh hm
      split at hc
      · rename_i x' hx
        simp only [Option.some.injEq, Ins.p.injEq] at hc
        obtain ⟨rfl, rfl⟩ := hc
        have hmx : mx = none := by
          cases mx with
          | none => rfl
          | some m => simp [optOpd] at hm; split at hm <;> simp at hm
        subst hmx
        exact ⟨rfl, (sliceStr_rel hs hu (rel hx) (opt_rel he hl) (opt_rel he hh) h).next⟩
      · cases hc
    · rename_i el hu hl hh hm
      split at hc
      · cases hc
      · rename_i hcell
        split at hc
        · rename_i x' hx
          simp only [Option.some.injEq, Ins.p.injEq] at hc
          obtain ⟨rfl, rfl⟩ := hc
          exact ⟨rfl, (slice_rel hs hu hcell (rel hx) (opt_rel he hl) (opt_rel he hh) (opt_rel he hm) h).next⟩
        · cases hc
    · rename_i n' el hu hl hh hm
      split at hc
      · cases hc
      · rename_i hcell
        split at hc
        · rename_i x' hx
          simp only [Option.some.injEq, Ins.p.injEq] at hc
          obtain ⟨rfl, rfl⟩ := hc
          have hmx : mx = none := by
            cases mx with
            | none => rfl
            | some m => simp [optOpd] at hm; split at hm <;> simp at hm
          subst hmx
          exact ⟨rfl, (sliceArr_rel hs hu hcell (rel hx) (opt_rel he hl) (opt_rel he hh) h).next⟩
        · cases hc
    · cases hc
  case fieldAddr t x i =>
    split at hc
    · rename_i off ft hf
      split at hc
      · rename_i x' hx
        simp only [Option.some.injEq, Ins.p.injEq] at hc
        obtain ⟨rfl, rfl⟩ := hc
        exact ⟨rfl, (faddr_rel hs hf (rel hx) h).next⟩
      · cases hc
    · cases hc
  case field t x i =>
    split at hc
    · rename_i off ft hf
      split at hc
      · rename_i x' hx
        simp only [Option.some.injEq, Ins.p.injEq] at hc
        obtain ⟨rfl, rfl⟩ := hc
        exact ⟨rfl, (field_rel hs hf (rel hx) h).next⟩
      · cases hc
    · cases hc
  case indexAddr t x i =>
    split at hc
    · rename_i el hu
      split at hc
      · cases hc
      · rename_i hcell
        split at hc
        · rename_i x' i' hx hi
          simp only [Option.some.injEq, Ins.p.injEq] at hc
          obtain ⟨rfl, rfl⟩ := hc
          exact ⟨rfl, (iaddr_rel hs hu hcell (rel hx) (rel hi) h).next⟩
        · cases hc
    · rename_i n' el hu
      split at hc
      · cases hc
      · rename_i hcell
        split at hc
        · rename_i x' i' hx hi
          simp only [Option.some.injEq, Ins.p.injEq] at hc
          obtain ⟨rfl, rfl⟩ := hc
          exact ⟨rfl, (iaddrArr_rel hs hu hcell (rel hx) (rel hi) h).next⟩
        · cases hc
    · cases hc
  case index t x i =>
    split at hc
    · rename_i hu
      split at hc
      · rename_i x' i' hx hi
        simp only [Option.some.injEq, Ins.p.injEq] at hc
        obtain ⟨rfl, rfl⟩ := hc
        exact ⟨rfl, (indexStr_rel hs hu (rel hx) (rel hi) h).next⟩
      · cases hc
    · rename_i n' el hu
      split at hc
      · cases hc
      · rename_i hcell
        simp only [not_or, Bool.not_eq_false] at hcell
        split at hc
        · rename_i x' i' hx hi
          simp only [Option.some.injEq, Ins.p.injEq] at hc
          obtain ⟨rfl, rfl⟩ := hc
          exact ⟨rfl, (index_rel hs hu hcell.2 (rel hx) (rel hi) h).next⟩
        · cases hc
    · cases hc
  case lookup t x k ok =>
    split at hc
    · rename_i kt et hu
      split at hc
      · rename_i ka ks z hcK hz
        split at hc
        · rename_i x' k' hx hk
          simp only [Option.some.injEq, Ins.p.injEq] at hc
          obtain ⟨rfl, rfl⟩ := hc
          exact ⟨rfl, (lookup_rel hs hu hcK hz (rel hx) (rel hk) h).next⟩
        · cases hc
      · cases hc
    · cases hc
  case mapUpdate => split at hc <;> cases hc
  case mapEntry => cases hc
  case entryStore => cases hc
  case range => split at hc <;> cases hc
  case next =>
    split at hc
    · split at hc <;> cases hc
    · cases hc
  case entry => split at hc <;> cases hc
  case typeAssert x xt t ok =>
    split at hc
    · rename_i z hz
      obtain ⟨hct, hc⟩ := ite_some hc
      split at hc
      · rename_i x' hx
        simp only [Option.some.injEq, Ins.p.injEq] at hc
        obtain ⟨rfl, rfl⟩ := hc
        exact ⟨rfl, (assert_rel hs hz hct (rel hx) h).next⟩
      · cases hc
    · cases hc
  case extract x i =>
    split at hc
    · rename_i x' hx
      simp only [Option.some.injEq, Ins.p.injEq] at hc
      obtain ⟨rfl, rfl⟩ := hc
      exact ⟨rfl, (extract_rel hs (rel hx) h).next⟩
    · cases hc
  case call c =>
    obtain ⟨callee, args, argTypes⟩ := c
    unfold compCall at hc
    split at hc
    case h_3 b hb =>
      simp only at hb
      subst hb
      unfold compBuiltin at hc
      split at hc
      case h_1 =>
        simp only at hc
        split at hc
        · rename_i t x ht hx
          have hargs : args.toList.map a.eval = (args.map a.eval).toList := by simp
          have hv := opds_vrs he hx
          rw [hargs] at hv
          have h1 : ∃ cx, args.map a.eval = #[cx] ∧ VR g σ.toks w (x.ev e) cx := by
            match hm : (args.map a.eval).toList, hv with
            | [cx], hv => exact ⟨cx, by apply Array.ext'; simpa using hm, hv.1⟩
            | [], hv => exact hv.elim
            | _ :: _ :: _, hv => exact hv.2.elim
          obtain ⟨cx, hcx, hvr⟩ := h1
          have hat : ∃ rest, argTypes = (t :: rest).toArray := by
            cases hl : argTypes.toList with
            | nil => have : argTypes = #[] := by apply Array.ext'; simpa using hl
                     subst this; simp at ht
            | cons u r =>
              have : argTypes = (u :: r).toArray := by apply Array.ext'; simpa using hl
              subst this
              simp at ht
              subst ht
              exact ⟨r, rfl⟩
          have hlen0 : ∀ {ty : Ty} {m : Nat}, ((ty = .str ∧ P.underlying t = some .string) ∨ (ty = .slice ∧ ∃ e, P.underlying t = some (.slice e)) ∨ (ty = .map ∧ ∃ k e, P.underlying t = some (.map k e))) → lenT σ ty (x.ev e) = some m → PStep P g σ w (Builtin.len_ argTypes oty #[cx]) (.d (.int .i64 m)) := by
            intro ty m h1 h2
            obtain ⟨cv, w', g', r1, r2⟩ := len_rel (P := P) hs h1 hvr h2 oty
            refine ⟨cv, w', g', ?_, r2⟩
            unfold Builtin.len_ at r1 ⊢
            simp only [ht]
            simpa using r1
          split at hc
          · rename_i n' el hu
            simp only [Option.some.injEq, Ins.p.injEq] at hc
            obtain ⟨rfl, rfl⟩ := hc
            simp only [evalP, Option.some.injEq] at h
            subst h
            refine ⟨rfl, builtin_next rfl (s := Builtin.len_ argTypes oty #[cx]) (fun _ => by rw [hcx]; rfl) ?_⟩
            refine PStep.still hs (cv := .int .i64 n') ?_ (.int _ _)
            unfold Builtin.len_
            simp [ht, run_underlying hu, goInt]
          · rename_i hu
            simp only [Option.some.injEq, Ins.p.injEq] at hc
            obtain ⟨rfl, rfl⟩ := hc
            simp only [evalP] at h
            split at h
            · cases h
              exact ⟨rfl, builtin_next rfl (s := Builtin.len_ argTypes oty #[cx]) (fun _ => by rw [hcx]; rfl) (hlen0 (.inl ⟨rfl, hu⟩) (by assumption))⟩
            · cases h
          · rename_i el hu
            simp only [Option.some.injEq, Ins.p.injEq] at hc
            obtain ⟨rfl, rfl⟩ := hc
            simp only [evalP] at h
            split at h
            · cases h
              exact ⟨rfl, builtin_next rfl (s := Builtin.len_ argTypes oty #[cx]) (fun _ => by rw [hcx]; rfl) (hlen0 (.inr (.inl ⟨rfl, el, hu⟩)) (by assumption))⟩
            · cases h
          · rename_i k el hu
            simp only [Option.some.injEq, Ins.p.injEq] at hc
            obtain ⟨rfl, rfl⟩ := hc
            simp only [evalP] at h
            split at h
            · cases h
              exact ⟨rfl, builtin_next rfl (s := Builtin.len_ argTypes oty #[cx]) (fun _ => by rw [hcx]; rfl) (hlen0 (.inr (.inr ⟨rfl, k, el, hu⟩)) (by assumption))⟩
            · cases h
          · cases hc
        · cases hc
      case h_5 =>
        split at hc
        · rename_i l hx
          simp only [Option.some.injEq, Ins.p.injEq] at hc
          obtain ⟨rfl, rfl⟩ := hc
          have hv := opds_vrs he hx
          rw [show args.toList.map a.eval = (args.map a.eval).toList by simp] at hv
          exact ⟨rfl, builtin_next rfl (s := Builtin.min_ argTypes oty (args.map a.eval)) (fun _ => rfl) (min_rel hs hv h _ _)⟩
        · cases hc
      case h_6 =>
        split at hc
        · rename_i l hx
          simp only [Option.some.injEq, Ins.p.injEq] at hc
          obtain ⟨rfl, rfl⟩ := hc
          have hv := opds_vrs he hx
          rw [show args.toList.map a.eval = (args.map a.eval).toList by simp] at hv
          exact ⟨rfl, builtin_next rfl (s := Builtin.max_ argTypes oty (args.map a.eval)) (fun _ => rfl) (max_rel hs hv h _ _)⟩
        · cases hc
      case h_8 =>
        split at hc
        · rename_i t x ht hx
          have hargs : args.toList.map a.eval = (args.map a.eval).toList := by simp
          have hv := opds_vrs he hx
          rw [hargs] at hv
          have h1 : ∃ cx, args.map a.eval = #[cx] ∧ VR g σ.toks w (x.ev e) cx := by
            match hm : (args.map a.eval).toList, hv with
            | [cx], hv => exact ⟨cx, by apply Array.ext'; simpa using hm, hv.1⟩
            | [], hv => exact hv.elim
            | _ :: _ :: _, hv => exact hv.2.elim
          obtain ⟨cx, hcx, hvr⟩ := h1
          split at hc
          · rename_i el hu
            simp only [Option.some.injEq, Ins.p.injEq] at hc
            obtain ⟨rfl, rfl⟩ := hc
            simp only [evalP] at h
            split at h
            · rename_i hx0
              cases h
              rw [hx0] at hvr
              cases hvr.inv_d
              refine ⟨rfl, builtin_next rfl (s := Builtin.cap_ argTypes oty #[.slice none 0 0]) (fun _ => by rw [hcx]; rfl) ?_⟩
              refine PStep.still hs (cv := .int .i64 0) ?_ (.int _ _)
              unfold Builtin.cap_
              simp [ht, run_underlying hu, goInt]
            · cases h
          · cases hc
        · cases hc
      all_goals (exfalso; revert hc; (repeat' split) <;> simp)
    all_goals (exfalso; revert hc; (repeat' split) <;> simp)
  case go => cases hc
  case defer => cases hc
  case panic =>
    simp only [Option.some.injEq, Ins.p.injEq] at hc
    obtain ⟨rfl, rfl⟩ := hc
    simp [evalP, Opd.ev, extractV] at h
  case send => cases hc
  case recv => cases hc
  case select => cases hc

end Go.Dn

/- New objects; writes into objects. -/
namespace Go.Dn
open Go.Lib

set_option linter.unusedSimpArgs false

variable {P:Program} {g:Gh} {σ:St} {tk:List Nat} {w:World}

def Gh.add (g:Gh)(r b n m:Nat):Gh :=
 { g with has:=fun q=>g.has q∨q=r,obj:=fun q=>if q=r then(b,0) else g.obj q,len:=fun q=>if q=r then n else g.len q,lim:=fun q=>if q=r then m else g.lim q }

theorem place_inv {tg:Option Nat}{o:Obj} {σ':St}(h:σ.place tg o=some σ') :
  σ'.toks=σ.toks∧(∀ q,q≠σ.spot tg→σ'.objs[q]?=σ.objs[q]?)∧σ'.objs[σ.spot tg]?=some o∧σ.objs.length≤σ'.objs.length∧(σ.objs[σ.spot tg]?=none∨σ.objs[σ.spot tg]?=some .free):=by
 unfold St.place at h
 cases tg with
 | none =>
  simp only [Option.some.injEq] at h
  subst h
  refine⟨rfl,fun q hq=>?_,?_,by simp [St.push],?_⟩
  ·simp only [St.spot] at hq
   simp only [St.push]
   rcases Nat.lt_or_ge q σ.objs.length with h | h
   ·rw [List.getElem?_append_left h]
   ·rw [List.getElem?_eq_none (by simp; omega),List.getElem?_eq_none h]
  ·simp [St.push,St.spot]
  ·left; simp [St.spot]
 | some r =>
  simp only at h
  split at h
  ·rename_i hr
   simp only [Option.some.injEq] at h
   subst h
   have hlt:r<σ.objs.length:=by
    rcases Nat.lt_or_ge r σ.objs.length with h | h
    ·exact h
    ·rw [List.getElem?_eq_none h] at hr; cases hr
   refine⟨rfl,fun q hq=>?_,?_,by simp [St.setObj],.inr hr⟩
   ·simp only [St.spot] at hq
    simp only [St.setObj]
    rw [List.getElem?_set_ne (fun e=>hq e.symm)]
   ·simp [St.setObj,St.spot,hlt]
  ·cases h

theorem Sim.new_obj2 (hs:Sim g σ w){tg:Option Nat}{cs:List V} {σ':St}(hp:σ.place tg (.cells cs)=some σ'){c:Array Value}{e:TypeId}{us:List Value}(hr:VRs g σ.toks w cs us)(ho : ∀ v∈us,oneC v=true)(hus : ∀ (j:Nat)(v:Value),us[j]?=some v→c[j]?=some v)
  {w':World} (hw:Grown1 w (.cells c e) w') :
  Sim (g.add (σ.spot tg) w.heap.size cs.length c.size) σ' w'∧Ev g σ w (g.add (σ.spot tg) w.heap.size cs.length c.size) σ' w':=by
 obtain⟨p1,p2,p3,p4,p5⟩:=place_inv hp
 have hnh : ¬ g.has (σ.spot tg):=by
  intro hh
  rcases p5 with h | h
  ·have:=hs.bound _ hh
   rw [List.getElem?_eq_none_iff] at h
   omega
  ·exact hs.free _ h hh
 have hcell : ∀ b q,g.frz b q→w'.cell? ⟨b,q,none⟩=w.cell? ⟨b,q,none⟩:=fun b q hf=>by
  obtain⟨v,hv⟩:=hs.frzb b q hf
  exact hw.cell (cell_lt hv) q
 have keep : ∀ r,g.has r→r≠σ.spot tg:=fun r hr e=>hnh (e▸hr)
 have hl:Later g σ.toks w (g.add (σ.spot tg) w.heap.size cs.length c.size) σ'.toks w':=by
  refine⟨⟨fun b q hf=>hf,hcell⟩,fun r hr=>⟨.inl hr,?_,?_⟩,fun t k ht=>⟨k,by rw [p1]; exact ht,Nat.le_refl _,fun _=>rfl,rfl⟩,rfl,fun r hr=>by simp [Gh.add,keep r hr]⟩
  ·simp [Gh.add,keep r hr]
  ·simp [Gh.add,keep r hr]
 have hlt : ∀ (r:Nat) (o:Obj),σ.objs[r]?=some o→o.live→(g.obj r).1<w.heap.size:=fun r o h1 h2=>hs.blk h1 h2
 refine⟨⟨fun r o h1 h2=>?_,fun r hr=>?_,fun r hr=>?_,fun r cs' hr'=>?_,fun r o hr' hoth=>?_,fun r r' o o' h1 h2 h3 h4 hne=>?_,fun r o h1 h2 q=>?_,fun t k ht=>?_,fun t t' k k' h1 h2 h3=>?_,fun t k r o h1 h2 h3=>?_,fun b q hf=>?_,fun r cs' hr'=>?_⟩,
  ⟨hl,by rw [hw.size]; omega,hw.os,hw.tape,hw.output,fun b hb _=>hw.old hb,fun b hb=>?_,fun b q hf=>.inl hf⟩⟩
 ·by_cases hq:r=σ.spot tg
  ·exact .inr hq
  ·exact .inl (hs.has r o (by rw [← p2 r hq]; exact h1) h2)
 ·rcases hr with hr | rfl
  ·exact Nat.lt_of_lt_of_le (hs.bound r hr) p4
  ·rcases Nat.lt_or_ge (σ.spot tg) σ'.objs.length with h | h
   ·exact h
   ·rw [List.getElem?_eq_none h] at p3; cases p3
 ·intro hh
  by_cases hq:r=σ.spot tg
  ·subst hq; rw [p3] at hr; cases hr
  ·rcases hh with hh | hh
   ·exact hs.free r (by rw [← p2 r hq]; exact hr) hh
   ·exact hq hh
 ·by_cases hq:r=σ.spot tg
  ·subst hq
   rw [p3] at hr'
   cases hr'
   refine⟨by simp [Gh.add],c,e,(0,0),by simp [Gh.add,hw.new],fun o h=>by omega,fun j v hj=>?_⟩
   have hj':j<cs.length:=by
    rcases Nat.lt_or_ge j cs.length with h | h
    ·exact h
    ·rw [List.getElem?_eq_none h] at hj; cases hj
   have hju:j<us.length:=by have:=hr.length; omega
   have huj:us[j]?=some us[j]:=by simp [hju]
   refine⟨us[j],by simpa [Gh.add] using hus j _ huj,ho _ (by simp),?_⟩
   exact(hr.get j v us[j] hj huj).later hl
  ·obtain⟨h1,c',e',fz',hb,hn,hc⟩:=hs.cells r cs' (by rw [← p2 r hq]; exact hr')
   refine⟨by simp [Gh.add,hq,h1],c',e',fz',by simp only [Gh.add,hq,if_false]; rw [hw.old (block_lt hb)]; exact hb,hn,fun j v hj=>?_⟩
   obtain⟨cv,r1,r2,r3⟩:=hc j v hj
   exact⟨cv,by simp only [Gh.add,hq,if_false]; exact r1,r2,r3.later hl⟩
 ·by_cases hq:r=σ.spot tg
  ·subst hq; rw [p3] at hr'; cases hr'; exact hoth.elim
  ·obtain⟨x,a1,a2⟩:=hs.oth r o (by rw [← p2 r hq]; exact hr') hoth
   exact⟨x,by simp only [Gh.add,hq,if_false]; rw [hw.old (block_lt a1)]; exact a1,(by rw [p1] at *; exact a2.later hl:OthR _ σ'.toks w' o x)⟩
 ·by_cases hq:r=σ.spot tg
  ·by_cases hq':r'=σ.spot tg
   ·exact absurd (hq.trans hq'.symm) hne
   ·have:=hlt r' o' (by rw [← p2 r' hq']; exact h3) h4
    simp only [Gh.add,hq,hq',if_true,if_false]
    omega
  ·have l1:=hlt r o (by rw [← p2 r hq]; exact h1) h2
   by_cases hq':r'=σ.spot tg
   ·simp only [Gh.add,hq,hq',if_true,if_false]
    omega
   ·simp only [Gh.add,hq,hq',if_false]
    exact hs.dist r r' o o' (by rw [← p2 r hq]; exact h1) h2 (by rw [← p2 r' hq']; exact h3) h4 hne
 ·by_cases hq:r=σ.spot tg
  ·simp only [Gh.add,hq,if_true]
   intro hf
   obtain⟨v,hv⟩:=hs.frzb _ _ hf
   have:=cell_lt hv
   omega
  ·simp only [Gh.add,hq,if_false]
   exact hs.nofrz r o (by rw [← p2 r hq]; exact h1) h2 q
 ·rw [p1] at ht
  obtain⟨h0,c',e',fz',hb,hn,hsz,hf⟩:=hs.tok t k ht
  exact⟨h0,c',e',fz',by rw [show((g.add (σ.spot tg) w.heap.size cs.length c.size).tok t)=g.tok t from rfl,hw.old (block_lt hb)]; exact hb,hn,hsz,hf⟩
 ·rw [p1] at h1 h2
  exact hs.tdist t t' k k' h1 h2 h3
 ·rw [p1] at h1
  obtain⟨h0,c',e',fz',hb,_⟩:=hs.tok t k h1
  have:=block_lt hb
  by_cases hq:r=σ.spot tg
  ·simp only [Gh.add,hq,if_true]
   omega
  ·simp only [Gh.add,hq,if_false]
   exact hs.tobj t k r o h1 (by rw [← p2 r hq]; exact h2) h3
 ·obtain⟨v,hv⟩:=hs.frzb b q hf
  exact⟨v,by rw [hcell b q hf]; exact hv⟩
 ·by_cases hq:r=σ.spot tg
  ·subst hq
   rw [p3] at hr'
   cases hr'
   refine⟨?_,fun c' e' fz' hb=>?_⟩
   ·simp only [Gh.add,if_true]
    rw [hr.length]
    rcases Nat.eq_zero_or_pos us.length with h0 | h0
    ·omega
    ·have h1:=hus (us.length-1) us[us.length-1] (by simp [show us.length-1<us.length by omega])
     have:=(Array.getElem?_eq_some_iff.1 h1).1
     omega
   ·simp only [Gh.add,if_true] at hb ⊢
    rw [hw.new] at hb
    cases hb
    omega
  ·have hr2:σ.objs[r]?=some (.cells cs'):=by rw [← p2 r hq]; exact hr'
   refine⟨by simp only [Gh.add,hq,if_false]; exact(hs.lims r cs' hr2).1,fun c' e' fz' hb=>?_⟩
   simp only [Gh.add,hq,if_false] at hb ⊢
   exact(hs.lims r cs' hr2).2 c' e' fz' (by rw [← hw.old (hs.blk hr2 trivial)]; exact hb)
 ·rcases hb with⟨r,o,h1,h2,rfl⟩ | ⟨t,k,ht,rfl⟩
  ·by_cases hq:r=σ.spot tg
   ·right; simp [Gh.add,hq]
   ·left
    simp only [Gh.add,hq,if_false]
    exact .inl ⟨r,o,by rw [← p2 r hq]; exact h1,h2,rfl⟩
  ·left
   exact .inr ⟨t,k,by rw [← p1]; exact ht,rfl⟩

theorem Sim.new_obj (hs:Sim g σ w){tg:Option Nat}{cs:List V} {σ':St}(hp:σ.place tg (.cells cs)=some σ'){c:Array Value}{e:TypeId}(hr:VRs g σ.toks w cs c.toList)(ho : ∀ v∈c.toList,oneC v=true)
  {w':World} (hw:Grown1 w (.cells c e) w') :
  Sim (g.add (σ.spot tg) w.heap.size cs.length c.size) σ' w'∧Ev g σ w (g.add (σ.spot tg) w.heap.size cs.length c.size) σ' w' :=
 hs.new_obj2 hp hr ho (fun j v h=>by simpa using h) hw

def EStep (P:Program)(g:Gh) (σ:St)(w:World)(s:Sem Value)(v:V) (σ':St):Prop :=
 ∃ cv w' g',s.run P w = .ok cv w'∧Sim g' σ' w'∧VR g' σ'.toks w' v cv∧Ev g σ w g' σ' w'

theorem newObj_inv {tg:Option Nat}{o:Obj}{f:Nat→V}{v:V} {σ':St}(h:Dn.newObj σ tg o f=some (v,σ')):σ.place tg o=some σ'∧v=f (σ.spot tg):=by
 unfold Dn.newObj at h
 split at h
 ·cases h; exact⟨by assumption,rfl⟩
 ·cases h

theorem grown_push (w:World)(o:Go.Obj):Grown1 w o { w with heap:=w.heap.push o }:=⟨rfl,rfl,rfl,rfl⟩

theorem alloc_rel (hs:Sim g σ w){t:TypeId}{z:List D}(hz:zeroOf P t=some z){tg:Option Nat}{v:V} {σ':St}(h:Dn.newObj σ tg (.cells (z.map .d)) (fun r=>.ref r 0)=some (v,σ')) :
  EStep P g σ w (Instr.alloc t true (.tuple #[])) v σ':=by
 obtain⟨hp,rfl⟩:=newObj_inv h
 obtain⟨i,zv,hi,hzv,hleaf⟩:=zeroOf_inv hz
 obtain⟨z1,z2⟩:=leafsD_vrs (g:=g) (tk:=σ.toks) (w:=w) hleaf
 obtain⟨s1,s2⟩:=hs.new_obj hp z1 z2 (grown_push w (.cells zv.cells t))
 refine⟨.pointer (some ⟨w.heap.size,0,none⟩),_,_,?_,s1,?_,s2⟩
 ·simp [Instr.alloc,run_zeroValue hi hzv,newVar,newRow,newObj,Sem.run]
 ·have:=VR.ref (g:=g.add (σ.spot tg) w.heap.size (z.map V.d).length zv.cells.size) (tk:=σ'.toks) (w:={ w with heap:=w.heap.push (.cells zv.cells t) }) (σ.spot tg) 0 (.inr rfl)
  simpa [Gh.add] using this

theorem box_rel (hs:Sim g σ w){t:TypeId}{x v:V}{cx:Value}(hx:VR g σ.toks w x cx){l:List V}(hl:x.cells=some l){tg:Option Nat} {σ':St}(h:Dn.newObj σ tg (.cells l) (fun r=>.ref r 0)=some (v,σ')) :
  EStep P g σ w (Instr.box t cx) v σ':=by
 obtain⟨hp,rfl⟩:=newObj_inv h
 obtain⟨z1,z2⟩:=hx.cells hl
 obtain⟨s1,s2⟩:=hs.new_obj hp z1 z2 (grown_push w (.cells cx.cells t))
 refine⟨.pointer (some ⟨w.heap.size,0,none⟩),_,_,?_,s1,?_,s2⟩
 ·simp [Instr.box,newVar,newRow,newObj,Sem.run]
 ·have:=VR.ref (g:=g.add (σ.spot tg) w.heap.size l.length cx.cells.size) (tk:=σ'.toks) (w:={ w with heap:=w.heap.push (.cells cx.cells t) }) (σ.spot tg) 0 (.inr rfl)
  simpa [Gh.add] using this

end Go.Dn

/- Writes into objects. -/
namespace Go.Dn
open Go.Lib

set_option linter.unusedSimpArgs false

variable {P:Program} {g:Gh} {σ:St} {tk:List Nat} {w:World}

def putB (w:World)(b:Nat)(o:Go.Obj):World:={ w with heap:=w.heap.setIfInBounds b o }

theorem putB_same (w:World){b:Nat}(o:Go.Obj)(h:b<w.heap.size):(putB w b o).heap[b]?=some o:=by simp [putB,h]
theorem putB_other (w:World){b b':Nat}(o:Go.Obj)(h:b≠b'):(putB w b o).heap[b']?=w.heap[b']?:=by simp [putB,Array.getElem?_setIfInBounds_ne h]
theorem putB_putB (w:World)(b:Nat)(o o':Go.Obj):putB (putB w b o) b o'=putB w b o':=by
 simp [putB]
theorem putB_cell (w:World){b b':Nat}(o:Go.Obj)(h:b≠b')(q:Nat):(putB w b o).cell? ⟨b',q,none⟩=w.cell? ⟨b',q,none⟩:=by
 unfold World.cell?
 rw [putB_other w o h]

theorem oneC_cell {v:Value}(h:oneC v=true):v.oneCell'=true:=by
 cases v <;> simp [oneC] at h <;> rfl

theorem setCell_putB {b o:Nat}{c:Array Value}{e:TypeId}{fz:Nat×Nat}(h:w.heap[b]?=some (.cells c e fz))(v:Value) :
  w.setCell ⟨b,o,none⟩ v=putB w b (.cells (c.setIfInBounds o v) e fz):=by
 have hlt:=block_lt h
 have hb:w.heap[b] = .cells c e fz:=by simpa [hlt] using h
 unfold World.setCell putB
 congr 1
 apply Array.ext_getElem?
 intro i
 rw [Array.getElem?_modify,Array.getElem?_setIfInBounds]
 by_cases hi:b=i
 ·subst hi
  simp [hlt,hb]
 ·simp [hi]

theorem run_storeCells_own (b o:Nat)(e:TypeId)(fz:Nat×Nat) : ∀ (vs:List Value)(i:Nat)(c:Array Value)(w:World),w.heap[b]?=some (.cells c e fz)→NoFz c fz→o+i+vs.length≤c.size→(∀ v∈vs,oneC v=true) →
  (storeCells ⟨b,o,none⟩ vs i).run P w = .ok () (putB w b (.cells (splice c.toList (o+i) vs).toArray e fz))
 | [],i,c,w,h,hn,hl,h1=>by
  have:putB w b (.cells (splice c.toList (o+i) []).toArray e fz)=w:=by
   have hlt:=block_lt h
   have hb:w.heap[b] = .cells c e fz:=by simpa [hlt] using h
   unfold putB
   have:(splice c.toList (o+i) []).toArray=c:=by simp [splice]
   rw [this]
   have:w.heap.setIfInBounds b (.cells c e fz)=w.heap:=by
    apply Array.ext_getElem?
    intro j
    rw [Array.getElem?_setIfInBounds]
    split
    ·rename_i hj; subst hj; simp [hlt,hb]
    ·rfl
   rw [this]
  rw [this]
  rfl
 | v::vs,i,c,w,h,hn,hl,h1=>by
  simp only [List.length_cons] at hl
  have hadd:(⟨b,o,none⟩:Addr).add i=⟨b,o+i,none⟩:=addr_add b o i
  have hcell:w.cell? ⟨b,o+i,none⟩=some c[o+i]:=by rw [cell_of_block h]; simp [show o+i<c.size by omega]
  have hfz:w.frozen? ⟨b,o+i,none⟩=false:=by
   obtain⟨lo,hi⟩:=fz
   have:=hn (o+i) (by omega)
   simp only [World.frozen?,h]
   by_cases h1:lo≤o+i
   ·have h2 : ¬ (o+i<hi):=fun h2=>this ⟨h1,h2⟩
    simp [h1,h2]
   ·simp [h1]
  have hst:(store ((⟨b,o,none⟩:Addr).add i) v).run P w = .ok () (putB w b (.cells (c.setIfInBounds (o+i) v) e fz)):=by
   rw [hadd,run_store P w _ v _ (oneC_cell (h1 v (by simp))),← setCell_putB h]
   simp [hcell,hfz]
  have hn':NoFz (c.setIfInBounds (o+i) v) fz:=fun q hq=>hn q (by simpa using hq)
  have ih:=run_storeCells_own b o e fz vs (i+1) (c.setIfInBounds (o+i) v) (putB w b (.cells (c.setIfInBounds (o+i) v) e fz)) (putB_same w _ (block_lt h)) hn' (by simp; omega) (fun u hu=>h1 u (by simp [hu]))
  unfold storeCells
  simp only [Sem.run_bind,hst,Result.andThen_ok,ih,putB_putB]
  congr 4
  apply List.ext_getElem?
  intro k
  rw [splice_get _ _ _ (by simp; omega),splice_get _ _ _ (by simp; omega)]
  simp only [List.length_cons,Array.toList_setIfInBounds]
  by_cases hk:o+(i+1)≤k∧k<o+(i+1)+vs.length
  ·rw [if_pos hk,if_pos ⟨by omega,by omega⟩,show k-(o+i)=(k-(o+(i+1)))+1 by omega,List.getElem?_cons_succ]
  ·rw [if_neg hk]
   by_cases hk2:k=o+i
   ·subst hk2
    rw [if_pos ⟨by omega,by omega⟩,List.getElem?_set_self (by simp; omega)]
    simp
   ·rw [if_neg (by omega),List.getElem?_set_ne (fun e=>hk2 e.symm)]

theorem Sim.write (hs:Sim g σ w){r:Nat}{cs cs':List V}(hr:σ.objs[r]?=some (.cells cs))(hlen:cs'.length=cs.length){c c':Array Value}{e:TypeId}{fz:Nat×Nat}(hb:w.heap[(g.obj r).1]?=some (.cells c e fz))(hc':c'.size=c.size)
  (hrel : ∀ (j:Nat) (v:V),cs'[j]?=some v→∃ cv,c'[(g.obj r).2+j]?=some cv∧oneC cv=true∧VR g σ.toks w v cv) :
  Sim g (σ.setObj r (.cells cs')) (putB w (g.obj r).1 (.cells c' e fz))∧Ev g σ w g (σ.setObj r (.cells cs')) (putB w (g.obj r).1 (.cells c' e fz)):=by
 have hrl:r<σ.objs.length:=by
  rcases Nat.lt_or_ge r σ.objs.length with h | h
  ·exact h
  ·rw [List.getElem?_eq_none h] at hr; cases hr
 have hcell : ∀ b q,g.frz b q→(putB w (g.obj r).1 (.cells c' e fz)).cell? ⟨b,q,none⟩=w.cell? ⟨b,q,none⟩:=fun b q hf =>
  putB_cell w _ (fun e=>hs.nofrz r _ hr trivial q (by rw [e]; exact hf)) q
 have hl:Later g σ.toks w g (σ.setObj r (.cells cs')).toks (putB w (g.obj r).1 (.cells c' e fz)) :=
  ⟨⟨fun b q hf=>hf,hcell⟩,fun q hq=>⟨hq,rfl,rfl⟩,fun t k ht=>⟨k,ht,Nat.le_refl _,fun _=>rfl,rfl⟩,rfl,fun _ _=>rfl⟩
 have obj : ∀ (q:Nat) (o:Obj),(σ.setObj r (.cells cs')).objs[q]?=some o→(q=r∧o = .cells cs')∨(q≠r∧σ.objs[q]?=some o):=by
  intro q o h
  simp only [St.setObj] at h
  by_cases hq:q=r
  ·subst hq
   rw [List.getElem?_set_self hrl] at h
   cases h
   exact .inl ⟨rfl,rfl⟩
  ·rw [List.getElem?_set_ne (fun e=>hq e.symm)] at h
   exact .inr ⟨hq,h⟩
 have old : ∀ (q:Nat) (o:Obj),(σ.setObj r (.cells cs')).objs[q]?=some o→o.live→∃ o',σ.objs[q]?=some o'∧o'.live:=by
  intro q o h1 h2
  rcases obj q o h1 with⟨rfl,rfl⟩ | ⟨_,h⟩
  ·exact⟨_,hr,trivial⟩
  ·exact⟨o,h,h2⟩
 refine⟨⟨fun q o h1 h2=>?_,fun q hq=>?_,fun q hq=>?_,fun q cs2 hq=>?_,fun q o hq hoth=>?_,fun q q' o o' h1 h2 h3 h4 hne=>?_,fun q o h1 h2=>?_,fun t k ht=>?_,hs.tdist,fun t k q o h1 h2 h3=>?_,fun b q hf=>?_,fun q cs2 hq=>?_⟩,
  ⟨hl,by simp [putB],rfl,rfl,rfl,fun b hb' hm=>?_,fun b hb'=>?_,fun b q hf=>.inl hf⟩⟩
 ·obtain⟨o',h3,h4⟩:=old q o h1 h2
  exact hs.has q o' h3 h4
 ·simpa [St.setObj] using hs.bound q hq
 ·rcases obj q _ hq with⟨_,h⟩ | ⟨_,h⟩
  ·cases h
  ·exact hs.free q h
 ·rcases obj q _ hq with⟨rfl,h⟩ | ⟨hne,h⟩
  ·cases h
   obtain⟨h1,c0,e0,fz0,hb0,hn0,_⟩:=hs.cells q cs hr
   rw [hb] at hb0
   cases hb0
   refine⟨by rw [hlen]; exact h1,c',e,fz,putB_same w _ (block_lt hb),fun o ho=>hn0 o (by omega),fun j v hj=>?_⟩
   obtain⟨cv,r1,r2,r3⟩:=hrel j v hj
   exact⟨cv,r1,r2,r3.later hl⟩
  ·obtain⟨h1,c0,e0,fz0,hb0,hn0,hcc⟩:=hs.cells q cs2 h
   have hbne:=hs.dist r q _ _ hr trivial h trivial (fun e=>hne e.symm)
   refine⟨h1,c0,e0,fz0,by rw [putB_other w _ hbne]; exact hb0,hn0,fun j v hj=>?_⟩
   obtain⟨cv,r1,r2,r3⟩:=hcc j v hj
   exact⟨cv,r1,r2,r3.later hl⟩
 ·rcases obj q _ hq with⟨_,rfl⟩ | ⟨hne,h⟩
  ·exact hoth.elim
  ·obtain⟨x,a1,a2⟩:=hs.oth q o h hoth
   exact⟨x,by rw [putB_other w _ (hs.dist r q _ _ hr trivial h hoth.live (fun e=>hne e.symm))]; exact a1,a2.later hl⟩
 ·obtain⟨p,a1,a2⟩:=old q o h1 h2
  obtain⟨p',b1,b2⟩:=old q' o' h3 h4
  exact hs.dist q q' p p' a1 a2 b1 b2 hne
 ·obtain⟨p,a1,a2⟩:=old q o h1 h2
  exact hs.nofrz q p a1 a2
 ·obtain⟨h0,c0,e0,fz0,hb0,hn0,hsz,hf⟩:=hs.tok t k ht
  have hbne:=hs.tobj t k r _ ht hr trivial
  exact⟨h0,c0,e0,fz0,by rw [putB_other w _ (fun e=>hbne e.symm)]; exact hb0,hn0,hsz,hf⟩
 ·obtain⟨p,a1,a2⟩:=old q o h2 h3
  exact hs.tobj t k q p h1 a1 a2
 ·obtain⟨v,hv⟩:=hs.frzb b q hf
  exact⟨v,by rw [hcell b q hf]; exact hv⟩
 ·rcases obj q _ hq with⟨rfl,h⟩ | ⟨hne,h⟩
  ·refine⟨(hs.lims q cs hr).1,fun c2 e2 fz2 hb2=>?_⟩
   rw [putB_same w _ (block_lt hb)] at hb2
   cases hb2
   rw [hc']
   exact(hs.lims q cs hr).2 _ _ _ hb
  ·refine⟨(hs.lims q cs2 h).1,fun c2 e2 fz2 hb2=>?_⟩
   rw [putB_other w _ (hs.dist r q _ _ hr trivial h trivial (fun e=>hne e.symm))] at hb2
   exact(hs.lims q cs2 h).2 _ _ _ hb2
 ·exact putB_other w _ (fun e=>hm (.inl ⟨r,_,hr,trivial,e⟩))
 ·left
  rcases hb' with⟨q,o,h1,h2,rfl⟩ | h
  ·obtain⟨p,a1,a2⟩:=old q o h1 h2
   exact .inl ⟨q,p,a1,a2,rfl⟩
  ·exact .inr h

theorem Sim.splice (hs:Sim g σ w){r:Nat}{cs:List V}(hr:σ.objs[r]?=some (.cells cs)){off:Nat}{xs:List V}{us:List Value}(hx:VRs g σ.toks w xs us)(h1 : ∀ u∈us,oneC u=true)(hoff:off+xs.length≤cs.length) :
  ∃ w':World,(storeCells ⟨(g.obj r).1,(g.obj r).2+off,none⟩ us).run P w = .ok () w'∧Sim g (σ.setObj r (.cells (Dn.splice cs off xs))) w'∧Ev g σ w g (σ.setObj r (.cells (Dn.splice cs off xs))) w':=by
 obtain⟨hl,c,e,fz,hb,hn,hc⟩:=hs.cells r cs hr
 have hul:us.length=xs.length:=hx.length.symm
 have hsz:(g.obj r).2+cs.length≤c.size∨cs.length=0:=by
  rcases Nat.eq_zero_or_pos cs.length with h | h
  ·exact .inr h
  ·left
   obtain⟨v,hv⟩ : ∃ v,cs[cs.length-1]?=some v:=⟨cs[cs.length-1],by simp [show cs.length-1<cs.length by omega]⟩
   obtain⟨cv,h1,_⟩:=hc _ v hv
   have:=(Array.getElem?_eq_some_iff.1 h1).1
   omega
 by_cases hz:cs.length=0
 ·have hx0:xs=[]:=List.eq_nil_of_length_eq_zero (by omega)
  have hu0:us=[]:=List.eq_nil_of_length_eq_zero (by omega)
  subst hx0 hu0
  have e1:Dn.splice cs off []=cs:=by simp [Dn.splice]
  have e2:σ.setObj r (.cells cs)=σ:=by
   unfold St.setObj
   have:σ.objs.set r (.cells cs)=σ.objs:=by
    apply List.ext_getElem?
    intro i
    by_cases hi:i=r
    ·subst hi
     rw [hr,List.getElem?_set_self]
     exact(List.getElem?_eq_some_iff.1 hr).1
    ·rw [List.getElem?_set_ne (fun e=>hi e.symm)]
   rw [this]
  rw [e1,e2]
  exact⟨w,rfl,hs,Ev.refl _ _ _⟩
 ·have hsz:=hsz.resolve_right hz
  have hrun:=run_storeCells_own (P:=P) (g.obj r).1 ((g.obj r).2+off) e fz us 0 c w hb hn (by omega) h1
  rw [Nat.add_zero] at hrun
  have hw:=hs.write hr (cs':=Dn.splice cs off xs) (splice_length _ _ _ hoff) hb (c':=(Dn.splice c.toList ((g.obj r).2+off) us).toArray) (by rw [List.size_toArray,splice_length c.toList ((g.obj r).2+off) us (by simp; omega)]; simp) (fun j v hj=>by
   rw [splice_get _ _ _ hoff] at hj
   simp only [List.getElem?_toArray]
   rw [splice_get _ _ _ (by simp; omega)]
   split at hj
   ·rename_i hin
    rw [if_pos ⟨by omega,by omega⟩]
    have hju:j-off<us.length:=by omega
    refine⟨us[j-off],by rw [show(g.obj r).2+j-((g.obj r).2+off)=j-off by omega]; simp [hju],h1 _ (by simp),?_⟩
    exact hx.get (j-off) v _ hj (by simp [hju])
   ·rename_i hout
    rw [if_neg (by omega)]
    obtain⟨cv,r1,r2,r3⟩:=hc j v hj
    exact⟨cv,by simpa using r1,r2,r3⟩)
  exact⟨_,hrun,hw.1,hw.2⟩

theorem store_rel (hs:Sim g σ w){t:TypeId}(hok:hasInfo P t=true){x y:V}{cx cy:Value}(hx:VR g σ.toks w x cx)(hy:VR g σ.toks w y cy){r off:Nat}(hxr:x = .ref r off){cs l:List V}(hr:σ.objs[r]?=some (.cells cs))(hl:y.cells=some l)
  (hn:l.length=P.cellsOf t) (hoff:off+P.cellsOf t≤cs.length) :
  ∃ w',(Instr.storeAt t cx cy).run P w = .ok () w'∧Sim g (σ.setObj r (.cells (Dn.splice cs off l))) w'∧Ev g σ w g (σ.setObj r (.cells (Dn.splice cs off l))) w':=by
 subst hxr
 cases hx with
 | ref _ _ hh =>
  obtain⟨h1,h2⟩:=hy.cells hl
  obtain⟨w',r1,r2⟩:=hs.splice (P:=P) (off:=off) hr h1 h2 (by omega)
  refine⟨w',?_,r2⟩
  have hcs:cy.cells.size=P.cellsOf t:=by rw [← hn,h1.length]; simp
  simp only [Instr.storeAt,Instr.sureAddr,Sem.run_bind,Sem.run_pure,Result.andThen_ok,storeVar,hasInfo_size hok,hcs,ne_eq,not_true_eq_false,if_false]
  exact r1

end Go.Dn

/- append. -/
namespace Go.Dn
open Go.Lib

set_option linter.unusedSimpArgs false

variable {P:Program} {g:Gh} {σ:St} {tk:List Nat} {w:World}

theorem run_append_fit' {t xT ty e:TypeId}{i:TypeInfo}(ht:P.underlying t=some (.slice e))(hi:P.info? e=some i){dx:TypeDesc}(hx:P.underlying xT=some dx)(hni : ∀ k,dx ≠ .int k){a:Addr}{sLen sCap n:Nat}{cx:Value}{news:Array Value}
  (hlen:(Builtin.lenOf cx).run P w = .ok n w) (hnew:(Builtin.firstCells i.size n cx).run P w = .ok news w) (hfit:sLen+n≤sCap) :
  (Builtin.append_ #[t,xT] ty #[.slice (some a) sLen sCap,cx]).run P w=((storeCells (a.add (sLen*i.size)) news.toList).run P w).andThen fun _ w'=>.ok (.slice (some a) (sLen+n) sCap) w':=by
 have hz:(match dx with | .int _=>true | _=>false)=false:=by cases dx <;> first | rfl | exact absurd rfl (hni _)
 simp [Builtin.append_,run_underlying ht,run_underlying hx,sizeOf,typeInfo,hi,hz,hlen,hnew,hfit]

theorem run_append_grow' {t xT ty e:TypeId}{i:TypeInfo}{z:Value}(ht:P.underlying t=some (.slice e))(hi:P.info? e=some i)(hzv:i.zero=some z){dx:TypeDesc}(hx:P.underlying xT=some dx)(hni : ∀ k,dx ≠ .int k){base:Option Addr}{sLen sCap n:Nat}{cx:Value}{news olds:Array Value}
  (hlen:(Builtin.lenOf cx).run P w = .ok n w) (hnew : ∀ w',w'.heap=w.heap→(Builtin.firstCells i.size n cx).run P w' = .ok news w') (hold : ∀ w',w'.heap=w.heap→(Builtin.firstCells i.size sLen (.slice base sLen sCap)).run P w' = .ok olds w') (hgt:sCap<sLen+n)
  (h63:sLen+n≤9223372036854775807) (h48:(sLen+n)*i.bytes≤140737488355328) :
  (Builtin.append_ #[t,xT] ty #[.slice base sLen sCap,cx]).run P w = .ok (.slice (some ⟨w.heap.size,0,none⟩) (sLen+n) (grownCap w (sLen+n) sCap e))
   (w.drew.alloc (.cells (olds++news++Builtin.zeroCells z.cells (grownCap w (sLen+n) sCap e-(sLen+n))) e)):=by
 have hz:(match dx with | .int _=>true | _=>false)=false:=by cases dx <;> first | rfl | exact absurd rfl (hni _)
 have hnf : ¬ (sLen+n≤sCap):=by omega
 have h63' : ¬ ((9223372036854775807:Int)<(sLen:Int)+(n:Int)):=by omega
 have hfit:=growslice_fits hgt h48
 have h48' : ¬ (281474976710656<Builtin.nextslicecap (sLen+n) sCap*i.bytes):=by omega
 have e1:w.drew.heap=w.heap:=rfl
 have hn1:=hnew w.drew e1
 have ho1:=hold w.drew e1
 simp [Builtin.append_,run_underlying ht,run_underlying hx,sizeOf,typeInfo,zeroValue,hi,hzv,hz,hlen,hnf,h63',h48',Question.forced,hn1,ho1,newRow,grownCap]

theorem run_append_zero {t xT ty e:TypeId}{i:TypeInfo}{z:Value}(ht:P.underlying t=some (.slice e))(hi:P.info? e=some i)(hzv:i.zero=some z){k k':IntKind}(hx:P.underlying xT=some (.int k)){l:Int}(h0:0<l)(h63:l≤9223372036854775807)
  (hsz:0<i.size) (h48:l.toNat*i.bytes≤140737488355328) :
  (Builtin.append_ #[t,xT] ty #[.slice none 0 0,.int k' l]).run P w = .ok (.slice (some ⟨w.heap.size,0,none⟩) l.toNat (grownCap w l.toNat 0 e))
   (w.drew.alloc (.cells (Builtin.zeroCells z.cells l.toNat++Builtin.zeroCells z.cells (grownCap w l.toNat 0 e-l.toNat)) e)):=by
 have w1:IntKind.i64.wrap l=l:=by simp only [IntKind.wrap,IntKind.signed,IntKind.bits]; simp; omega
 have hgt:(0:Nat)<0+l.toNat:=by omega
 have hcn:(l.toNat:Int)=l:=Int.toNat_of_nonneg (by omega)
 have hprod:((l.toNat*i.bytes:Nat):Int)=l*i.bytes:=by rw [Int.natCast_mul,hcn]
 have e1 : ¬ (l<0):=by omega
 have e2 : ¬ (281474976710656<l*(i.bytes:Int)):=by omega
 have hfit:=growslice_fits (need:=0+l.toNat) hgt (by rw [Nat.zero_add]; exact h48)
 rw [Nat.zero_add] at hfit
 have h48' : ¬ (281474976710656<Builtin.nextslicecap l.toNat 0*i.bytes):=by omega
 have e3 : ¬ (l≤0):=by omega
 have e4 : ¬ (l.toNat*i.size=0):=by
  have:=Nat.mul_pos (show 0<l.toNat by omega) hsz
  omega
 have e5 : ¬ ((9223372036854775807:Int)<(l.toNat:Int)):=by omega
 simp [Builtin.append_,run_underlying ht,run_underlying hx,sizeOf,typeInfo,zeroValue,hi,hzv,asInt,asIntOf,w1,e1,e2,e3,e4,e5,h48',Question.forced,newRow,grownCap,Builtin.firstCells]
 intro h
 omega

theorem flatten_get {sz:Nat}(hpos:0<sz) : ∀ (ys:List (List D)),(∀ (i:Nat)(row:List D),ys[i]?=some row→row.length=sz)→∀ k,ys.flatten[k]?=(ys[k / sz]?).bind (·[k % sz]?)
 | [],_,k=>by simp
 | y::ys,h,k=>by
  have h0:y.length=sz:=h 0 y rfl
  have ih:=flatten_get hpos ys (fun i row hr=>h (i+1) row (by simpa using hr))
  simp only [List.flatten_cons]
  by_cases hk:k<sz
  ·rw [List.getElem?_append_left (by omega),Nat.div_eq_of_lt hk,Nat.mod_eq_of_lt hk]
   rfl
  ·rw [List.getElem?_append_right (by omega),ih,h0]
   have e1:k / sz=(k-sz) / sz+1:=by
    rw [Nat.div_eq_sub_div hpos (by omega)]
   have e2:k % sz=(k-sz) % sz:=Nat.mod_eq_sub_mod (by omega)
   rw [e1,e2]
   simp

theorem flatten_len {sz:Nat} : ∀ (ys:List (List D)),(∀ (i:Nat)(row:List D),ys[i]?=some row→row.length=sz)→ys.flatten.length=ys.length*sz
 | [],_=>by simp
 | y::ys,h=>by
  have h0:y.length=sz:=h 0 y rfl
  have ih:=flatten_len ys (fun i row hr=>h (i+1) row (by simpa using hr))
  simp [h0,ih,Nat.add_mul]; omega

structure Src (P:Program)(f:Nat→Nat→Prop)(w:World)(sz:Nat)(ys:List (List D))(cx:Value)(news:Array Value):Prop where
 len:(Builtin.lenOf cx).run P w = .ok ys.length w
 first : ∀ w':World,w'.heap=w.heap→(Builtin.firstCells sz ys.length cx).run P w' = .ok news w'
 rel:DRs f w ys.flatten news.toList
 one : ∀ v∈news.toList,oneC v=true

structure AppRun0 (P:Program)(w:World)(t xT ty e:TypeId)(i:TypeInfo)(m:Nat)(cx:Value)(news:Array Value):Prop where
 one : ∀ v∈news.toList,oneC v=true
 fit : ∀ {a:Addr} {sLen sCap:Nat},0<m→m*i.bytes≤140737488355328→m≤9223372036854775807→sLen+m≤sCap →
  (Builtin.append_ #[t,xT] ty #[.slice (some a) sLen sCap,cx]).run P w=((storeCells (a.add (sLen*i.size)) news.toList).run P w).andThen fun _ w'=>.ok (.slice (some a) (sLen+m) sCap) w'
 grow : ∀ {z:Value} {base:Option Addr} {sLen sCap:Nat} {olds:Array Value},i.zero=some z→0<m→(∀ w',w'.heap=w.heap→(Builtin.firstCells i.size sLen (.slice base sLen sCap)).run P w' = .ok olds w')→sCap<sLen+m →
  sLen+m≤9223372036854775807→(sLen+m)*i.bytes≤140737488355328 →
  (Builtin.append_ #[t,xT] ty #[.slice base sLen sCap,cx]).run P w = .ok (.slice (some ⟨w.heap.size,0,none⟩) (sLen+m) (grownCap w (sLen+m) sCap e))
   (w.drew.alloc (.cells (olds++news++Builtin.zeroCells z.cells (grownCap w (sLen+m) sCap e-(sLen+m))) e))
structure AppRun (P:Program)(f:Nat→Nat→Prop)(w:World)(t xT ty e:TypeId)(i:TypeInfo)(ys:List (List D))(cx:Value)(news:Array Value):Prop extends AppRun0 P w t xT ty e i ys.length cx news where
 rel:DRs f w ys.flatten news.toList

theorem Src.app {f:Nat→Nat→Prop}{t xT ty e:TypeId}{i:TypeInfo}{ys:List (List D)}{cx:Value}{news:Array Value}(ht:P.underlying t=some (.slice e))(hi:P.info? e=some i){dx:TypeDesc}(hx:P.underlying xT=some dx)(hni : ∀ k,dx ≠ .int k)(h:Src P f w i.size ys cx news):AppRun P f w t xT ty e i ys cx news :=
 ⟨⟨h.one,fun _ _ _ hf=>run_append_fit' ht hi hx hni h.len (h.first w rfl) hf,fun hz _ ho hg h63 h48=>run_append_grow' ht hi hz hx hni h.len h.first ho hg h63 h48⟩,h.rel⟩

theorem run_appendZ_fit {t xT ty e:TypeId}{i:TypeInfo}{z:Value}(ht:P.underlying t=some (.slice e))(hi:P.info? e=some i)(hzv:i.zero=some z){k:IntKind}(hx:P.underlying xT=some (.int k)){n:Nat}(h0:0<n)(h63:n≤9223372036854775807)
  (hsz:0<i.size) (h48:n*i.bytes≤140737488355328) {a:Addr} {sLen sCap:Nat} (hfit:sLen+n≤sCap) :
  (Builtin.append_ #[t,xT] ty #[.slice (some a) sLen sCap,.int .i64 n]).run P w=((storeCells (a.add (sLen*i.size)) (Builtin.zeroCells z.cells n).toList).run P w).andThen fun _ w'=>.ok (.slice (some a) (sLen+n) sCap) w':=by
 have w1:IntKind.i64.wrap (n:Int)=n:=by simp only [IntKind.wrap,IntKind.signed,IntKind.bits]; simp; omega
 have e1 : ¬ ((n:Int)<0):=by omega
 have e2 : ¬ (281474976710656<(n:Int)*(i.bytes:Int)):=by omega
 have e4 : ¬ (n*i.size=0):=by
  have:=Nat.mul_pos h0 hsz
  omega
 have e6 : ¬ (n=0∨i.size=0):=by omega
 simp [Builtin.append_,run_underlying ht,run_underlying hx,sizeOf,typeInfo,zeroValue,hi,hzv,asInt,asIntOf,w1,e1,e2,e6,hfit]
 intro h
 exact absurd h e4
theorem run_appendZ_grow {t xT ty e:TypeId}{i:TypeInfo}{z:Value}(ht:P.underlying t=some (.slice e))(hi:P.info? e=some i)(hzv:i.zero=some z){k:IntKind}(hx:P.underlying xT=some (.int k)){n:Nat}(h0:0<n)
  (hsz:0<i.size) {base:Option Addr} {sLen sCap:Nat} {olds:Array Value} (hold : ∀ w',w'.heap=w.heap→(Builtin.firstCells i.size sLen (.slice base sLen sCap)).run P w' = .ok olds w') (hgt:sCap<sLen+n)
  (h63:sLen+n≤9223372036854775807) (h48:(sLen+n)*i.bytes≤140737488355328) :
  (Builtin.append_ #[t,xT] ty #[.slice base sLen sCap,.int .i64 n]).run P w = .ok (.slice (some ⟨w.heap.size,0,none⟩) (sLen+n) (grownCap w (sLen+n) sCap e))
   (w.drew.alloc (.cells (olds++Builtin.zeroCells z.cells n++Builtin.zeroCells z.cells (grownCap w (sLen+n) sCap e-(sLen+n))) e)):=by
 have w1:IntKind.i64.wrap (n:Int)=n:=by simp only [IntKind.wrap,IntKind.signed,IntKind.bits]; simp; omega
 have e1 : ¬ ((n:Int)<0):=by omega
 have hm:n*i.bytes≤(sLen+n)*i.bytes:=Nat.mul_le_mul_right _ (by omega)
 have e2 : ¬ (281474976710656<(n:Int)*(i.bytes:Int)):=by omega
 have e4 : ¬ (n*i.size=0):=by
  have:=Nat.mul_pos h0 hsz
  omega
 have e6 : ¬ (n=0∨i.size=0):=by omega
 have hnf : ¬ (sLen+n≤sCap):=by omega
 have h63' : ¬ ((9223372036854775807:Int)<(sLen:Int)+(n:Int)):=by omega
 have hfit:=growslice_fits hgt h48
 have h48' : ¬ (281474976710656<Builtin.nextslicecap (sLen+n) sCap*i.bytes):=by omega
 have e7:w.drew.heap=w.heap:=rfl
 have ho1:=hold w.drew e7
 simp [Builtin.append_,run_underlying ht,run_underlying hx,sizeOf,typeInfo,zeroValue,hi,hzv,asInt,asIntOf,w1,e1,e2,e6,hnf,h63',h48',Question.forced,ho1,newRow,grownCap]
 intro h
 exact absurd h e4

theorem cell_heap {w w':World}(h:w'.heap=w.heap)(a:Addr):w'.cell? a=w.cell? a:=by
 unfold World.cell?
 rw [h]

theorem src_rows {f:Nat→Nat→Prop}{ys:List (List D)}{cx:Value}(h:RowsR f w ys cx){sz:Nat}(hpos:0<sz)(hfit:fitR sz ys=true) : ∃ news,Src P f w sz ys cx news:=by
 have hf : ∀ (i:Nat) (row:List D),ys[i]?=some row→row.length=sz:=fun i row hr=>fitR_get hfit hr
 rcases h with⟨rfl,rfl⟩ | ⟨a,cap,sz',cv,rfl,hcap,hat⟩
 ·exact⟨#[],rfl,fun w' _=>by simp [Builtin.firstCells],trivial,by simp⟩
 ·by_cases hz:ys.length=0
  ·have:ys=[]:=List.eq_nil_of_length_eq_zero hz
   subst this
   exact⟨#[],rfl,fun w' _=>by simp [Builtin.firstCells,loadCells,loadCellsFrom],trivial,by simp⟩
  ·have hs:sz'=sz:=by
    have h0:ys[0]?=some (ys[0]'(by omega)):=by simp
    rw [← hat.hsz 0 _ h0,hf 0 _ h0]
   subst hs
   refine⟨((List.range (ys.length*sz')).map cv).toArray,rfl,fun w' hw'=>?_,?_,fun v hv=>?_⟩
   ·simp only [Builtin.firstCells]
    exact run_loadCells w' a (ys.length*sz') cv (fun j hj=>by rw [cell_heap hw']; exact hat.hc j hj)
   ·refine DRs.of_get (by rw [flatten_len ys hf]; simp) (fun k d v hk hv=>?_)
    have hlt:k<ys.length*sz':=by
     rcases Nat.lt_or_ge k (ys.length*sz') with h | h
     ·exact h
     ·rw [List.getElem?_eq_none (by rw [flatten_len ys hf]; exact h)] at hk; cases hk
    simp [hlt] at hv
    subst hv
    rw [flatten_get hpos ys hf] at hk
    cases hr:ys[k / sz']? with
    | none=>rw [hr] at hk; cases hk
    | some row =>
     rw [hr] at hk
     have:=hat.hd (k / sz') row (k % sz') d hr hk
     rw [Nat.div_add_mod'] at this
     exact this
   ·simp at hv
    obtain⟨k,hk,rfl⟩:=hv
    exact hat.h1 k hk

theorem byteRows_flatten (l:List UInt8):(byteRows l).flatten=l.map fun b=>D.int .u8 b.toNat:=by
 induction l with
 | nil=>rfl
 | cons a r ih=>simp only [byteRows,List.map_cons,List.flatten_cons] at ih ⊢; rw [ih]; rfl

theorem src_str {f:Nat→Nat→Prop}(l:List UInt8) : ∃ news,Src P f w 1 (byteRows l) (.string ⟨l.toArray⟩) news:=by
 have hl:(byteRows l).length=l.length:=by simp [byteRows]
 refine⟨(l.map fun b=>Value.int .u8 b.toNat).toArray,?_,fun w' _=>?_,?_,fun v hv=>?_⟩
 ·simp [Builtin.lenOf,bytes_size,hl]
 ·simp only [Builtin.firstCells,hl,extract_list]
  simp
 ·rw [byteRows_flatten]
  refine DRs.of_get (by simp) (fun i d v hd hv=>?_)
  simp only [List.getElem?_map,Option.map_eq_some_iff] at hd hv
  obtain⟨b,hb,rfl⟩:=hd
  obtain⟨b',hb',rfl⟩:=hv
  rw [hb] at hb'
  cases hb'
  exact .int _ _
 ·simp at hv
  obtain⟨b,_,rfl⟩:=hv
  rfl

def Gh.tokNew (g:Gh)(tid b s0 sz lim n:Nat):Gh :=
 { g with tok:=fun t=>if t=tid then⟨b,0,s0,sz,lim⟩ else g.tok t,frz:=fun b' q=>g.frz b' q∨(b'=b∧q<n) }

theorem Sim.tok_new (hs:Sim g σ w){tid k sz lim s0:Nat} {σ':St}(hobjs:σ'.objs=σ.objs)(htk:σ'.toks[tid]?=some k)(hother : ∀ t,t≠tid→σ'.toks[t]?=σ.toks[t]?)(hgrow : ∀ k0,σ.toks[tid]?=some k0→k0<k∧(g.tok tid).sz=sz)
  (hs0:s0≤k) (hsz:0<sz) {c:Array Value} {e:TypeId} (hc:(lim-s0)*sz≤c.size) (hcf:(k-s0)*sz≤c.size) {w':World} (hw:Grown1 w (.cells c e (0,0)) w') :
  Sim (g.tokNew tid w.heap.size s0 sz lim ((k-s0)*sz)) σ' w'∧Ev g σ w (g.tokNew tid w.heap.size s0 sz lim ((k-s0)*sz)) σ' w':=by
 have hcell : ∀ b q,g.frz b q→w'.cell? ⟨b,q,none⟩=w.cell? ⟨b,q,none⟩:=fun b q hf=>by
  obtain⟨v,hv⟩:=hs.frzb b q hf
  exact hw.cell (cell_lt hv) q
 have hl:Later g σ.toks w (g.tokNew tid w.heap.size s0 sz lim ((k-s0)*sz)) σ'.toks w':=by
  refine⟨⟨fun b q hf=>.inl hf,hcell⟩,fun r hr=>⟨hr,rfl,rfl⟩,fun t k0 ht=>?_,rfl,fun _ _=>rfl⟩
  by_cases hq:t=tid
  ·subst hq
   obtain⟨h1,h2⟩:=hgrow k0 ht
   exact⟨k,htk,by omega,fun e=>by omega,by simp [Gh.tokNew,h2]⟩
  ·exact⟨k0,by rw [hother t hq]; exact ht,Nat.le_refl _,fun _=>by simp [Gh.tokNew,hq],by simp [Gh.tokNew,hq]⟩
 have hlt : ∀ (r:Nat) (o:Obj),σ.objs[r]?=some o→o.live→(g.obj r).1<w.heap.size:=fun r o h1 h2=>hs.blk h1 h2
 have tlt : ∀ t k,σ.toks[t]?=some k→(g.tok t).b<w.heap.size:=fun t k ht=>by
  obtain⟨_,c',e',fz',hb,_⟩:=hs.tok t k ht
  exact block_lt hb
 refine⟨⟨fun r o h1 h2=>hs.has r o (by rw [← hobjs]; exact h1) h2,fun r hr=>by rw [hobjs]; exact hs.bound r hr,fun r hr=>hs.free r (by rw [← hobjs]; exact hr),fun r cs' hr'=>?_,fun r o hr' hoth=>?_,fun r r' o o' h1 h2 h3 h4=>?_,fun r o h1 h2 q=>?_,fun t k' ht=>?_,fun t t' k1 k2 h1 h2 h3=>?_,fun t k' r o h1 h2 h3=>?_,fun b q hf=>?_,fun r cs' hr'=>?_⟩,
  ⟨hl,by rw [hw.size]; omega,hw.os,hw.tape,hw.output,fun b hb _=>hw.old hb,fun b hb=>?_,fun b q hf=>?_⟩⟩
 ·rw [hobjs] at hr'
  obtain⟨h1,c',e',fz',hb,hn,hc'⟩:=hs.cells r cs' hr'
  refine⟨h1,c',e',fz',by rw [show((g.tokNew tid w.heap.size s0 sz lim ((k-s0)*sz)).obj r)=g.obj r from rfl,hw.old (block_lt hb)]; exact hb,hn,fun j v hj=>?_⟩
  obtain⟨cv,r1,r2,r3⟩:=hc' j v hj
  exact⟨cv,r1,r2,r3.later hl⟩
 ·rw [hobjs] at hr'
  obtain⟨x,a1,a2⟩:=hs.oth r o hr' hoth
  exact⟨x,by rw [show((g.tokNew tid w.heap.size s0 sz lim ((k-s0)*sz)).obj r)=g.obj r from rfl,hw.old (block_lt a1)]; exact a1,a2.later hl⟩
 ·rw [hobjs] at h1 h3
  exact hs.dist r r' o o' h1 h2 h3 h4
 ·rw [hobjs] at h1
  rintro (hf | ⟨hb,_⟩)
  ·exact hs.nofrz r o h1 h2 q hf
  ·have:=hlt r o h1 h2
   have hb2:(g.obj r).1=w.heap.size:=hb
   omega
 ·by_cases hq:t=tid
  ·subst hq
   rw [htk] at ht
   cases ht
   simp only [Gh.tokNew,if_true]
   refine⟨⟨hsz,hs0⟩,c,e,(0,0),hw.new,fun o _ h=>by omega,by simpa using hc,fun q hq=>?_⟩
   rintro (hf | ⟨_,hlt'⟩)
   ·obtain⟨v,hv⟩:=hs.frzb _ _ hf
    have:=cell_lt hv
    omega
   ·omega
  ·rw [hother t hq] at ht
   obtain⟨h0,c',e',fz',hb,hn,hsz',hf⟩:=hs.tok t k' ht
   simp only [Gh.tokNew,hq,if_false]
   refine⟨h0,c',e',fz',by rw [hw.old (block_lt hb)]; exact hb,hn,hsz',fun q hq'=>?_⟩
   rintro (hf' | ⟨hb',_⟩)
   ·exact hf q hq' hf'
   ·have:=block_lt hb
    omega
 ·by_cases hq:t=tid
  ·by_cases hq':t'=tid
   ·exact absurd (hq.trans hq'.symm) h3
   ·have:=tlt t' k2 (by rw [← hother t' hq']; exact h2)
    simp only [Gh.tokNew,hq,hq',if_true,if_false]
    omega
  ·have l1:=tlt t k1 (by rw [← hother t hq]; exact h1)
   by_cases hq':t'=tid
   ·simp only [Gh.tokNew,hq,hq',if_true,if_false]
    omega
   ·simp only [Gh.tokNew,hq,hq',if_false]
    exact hs.tdist t t' k1 k2 (by rw [← hother t hq]; exact h1) (by rw [← hother t' hq']; exact h2) h3
 ·rw [hobjs] at h2
  have l1:=hlt r o h2 h3
  by_cases hq:t=tid
  ·simp only [Gh.tokNew,hq,if_true]
   omega
  ·simp only [Gh.tokNew,hq,if_false]
   exact hs.tobj t k' r o (by rw [← hother t hq]; exact h1) h2 h3
 ·rcases hf with hf | ⟨rfl,hq⟩
  ·obtain⟨v,hv⟩:=hs.frzb b q hf
   exact⟨v,by rw [hcell b q hf]; exact hv⟩
  ·exact⟨c[q],by rw [cell_of_block hw.new]; simp [show q<c.size by omega]⟩
 ·rw [hobjs] at hr'
  exact⟨(hs.lims r cs' hr').1,fun c2 e2 fz2 hb2=>(hs.lims r cs' hr').2 c2 e2 fz2 (by rw [← hw.old (hs.blk hr' trivial)]; exact hb2)⟩
 ·rcases hb with⟨r,o,h1,h2,rfl⟩ | ⟨t,k',ht,rfl⟩
  ·left
   exact .inl ⟨r,o,by rw [← hobjs]; exact h1,h2,rfl⟩
  ·by_cases hq:t=tid
   ·right; simp [Gh.tokNew,hq]
   ·left
    exact .inr ⟨t,k',by rw [← hother t hq]; exact ht,by simp [Gh.tokNew,hq]⟩
 ·rcases hf with hf | ⟨rfl,_⟩
  ·exact .inl hf
  ·exact .inr (.inr (Nat.le_refl _))

end Go.Dn

/- append, its three ways. -/
namespace Go.Dn
open Go.Lib

set_option linter.unusedSimpArgs false

variable {P:Program} {g:Gh} {σ:St} {tk:List Nat} {w:World}

def Gh.tokFit (g:Gh)(b lo hi:Nat):Gh:={ g with frz:=fun b' q=>g.frz b' q∨(b'=b∧lo≤q∧q<hi) }

theorem Sim.tok_fit (hs:Sim g σ w){tid k n:Nat}(htk:σ.toks[tid]?=some k)(hn:0<n)(hlim:k+n≤(g.tok tid).lim){news:List Value}(hnl:news.length=n*(g.tok tid).sz)(h1 : ∀ v∈news,oneC v=true) :
  ∃ w':World,(storeCells ⟨(g.tok tid).b,(g.tok tid).o+(k-(g.tok tid).s0)*(g.tok tid).sz,none⟩ news).run P w = .ok () w' ∧
   Sim (g.tokFit (g.tok tid).b ((g.tok tid).o+(k-(g.tok tid).s0)*(g.tok tid).sz) ((g.tok tid).o+(k-(g.tok tid).s0)*(g.tok tid).sz+news.length)) (σ.setTok tid (k+n)) w' ∧
   Ev g σ w (g.tokFit (g.tok tid).b ((g.tok tid).o+(k-(g.tok tid).s0)*(g.tok tid).sz) ((g.tok tid).o+(k-(g.tok tid).s0)*(g.tok tid).sz+news.length)) (σ.setTok tid (k+n)) w' ∧
   (∀ j v,news[j]?=some v→w'.cell? ⟨(g.tok tid).b,(g.tok tid).o+(k-(g.tok tid).s0)*(g.tok tid).sz+j,none⟩=some v):=by
 obtain⟨⟨hsz,hs0⟩,c,e,fz,hb,hnf,hcs,hnz⟩:=hs.tok tid k htk
 generalize hL:(g.tok tid).o+(k-(g.tok tid).s0)*(g.tok tid).sz=L at *
 have htl:tid<σ.toks.length:=by
  rcases Nat.lt_or_ge tid σ.toks.length with h | h
  ·exact h
  ·rw [List.getElem?_eq_none h] at htk; cases htk
 have hfit:L+news.length≤c.size:=by
  have m1:(k-(g.tok tid).s0)*(g.tok tid).sz+n*(g.tok tid).sz=(k+n-(g.tok tid).s0)*(g.tok tid).sz:=by rw [← Nat.add_mul]; congr 1; omega
  have m2:=Nat.mul_le_mul_right (g.tok tid).sz (show k+n-(g.tok tid).s0≤(g.tok tid).lim-(g.tok tid).s0 by omega)
  rw [hnl]
  omega
 have hrun:=run_storeCells_own (P:=P) (g.tok tid).b L e fz news 0 c w hb hnf (by omega) h1
 rw [Nat.add_zero] at hrun
 have hcell : ∀ b q,g.frz b q→(putB w (g.tok tid).b (.cells (Dn.splice c.toList L news).toArray e fz)).cell? ⟨b,q,none⟩=w.cell? ⟨b,q,none⟩:=fun b q hf=>by
  by_cases hbb:(g.tok tid).b=b
  ·subst hbb
   rw [cell_of_block (putB_same w _ (block_lt hb)),cell_of_block hb]
   have hq:q<L:=by
    rcases Nat.lt_or_ge q L with h | h
    ·exact h
    ·exact absurd hf (hnz q h)
   rw [List.getElem?_toArray,splice_get _ _ _ (by simpa using hfit),if_neg (by omega)]
   simp
  ·exact putB_cell w _ hbb q
 have hset : ∀ t,(σ.setTok tid (k+n)).toks[t]?=if t=tid then some (k+n) else σ.toks[t]?:=by
  intro t
  simp only [St.setTok]
  by_cases hq:t=tid
  ·subst hq; rw [if_pos rfl,List.getElem?_set_self htl]
  ·rw [if_neg hq,List.getElem?_set_ne (fun e=>hq e.symm)]
 have hl:Later g σ.toks w (g.tokFit (g.tok tid).b L (L+news.length)) (σ.setTok tid (k+n)).toks (putB w (g.tok tid).b (.cells (Dn.splice c.toList L news).toArray e fz)):=by
  refine⟨⟨fun b q hf=>.inl hf,hcell⟩,fun r hr=>⟨hr,rfl,rfl⟩,fun t k0 ht=>?_,rfl,fun _ _=>rfl⟩
  by_cases hq:t=tid
  ·subst hq
   rw [htk] at ht
   cases ht
   exact⟨k+n,by rw [hset,if_pos rfl],by omega,fun _=>rfl,rfl⟩
  ·exact⟨k0,by rw [hset,if_neg hq]; exact ht,Nat.le_refl _,fun _=>rfl,rfl⟩
 refine⟨_,hrun,⟨hs.has,hs.bound,hs.free,fun r cs' hr'=>?_,fun r o hr' hoth=>?_,hs.dist,fun r o h1 h2 q=>?_,fun t k' ht=>?_,fun t t' k1 k2 h1 h2 h3=>?_,fun t k' r o h1 h2 h3=>?_,fun b q hf=>?_,fun r cs' hr'=>⟨(hs.lims r cs' hr').1,fun c2 e2 fz2 hb2=>(hs.lims r cs' hr').2 c2 e2 fz2 (by rw [← putB_other w _ (hs.tobj tid k r _ htk hr' trivial)]; exact hb2)⟩⟩,
  ⟨hl,by simp [putB],rfl,rfl,rfl,fun b hb' hm=>putB_other w _ (fun e=>hm (.inr ⟨tid,k,htk,e⟩)),fun b hb'=>?_,fun b q hf=>?_⟩,fun j v hj=>?_⟩
 ·obtain⟨h1,c',e',fz',hb',hn',hc'⟩:=hs.cells r cs' hr'
  have hne:=hs.tobj tid k r _ htk hr' trivial
  refine⟨h1,c',e',fz',by rw [show((g.tokFit (g.tok tid).b L (L+news.length)).obj r)=g.obj r from rfl,putB_other w _ hne]; exact hb',hn',fun j v hj=>?_⟩
  obtain⟨cv,r1,r2,r3⟩:=hc' j v hj
  exact⟨cv,r1,r2,r3.later hl⟩
 ·obtain⟨x,a1,a2⟩:=hs.oth r o hr' hoth
  exact⟨x,by rw [show((g.tokFit (g.tok tid).b L (L+news.length)).obj r)=g.obj r from rfl,putB_other w _ (hs.tobj tid k r _ htk hr' hoth.live)]; exact a1,a2.later hl⟩
 ·rintro (hf | ⟨hb',_⟩)
  ·exact hs.nofrz r o h1 h2 q hf
  ·exact hs.tobj tid k r o htk h1 h2 hb'.symm
 ·rw [hset] at ht
  split at ht
  ·rename_i hq
   subst hq
   cases ht
   refine⟨⟨hsz,by show(g.tok t).s0≤k+n; omega⟩,(Dn.splice c.toList L news).toArray,e,fz,putB_same w _ (block_lt hb),fun o ho=>hnf o (by rw [List.size_toArray,splice_length _ _ _ (by simpa using hfit)] at ho; simpa using ho),?_,fun q hq=>?_⟩
   ·rw [List.size_toArray,splice_length _ _ _ (by simpa using hfit)]
    show(g.tok t).o+((g.tok t).lim-(g.tok t).s0)*(g.tok t).sz≤_
    simpa using hcs
   ·have m1:(k-(g.tok t).s0)*(g.tok t).sz+n*(g.tok t).sz=(k+n-(g.tok t).s0)*(g.tok t).sz:=by rw [← Nat.add_mul]; congr 1; omega
    have hq':(g.tok t).o+(k+n-(g.tok t).s0)*(g.tok t).sz≤q:=hq
    rintro (hf | ⟨_,h1',h2'⟩)
    ·exact hnz q (by omega) hf
    ·omega
  ·rename_i hq
   obtain⟨h0,c',e',fz',hb',hn',hsz',hf⟩:=hs.tok t k' ht
   have hne:=hs.tdist tid t k k' htk ht (fun e=>hq e.symm)
   refine⟨h0,c',e',fz',by rw [show((g.tokFit (g.tok tid).b L (L+news.length)).tok t)=g.tok t from rfl,putB_other w _ hne]; exact hb',hn',hsz',fun q hq'=>?_⟩
   rintro (hf' | ⟨hb2,_⟩)
   ·exact hf q hq' hf'
   ·exact hne hb2.symm
 ·rw [hset] at h1 h2
  have f1 : ∃ k,σ.toks[t]?=some k:=by
   split at h1
   ·rename_i hq; subst hq; exact⟨k,htk⟩
   ·exact⟨_,h1⟩
  have f2 : ∃ k,σ.toks[t']?=some k:=by
   split at h2
   ·rename_i hq; subst hq; exact⟨k,htk⟩
   ·exact⟨_,h2⟩
  obtain⟨a,ha⟩:=f1
  obtain⟨b,hb⟩:=f2
  exact hs.tdist t t' a b ha hb h3
 ·rw [hset] at h1
  have f1 : ∃ k,σ.toks[t]?=some k:=by
   split at h1
   ·rename_i hq; subst hq; exact⟨k,htk⟩
   ·exact⟨_,h1⟩
  obtain⟨a,ha⟩:=f1
  exact hs.tobj t a r o ha h2 h3
 ·rcases hf with hf | ⟨rfl,hq1,hq2⟩
  ·obtain⟨v,hv⟩:=hs.frzb b q hf
   exact⟨v,by rw [hcell b q hf]; exact hv⟩
  ·rw [cell_of_block (putB_same w _ (block_lt hb)),List.getElem?_toArray,splice_get _ _ _ (by simpa using hfit),if_pos ⟨hq1,hq2⟩]
   exact⟨news[q-L]'(by omega),by simp [show q-L<news.length by omega]⟩
 ·left
  rcases hb' with⟨r,o,h1,h2,rfl⟩ | ⟨t,k',ht,rfl⟩
  ·exact .inl ⟨r,o,h1,h2,rfl⟩
  ·rw [hset] at ht
   split at ht
   ·rename_i hq; subst hq; exact .inr ⟨t,k,htk,rfl⟩
   ·exact .inr ⟨t,k',ht,rfl⟩
 ·rcases hf with hf | ⟨rfl,_⟩
  ·exact .inl hf
  ·exact .inr (.inl (.inr ⟨tid,k,htk,rfl⟩))
 ·have hj':j<news.length:=by
   rcases Nat.lt_or_ge j news.length with h | h
   ·exact h
   ·rw [List.getElem?_eq_none h] at hj; cases hj
  rw [cell_of_block (putB_same w _ (block_lt hb)),List.getElem?_toArray,splice_get _ _ _ (by simpa using hfit),if_pos ⟨by omega,by omega⟩,show L+j-L=j by omega]
  exact hj

theorem list_append {f:Nat→Nat→Prop}{rows ys:List (List D)}{b o cap:Nat}{sz:Nat}(hf1 : ∀ (i:Nat)(row:List D),rows[i]?=some row→row.length=sz)(hf2 : ∀ (i:Nat)(row:List D),ys[i]?=some row→row.length=sz)(hpos:0<sz)
  (h:DR f w (.list rows) (.slice (some ⟨b,o,none⟩) rows.length cap)) {news:List Value} (hd:DRs f w ys.flatten news) (h1 : ∀ v∈news,oneC v=true)
  (hfr : ∀ j,j<news.length→f b (o+rows.length*sz+j)) (hc : ∀ j v,news[j]?=some v→w.cell? ⟨b,o+rows.length*sz+j,none⟩=some v) (hcap:rows.length+ys.length≤cap) :
  DR f w (.list (rows++ys)) (.slice (some ⟨b,o,none⟩) (rows++ys).length cap):=by
 have hnl:news.length=ys.length*sz:=by rw [← hd.length,flatten_len ys hf2]
 obtain⟨_,sz',cv,hcap',hsz,hf,hcell,ho,hdd⟩:=h.asList
 ·have cast : ∀ k,k<rows.length*sz→k<rows.length*sz':=by
   intro k hk
   by_cases hz:rows.length=0
   ·rw [hz] at hk; simp at hk
   ·have h0:rows[0]?=some (rows[0]'(by omega)):=by simp
    have:sz'=sz:=by rw [← hsz 0 _ h0,hf1 0 _ h0]
    rw [this]; exact hk
  have getNew : ∀ k,rows.length*sz≤k→k<(rows++ys).length*sz→∃ v,news[k-rows.length*sz]?=some v∧news.getD (k-rows.length*sz) undef=v:=by
   intro k hk1 hk2
   rw [List.length_append,Nat.add_mul] at hk2
   have:k-rows.length*sz<news.length:=by omega
   exact⟨news[k-rows.length*sz],by simp [this],by simp [List.getD_eq_getElem?_getD,this]⟩
  refine .list (rows++ys) b o cap sz (fun k=>if k<rows.length*sz then cv k else news.getD (k-rows.length*sz) undef) (by simpa using hcap) (fun i row hr=>?_) (fun k hk=>?_) (fun k hk=>?_) (fun k hk=>?_) (fun i row j d hr hj=>?_)
  ·by_cases hi:i<rows.length
   ·rw [List.getElem?_append_left hi] at hr; exact hf1 i row hr
   ·rw [List.getElem?_append_right (by omega)] at hr; exact hf2 _ row hr
  ·by_cases hk1:k<rows.length*sz
   ·exact hf k (cast k hk1)
   ·obtain⟨v,hv,_⟩:=getNew k (by omega) hk
    have hlt:k-rows.length*sz<news.length:=by
     rcases Nat.lt_or_ge (k-rows.length*sz) news.length with h | h
     ·exact h
     ·rw [List.getElem?_eq_none h] at hv; cases hv
    have:=hfr _ hlt
    rwa [show o+rows.length*sz+(k-rows.length*sz)=o+k by omega] at this
  ·by_cases hk1:k<rows.length*sz
   ·simp only [hk1,if_true]; exact hcell k (cast k hk1)
   ·simp only [hk1,if_false]
    obtain⟨v,hv,hg⟩:=getNew k (by omega) hk
    rw [hg]
    have:=hc _ v hv
    rwa [show o+rows.length*sz+(k-rows.length*sz)=o+k by omega] at this
  ·by_cases hk1:k<rows.length*sz
   ·simp only [hk1,if_true]; exact ho k (cast k hk1)
   ·simp only [hk1,if_false]
    obtain⟨v,hv,hg⟩:=getNew k (by omega) hk
    rw [hg]
    exact h1 v (List.mem_of_getElem? hv)
  ·by_cases hi:i<rows.length
   ·rw [List.getElem?_append_left hi] at hr
    have hrl:=hf1 i row hr
    have hj':j<sz:=by
     rcases Nat.lt_or_ge j sz with h | h
     ·exact h
     ·rw [List.getElem?_eq_none (by omega)] at hj; cases hj
    have hm:=Nat.mul_le_mul_right sz (show i+1≤rows.length from hi)
    rw [Nat.add_mul] at hm
    have hss:sz'=sz:=by rw [← hsz i row hr,hrl]
    simp only [show i*sz+j<rows.length*sz by omega,if_true]
    have:=hdd i row j d hr hj
    rw [hss] at this
    exact this
   ·rw [List.getElem?_append_right (by omega)] at hr
    have hrl:=hf2 _ row hr
    have hj':j<sz:=by
     rcases Nat.lt_or_ge j sz with h | h
     ·exact h
     ·rw [List.getElem?_eq_none (by omega)] at hj; cases hj
    have hm:=Nat.mul_le_mul_right sz (show rows.length≤i by omega)
    have hiy:i-rows.length<ys.length:=by
     rcases Nat.lt_or_ge (i-rows.length) ys.length with h | h
     ·exact h
     ·rw [List.getElem?_eq_none h] at hr; cases hr
    have hm2:=Nat.mul_le_mul_right sz (show i-rows.length+1≤ys.length by omega)
    rw [Nat.add_mul] at hm2
    have e1:i*sz+j-rows.length*sz=(i-rows.length)*sz+j:=by rw [Nat.sub_mul]; omega
    simp only [show ¬ (i*sz+j<rows.length*sz) by omega,if_false,e1]
    have hlt:(i-rows.length)*sz+j<news.length:=by omega
    have hfl:ys.flatten[(i-rows.length)*sz+j]?=some d:=by
     rw [flatten_get hpos ys hf2]
     have d1:((i-rows.length)*sz+j) / sz=i-rows.length:=by
      rw [Nat.add_comm,Nat.add_mul_div_right _ _ hpos,Nat.div_eq_of_lt hj',Nat.zero_add]
     have d2:((i-rows.length)*sz+j) % sz=j:=by
      rw [Nat.add_comm,Nat.add_mul_mod_self_right,Nat.mod_eq_of_lt hj']
     rw [d1,d2,hr]
     exact hj
    have:=hd.get _ d news[(i-rows.length)*sz+j] hfl (by simp [hlt])
    simpa [List.getD_eq_getElem?_getD,hlt] using this

end Go.Dn

/- append as the abstract machine has it. -/
namespace Go.Dn
open Go.Lib

set_option linter.unusedSimpArgs false

variable {P:Program} {g:Gh} {σ:St} {tk:List Nat} {w:World}

theorem growOk_inv {e:TypeId}(h:growOk P e=true) : ∃ i z,P.info? e=some i∧i.zero=some z∧i.size=P.cellsOf e∧i.bytes=P.bytesOf e∧P.cellsOf e≠0∧z.cells.size=P.cellsOf e∧(∀ v∈z.cells.toList,oneC v=true):=by
 unfold growOk at h
 split at h
 ·rename_i zl hz
  simp only [Bool.and_eq_true,bne_iff_ne,ne_eq,beq_iff_eq] at h
  obtain⟨i,z,hi,hzv,hleaf⟩:=zeroOf_inv hz
  obtain⟨z1,_⟩:=leafsD_rel hleaf
  refine⟨i,z,hi,hzv,by simp [Program.cellsOf,hi],by simp [Program.bytesOf,hi],h.1,by rw [← h.2,z1]; simp,fun v hv=>?_⟩
  obtain⟨k,hk⟩:=List.getElem?_of_mem hv
  exact leafsD_one hleaf k v hk
 ·cases h

theorem grown_list {f:Nat→Nat→Prop}{b sz cap:Nat}{rows:List (List D)}{c:Array Value}{e:TypeId}{fz:Nat×Nat}{w':World}(hb:w'.heap[b]?=some (.cells c e fz))(hpos:0<sz)(hfit : ∀ (i:Nat)(row:List D),rows[i]?=some row→row.length=sz)
  {l:List Value} (hd:DRs f w' rows.flatten l) (h1 : ∀ v∈l,oneC v=true) (hc : ∀ (j:Nat) (v:Value),l[j]?=some v→c[j]?=some v) (hf : ∀ j,j<l.length→f b j) (hcap:rows.length≤cap) :
  DR f w' (.list rows) (.slice (some ⟨b,0,none⟩) rows.length cap):=by
 have:=list_append (f:=f) (w:=w') (rows:=[]) (ys:=rows) (b:=b) (o:=0) (cap:=cap) (sz:=sz) (fun i row h=>by simp at h) hfit hpos (DR.list_empty _ _ rfl) hd h1
  (fun j hj=>by simpa using hf j hj) (fun j v hj=>by rw [cell_of_block hb]; simpa using hc j v hj) (by simpa using hcap)
 simpa using this

theorem DRs.append {f:Nat→Nat→Prop} : ∀ {as bs:List D}{xs ys:List Value},DRs f w as xs→DRs f w bs ys→DRs f w (as++bs) (xs++ys)
 | [],_,[],_,_,h=>h
 | _::_,_,_::_,_,h,h'=>⟨h.1,DRs.append h.2 h'⟩
 | [],_,_::_,_,h,_=>h.elim
 | _::_,_,[],_,h,_=>h.elim

theorem DRs.mono {f f':Nat→Nat→Prop}{w w':World}(hs:Stay f f' w w') : ∀ {ds:List D}{vs:List Value},DRs f w ds vs→DRs f' w' ds vs
 | [],[],_=>trivial
 | _::_,_::_,h=>⟨h.1.mono hs,DRs.mono hs h.2⟩
 | [],_::_,h=>h.elim
 | _::_,[],h=>h.elim

theorem fit_append {sz:Nat}{rows ys:List (List D)}(h:fitR sz rows=true)(h':fitR sz ys=true) : ∀ (i:Nat)(row:List D),(rows++ys)[i]?=some row→row.length=sz:=fun i row hr=>by
 have:fitR sz (rows++ys)=true:=by
  unfold fitR at *
  rw [List.all_append,h,h']
  rfl
 exact fitR_get this hr

theorem append_rel (hs:Sim g σ w){t xT e ty:TypeId}(ht:P.underlying t=some (.slice e))(hg:growOk P e=true){dx:TypeDesc}(hx:P.underlying xT=some dx)(hni : ∀ k,dx ≠ .int k){s v:V}{cs cx:Value}(hsv:VR g σ.toks w s cs)
  {ys:List (List D)} {news:Array Value} (hsrc:fitR (P.cellsOf e) ys=true→Src P g.frz w (P.cellsOf e) ys cx news) {tg:Option Nat} {σ':St} (h:appendV σ tg (P.cellsOf e) (P.bytesOf e) s ys=some (v,σ')) :
  EStep P g σ w (Builtin.append_ #[t,xT] ty #[cs,cx]) v σ':=by
 obtain⟨i,z,hi,hzv,hisz,hiby,hc0,hzs,hz1⟩:=growOk_inv hg
 have hpos:0<P.cellsOf e:=by omega
 unfold appendV at h
 split at h
 ·cases h
 ·rename_i hfit0
  simp only [Bool.not_eq_false] at hfit0
  have hsrc:=hsrc hfit0
  have hys : ∀ (i:Nat) (row:List D),ys[i]?=some row→row.length=P.cellsOf e:=fun i row hr=>fitR_get hfit0 hr
  have hnl:news.toList.length=ys.length*P.cellsOf e:=by rw [← hsrc.rel.length,flatten_len ys hys]
  have runFit : ∀ {a:Addr} {sLen sCap:Nat},sLen+ys.length≤sCap→(Builtin.append_ #[t,xT] ty #[.slice (some a) sLen sCap,cx]).run P w=((storeCells (a.add (sLen*P.cellsOf e)) news.toList).run P w).andThen fun _ w'=>.ok (.slice (some a) (sLen+ys.length) sCap) w':=by
   intro a sLen sCap hf
   have:=run_append_fit' (w:=w) (ty:=ty) ht hi hx hni (a:=a) (sLen:=sLen) (sCap:=sCap) (n:=ys.length) (cx:=cx) (news:=news) hsrc.len (by rw [hisz]; exact hsrc.first w rfl) hf
   rw [hisz] at this
   exact this
  have runGrow : ∀ {base:Option Addr} {sLen sCap:Nat} {olds:Array Value},(∀ w':World,w'.heap=w.heap→(Builtin.firstCells (P.cellsOf e) sLen (.slice base sLen sCap)).run P w' = .ok olds w')→sCap<sLen+ys.length→sLen+ys.length≤9223372036854775807→(sLen+ys.length)*P.bytesOf e≤140737488355328 →
    (Builtin.append_ #[t,xT] ty #[.slice base sLen sCap,cx]).run P w = .ok (.slice (some ⟨w.heap.size,0,none⟩) (sLen+ys.length) (grownCap w (sLen+ys.length) sCap e))
     (w.drew.alloc (.cells (olds++news++Builtin.zeroCells z.cells (grownCap w (sLen+ys.length) sCap e-(sLen+ys.length))) e)):=by
   intro base sLen sCap olds ho hgt h63 h48
   exact run_append_grow' (w:=w) (ty:=ty) ht hi hzv hx hni (base:=base) (sLen:=sLen) (sCap:=sCap) (n:=ys.length) (cx:=cx) (news:=news) (olds:=olds) hsrc.len (by rw [hisz]; exact hsrc.first) (by rw [hisz]; exact ho) hgt h63 (by rw [hiby]; exact h48)
  have hgr : ∀ c:Array Value,Grown1 w (.cells c e (0,0)) (w.drew.alloc (.cells c e)):=fun c=>⟨by simp [World.alloc,World.drew,-World.alloc_eq,-World.drew_eq],by simp [World.alloc,World.drew,-World.alloc_eq,-World.drew_eq],by simp [World.alloc,World.drew,-World.alloc_eq,-World.drew_eq],by simp [World.alloc,World.drew,-World.alloc_eq,-World.drew_eq]⟩
  -- a new block, with a token of its own or the old one's
  have grow : ∀ {sLen sCap tid k st:Nat} {base:Option Addr} {rows:List (List D)} {olds:Array Value} {σ2:St},rows.length=sLen→fitR (P.cellsOf e) rows=true→(∀ w':World,w'.heap=w.heap→(Builtin.firstCells (P.cellsOf e) sLen (.slice base sLen sCap)).run P w' = .ok olds w') →
    DRs g.frz w rows.flatten olds.toList→(∀ v∈olds.toList,oneC v=true)→sCap<sLen+ys.length→sLen+ys.length≤9223372036854775807→(sLen+ys.length)*P.bytesOf e≤140737488355328 →
    σ2.objs=σ.objs→σ2.toks[tid]?=some k→(∀ t,t≠tid→σ2.toks[t]?=σ.toks[t]?)→(∀ k0,σ.toks[tid]?=some k0→k0<k∧(g.tok tid).sz=P.cellsOf e)→k=st+(sLen+ys.length) →
    EStep P g σ w (Builtin.append_ #[t,xT] ty #[.slice base sLen sCap,cx]) (.tl (rows++ys) tid st (P.cellsOf e)) σ2:=by
   intro sLen sCap tid k st base rows olds σ2 hrl hfit ho hor ho1 hgt h63 h48 hobjs htk hother hgrow hk
   have hrows : ∀ (i:Nat) (row:List D),rows[i]?=some row→row.length=P.cellsOf e:=fun i row hr=>fitR_get hfit hr
   have hol:olds.toList.length=sLen*P.cellsOf e:=by rw [← hor.length,flatten_len rows hrows,hrl]
   have hcge:=grownCap_ge w (sLen+ys.length) sCap e
   generalize hcap:grownCap w (sLen+ys.length) sCap e=newCap at *
   have hrun:=runGrow ho hgt h63 h48
   rw [hcap] at hrun
   generalize hce:olds++news++Builtin.zeroCells z.cells (newCap-(sLen+ys.length))=c at *
   have hcs:c.size=newCap*P.cellsOf e:=by
    rw [← hce]
    simp only [Array.size_append,size_zeroCells,hzs]
    have a1:olds.size=sLen*P.cellsOf e:=by simpa using hol
    have a2:news.size=ys.length*P.cellsOf e:=by simpa using hnl
    rw [a1,a2,← Nat.add_mul,← Nat.add_mul]
    congr 1
    omega
   have m1:=Nat.mul_le_mul_right (P.cellsOf e) hcge
   obtain⟨s1,s2⟩:=hs.tok_new (lim:=st+newCap) (s0:=st) hobjs htk hother hgrow (by omega) hpos (c:=c) (e:=e) (by rw [Nat.add_sub_cancel_left,hcs]; exact Nat.le_refl _) (by rw [hk,Nat.add_sub_cancel_left,hcs]; exact m1) (hgr c)
   have hlen:(rows++ys).length=sLen+ys.length:=by simp [hrl]
   refine⟨_,_,_,hrun,s1,?_,s2⟩
   have hd:DRs (g.tokNew tid w.heap.size st (P.cellsOf e) (st+newCap) ((k-st)*P.cellsOf e)).frz (w.drew.alloc (.cells c e)) (rows++ys).flatten (olds.toList++news.toList):=by
    rw [List.flatten_append]
    exact(hor.append hsrc.rel).mono s2.later.stay
   have hlst:=grown_list (cap:=newCap) (hgr c).new hpos (fit_append hfit hfit0) hd (fun v hv=>by
     rcases List.mem_append.1 hv with h | h
     ·exact ho1 v h
     ·exact hsrc.one v h)
    (fun j v hj=>by
     rw [← hce]
     have hj2:(olds++news).toList[j]?=some v:=by simpa using hj
     have hlt:j<(olds++news).size:=by
      rcases Nat.lt_or_ge j (olds++news).size with h | h
      ·exact h
      ·rw [List.getElem?_eq_none (by simpa using h)] at hj2; cases hj2
     rw [Array.getElem?_append_left hlt]
     rw [← Array.getElem?_toList]; exact hj2)
    (fun j hj=>.inr ⟨rfl,by
     rw [List.length_append,hol,hnl,← Nat.add_mul] at hj
     rw [hk,Nat.add_sub_cancel_left]
     exact hj⟩) (by rw [hlen]; exact hcge)
   rw [← hlen]
   refine .tl (rows++ys) tid st (P.cellsOf e) k _ newCap hlst htk (by rw [hlen,hk]; exact Nat.le_refl _) (fun row hr=>?_) (by simp [Gh.tokNew]) (fun _ _=>⟨by simp [Gh.tokNew],by simp [Gh.tokNew],by simp [Gh.tokNew]⟩)
   obtain⟨i,hi'⟩:=List.getElem?_of_mem hr
   exact fit_append hfit hfit0 i row hi'
  split at h
  ·-- into a mutable array's own room
   rename_i r off len s'
   split at h
   ·rename_i hcnd
    obtain⟨rfl,_⟩:=hcnd
    split at h
    ·rename_i ocs hobj
     split at h
     ·rename_i hroom
      cases h
      cases hsv with
      | sl _ _ _ _ cap a hh hcap hsz hin hout ha hsp hlim =>
       have hln:ocs.length=g.len r:=(hs.cells r ocs hobj).1
       have hcap2:len+ys.length≤cap:=by
        rw [Nat.add_mul] at hroom
        have:(len+ys.length)*P.cellsOf e≤cap*P.cellsOf e:=by rw [Nat.add_mul]; omega
        exact Nat.le_of_mul_le_mul_right this hpos
       have hxl:((ys.flatten).map V.d).length=ys.length*P.cellsOf e:=by rw [List.length_map,flatten_len ys hys]
       rw [Nat.add_mul] at hroom
       obtain⟨w',r1,r2,r3⟩:=hs.splice (P:=P) hobj (off:=off+len*P.cellsOf e) (DRs.to_v hsrc.one hsrc.rel) hsrc.one (by rw [hxl]; omega)
       by_cases hlt:off<g.len r
       ·have haa:=ha hlt
        subst haa
        refine⟨_,w',g,?_,r2,.sl r off (len+ys.length) (P.cellsOf e) cap _ hh hcap2 hpos (by rw [Nat.add_mul]; omega) hout (fun _=>rfl) rfl hlim,r3⟩
        rw [runFit hcap2,addr_add,Nat.add_assoc,r1]
        rfl
       ·have hz1:len*P.cellsOf e=0:=by omega
        have hz2:ys.length*P.cellsOf e=0:=by omega
        have hn0:news.toList=[]:=List.eq_nil_of_length_eq_zero (by rw [hnl]; exact hz2)
        rw [hn0] at r1
        have hw:w'=w:=by simp [storeCells] at r1; exact r1.symm
        subst hw
        refine⟨_,w',g,?_,r2,.sl r off (len+ys.length) (P.cellsOf e) cap a hh hcap2 hpos (by rw [Nat.add_mul]; omega) hout (fun h=>absurd h hlt) hsp hlim,r3⟩
        rw [runFit hcap2,hn0]
        simp [storeCells]
     ·cases h
    ·cases h
   ·cases h
  ·split at h
   ·-- nothing is appended
    rename_i hnil
    subst hnil
    split at h
    ·rename_i hrows
     cases h
     obtain⟨rows,hr⟩:=Option.isSome_iff_exists.1 hrows
     have hn0:news.toList=[]:=List.eq_nil_of_length_eq_zero (by rw [hnl]; simp)
     rcases rows_rel hs hsv hr with⟨rfl,rfl⟩ | ⟨a,cap,sz,cv,rfl,hcap,_⟩
     ·refine⟨_,w,g,?_,hs,hsv,Ev.refl _ _ _⟩
      have hz:(match dx with | .int _=>true | _=>false)=false:=by cases dx <;> first | rfl | exact absurd rfl (hni _)
      have hl:=hsrc.len
      have hf:=hsrc.first w rfl
      simp at hl hf
      simp [Builtin.append_,run_underlying ht,run_underlying hx,sizeOf,typeInfo,hi,hz,hl,hisz,hf]
     ·refine⟨_,w,g,?_,hs,hsv,Ev.refl _ _ _⟩
      rw [runFit (by simpa using hcap),hn0]
      simp [storeCells]
    ·cases h
   ·rename_i hne
    have hn:0<ys.length:=List.length_pos_iff.2 hne
    split at h
    ·-- onto nil
     split at h
     ·rename_i hcnd
      obtain⟨_,h48,h63⟩:=hcnd
      cases h
      have:=hsv.inv_d
      cases this
      have:=grow (sLen:=0) (sCap:=0) (tid:=σ.toks.length) (k:=ys.length) (st:=0) (base:=none) (rows:=[]) (olds := #[]) (σ2:=σ.pushTok ys.length) rfl rfl (fun w' _=>by simp [Builtin.firstCells]) trivial (by simp) (by omega) (by omega) (by rw [Nat.zero_add]; exact h48) rfl
       (by simp [St.pushTok]) (fun t' ht'=>by
        simp only [St.pushTok]
        rcases Nat.lt_or_ge t' σ.toks.length with h | h
        ·rw [List.getElem?_append_left h]
        ·rw [List.getElem?_eq_none (by simp; omega),List.getElem?_eq_none h]) (fun k0 hk0=>by simp at hk0) (by omega)
      simpa using this
     ·cases h
    ·-- onto a full slice
     rename_i rows _
     split at h
     ·rename_i hcnd
      obtain⟨_,hfit,h48,h63⟩:=hcnd
      cases h
      have hd:=fl_dr hsv
      cases hsv with
      | fl _ a hd' =>
       have hro:RowsR g.frz w rows (.slice (some a) rows.length rows.length):=.inr hd.rows
       obtain⟨olds,ho⟩:=src_rows (P:=P) hro hpos hfit
       exact grow (sLen:=rows.length) (sCap:=rows.length) (tid:=σ.toks.length) (k:=rows.length+ys.length) (st:=0) (base:=some a) (rows:=rows) (olds:=olds) (σ2:=σ.pushTok (rows.length+ys.length)) rfl hfit ho.first ho.rel ho.one (by omega) h63 h48 rfl
        (by simp [St.pushTok]) (fun t' ht'=>by
         simp only [St.pushTok]
         rcases Nat.lt_or_ge t' σ.toks.length with h | h
         ·rw [List.getElem?_append_left h]
         ·rw [List.getElem?_eq_none (by simp; omega),List.getElem?_eq_none h]) (fun k0 hk0=>by simp at hk0) (by omega)
     ·cases h
    ·-- onto a list that may grow
     rename_i rows tid st s' _
     split at h
     ·rename_i hcnd
      obtain⟨rfl,hfit,htk,h48,h63⟩:=hcnd
      cases h
      have hd:=tl_dr hsv
      cases hsv with
      | tl _ _ _ _ k a cap hd' ht' hle hh hsz ha =>
       rw [htk] at ht'
       cases ht'
       have htl:tid<σ.toks.length:=by
        rcases Nat.lt_or_ge tid σ.toks.length with h | h
        ·exact h
        ·rw [List.getElem?_eq_none h] at htk; cases htk
       by_cases hroom:rows.length+ys.length≤cap
       ·obtain⟨a0,rfl,a2⟩:=ha rfl (by omega)
        obtain⟨w',r1,r2,r3,r4⟩:=hs.tok_fit (P:=P) htk hn (by omega) (news:=news.toList) (by rw [hsz]; exact hnl) hsrc.one
        have hL:(g.tok tid).o+(st-(g.tok tid).s0)*(g.tok tid).sz+rows.length*P.cellsOf e=(g.tok tid).o+(st+rows.length-(g.tok tid).s0)*(g.tok tid).sz:=by
         rw [show st+rows.length-(g.tok tid).s0=(st-(g.tok tid).s0)+rows.length by omega,Nat.add_mul,hsz]
         omega
        have hlen:(rows++ys).length=rows.length+ys.length:=by simp
        refine⟨.slice (some ⟨(g.tok tid).b,(g.tok tid).o+(st-(g.tok tid).s0)*(g.tok tid).sz,none⟩) (rows.length+ys.length) cap,w',_,?_,r2,?_,r3⟩
        ·rw [runFit hroom,addr_add,hL,r1]
         rfl
        ·rw [← hlen]
         have hla:=list_append (w:=w') (f:=(g.tokFit (g.tok tid).b ((g.tok tid).o+(st+rows.length-(g.tok tid).s0)*(g.tok tid).sz) ((g.tok tid).o+(st+rows.length-(g.tok tid).s0)*(g.tok tid).sz+news.toList.length)).frz)
          (fun i row hr=>fitR_get hfit hr) hys hpos (hd.mono r3.later.stay) (hsrc.rel.mono r3.later.stay) hsrc.one (fun j hj=>.inr ⟨rfl,by rw [hL]; omega,by rw [hL]; omega⟩) (fun j v hj=>by rw [hL]; exact r4 j v hj) (by simpa using hroom)
         refine .tl (rows++ys) tid st (P.cellsOf e) (st+rows.length+ys.length) _ cap hla ?_ (by rw [hlen]; omega) (fun row hr=>?_) hsz (fun _ _=>⟨a0,rfl,a2⟩)
         ·simp [St.setTok,htl]
         ·obtain⟨i,hi'⟩:=List.getElem?_of_mem hr
          exact fit_append hfit hfit0 i row hi'
       ·have hro:RowsR g.frz w rows (.slice (some a) rows.length cap):=.inr hd.rows
        obtain⟨olds,ho⟩:=src_rows (P:=P) hro hpos hfit
        refine grow (sLen:=rows.length) (sCap:=cap) (tid:=tid) (k:=st+rows.length+ys.length) (st:=st) (base:=some a) (rows:=rows) (olds:=olds) (σ2:=σ.setTok tid (st+rows.length+ys.length)) rfl hfit ?_ ho.rel ho.one (by omega) h63 h48 rfl
         (by simp [St.setTok,htl]) (fun t' ht'=>by simp only [St.setTok]; rw [List.getElem?_set_ne (fun e=>ht' e.symm)]) (fun k0 hk0=>by rw [htk] at hk0; cases hk0; exact⟨by omega,hsz⟩) (by omega)
        exact ho.first
     ·cases h
    ·cases h

end Go.Dn

/- A slice of an object, appended to: the object is let go, a new one has all. -/
namespace Go.Dn
open Go.Lib

set_option linter.unusedSimpArgs false

variable {P:Program} {g:Gh} {σ:St} {w:World}

theorem Sim.drop (hs:Sim g σ w){r:Nat}{o:Obj}(hr:σ.objs[r]?=some o)(hf:o ≠ .free):Sim g (σ.setObj r .dead) w∧Ev g σ w g (σ.setObj r .dead) w∧(∀ q o',(σ.setObj r .dead).objs[q]?=some o'→o'.live→q≠r∧σ.objs[q]?=some o'):=by
 have hrl:r<σ.objs.length:=(List.getElem?_eq_some_iff.1 hr).1
 have obj : ∀ (q:Nat) (o':Obj),(σ.setObj r .dead).objs[q]?=some o'→(q=r∧o' = .dead)∨(q≠r∧σ.objs[q]?=some o'):=by
  intro q o' h
  simp only [St.setObj] at h
  by_cases hq:q=r
  ·subst hq
   rw [List.getElem?_set_self hrl] at h
   cases h
   exact .inl ⟨rfl,rfl⟩
  ·rw [List.getElem?_set_ne (fun e=>hq e.symm)] at h
   exact .inr ⟨hq,h⟩
 have live : ∀ (q:Nat) (o':Obj),(σ.setObj r .dead).objs[q]?=some o'→o'.live→q≠r∧σ.objs[q]?=some o':=by
  intro q o' h hl
  rcases obj q o' h with⟨_,rfl⟩ | h
  ·exact hl.elim
  ·exact h
 have hm : ∀ b,Mine g (σ.setObj r .dead) b→Mine g σ b:=fun b h=>by
  rcases h with⟨q,o',h1,h2,h3⟩ | h
  ·exact .inl ⟨q,o',(live q o' h1 h2).2,h2,h3⟩
  ·exact .inr h
 refine⟨⟨fun q o' h1 h2=>hs.has q o' (live q o' h1 h2).2 h2,fun q hq=>by simpa [St.setObj] using hs.bound q hq,fun q hq=>?_,fun q cs h=>hs.cells q cs (live q _ h trivial).2,fun q o' h ho=>hs.oth q o' (live q o' h ho.live).2 ho,
  fun q q' o1 o2 h1 h2 h3 h4 hne=>hs.dist q q' o1 o2 (live q o1 h1 h2).2 h2 (live q' o2 h3 h4).2 h4 hne,fun q o' h1 h2=>hs.nofrz q o' (live q o' h1 h2).2 h2,hs.tok,hs.tdist,fun t k q o' h1 h2 h3=>hs.tobj t k q o' h1 (live q o' h2 h3).2 h3,hs.frzb,fun q cs h=>hs.lims q cs (live q _ h trivial).2⟩,
  ⟨Later.refl _ _ _,Nat.le_refl _,rfl,rfl,rfl,fun _ _ _=>rfl,fun b h=>.inl (hm b h),fun _ _ h=>.inl h⟩,live⟩
 rcases obj q _ hq with⟨_,h⟩ | ⟨_,h⟩
 ·cases h
 ·exact hs.free q h

def Gh.own (g:Gh)(r b o n m:Nat):Gh :=
 { g with has:=fun q=>g.has q∨q=r,obj:=fun q=>if q=r then(b,o) else g.obj q,len:=fun q=>if q=r then n else g.len q,lim:=fun q=>if q=r then m else g.lim q }

theorem Sim.reown (hs:Sim g σ w){tg:Option Nat}{cs:List V} {σ':St}(hp:σ.place tg (.cells cs)=some σ'){b:Nat}{o:Nat}{c c':Array Value}{e:TypeId}{fz:Nat×Nat}(hb:w.heap[b]?=some (.cells c e fz))(hn:NoFz c fz)(hc':c'.size=c.size)
  (hun : ¬ Mine g σ b) (hfz : ∀ q,¬ g.frz b q) {m:Nat} (hlm:cs.length≤m) (hm:o+m≤c.size) (hrel : ∀ (j:Nat) (v:V),cs[j]?=some v→∃ cv,c'[o+j]?=some cv∧oneC cv=true∧VR g σ.toks w v cv) :
  Sim (g.own (σ.spot tg) b o cs.length m) σ' (putB w b (.cells c' e fz))∧Later g σ.toks w (g.own (σ.spot tg) b o cs.length m) σ'.toks (putB w b (.cells c' e fz))∧(∀ b',Mine (g.own (σ.spot tg) b o cs.length m) σ' b'→Mine g σ b'∨b'=b):=by
 obtain⟨p1,p2,p3,p4,p5⟩:=place_inv hp
 have hnh : ¬ g.has (σ.spot tg):=by
  intro hh
  rcases p5 with h | h
  ·have:=hs.bound _ hh
   rw [List.getElem?_eq_none_iff] at h
   omega
  ·exact hs.free _ h hh
 have hcell : ∀ b' q,g.frz b' q→(putB w b (.cells c' e fz)).cell? ⟨b',q,none⟩=w.cell? ⟨b',q,none⟩:=fun b' q hf=>putB_cell w _ (fun e=>hfz q (by rw [e]; exact hf)) q
 have keep : ∀ r,g.has r→r≠σ.spot tg:=fun r hr e=>hnh (e▸hr)
 have hl:Later g σ.toks w (g.own (σ.spot tg) b o cs.length m) σ'.toks (putB w b (.cells c' e fz)):=by
  refine⟨⟨fun b q hf=>hf,hcell⟩,fun r hr=>⟨.inl hr,?_,?_⟩,fun t k ht=>⟨k,by rw [p1]; exact ht,Nat.le_refl _,fun _=>rfl,rfl⟩,rfl,fun r hr=>by simp [Gh.own,keep r hr]⟩
  ·simp [Gh.own,keep r hr]
  ·simp [Gh.own,keep r hr]
 have hob : ∀ (q:Nat) (o':Obj),σ.objs[q]?=some o'→o'.live→b≠(g.obj q).1:=fun q o' h1 h2 e=>hun (.inl ⟨q,o',h1,h2,e.symm⟩)
 refine⟨⟨fun r o' h1 h2=>?_,fun r hr=>?_,fun r hr=>?_,fun r cs' hr'=>?_,fun r o' hr' hoth=>?_,fun r r' o1 o2 h1 h2 h3 h4 hne=>?_,fun r o' h1 h2 q=>?_,fun t k ht=>?_,fun t t' k k' h1 h2 h3=>?_,fun t k r o' h1 h2 h3=>?_,fun b' q hf=>?_,fun r cs' hr'=>?_⟩,hl,fun b' hb'=>?_⟩
 ·by_cases hq:r=σ.spot tg
  ·exact .inr hq
  ·exact .inl (hs.has r o' (by rw [← p2 r hq]; exact h1) h2)
 ·rcases hr with hr | rfl
  ·exact Nat.lt_of_lt_of_le (hs.bound r hr) p4
  ·exact(List.getElem?_eq_some_iff.1 p3).1
 ·intro hh
  by_cases hq:r=σ.spot tg
  ·subst hq; rw [p3] at hr; cases hr
  ·rcases hh with hh | hh
   ·exact hs.free r (by rw [← p2 r hq]; exact hr) hh
   ·exact hq hh
 ·by_cases hq:r=σ.spot tg
  ·subst hq
   rw [p3] at hr'
   cases hr'
   refine⟨by simp [Gh.own],c',e,fz,by simp only [Gh.own,if_true]; exact putB_same w _ (block_lt hb),fun o' ho'=>hn o' (by omega),fun j v hj=>?_⟩
   obtain⟨cv,r1,r2,r3⟩:=hrel j v hj
   exact⟨cv,by simpa [Gh.own] using r1,r2,r3.later hl⟩
  ·have hr2:σ.objs[r]?=some (.cells cs'):=by rw [← p2 r hq]; exact hr'
   obtain⟨h1,c2,e2,fz2,hb2,hn2,hc2⟩:=hs.cells r cs' hr2
   refine⟨by simp [Gh.own,hq,h1],c2,e2,fz2,by simp only [Gh.own,hq,if_false]; rw [putB_other w _ (hob r _ hr2 trivial)]; exact hb2,hn2,fun j v hj=>?_⟩
   obtain⟨cv,r1,r2,r3⟩:=hc2 j v hj
   exact⟨cv,by simp only [Gh.own,hq,if_false]; exact r1,r2,r3.later hl⟩
 ·by_cases hq:r=σ.spot tg
  ·subst hq; rw [p3] at hr'; cases hr'; exact hoth.elim
  ·have hr2:σ.objs[r]?=some o':=by rw [← p2 r hq]; exact hr'
   obtain⟨x,a1,a2⟩:=hs.oth r o' hr2 hoth
   exact⟨x,by simp only [Gh.own,hq,if_false]; rw [putB_other w _ (hob r _ hr2 hoth.live)]; exact a1,a2.later hl⟩
 ·by_cases hq:r=σ.spot tg
  ·by_cases hq':r'=σ.spot tg
   ·exact absurd (hq.trans hq'.symm) hne
   ·simp only [Gh.own,hq,hq',if_true,if_false]
    exact hob r' o2 (by rw [← p2 r' hq']; exact h3) h4
  ·by_cases hq':r'=σ.spot tg
   ·simp only [Gh.own,hq,hq',if_true,if_false]
    exact fun e=>hob r o1 (by rw [← p2 r hq]; exact h1) h2 e.symm
   ·simp only [Gh.own,hq,hq',if_false]
    exact hs.dist r r' o1 o2 (by rw [← p2 r hq]; exact h1) h2 (by rw [← p2 r' hq']; exact h3) h4 hne
 ·by_cases hq:r=σ.spot tg
  ·simp only [Gh.own,hq,if_true]
   exact hfz q
  ·simp only [Gh.own,hq,if_false]
   exact hs.nofrz r o' (by rw [← p2 r hq]; exact h1) h2 q
 ·rw [p1] at ht
  obtain⟨h0,c2,e2,fz2,hb2,rest⟩:=hs.tok t k ht
  exact⟨h0,c2,e2,fz2,by rw [show((g.own (σ.spot tg) b o cs.length m).tok t)=g.tok t from rfl,putB_other w _ (fun e=>hun (.inr ⟨t,k,ht,e.symm⟩))]; exact hb2,rest⟩
 ·rw [p1] at h1 h2
  exact hs.tdist t t' k k' h1 h2 h3
 ·rw [p1] at h1
  by_cases hq:r=σ.spot tg
  ·simp only [Gh.own,hq,if_true]
   exact fun e=>hun (.inr ⟨t,k,h1,e⟩)
  ·simp only [Gh.own,hq,if_false]
   exact hs.tobj t k r o' h1 (by rw [← p2 r hq]; exact h2) h3
 ·obtain⟨v,hv⟩:=hs.frzb b' q hf
  exact⟨v,by rw [hcell b' q hf]; exact hv⟩
 ·by_cases hq:r=σ.spot tg
  ·subst hq
   rw [p3] at hr'
   cases hr'
   refine⟨by simpa [Gh.own] using hlm,fun c2 e2 fz2 hb2=>?_⟩
   simp only [Gh.own,if_true] at hb2 ⊢
   rw [putB_same w _ (block_lt hb)] at hb2
   cases hb2
   omega
  ·have hr2:σ.objs[r]?=some (.cells cs'):=by rw [← p2 r hq]; exact hr'
   refine⟨by simp only [Gh.own,hq,if_false]; exact(hs.lims r cs' hr2).1,fun c2 e2 fz2 hb2=>?_⟩
   simp only [Gh.own,hq,if_false] at hb2 ⊢
   rw [putB_other w _ (hob r _ hr2 trivial)] at hb2
   exact(hs.lims r cs' hr2).2 c2 e2 fz2 hb2
 ·rcases hb' with⟨r,o',h1,h2,rfl⟩ | ⟨t,k,ht,rfl⟩
  ·by_cases hq:r=σ.spot tg
   ·right; simp [Gh.own,hq]
   ·left
    simp only [Gh.own,hq,if_false]
    exact .inl ⟨r,o',by rw [← p2 r hq]; exact h1,h2,rfl⟩
  ·left
   exact .inr ⟨t,k,by rw [← p1]; exact ht,rfl⟩

theorem run_first_cells {sz len cap:Nat}{a:Addr}{vs:List Value}(hl:vs.length=len*sz)(h : ∀ k,k<len*sz→w.cell? (a.add k)=vs[k]?)(w':World)(hw:w'.heap=w.heap):(Builtin.firstCells sz len (.slice (some a) len cap)).run P w' = .ok vs.toArray w':=by
 simp only [Builtin.firstCells]
 have:=run_loadCells (P:=P) w' a (len*sz) (fun k=>vs.getD k undef) (fun j hj=>by
  rw [cell_heap hw,h j hj]
  simp [List.getD_eq_getElem?_getD,show j<vs.length by omega])
 rw [this]
 congr 2
 apply List.ext_getElem?
 intro k
 rw [List.getElem?_map]
 by_cases hk:k<len*sz
 ·simp [hk,List.getElem?_range,List.getD_eq_getElem?_getD,show k<vs.length by omega]
 ·rw [List.getElem?_eq_none (by simp; omega),List.getElem?_eq_none (by omega)]
  rfl

theorem growX_rel (hs:Sim g σ w){t xT e ty:TypeId}(ht:P.underlying t=some (.slice e))(hg:growOk P e=true){ti:TypeInfo}(hti:P.info? e=some ti){r off len:Nat}{cs cx:Value}(hsv:VR g σ.toks w (.sl r off len (P.cellsOf e)) cs)
  {m:Nat} {xv:List V} {news:Array Value} (hsrc:AppRun0 P w t xT ty e ti m cx news) (hrel:VRs g σ.toks w xv news.toList) (hxl:xv.length=m*P.cellsOf e) (hypos:0<m) {ocs:List V} (hobj:σ.objs[r]?=some (.cells ocs)) (hin2:off+len*P.cellsOf e≤ocs.length) (hlt:off<ocs.length)
  (h48:(len+m)*P.bytesOf e≤140737488355328) (h63:len+m≤9223372036854775807) {tg:Option Nat} {v:V} {σ':St}
  (h:Dn.newObj (σ.setObj r .dead) tg (.cells ((ocs.drop off).take (len*P.cellsOf e)++xv)) (fun r=>.sl r 0 (len+m) (P.cellsOf e))=some (v,σ')) :
  EStep P g σ w (Builtin.append_ #[t,xT] ty #[cs,cx]) v σ':=by
 obtain⟨i,z,hi,hzv,hisz,hiby,hc0,hzs,hz1⟩:=growOk_inv hg
 obtain rfl:i=ti:=by rw [hi] at hti; exact Option.some.inj hti
 have hpos:0<P.cellsOf e:=by omega
 have hnl:news.toList.length=m*P.cellsOf e:=by rw [← hrel.length,hxl]
 have hnl2:news.size=m*P.cellsOf e:=by simpa using hnl
 obtain⟨hp,rfl⟩:=newObj_inv h
 obtain⟨d1,d2,dlive⟩:=hs.drop hobj (by simp)
 have hspot:(σ.setObj r .dead).spot tg=σ.spot tg:=by cases tg <;> simp [St.spot,St.setObj]
 obtain⟨hl0,c,e0,fz,hb,hn,hcc⟩:=hs.cells r ocs hobj
 obtain⟨lm1,lm2⟩:=hs.lims r ocs hobj
 have lm2:=lm2 _ _ _ hb
 cases hsv with
 | sl _ _ _ _ cap a hh hcap hsz hin hout ha hsp hlim =>
  have haa:=ha (by omega)
  subst haa
  obtain⟨vs,v1,v2,v3,v4⟩:=hs.stretch hobj off (len*P.cellsOf e) hin2
  have v4':VRs g (σ.setObj r .dead).toks w ((ocs.drop off).take (len*P.cellsOf e)) vs:=v4
  have hall:VRs g (σ.setObj r .dead).toks w ((ocs.drop off).take (len*P.cellsOf e)++xv) (vs++news.toList):=v4'.append (show VRs g (σ.setObj r .dead).toks w xv news.toList from hrel)
  have hone : ∀ u∈vs++news.toList,oneC u=true:=fun u hu=>by
   rcases List.mem_append.1 hu with h | h
   ·exact v3 u h
   ·exact hsrc.one u h
  have hcl:((ocs.drop off).take (len*P.cellsOf e)++xv).length=(len+m)*P.cellsOf e:=by
   rw [hall.length,List.length_append,v1,hnl,Nat.add_mul]
  have hun : ¬ Mine g (σ.setObj r .dead) (g.obj r).1:=by
   rintro (⟨q,o',h1,h2,h3⟩ | ⟨t',k',h1,h2⟩)
   ·obtain⟨q1,q2⟩:=dlive q o' h1 h2
    exact hs.dist q r o' _ q2 h2 hobj trivial q1 h3
   ·exact hs.tobj t' k' r _ h1 hobj trivial h2
  by_cases hf:len+m≤cap
  ·-- in its own room
   have hby:m*i.bytes≤140737488355328:=by
    have:=Nat.mul_le_mul_right (P.bytesOf e) (show m≤len+m by omega)
    rw [hiby]
    omega
   have hrun:=hsrc.fit (a:=⟨(g.obj r).1,(g.obj r).2+off,none⟩) (sLen:=len) (sCap:=cap) hypos hby (by omega) hf
   rw [hisz] at hrun
   have m1:=Nat.mul_le_mul_right (P.cellsOf e) hf
   rw [Nat.add_mul] at m1
   have hst:=run_storeCells_own (P:=P) (g.obj r).1 ((g.obj r).2+off+len*P.cellsOf e) e0 fz news.toList 0 c w hb hn (by omega) hsrc.one
   rw [Nat.add_zero] at hst
   obtain⟨s1,s2,s3⟩:=d1.reown hp (b:=(g.obj r).1) (o:=(g.obj r).2+off) (c':=(Dn.splice c.toList ((g.obj r).2+off+len*P.cellsOf e) news.toList).toArray) hb hn (by rw [List.size_toArray,splice_length _ _ _ (by simp; omega)]; simp) hun
    (fun q=>hs.nofrz r _ hobj trivial q) (m:=cap*P.cellsOf e) (by rw [hcl,Nat.add_mul]; exact m1) (by omega) (fun j u hj=>by
     have hju:j<(vs++news.toList).length:=by rw [← hall.length]; exact(List.getElem?_eq_some_iff.1 hj).1
     refine⟨(vs++news.toList)[j],?_,hone _ (List.getElem_mem hju),hall.get j u _ hj (by simp [hju])⟩
     simp only [List.getElem?_toArray]
     rw [splice_get _ _ _ (by simp; omega)]
     have hg:(vs++news.toList)[j]?=some (vs++news.toList)[j]:=by simp [hju]
     by_cases hj2:j<len*P.cellsOf e
     ·rw [if_neg (by omega),← hg,List.getElem?_append_left (by omega)]
      have:=v2 j hj2
      rw [cell_of_block hb] at this
      simpa [Nat.add_assoc] using this
     ·rw [List.length_append,v1] at hju
      rw [if_pos ⟨by omega,by omega⟩,← hg,List.getElem?_append_right (by omega),v1]
      congr 1
      omega)
   rw [hspot] at s1 s2 s3
   refine⟨.slice (some ⟨(g.obj r).1,(g.obj r).2+off,none⟩) (len+m) cap,_,_,?_,s1,?_,?_⟩
   ·rw [hrun,addr_add,hst]
    rfl
   ·rw [hspot]
    have:=VR.sl (g:=g.own (σ.spot tg) (g.obj r).1 ((g.obj r).2+off) ((ocs.drop off).take (len*P.cellsOf e)++xv).length (cap*P.cellsOf e)) (tk:=σ'.toks) (w:=putB w (g.obj r).1 (.cells (Dn.splice c.toList ((g.obj r).2+off+len*P.cellsOf e) news.toList).toArray e0 fz)) (σ.spot tg) 0 (len+m) (P.cellsOf e) cap ⟨(g.obj r).1,(g.obj r).2+off,none⟩ (.inr rfl) hf hpos
     (by simp only [Gh.own,if_true,hcl]; omega) (by simp only [Gh.own,if_true,hcl,Nat.add_mul]; omega) (fun _=>by simp [Gh.own]) rfl (by simp [Gh.own])
    exact this
   ·refine⟨d2.later.trans s2,by simp [putB],rfl,rfl,rfl,fun b hb' hm=>putB_other w _ (fun e=>hm (.inl ⟨r,_,hobj,trivial,e⟩)),fun b hb'=>?_,fun b q hf=>.inl hf⟩
    rcases s3 b hb' with h | h
    ·exact d2.mine b h
    ·exact .inl (.inl ⟨r,_,hobj,trivial,h.symm⟩)
  ·-- a new block
   have hold:=fun w' hw'=>run_first_cells (P:=P) (w:=w) (sz:=P.cellsOf e) (len:=len) (cap:=cap) (a:=⟨(g.obj r).1,(g.obj r).2+off,none⟩) v1 (fun k hk=>by rw [addr_add]; exact v2 k hk) w' hw'
   have hrun:=hsrc.grow hzv (base:=some ⟨(g.obj r).1,(g.obj r).2+off,none⟩) (sLen:=len) (sCap:=cap) (olds:=vs.toArray) hypos (by rw [hisz]; exact hold) (by omega) h63 (by rw [hiby]; exact h48)
   have hcge:=grownCap_ge w (len+m) cap e
   generalize hcap2:grownCap w (len+m) cap e=newCap at *
   have hgr:Grown1 w (.cells (vs.toArray++news++Builtin.zeroCells z.cells (newCap-(len+m))) e (0,0)) (w.drew.alloc (.cells (vs.toArray++news++Builtin.zeroCells z.cells (newCap-(len+m))) e)) :=
    ⟨by simp [World.alloc,World.drew,-World.alloc_eq,-World.drew_eq],by simp [World.alloc,World.drew,-World.alloc_eq,-World.drew_eq],by simp [World.alloc,World.drew,-World.alloc_eq,-World.drew_eq],by simp [World.alloc,World.drew,-World.alloc_eq,-World.drew_eq]⟩
   obtain⟨s1,s2⟩:=d1.new_obj2 hp hall hone (c:=vs.toArray++news++Builtin.zeroCells z.cells (newCap-(len+m))) (e:=e) (fun j u hj=>by
    have hlt2:j<(vs.toArray++news).size:=by
     have:=(List.getElem?_eq_some_iff.1 hj).1
     simpa using this
    rw [Array.getElem?_append_left hlt2,← Array.getElem?_toList,Array.toList_append]
    exact hj) hgr
   have hcs:(vs.toArray++news++Builtin.zeroCells z.cells (newCap-(len+m))).size=newCap*P.cellsOf e:=by
    simp only [Array.size_append,size_zeroCells,hzs]
    have a1:vs.toArray.size=len*P.cellsOf e:=by simpa using v1
    have a2:news.size=m*P.cellsOf e:=by simpa using hnl
    rw [a1,a2,← Nat.add_mul,← Nat.add_mul]
    congr 1
    omega
   rw [hspot] at s1 s2
   refine⟨_,_,_,hrun,s1,?_,d2.trans s2⟩
   rw [hspot]
   have m1:=Nat.mul_le_mul_right (P.cellsOf e) hcge
   exact VR.sl (g:=g.add (σ.spot tg) w.heap.size ((ocs.drop off).take (len*P.cellsOf e)++xv).length (vs.toArray++news++Builtin.zeroCells z.cells (newCap-(len+m))).size) (σ.spot tg) 0 (len+m) (P.cellsOf e) newCap ⟨w.heap.size,0,none⟩ (.inr rfl) hcge hpos
    (by simp only [Gh.add,if_true,hcl]; omega) (by simp only [Gh.add,if_true,hcl]; omega) (fun _=>by simp [Gh.add]) rfl (by simp only [Gh.add,if_true,hcs]; omega)

theorem growS_rel (hs:Sim g σ w){t xT e ty:TypeId}(ht:P.underlying t=some (.slice e))(hg:growOk P e=true){ti:TypeInfo}(hti:P.info? e=some ti){r off len:Nat}{cs cx:Value}(hsv:VR g σ.toks w (.sl r off len (P.cellsOf e)) cs)
  {ys:List (List D)} {news:Array Value} (hsrc:AppRun P g.frz w t xT ty e ti ys cx news) (hfit0:fitR (P.cellsOf e) ys=true) (hne:ys≠[]) {ocs:List V} (hobj:σ.objs[r]?=some (.cells ocs)) (hin2:off+len*P.cellsOf e≤ocs.length) (hlt:off<ocs.length)
  (h48:(len+ys.length)*P.bytesOf e≤140737488355328) (h63:len+ys.length≤9223372036854775807) {tg:Option Nat} {v:V} {σ':St}
  (h:Dn.newObj (σ.setObj r .dead) tg (.cells ((ocs.drop off).take (len*P.cellsOf e)++ys.flatten.map .d)) (fun r=>.sl r 0 (len+ys.length) (P.cellsOf e))=some (v,σ')) :
  EStep P g σ w (Builtin.append_ #[t,xT] ty #[cs,cx]) v σ' :=
 growX_rel hs ht hg hti hsv hsrc.toAppRun0 (DRs.to_v hsrc.one hsrc.rel) (by rw [List.length_map,flatten_len ys (fun i row hr=>fitR_get hfit0 hr)]) (List.length_pos_iff.2 hne) hobj hin2 hlt h48 h63 h

theorem obj_app (hs:Sim g σ w){t xT e ty:TypeId}(ht:P.underlying t=some (.slice e)){ti:TypeInfo}(hti:P.info? e=some ti)(hsz:ti.size=P.cellsOf e){dx:TypeDesc}(hx:P.underlying xT=some dx)(hni : ∀ k,dx ≠ .int k){r off len:Nat}{cx:Value}(hv:VR g σ.toks w (.sl r off len (P.cellsOf e)) cx)
  {cs:List V} (hobj:σ.objs[r]?=some (.cells cs)) (hin:off+len*P.cellsOf e≤cs.length) (hlt:off<cs.length) :
  ∃ news:Array Value,AppRun0 P w t xT ty e ti len cx news∧VRs g σ.toks w ((cs.drop off).take (len*P.cellsOf e)) news.toList:=by
 have hl0:=(hs.cells r cs hobj).1
 cases hv with
 | sl _ _ _ _ cap a hh hcap hsz2 hin2 hout ha hsp hlim =>
  have haa:=ha (by omega)
  subst haa
  obtain⟨vs,v1,v2,v3,v4⟩:=hs.stretch hobj off (len*P.cellsOf e) hin
  have hold:=fun w' hw'=>run_first_cells (P:=P) (w:=w) (sz:=P.cellsOf e) (len:=len) (cap:=cap) (a:=⟨(g.obj r).1,(g.obj r).2+off,none⟩) v1 (fun k hk=>by rw [addr_add]; exact v2 k hk) w' hw'
  have hlen:(Builtin.lenOf (.slice (some ⟨(g.obj r).1,(g.obj r).2+off,none⟩) len cap)).run P w = .ok len w:=rfl
  rw [← hsz] at hold
  exact⟨vs.toArray,⟨by simpa using v3,fun _ _ _ hf=>run_append_fit' ht hti hx hni hlen (hold w rfl) hf,fun hz _ ho hg h63 h48=>run_append_grow' ht hti hz hx hni hlen hold ho hg h63 h48⟩,v4⟩

end Go.Dn
