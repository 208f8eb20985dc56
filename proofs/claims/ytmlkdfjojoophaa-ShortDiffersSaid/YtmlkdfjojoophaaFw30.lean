import Derived.Test.YtmlkdfjojoophaaFw26
/- Function bodies: calls are what the small language says. -/
namespace Go.Dn
open Go.Lib
set_option linter.unusedVariables false
set_option linter.unusedSimpArgs false

variable {P : Program}

structure Fits (P : Program) (T : List (Nat × List D)) (f : Nat) (fc : FnC) where
 fn : Func
 code : Code
 at_ : P.funcs[f]? = some fn
 body : fn.body = some code
 name : (fn.name == "runtime.NumGoroutine") = false
 comp : comp P fn.ntmps code = some (erase fc.body)
 res : compRes P fn.results.toList = some fc.res
 tmps : fc.nparams ≤ fn.ntmps
 few : fn.ntmps ≤ GB
 globs : ∀ x ∈ fc.globs, x ∈ T

theorem initEnv_get : ∀ (vs : List V) (i s : Nat), (initEnv i vs).get s = if s < i then .any else (vs[s - i]?).getD .any
 | [], i, s => by simp [initEnv, Env.get]
 | v :: r, i, s => by
  simp only [initEnv, Env.get]
  by_cases h : i = s
  ·subst h; simp
  ·rw [if_neg h, initEnv_get r (i + 1) s]
   by_cases h2 : s < i
   ·rw [if_pos h2, if_pos (by omega)]
   ·rw [if_neg h2, if_neg (by omega), show s - i = (s - (i + 1)) + 1 by omega]
    simp

theorem env_app {g : Gh} {tk : List Nat} {w : World} {x : Value} {s : Nat} : ∀ {e e' : Env}, VR g tk w (e.get s) x → VR g tk w (e'.get s) x → VR g tk w (Env.get (e ++ e') s) x
 | [], e', _, h' => h'
 | (t, v) :: r, e', h, h' => by
  simp only [List.cons_append, Env.get] at h ⊢
  by_cases hts : t = s
  ·rw [if_pos hts] at h ⊢; exact h
  ·rw [if_neg hts] at h ⊢; exact env_app h h'

theorem glob_env {g : Gh} {tk : List Nat} {w : World} {T : List (Nat × List D)} (hT : GlobR T g tk w) : ∀ {l : List (Nat × List D)}, (∀ x ∈ l, x ∈ T) → ∀ (tmps : Array Value) (s : Nat), VR g tk w ((globEnv l).get s) (slotV tmps s)
 | [], _, _, _ => .any _
 | (k, cs) :: r, h, tmps, s => by
  simp only [globEnv, List.map_cons, Env.get]
  by_cases hs : GB + k = s
  ·rw [if_pos hs]
   subst hs
   rw [slotV, if_neg (by omega), Nat.add_sub_cancel_left]
   exact hT k cs (h _ (by simp))
  ·rw [if_neg hs]
   exact glob_env hT (fun x hx => h x (by simp [hx])) tmps s

theorem init_env {g : Gh} {tk : List Nat} {w : World} {vs : List V} {args : Array Value} (hv : VRs g tk w vs args.toList) {n : Nat} (hn : vs.length ≤ n) (hgb : n ≤ GB) {T l : List (Nat × List D)} (hT : GlobR T g tk w) (hl2 : ∀ x ∈ l, x ∈ T) :
  EnvR g tk w n (initEnv 0 vs ++ globEnv l) (args ++ Array.replicate (n - args.size) undef) := by
 have hl := hv.length
 simp at hl
 refine ⟨⟨by simp; omega, hgb⟩, fun s => ?_⟩
 refine env_app ?_ (glob_env hT hl2 _ s)
 rw [initEnv_get, if_neg (by omega), Nat.sub_zero]
 cases hs : vs[s]? with
 | none => exact .any _
 | some v =>
  have hlt : s < vs.length := (List.getElem?_eq_some_iff.1 hs).1
  rw [slotV, if_pos (by omega)]
  have : (args ++ Array.replicate (n - args.size) undef).getD s undef = args[s]'(by omega) := by
   rw [Array.getD_eq_getD_getElem?, Array.getElem?_append_left (by omega)]
   simp [show s < args.size by omega]
  rw [this]
  exact hv.get s v _ hs (by simp [show s < args.size by omega])

def resF (tmps : Array Value) : ResultVar → Sem Value
 | .tmp t => pure (tmps.getD t undef)
 | .cell a t => do loadVar t (← asAddr (tmps.getD a undef))

def tupC : List Value → Value
 | [x] => x
 | xs => .tuple xs.toArray

theorem res_rel {g : Gh} {σ : St} {w : World} (hs : Sim g σ w) {n : Nat} {e : Env} {tmps : Array Value} (he : EnvR g σ.toks w n e tmps) : ∀ {rs : List ResultVar} {l : List Res}, compRes P rs = some l → ∀ {vs : List V}, resAll e σ l = some vs →
  ∃ xs : List Value, (List.mapM (m := Sem) (resF tmps) rs).run P w = .ok xs w ∧ VRs g σ.toks w vs xs
 | [], l, h, vs, hv => by
  simp [compRes] at h
  subst h
  simp [resAll] at hv
  subst hv
  exact ⟨[], by simp, trivial⟩
 | .tmp s :: r, l, h, vs, hv => by
  simp only [compRes] at h
  split at h
  ·rename_i l' hl
   split at h
   case isFalse => cases h
   rename_i hlt
   cases h
   simp only [resAll, Res.ev] at hv
   split at hv
   ·rename_i v vs' h1 h2
    cases hv
    cases h1
    obtain ⟨xs, r1, r2⟩ := res_rel hs he hl h2
    exact ⟨tmps.getD s undef :: xs, by
     have : (resF tmps (.tmp s)).run P w = .ok (tmps.getD s undef) w := rfl
     rw [List.mapM_cons]
     simp only [Sem.run_bind, Sem.run_pure, Result.andThen_ok, this, r1], he.at hlt, r2⟩
   ·cases hv
  ·cases h
 | .cell a t :: r, l, h, vs, hv => by
  simp only [compRes] at h
  split at h
  ·rename_i l' hl
   split at h
   ·rename_i hok
    cases h
    simp only [resAll, Res.ev] at hv
    split at hv
    ·rename_i v vs' h1 h2
     cases hv
     obtain ⟨xs, r1, r2⟩ := res_rel hs he hl h2
     obtain ⟨cv, c1, c2⟩ := loadAt_rel hs hok.1 (he.at hok.2) h1
     have hp : ∃ ad, tmps.getD a undef = .pointer (some ad) := by
      have := he.at hok.2
      unfold loadAt at h1
      split at h1
      ·rename_i r o hr
       rw [hr] at this
       generalize tmps.getD a undef = tv at this
       cases this
       exact ⟨_, rfl⟩
      ·rename_i cs hr
       rw [hr] at this
       generalize tmps.getD a undef = tv at this
       cases this
       exact ⟨_, rfl⟩
      ·cases h1
     obtain ⟨ad, had⟩ := hp
     refine ⟨cv :: xs, ?_, c2, r2⟩
     rw [had] at c1
     simp only [Instr.loadAt, Instr.sureAddr, Sem.run_bind, Sem.run_pure, Result.andThen_ok] at c1
     have : (resF tmps (.cell a t)).run P w = .ok cv w := by simp only [resF, had, asAddr, Sem.run_bind, Sem.run_pure, Result.andThen_ok, c1]
     rw [List.mapM_cons]
     simp only [Sem.run_bind, Sem.run_pure, Result.andThen_ok, this, r1]
    ·cases hv
   ·cases h
  ·cases h

theorem run_results {fn : Func} {tmps : Array Value} {w : World} {xs : List Value}
  (h : (List.mapM (m := Sem) (resF tmps) fn.results.toList).run P w = .ok xs w) :
  (results fn tmps).run P w = .ok (tupC xs) w := by
 have e : results fn tmps = (do let vs ← fn.results.mapM (resF tmps); pure (if h : vs.size = 1 then vs[0] else .tuple vs)) := rfl
 rw [e, Array.mapM_eq_mapM_toList]
 simp only [map_eq_pure_bind, Sem.run_bind, h, Result.andThen_ok, Sem.run_pure]
 congr 1
 match xs with
 | [] => rfl
 | [x] => rfl
 | _ :: _ :: _ => rfl

theorem tup_rel {g : Gh} {tk : List Nat} {w : World} {vs : List V} {xs : List Value} (h : VRs g tk w vs xs) : VR g tk w (tupOf vs) (tupC xs) := by
 match vs, xs, h with
 | [v], [x], h => exact h.1
 | [], [], h => exact .tup [] #[] rfl (fun i c v h => by simp at h)
 | v :: v' :: r, x :: x' :: s, h =>
  refine .tup _ _ (by simpa using h.length) (fun i c v hc hx => h.get i c v hc (by simpa using hx))
 | [], _ :: _, h => exact h.elim
 | _ :: _, [], h => exact h.elim
 | [_], _ :: _ :: _, h => exact h.2.elim
 | _ :: _ :: _, [_], h => exact h.2.elim

theorem lent_mine {g : Gh} {σ : St} {x y : V} (h : x.byVal σ = some y) {b q : Nat} (hl : Lent g x b q) : Mine g σ b := by
 cases x with
 | sl r off len sz =>
  obtain ⟨rfl, _⟩ := hl
  simp only [V.byVal, V.rows] at h
  split at h
  ·rename_i rows hr
   split at hr
   ·rename_i cs hobj
    exact .inl ⟨r, _, hobj, trivial, rfl⟩
   ·cases hr
  ·cases h
 | _ => exact hl.elim

theorem lents_mine {g : Gh} {σ : St} : ∀ {xs ys : List V}, byVals σ xs = some ys → ∀ x ∈ xs, ∀ b q, Lent g x b q → Mine g σ b
 | [], _, _, x, hx => by simp at hx
 | x :: xs, ys, h, z, hz => by
  simp only [byVals] at h
  split at h
  ·rename_i y l hy hyl
   rcases List.mem_cons.1 hz with rfl | hz
   ·exact fun b q hl => lent_mine hy hl
   ·exact lents_mine hyl z hz
  ·cases h

theorem VR.back {g g' : Gh} {σ σ' : St} {w w' : World} (hl : Later g σ.toks w g' σ'.toks w') (hk : ∀ (t k : Nat), σ.toks[t]? = some k → σ'.toks[t]? = some k) {f' : Nat → Nat → Prop} (hf : ∀ b q, g'.frz b q → f' b q) {v : V} {x0 : Value} (h0 : VR g σ.toks w v x0) :
  ∀ {x : Value}, VR g' σ'.toks w' v x → VR { g with frz := f' } σ.toks w' v x := by
 have hst : Stay g'.frz f' w' w' := ⟨hf, fun _ _ _ => rfl⟩
 induction h0 with
 | d y v h h1 => intro x hx; cases hx with | d _ _ a b => exact .d _ _ (a.mono hst) b
 | da cs vs h => intro x hx; cases hx with | da _ _ a => exact .da _ _ (a.mono hst)
 | agg cs vs hs h1 hh ih =>
  intro x hx
  cases hx with
  | agg _ vs' hs' h1' hh' =>
   exact .agg cs vs' hs' h1' fun i c v hc hv => by
    have hi : i < vs.size := by rw [← hs]; exact (List.getElem?_eq_some_iff.1 hc).1
    exact ih i c vs[i] hc (by simp [hi]) (hh' i c v hc hv)
 | tup cs vs hs hh ih =>
  intro x hx
  cases hx with
  | tup _ vs' hs' hh' =>
   exact .tup cs vs' hs' fun i c v hc hv => by
    have hi : i < vs.size := by rw [← hs]; exact (List.getElem?_eq_some_iff.1 hc).1
    exact ih i c vs[i] hc (by simp [hi]) (hh' i c v hc hv)
 | ref r off h =>
  intro x hx
  cases hx with
  | ref _ _ h' => rw [(hl.has r h).2.1]; exact VR.ref (g := { g with frz := f' }) r off h
 | ro cs b o cv hf1 hc h1 hd =>
  intro x hx
  cases hx with
  | ro _ b' o' cv' hf1' hc' h1' hd' => exact .ro cs b' o' cv' (fun k hk => hf _ _ (hf1' k hk)) hc' h1' (fun k d hk => (hd' k d hk).mono hst)
 | sl r off len sz cap a h hcap hsz hin hout ha hsp hlim =>
  intro x hx
  cases hx with
  | sl _ _ _ _ cap' a' h' hcap' hsz' hin' hout' ha' hsp' hlim' =>
   obtain ⟨_, e1, e2⟩ := hl.has r h
   exact VR.sl (g := { g with frz := f' }) r off len sz cap' a' h hcap' hsz' (by rw [← e2]; exact hin') (by rw [← e2]; exact hout') (by rw [← e2, ← e1]; exact ha') hsp' (by show off + cap' * sz ≤ g.lim r; rw [← hl.lim r h]; exact hlim')
 | fl rows a h =>
  intro x hx
  cases hx with
  | fl _ a' h' => exact .fl rows a' (h'.mono hst)
 | tl rows t st sz k a cap hd ht hle hh hsz ha =>
  intro x hx
  cases hx with
  | tl _ _ _ _ k' a' cap' hd' ht' hle' hh' hsz' ha' =>
   have hkk := hk t k ht
   rw [ht'] at hkk
   cases hkk
   obtain ⟨k2, e1, e2, e3, e4⟩ := hl.tok t k ht
   rw [ht'] at e1
   cases e1
   have e5 := e3 rfl
   exact VR.tl (g := { g with frz := f' }) rows t st sz k a' cap' (hd'.mono hst) ht hle' hh' (by show (g.tok t).sz = sz; rw [← e5]; exact hsz') (fun p q => by show (g.tok t).s0 ≤ st ∧ a' = ⟨(g.tok t).b, _, none⟩ ∧ _; rw [← e5]; exact ha' p q)
 | map r h =>
  intro x hx
  cases hx with
  | map _ h' => rw [(hl.has r h).2.1]; exact VR.map (g := { g with frz := f' }) r h
 | yld r h =>
  intro x hx
  cases hx with
  | yld _ h' => rw [(hl.has r h).2.1]; exact VR.yld (g := { g with frz := f' }) r h
 | iter r h =>
  intro x hx
  cases hx with
  | iter _ h' => rw [(hl.has r h).2.1]; exact VR.iter (g := { g with frz := f' }) r h
 | fn f first caps first' caps' h1 h2 hh hh' ih ih' =>
  intro x hx
  cases hx with
  | fn _ _ _ xf xc a1 a2 b1 b2 =>
   exact .fn f first caps xf xc a1 a2 (fun i c v hc hv => by
    have hi : i < first'.size := by rw [← h1]; exact (List.getElem?_eq_some_iff.1 hc).1
    exact ih i c first'[i] hc (by simp [hi]) (b1 i c v hc hv)) (fun i c v hc hv => by
    have hi : i < caps'.size := by rw [← h2]; exact (List.getElem?_eq_some_iff.1 hc).1
    exact ih' i c caps'[i] hc (by simp [hi]) (b2 i c v hc hv))
 | ifc t v y hh ih =>
  intro x hx
  cases hx with
  | ifc _ _ y' h' => exact .ifc t v y' (ih h')
 | gone => intro x hx; cases hx; exact .gone
 | any v => intro x hx; exact .any x

theorem OthR.back {g g' : Gh} {σ σ' : St} {w w' : World} (hl : Later g σ.toks w g' σ'.toks w') (hk : ∀ (t k : Nat), σ.toks[t]? = some k → σ'.toks[t]? = some k) {f' : Nat → Nat → Prop} (hf : ∀ b q, g'.frz b q → f' b q) {o : Obj} {x0 x : Go.Obj} (h0 : OthR g σ.toks w o x0) (h : OthR g' σ'.toks w' o x) : OthR { g with frz := f' } σ.toks w' o x := by
 cases o <;> cases x0 <;> (try exact h0.elim) <;> cases x <;> try exact h.elim
 case map =>
  obtain ⟨a1, a2, a3, a4⟩ := h0
  obtain ⟨b1, b2, b3, b4⟩ := h
  refine ⟨b1, b2, b3, fun i b k v hi => ?_⟩
  obtain ⟨x, c1, c2, c3, c4, c5⟩ := a4 i b k v hi
  obtain ⟨y, d1, d2, d3, d4, d5⟩ := b4 i b k v hi
  exact ⟨y, d1, d2, VR.back hl hk hf c3 d3, VR.back hl hk hf c4 d4, d5⟩
 case iter m _ _ _ _ _ _ _ _ _ _ _ =>
  obtain ⟨a1, a2, a3⟩ := h0
  obtain ⟨b1, b2, b3⟩ := h
  refine ⟨?_, a2, b3⟩
  rw [b1]
  cases m with
  | none => rfl
  | some r => simp [(hl.has r (a2 r rfl)).2.1]
 case loop =>
  obtain ⟨a1, a2, a3, a4, n, a5, a6, a7, a8⟩ := h0
  obtain ⟨b1, b2, b3, b4, m, b5, b6, b7, b8⟩ := h
  exact ⟨b1, b2, b3, b4, m, b5, by rw [← hl.prog]; exact b6, by rw [← hl.prog]; exact b7, b8.1, fun s => VR.back hl hk hf (a8.2 s) (b8.2 s)⟩

theorem Sim.restrict {g g' : Gh} {σ σ' : St} {w w' : World} (hs : Sim g σ w) (hs' : Sim g' σ' w') (hev : Ev g σ w g' σ' w') (hk : Keeps σ σ') {f' : Nat → Nat → Prop} (hf : ∀ b q, g'.frz b q → f' b q)
  (hnew : ∀ b q, f' b q → g'.frz b q ∨ ((∃ u, w'.cell? ⟨b, q, none⟩ = some u) ∧ (∃ (r : Nat) (o : Obj), σ.objs.length ≤ r ∧ σ'.objs[r]? = some o ∧ o.live ∧ (g'.obj r).1 = b))) :
  Sim { g with frz := f' } σ w' ∧ Ev g σ w { g with frz := f' } σ w' := by
 obtain ⟨ko, kt⟩ := hk
 have keep : ∀ (r : Nat) (o : Obj), σ.objs[r]? = some o → σ'.objs[r]? = some o := fun r o h => by
  rw [ko r (List.getElem?_eq_some_iff.1 h).1]; exact h
 have hobj : ∀ r, g.has r → g'.obj r = g.obj r := fun r h => (hev.later.has r h).2.1
 have hlen : ∀ r, g.has r → g'.len r = g.len r := fun r h => (hev.later.has r h).2.2
 have htok : ∀ (t k : Nat), σ.toks[t]? = some k → g'.tok t = g.tok t := fun t k h => by
  obtain ⟨k2, e1, e2, e3, e4⟩ := hev.later.tok t k h
  have := kt t k h
  rw [e1] at this
  cases this
  exact e3 rfl
 have free : ∀ (r : Nat) (o : Obj), σ.objs[r]? = some o → o.live → ∀ q, ¬ f' (g.obj r).1 q := fun r o h hl q hq => by
  have hh := hs.has r o h hl
  rcases hnew _ _ hq with h1 | ⟨_, r2, o2, h2, h3, h4, h5⟩
  ·exact hs'.nofrz r o (keep r o h) hl q (by rw [hobj r hh]; exact h1)
  ·have hne : r2 ≠ r := fun e => by
    have := (List.getElem?_eq_some_iff.1 h).1
    omega
   exact hs'.dist r2 r o2 o h3 h4 (keep r o h) hl hne (by rw [h5, hobj r hh])
 refine ⟨⟨hs.has, hs.bound, hs.free, fun r cs h => ?_, fun r o h ho => ?_, hs.dist, free, fun t k h => ?_, hs.tdist, hs.tobj, fun b q h => ?_, fun r cs h => ?_⟩, ⟨⟨⟨fun b q h => hf b q (hev.later.stay.frz b q h), hev.later.stay.cell⟩, fun r h => ⟨h, rfl, rfl⟩, fun t k h => ⟨k, h, Nat.le_refl _, fun _ => rfl, rfl⟩, rfl, fun _ _ => rfl⟩,
  hev.size, hev.os, hev.tape, hev.output, hev.frame, fun b h => .inl h, fun b q h => ?_⟩⟩
 ·have hh := hs.has r _ h trivial
  obtain ⟨h1, c, e, fz, h2, h3, h4⟩ := hs'.cells r cs (keep r _ h)
  obtain ⟨o1, oc, oe, ofz, o2, o3, o4⟩ := hs.cells r cs h
  refine ⟨o1, c, e, fz, by rw [← hobj r hh]; exact h2, h3, fun j v hj => ?_⟩
  obtain ⟨cv, a1, a2, a3⟩ := h4 j v hj
  obtain ⟨cv0, b1, b2, b3⟩ := o4 j v hj
  exact ⟨cv, by rw [← hobj r hh]; exact a1, a2, VR.back hev.later kt hf b3 a3⟩
 ·have hh := hs.has r _ h ho.live
  obtain ⟨x, a1, a2⟩ := hs'.oth r o (keep r o h) ho
  obtain ⟨x0, b1, b2⟩ := hs.oth r o h ho
  exact ⟨x, by show w'.heap[(g.obj r).1]? = _; rw [← hobj r hh]; exact a1, OthR.back hev.later kt hf b2 a2⟩
 ·obtain ⟨h0, c, e, fz, hb, hn, hsz, hz⟩ := hs'.tok t k (kt t k h)
  have et := htok t k h
  rw [et] at h0 hb hsz hz
  refine ⟨h0, c, e, fz, hb, hn, hsz, fun q hq hfr => ?_⟩
  rcases hnew _ _ hfr with h1 | ⟨_, r2, o2, h2, h3, h4, h5⟩
  ·exact hz q hq h1
  ·exact hs'.tobj t k r2 o2 (kt t k h) h3 h4 (by rw [et, h5])
 ·rcases hnew b q h with h1 | ⟨h1, _⟩
  ·exact hs'.frzb b q h1
  ·exact h1
 ·have hh := hs.has r _ h trivial
  obtain ⟨l1, l2⟩ := hs'.lims r cs (keep r _ h)
  rw [hlen r hh, hev.later.lim r hh] at l1
  rw [hobj r hh, hev.later.lim r hh] at l2
  exact ⟨l1, l2⟩
 ·rcases hnew b q h with h1 | ⟨_, r2, o2, h2, h3, h4, h5⟩
  ·exact hev.newf b q h1
  ·rcases hev.mine b (.inl ⟨r2, o2, h3, h4, h5⟩) with h6 | h6
   ·exact .inr (.inl h6)
   ·exact .inr (.inr h6)

theorem lents_row {σ : St} : ∀ {xs ys : List V}, byVals σ xs = some ys → ∀ x ∈ xs, x.byVal σ ≠ none
 | [], _, _, x, hx => by simp at hx
 | x :: xs, ys, h, z, hz => by
  simp only [byVals] at h
  split at h
  ·rename_i y l hy hyl
   rcases List.mem_cons.1 hz with rfl | hz
   ·rw [hy]; simp
   ·exact lents_row hyl z hz
  ·cases h

theorem byValsN_inv {lo : Nat} {σ : St} : ∀ {vs ds : List V}, byValsN lo σ vs = some ds → byVals σ vs = some ds ∧ ∀ x ∈ vs, ∀ r off len sz, x = .sl r off len sz → lo ≤ r
 | [], ds, h => by simp only [byValsN] at h; cases h; exact ⟨rfl, by simp⟩
 | v :: r, ds, h => by
  simp only [byValsN] at h
  split at h
  ·rename_i y l hy hl
   cases h
   obtain ⟨a, b⟩ := byValsN_inv hl
   have : v.byVal σ = some y ∧ ∀ r off len sz, v = .sl r off len sz → lo ≤ r := by
    cases v with
    | sl q off len sz =>
     simp only [V.byValN] at hy
     split at hy
     ·rename_i hlo
      exact ⟨hy, fun r off len sz e => by cases e; exact hlo⟩
     ·cases hy
    | _ => exact ⟨hy, fun r off len sz e => by cases e⟩
   refine ⟨by simp [byVals, this.1, a], fun x hx => ?_⟩
   rcases List.mem_cons.1 hx with rfl | hx
   ·exact this.2
   ·exact b x hx
  ·cases h

theorem Sim.put_un {g : Gh} {σ : St} {w : World} (hs : Sim g σ w) {r : Nat} (hm : ¬ Mine g σ r) {ds : Option (List Deferred)} (hr : w.heap[r]? = some (.deferred ds)) (x : Go.Obj) : Sim g σ (putB w r x) ∧ Later g σ.toks w g σ.toks (putB w r x) := by
 have hne : ∀ b q, g.frz b q → r ≠ b := fun b q hf e => by
  obtain ⟨v, hv⟩ := hs.frzb b q hf
  unfold World.cell? at hv
  rw [← e, hr] at hv
  simp at hv
 have hcell : ∀ b q, g.frz b q → (putB w r x).cell? ⟨b, q, none⟩ = w.cell? ⟨b, q, none⟩ := fun b q hf => putB_cell w _ (hne b q hf) q
 have hl : Later g σ.toks w g σ.toks (putB w r x) := ⟨⟨fun b q hf => hf, hcell⟩, fun q hq => ⟨hq, rfl, rfl⟩, fun t k ht => ⟨k, ht, Nat.le_refl _, fun _ => rfl, rfl⟩, rfl, fun _ _ => rfl⟩
 have hob : ∀ (q : Nat) (o : Obj), σ.objs[q]? = some o → o.live → r ≠ (g.obj q).1 := fun q o h1 h2 e => hm (.inl ⟨q, o, h1, h2, e.symm⟩)
 refine ⟨⟨hs.has, hs.bound, hs.free, fun q cs h => ?_, fun q o h ho => ?_, hs.dist, hs.nofrz, fun t k ht => ?_, hs.tdist, hs.tobj, fun b q hf => ?_, fun q cs h => ⟨(hs.lims q cs h).1, fun c e fz hb => (hs.lims q cs h).2 c e fz (by rw [← putB_other w _ (hob q _ h trivial)]; exact hb)⟩⟩, hl⟩
 ·obtain ⟨h1, c, e, fz, h2, h3, h4⟩ := hs.cells q cs h
  refine ⟨h1, c, e, fz, by rw [putB_other w _ (hob q _ h trivial)]; exact h2, h3, fun j v hj => ?_⟩
  obtain ⟨cv, a1, a2, a3⟩ := h4 j v hj
  exact ⟨cv, a1, a2, a3.later hl⟩
 ·obtain ⟨y, a1, a2⟩ := hs.oth q o h ho
  exact ⟨y, by rw [putB_other w _ (hob q _ h ho.live)]; exact a1, a2.later hl⟩
 ·obtain ⟨h0, c, e, fz, hb, rest⟩ := hs.tok t k ht
  exact ⟨h0, c, e, fz, by rw [putB_other w _ (fun e => hm (.inr ⟨t, k, ht, e.symm⟩))]; exact hb, rest⟩
 ·obtain ⟨v, hv⟩ := hs.frzb b q hf
  exact ⟨v, by rw [hcell b q hf]; exact hv⟩

theorem take_mark {cx : Cx} {n : Nat} {g0 : Gh} {σ0 : St} {w0 : World} {e : Env} {σ : St} {tmps : Array Value} {r : Nat} {ds : List Deferred} {w : World} (h : At P cx n g0 σ0 w0 e σ { tmps := tmps, defers := { target := .collected r, args := #[] } :: ds } w) :
  (Instr.takeDeferred r).run P w = .ok [] (putB w r (.deferred none)) ∧ At P cx n g0 σ0 w0 e σ { tmps := tmps, defers := ds } (putB w r (.deferred none)) := by
 obtain ⟨g, hs, he, ⟨⟨rs, m1, m2, m3⟩, hkx⟩, hev⟩ := h
 cases rs with
 | nil => simp at m1
 | cons q rs =>
  simp at m1
  obtain ⟨rfl, rfl⟩ := m1
  obtain ⟨k1, k2, k3⟩ := m3 r (by simp)
  rw [List.nodup_cons] at m2
  obtain ⟨s1, s2⟩ := hs.put_un k3 k2 (.deferred none)
  refine ⟨run_takeDeferred k2, g, s1, he.later s2, ⟨⟨rs, rfl, m2.2, fun q hq => ?_⟩, hkx.later s2⟩, ?_⟩
  ·obtain ⟨a1, a2, a3⟩ := m3 q (by simp [hq])
   exact ⟨a1, by rw [putB_other w _ (fun e => m2.1 (by rw [e]; exact hq))]; exact a2, a3⟩
  ·refine ⟨hev.later.trans s2, by simp [putB]; exact hev.size, hev.os, hev.tape, hev.output, fun b hb hm => ?_, hev.mine, hev.newf⟩
   rw [putB_other w _ (fun e => by omega)]
   exact hev.frame b hb hm

theorem leave_marks {cx : Cx} {n : Nat} {g0 : Gh} {σ0 : St} {w0 : World} {e : Env} {σ : St} {tmps : Array Value} {fn : Func} {R : Value → World → Prop} (hq : ∀ w, At P cx n g0 σ0 w0 e σ { tmps := tmps, defers := [] } w → ∃ v, (results fn tmps).run P w = .ok v w ∧ R v w) :
  ∀ (ds : List Deferred) (w : World), At P cx n g0 σ0 w0 e σ { tmps := tmps, defers := ds } w → LeavesInM Fence.wide 0 P fn tmps (RetV R) ds .returning w
 | [], w, h => by
  obtain ⟨v, h1, h2⟩ := hq w h
  exact ⟨v, h1, h2⟩
 | d :: ds, w, h => by
  have hd : ∃ r, d = { target := .collected r, args := #[] } := by
   obtain ⟨g, hs, he, ⟨⟨rs, m1, m2, m3⟩, hkx⟩, hev⟩ := h
   cases rs with
   | nil => simp at m1
   | cons q rs => simp at m1; exact ⟨q, m1.1⟩
  obtain ⟨r, rfl⟩ := hd
  obtain ⟨h1, h2⟩ := take_mark h
  exact ⟨by simp, .inl ⟨r, _, rfl, h1, leave_marks hq ds _ h2⟩⟩

theorem fn_sound {cx : Cx} (hm : P.follows .mixedOrders = true) {f : Nat} {fc : FnC} (hf : Fits P cx.globs f fc) {vs : List V} (hlen : vs.length = fc.nparams) {σ : St} {Q : PostC} (h : wcode (SK P cx) cx fc.body (initEnv 0 vs ++ globEnv fc.globs) σ Q) {g : Gh} {w : World} {args : Array Value}
  (hp : g.prog = P) (hgl : GlobR cx.globs g σ.toks w) (hs : Sim g σ w) (hv : VRs g σ.toks w vs args.toList) {R : Value → World → Prop} (hex : ∀ id e s, ¬ Q (.exit id) e s)
  (hq : ∀ ex e' σ' tmps' w', Q ex e' σ' → At P cx hf.fn.ntmps g σ w e' σ' { tmps := tmps', defers := [] } w' → ∃ v, (results hf.fn tmps').run P w' = .ok v w' ∧ R v w') : Calls P f args w (RetV R) := by
 have h0 : At P cx hf.fn.ntmps g σ w (initEnv 0 vs ++ globEnv fc.globs) σ { tmps := args ++ Array.replicate (hf.fn.ntmps - args.size) undef, defers := [] } w :=
  ⟨g, hs, init_env hv (by rw [hlen]; exact hf.tmps) hf.few hgl hf.globs, ⟨⟨[], rfl, by simp, by simp⟩, hp, hgl⟩, Ev.refl _ _ _⟩
 refine callsIn_wide.1 (callsIn_of_wp_marks (F := Fence.wide) (n := 0) hf.at_ hf.body trivial ?_)
 refine wcode_sound (ro := none) hm _ _ hf.comp (.inl rfl) _ _ _ h _ _ h0 _ fun ex e' σ' a' w' h' ha' => ?_
 have main : LeavesInM Fence.wide 0 P hf.fn a'.tmps (RetV R) a'.defers .returning w' := leave_marks (fun w2 hat => hq ex e' σ' a'.tmps w2 h' hat) a'.defers w' ha'
 cases ex with
 | normal => exact main
 | ret => exact main
 | exit id => exact (hex _ _ _ h').elim

theorem body_sound {cx : Cx} (hm : P.follows .mixedOrders = true) {f : Nat} {fc : FnC} (hf : Fits P cx.globs f fc) {vs : List V} {σ : St} {Q : Post} {m : Mode} (hmd : m ≠ .rnd) (h : bodyP (SK P cx) cx m fc vs σ Q) : SK P cx m f vs σ Q := by
 obtain ⟨hlen, h⟩ := h
 have good : GoodF P f := ⟨hf.fn, hf.code, hf.at_, hf.body, hf.name⟩
 have fin : ∀ {g : Gh} {w : World} {e' : Env} {σ' : St} {tmps' : Array Value} {w' : World}, At P cx hf.fn.ntmps g σ w e' σ' { tmps := tmps', defers := [] } w' → ∀ {vs' : List V}, resAll e' σ' fc.res = some vs' → ∃ xs g', (results hf.fn tmps').run P w' = .ok (tupC xs) w' ∧ VRs g' σ'.toks w' vs' xs ∧
   Sim g' σ' w' ∧ Ev g σ w g' σ' w' := fun ha vs' hr => by
  obtain ⟨g', hs', he', hd', hev'⟩ := ha
  obtain ⟨xs, r1, r2⟩ := res_rel hs' he' hf.res hr
  exact ⟨xs, g', run_results r1, r2, hs', hev'⟩
 cases m with
 | rnd => exact absurd rfl hmd
 | raw =>
  refine ⟨good, fun g w args hp hgl hs hv => fn_sound hm hf hlen h hp hgl hs hv (fun id e s h => h) fun ex e' σ' tmps' w' h' ha' => ?_⟩
  have main : (∃ v, retV .raw σ.objs.length e' σ' fc.res = some v ∧ (Mode.raw = .rd → Keeps σ σ') ∧ Q v σ') → ∃ v, (results hf.fn tmps').run P w' = .ok v w' ∧ ∃ g' x σ', Q x σ' ∧ Sim g' σ' w' ∧ VR g' σ'.toks w' x v ∧ Ev g σ w g' σ' w' := fun ⟨v, hv, _, hq⟩ => by
   unfold retV at hv
   split at hv
   ·rename_i vs' hr
    simp only [Option.some.injEq] at hv
    subst hv
    obtain ⟨xs, g', r1, r2, r3, r4⟩ := fin ha' hr
    exact ⟨_, r1, g', _, σ', hq, r3, tup_rel r2, r4⟩
   ·cases hv
  cases ex with
  | exit id => exact h'.elim
  | normal => exact main h'
  | ret => exact main h'
 | rd =>
  refine ⟨good, fun g w args hp hgl hs hv => fn_sound hm hf hlen h hp hgl hs hv (fun id e s h => h) fun ex e' σ' tmps' w' h' ha' => ?_⟩
  have main : (∃ v, retV .rd σ.objs.length e' σ' fc.res = some v ∧ (Mode.rd = .rd → Keeps σ σ') ∧ Q v σ') → ∃ v, (results hf.fn tmps').run P w' = .ok v w' ∧ ∃ g' x σ', Q x σ' ∧ Sim g' σ w' ∧ VR g' σ.toks w' x v ∧ Ev g σ w g' σ w' := fun ⟨v, hv, hkp, hq⟩ => by
   unfold retV at hv
   split at hv
   ·rename_i vs' hr
    simp only at hv
    split at hv
    ·rename_i ds hdsN
     simp only [Option.some.injEq] at hv
     subst hv
     obtain ⟨hds, hlo⟩ := byValsN_inv hdsN
     obtain ⟨xs, g', r1, r2, r3, r4⟩ := fin ha' hr
     let f' : Nat → Nat → Prop := fun b q => g'.frz b q ∨ ∃ x ∈ vs', Lent g' x b q
     obtain ⟨b1, b2⟩ := byVals_rel (tk := σ.toks) (g' := { g with frz := f' }) r3 (f := f') (fun b q h => .inl h) rfl r2 hds (fun x hx b q hl => .inr ⟨x, hx, hl⟩)
     obtain ⟨q1, q2⟩ := Sim.restrict hs r3 r4 (hkp rfl) (f' := f') (fun b q h => .inl h) (fun b q h => by
      rcases h with h | ⟨x, hx, hl⟩
      ·exact .inl h
      ·refine .inr ⟨lents_cell r3 r2 hds x hx b q hl, ?_⟩
       cases x with
       | sl r off len sz =>
        have hle := hlo _ hx r off len sz rfl
        have hm := lents_row hds _ hx
        simp only [V.byVal, V.rows] at hm
        obtain ⟨hb, _, _⟩ := hl
        split at hm
        ·rename_i rows hrw
         split at hrw
         ·rename_i cs hobj
          exact ⟨r, _, hle, hobj, trivial, hb.symm⟩
         ·cases hrw
        ·exact absurd rfl hm
       | _ => exact hl.elim)
     exact ⟨_, r1, _, _, σ', hq, q1, tup_rel b1, q2⟩
    ·cases hv
   ·cases hv
  cases ex with
  | exit id => exact h'.elim
  | normal => exact main h'
  | ret => exact main h'
 | val =>
  refine ⟨good, fun g w args hp hgl hs hv hσ => ?_⟩
  subst hσ
  refine fn_sound hm hf hlen h hp hgl hs hv (fun id e s h => h) fun ex e' σ' tmps' w' h' ha' => ?_
  have main : (∃ v, retV .val St.empty.objs.length e' σ' fc.res = some v ∧ (Mode.val = .rd → Keeps St.empty σ') ∧ Q v σ') → ∃ v, (results hf.fn tmps').run P w' = .ok v w' ∧ ∃ f' x σ', Q x σ' ∧ (∀ b q, f' b q → ∃ u, w'.cell? ⟨b, q, none⟩ = some u) ∧ VR (Gh.bare P f') [] w' x v ∧ Ev g St.empty w (Gh.bare P f') St.empty w' := fun ⟨v, hv, _, hq⟩ => by
   unfold retV at hv
   split at hv
   ·rename_i vs' hr
    simp only at hv
    split at hv
    ·rename_i ds hds
     simp only [Option.some.injEq] at hv
     subst hv
     obtain ⟨xs, g', r1, r2, r3, r4⟩ := fin ha' hr
     let f' : Nat → Nat → Prop := fun b q => g'.frz b q ∨ ∃ x ∈ vs', Lent g' x b q
     obtain ⟨b1, b2⟩ := byVals_rel (tk := []) (g' := Gh.bare P f') r3 (f := f') (fun b q h => .inl h) rfl r2 hds (fun x hx b q hl => .inr ⟨x, hx, hl⟩)
     refine ⟨_, r1, f', _, σ', hq, fun b q h => ?_, tup_rel b1, ?_⟩
     ·rcases h with h | ⟨x, hx, hl⟩
      ·exact r3.frzb b q h
      ·exact lents_cell r3 r2 hds x hx b q hl
     ·refine ⟨⟨⟨fun b q h => .inl (r4.later.stay.frz b q h), r4.later.stay.cell⟩, fun r h => ?_, fun t k h => by simp [St.empty] at h, hp.symm, fun r h => by
       have := hs.bound r h
       simp [St.empty] at this⟩, r4.size, r4.os, r4.tape, r4.output, fun b hb hm => r4.frame b hb hm, fun b h => (not_mine_empty h).elim, fun b q h => ?_⟩
      ·have := hs.bound r h
       simp [St.empty] at this
      ·rcases h with h | ⟨x, hx, hl⟩
       ·exact r4.newf b q h
       ·rcases r4.mine b (lents_mine hds x hx b q hl) with h | h
        ·exact .inr (.inl h)
        ·exact .inr (.inr h)
    ·cases hv
   ·cases hv
  cases ex with
  | exit id => exact h'.elim
  | normal => exact main h'
  | ret => exact main h'

theorem setAll_env {g : Gh} {tk : List Nat} {w : World} {n : Nat} : ∀ {ps : List Nat} {vs : List V} {cs : List Value} {e : Env} {tmps : Array Value}, EnvR g tk w n e tmps → (∀ p ∈ ps, p < n) → VRs g tk w vs cs → EnvR g tk w n (setAll e ps vs) ((ps.zip cs).foldl (fun tmps (x : Nat × Value) => tmps.setIfInBounds x.1 x.2) tmps)
 | [], vs, cs, e, tmps, h, _, _ => by cases vs <;> simpa [setAll] using h
 | p :: ps, [], [], e, tmps, h, _, _ => by simpa [setAll] using h
 | p :: ps, v :: vs, c :: cs, e, tmps, h, hp, hv => by
  simp only [setAll, List.zip_cons_cons, List.foldl_cons]
  exact setAll_env (h.set (hp p (by simp)) hv.1) (fun q hq => hp q (by simp [hq])) hv.2
 | _ :: _, [], _ :: _, _, _, _, _, hv => hv.elim
 | _ :: _, _ :: _, [], _, _, _, _, hv => hv.elim

theorem round_sound {cx : Cx} (hm : P.follows .mixedOrders = true) {r : Nat} {vs : List V} {σ : St} {Q : Post} (h : roundP (SK P cx) cx r vs σ Q) : SK P cx .rnd r vs σ Q := by
 intro g w args hp hgl hs hv
 obtain ⟨e, ps, a, b, hob, hlen, h⟩ := h
 obtain ⟨x, b1, b2⟩ := hs.oth _ _ hob trivial
 cases x <;> try exact b2.elim
 rename_i l
 obtain ⟨hps, ⟨hst, hpd⟩, hpa, hpb, n, hpn, hca, hcb, henv⟩ := b2
 rw [hp] at hca hcb
 have hal := hv.length
 have has : args.size = l.params.size := by
  rw [← Array.length_toList, ← Array.length_toList, ← hal, hlen, hps]
 refine ⟨l, b1, has, ?_⟩
 refine roundIn_of_wpIn trivial ?_
 have hhas := hs.has _ _ hob trivial
 have hz : (l.params.zip args).foldl (fun tmps (x : Nat × Value) => tmps.setIfInBounds x.1 x.2) l.tmps = (ps.zip args.toList).foldl (fun tmps (x : Nat × Value) => tmps.setIfInBounds x.1 x.2) l.tmps := by
  rw [← Array.foldl_toList, Array.toList_zip, hps]
 have h0 : At P cx n g σ w (setAll e ps vs) σ { tmps := (l.params.zip args).foldl (fun tmps (x : Nat × Value) => tmps.setIfInBounds x.1 x.2) l.tmps, defers := [] } w :=
  ⟨g, hs, by rw [hz]; exact setAll_env henv hpn hv, ⟨⟨[], rfl, by simp, by simp⟩, hp, hgl⟩, Ev.refl _ _ _⟩
 have hF : Fence.wide.inRound (g.obj r).1 = FW (some (g.obj r).1) := rfl
 rw [hF]
 refine wcode_sound (ro := some (g.obj r).1) hm _ _ hca (.inr hpa) _ _ _ h _ _ h0 _ fun ex e1 s1 a1 w1 h1 ha1 => ?_
 cases ex with
 | exit id => exact h1.elim
 | ret => exact h1.elim
 | normal =>
  obtain ⟨o1, h1⟩ := h1
  obtain ⟨g1, hs1, he1, ⟨hm1, hk1⟩, hev1⟩ := ha1
  obtain ⟨x1, c1, c2⟩ := hs1.oth _ _ o1 trivial
  cases x1 <;> try exact c2.elim
  rename_i l1
  have hobj1 : g1.obj r = g.obj r := (hev1.later.has _ hhas).2.1
  rw [hobj1] at c1
  obtain ⟨q1, ⟨q2, q3⟩, q4⟩ := c2
  obtain ⟨p1, p2⟩ := hs1.put_oth o1 trivial (o' := .loop e ps a b .busy) (.inl trivial) (x := .loop { l1 with state := .busy }) (fun _ => ⟨q1, rfl, q4⟩)
  rw [hobj1] at p1 p2
  refine ⟨putB w1 (g.obj r).1 (.loop { l1 with state := .busy }), run_beginRound c1 q2, ?_⟩
  have hat : At P cx n g σ w e1 (s1.setObj r (.loop e ps a b .busy)) a1 (putB w1 (g.obj r).1 (.loop { l1 with state := .busy })) := ⟨g1, p1, he1.later p2.later, ⟨hm1.ev p2, hk1.later p2.later⟩, hev1.trans p2⟩
  refine wcode_sound (ro := some (g.obj r).1) hm _ _ hcb (.inr hpb) _ _ _ h1 _ _ hat _ fun ex e2 s2 a2 w2 h2 ha2 => ?_
  obtain ⟨g2, hs2, he2, ⟨hm2, hk2⟩, hev2⟩ := ha2
  obtain ⟨o2, h2⟩ := h2
  obtain ⟨x2, d1, d2⟩ := hs2.oth _ _ o2 trivial
  cases x2 <;> try exact d2.elim
  rename_i l2
  have hobj2 : g2.obj r = g.obj r := (hev2.later.has _ hhas).2.1
  rw [hobj2] at d1
  obtain ⟨t1, t2, t4⟩ := d2
  cases ex with
  | normal =>
   obtain ⟨p3, p4⟩ := hs2.put_oth o2 trivial (o' := .loop e ps a b .ready) (.inl trivial) (x := .loop { l2 with state := .ready, pending := none }) (fun _ => ⟨t1, ⟨rfl, rfl⟩, t4⟩)
   rw [hobj2] at p3 p4
   exact ⟨_, _, run_endRound none d1, g2, _, _, h2, p3, .bool true, hev2.trans p4⟩
  | exit id =>
   obtain ⟨p3, p4⟩ := hs2.put_oth o2 trivial (o' := .loop e ps a b (.done (.exit id))) (.inl trivial) (x := .loop { l2 with state := .done, pending := some (.exit id) }) (fun _ => ⟨t1, ⟨by simp, rfl, rfl⟩, t4⟩)
   rw [hobj2] at p3 p4
   exact ⟨_, _, run_endRound (some (.exit id)) d1, g2, _, _, h2, p3, .bool false, hev2.trans p4⟩
  | ret =>
   obtain ⟨p3, p4⟩ := hs2.put_oth o2 trivial (o' := .loop e ps a b (.done .ret)) (.inl trivial) (x := .loop { l2 with state := .done, pending := some .ret }) (fun _ => ⟨t1, ⟨by simp, rfl, rfl⟩, t4⟩)
   rw [hobj2] at p3 p4
   exact ⟨_, _, run_endRound (some .ret) d1, g2, _, _, h2, p3, .bool false, hev2.trans p4⟩

theorem call_sound {cx : Cx} (hm : P.follows .mixedOrders = true) {Γ : Nat → Option FnC} (hΓ : ∀ f fc, Γ f = some fc → Nonempty (Fits P cx.globs f fc)) {f : Nat} {vs : List V} {σ : St} {Q : Post} {m : Mode} (h : Call Γ cx m f vs σ Q) : SK P cx m f vs σ Q :=
 h (SK P cx) fun m f vs σ Q hst => by
  unfold stepP at hst
  cases m with
  | rnd => exact round_sound hm hst
  | _ =>
   obtain ⟨fc, hf, hb⟩ := hst
   obtain ⟨ft⟩ := hΓ f fc hf
   exact body_sound hm ft (by simp) hb

end Go.Dn

/- What an operation looks at. -/
namespace Go.Dn
set_option linter.unusedVariables false
set_option linter.unusedSimpArgs false

def Opd.slots : Opd → List Nat
 | .t n => [n]
 | _ => []

def optSlots : Option Opd → List Nat
 | some x => x.slots
 | none => []

def POp.reads : POp → List Nat
 | .move x => x.slots
 | .pick c a b => c.slots ++ (a.slots ++ b.slots)
 | .bin _ _ _ x y => x.slots ++ y.slots
 | .una _ x => x.slots
 | .conv _ x => x.slots
 | .load _ _ x => x.slots
 | .nilCheck x => x.slots
 | .faddr _ x => x.slots
 | .field _ _ _ x => x.slots
 | .iaddr _ x i => x.slots ++ i.slots
 | .iaddrArr _ _ x i => x.slots ++ i.slots
 | .index _ _ _ x i => x.slots ++ i.slots
 | .indexStr x i => x.slots ++ i.slots
 | .slice _ x lo hi mx => x.slots ++ (optSlots lo ++ (optSlots hi ++ optSlots mx))
 | .sliceStr x lo hi => x.slots ++ (optSlots lo ++ optSlots hi)
 | .sliceArr _ _ x lo hi => x.slots ++ (optSlots lo ++ optSlots hi)
 | .bslice _ _ _ _ parts => parts.flatMap fun p => p.2.slots
 | .build _ parts => parts.flatMap fun p => p.2.2.slots
 | .len _ x => x.slots
 | .lenArr _ => []
 | .cap x => x.slots
 | .min xs => xs.flatMap Opd.slots
 | .max xs => xs.flatMap Opd.slots
 | .mkif _ x => x.slots
 | .assert _ _ _ x => x.slots
 | .extract x _ => x.slots
 | .mkfn _ first caps => first.flatMap Opd.slots ++ caps.flatMap Opd.slots
 | .lookup _ _ _ _ x k => x.slots ++ k.slots
 | .mkfl _ _ _ a b => a.slots ++ b.slots

def Same (rd : List Nat) (e : Env) (σ : St) (e' : Env) (σ' : St) : Prop :=
 ∀ s ∈ rd, e.get s = e'.get s ∧ ∀ r ∈ dref (e.get s), σ.objs[r]? = σ'.objs[r]?

variable {e e' : Env} {σ σ' : St}

theorem Same.left {a b : List Nat} (h : Same (a ++ b) e σ e' σ') : Same a e σ e' σ' := fun s hs => h s (List.mem_append_left _ hs)
theorem Same.right {a b : List Nat} (h : Same (a ++ b) e σ e' σ') : Same b e σ e' σ' := fun s hs => h s (List.mem_append_right _ hs)

theorem Same.opd {x : Opd} (h : Same x.slots e σ e' σ') : x.ev e = x.ev e' ∧ ∀ r ∈ dref (x.ev e), σ.objs[r]? = σ'.objs[r]? := by
 cases x with
 | t n => exact h n (by simp [Opd.slots])
 | c x => exact ⟨rfl, fun r hr => by simp [Opd.ev, dref] at hr⟩
 | ca l => exact ⟨rfl, fun r hr => by simp [Opd.ev, dref] at hr⟩
 | f k => exact ⟨rfl, fun r hr => by simp [Opd.ev, dref] at hr⟩

theorem Same.opt {x : Option Opd} (h : Same (optSlots x) e σ e' σ') : x.map (Opd.ev e) = x.map (Opd.ev e') := by
 cases x with
 | none => rfl
 | some x => simp [(Same.opd (x := x) h).1]

theorem Same.opds {xs : List Opd} (h : Same (xs.flatMap Opd.slots) e σ e' σ') : xs.map (Opd.ev e) = xs.map (Opd.ev e') := by
 apply List.map_congr_left
 intro x hx
 exact (Same.opd (x := x) fun s hs => h s (List.mem_flatMap.2 ⟨x, hx, hs⟩)).1

theorem rows_same {x : V} (h : ∀ r ∈ dref x, σ.objs[r]? = σ'.objs[r]?) : V.rows σ x = V.rows σ' x := by
 cases x with
 | sl r off len sz => simp only [V.rows]; rw [h r (by simp [dref])]
 | d x => cases x <;> rfl
 | _ => rfl

theorem byVal_same {x : V} (h : ∀ r ∈ dref x, σ.objs[r]? = σ'.objs[r]?) : x.byVal σ = x.byVal σ' := by
 cases x with
 | sl r off len sz => simp only [V.byVal]; rw [rows_same h]
 | _ => rfl

theorem load_same {agg : Bool} {n : Nat} {x : V} (h : ∀ r ∈ dref x, σ.objs[r]? = σ'.objs[r]?) : loadAt σ agg n x = loadAt σ' agg n x := by
 cases x with
 | ref r off => simp only [loadAt]; rw [h r (by simp [dref])]
 | _ => rfl

theorem lenT_same {ty : Ty} {x : V} (h : ∀ r ∈ dref x, σ.objs[r]? = σ'.objs[r]?) : lenT σ ty x = lenT σ' ty x := by
 cases ty
 case map =>
  cases x with
  | map r => simp only [lenT]; rw [h r (by simp [dref])]
  | d x => cases x <;> rfl
  | _ => rfl
 case slice =>
  cases x with
  | d x => cases x <;> rfl
  | _ => rfl
 case str =>
  cases x with
  | d x => cases x <;> rfl
  | _ => rfl
 all_goals rfl

theorem sliceArr_same {n sz : Nat} {x : V} {lo hi : Option V} (h : ∀ r ∈ dref x, σ.objs[r]? = σ'.objs[r]?) : sliceArrV σ n sz x lo hi = sliceArrV σ' n sz x lo hi := by
 cases x with
 | ref r off => simp only [sliceArrV]; rw [h r (by simp [dref])]
 | _ => rfl

theorem iaddr_same {sz : Nat} {x i : V} (h : ∀ r ∈ dref x, σ.objs[r]? = σ'.objs[r]?) : iaddrV σ sz x i = iaddrV σ' sz x i := by
 cases x with
 | sl r off len s => rfl
 | d x => simp only [iaddrV]; rw [rows_same h]
 | _ => simp only [iaddrV]; rw [rows_same h]

theorem conv_same {k : Conv} {x : V} (h : ∀ r ∈ dref x, σ.objs[r]? = σ'.objs[r]?) : evalConv σ k x = evalConv σ' k x := by
 unfold evalConv
 rw [rows_same h]

theorem lookup_same {ka : Bool} {ks : List Lf} {z : V} {ok : Bool} {x k : V} (h : ∀ r ∈ dref x, σ.objs[r]? = σ'.objs[r]?) : lookupV σ ka ks z ok x k = lookupV σ' ka ks z ok x k := by
 cases x with
 | map r => simp only [lookupV, lookM]; rw [h r (by simp [dref])]
 | d y => cases y <;> rfl
 | _ => rfl

theorem evalP_same {op : POp} (h : Same op.reads e σ e' σ') : evalP op e σ = evalP op e' σ' := by
 cases op with
 | move x => simp only [evalP]; rw [(Same.opd (x := x) h).1]
 | pick c a b => simp only [evalP]; rw [(Same.opd (x := c) h.left).1, (Same.opd (x := a) h.right.left).1, (Same.opd (x := b) h.right.right).1]
 | bin op ty ks x y => simp only [evalP]; rw [(Same.opd (x := x) h.left).1, (Same.opd (x := y) h.right).1]
 | una op x => simp only [evalP]; rw [(Same.opd (x := x) h).1]
 | conv k x => simp only [evalP]; rw [conv_same (Same.opd (x := x) h).2, (Same.opd (x := x) h).1]
 | load agg n x => simp only [evalP]; rw [load_same (Same.opd (x := x) h).2, (Same.opd (x := x) h).1]
 | nilCheck x => simp only [evalP]; rw [(Same.opd (x := x) h).1]
 | faddr off x => simp only [evalP]; rw [(Same.opd (x := x) h).1]
 | field agg off n x => simp only [evalP]; rw [(Same.opd (x := x) h).1]
 | iaddr sz x i => simp only [evalP]; rw [iaddr_same (Same.opd (x := x) h.left).2, (Same.opd (x := x) h.left).1, (Same.opd (x := i) h.right).1]
 | iaddrArr len sz x i => simp only [evalP]; rw [(Same.opd (x := x) h.left).1, (Same.opd (x := i) h.right).1]
 | index agg len sz x i => simp only [evalP]; rw [(Same.opd (x := x) h.left).1, (Same.opd (x := i) h.right).1]
 | indexStr x i => simp only [evalP]; rw [(Same.opd (x := x) h.left).1, (Same.opd (x := i) h.right).1]
 | slice sz x lo hi mx =>
  simp only [evalP]
  rw [(Same.opd (x := x) h.left).1, Same.opt (x := lo) h.right.left, Same.opt (x := hi) h.right.right.left, Same.opt (x := mx) h.right.right.right]
  rfl
 | sliceStr x lo hi => simp only [evalP]; rw [(Same.opd (x := x) h.left).1, Same.opt (x := lo) h.right.left, Same.opt (x := hi) h.right.right]
 | sliceArr n sz x lo hi => simp only [evalP]; rw [sliceArr_same (Same.opd (x := x) h.left).2, (Same.opd (x := x) h.left).1, Same.opt (x := lo) h.right.left, Same.opt (x := hi) h.right.right]
 | bslice t len sz zero parts =>
  have : (parts.map fun (p : Nat × Opd) => (p.1 * sz, sz, p.2.ev e)) = parts.map fun (p : Nat × Opd) => (p.1 * sz, sz, p.2.ev e') :=
   List.map_congr_left fun p hp => by rw [(Same.opd (x := p.2) fun s hs => h s (List.mem_flatMap.2 ⟨p, hp, hs⟩)).1]
  simp only [evalP]
  rw [this]
 | build zero parts =>
  have : (parts.map fun (p : Nat × Nat × Opd) => (p.1, p.2.1, p.2.2.ev e)) = parts.map fun (p : Nat × Nat × Opd) => (p.1, p.2.1, p.2.2.ev e') :=
   List.map_congr_left fun p hp => by rw [(Same.opd (x := p.2.2) fun s hs => h s (List.mem_flatMap.2 ⟨p, hp, hs⟩)).1]
  simp only [evalP]
  rw [this]
 | len ty x => simp only [evalP]; rw [lenT_same (Same.opd (x := x) h).2, (Same.opd (x := x) h).1]
 | lenArr n => rfl
 | cap x => simp only [evalP]; rw [(Same.opd (x := x) h).1]
 | min xs => simp only [evalP]; rw [Same.opds (xs := xs) h]
 | max xs => simp only [evalP]; rw [Same.opds (xs := xs) h]
 | mkif t x => simp only [evalP]; rw [(Same.opd (x := x) h).1]
 | assert t zero ok x => simp only [evalP]; rw [(Same.opd (x := x) h).1]
 | extract x i => simp only [evalP]; rw [(Same.opd (x := x) h).1]
 | mkfn f first caps => simp only [evalP]; rw [Same.opds (xs := first) h.left, Same.opds (xs := caps) h.right]
 | mkfl sz bytes zero a b => simp only [evalP]; rw [(Same.opd (x := a) h.left).1, (Same.opd (x := b) h.right).1]
 | lookup ka ks zero ok x k => simp only [evalP]; rw [lookup_same (Same.opd (x := x) h.left).2, (Same.opd (x := x) h.left).1, (Same.opd (x := k) h.right).1]

theorem byVals_same {xs : List Opd} (h : Same (xs.flatMap Opd.slots) e σ e' σ') : byVals σ (xs.map (Opd.ev e)) = byVals σ' (xs.map (Opd.ev e')) := by
 induction xs with
 | nil => rfl
 | cons x r ih =>
  simp only [List.flatMap_cons] at h
  simp only [List.map_cons, byVals]
  rw [ih h.right, byVal_same (Same.opd (x := x) h.left).2, (Same.opd (x := x) h.left).1]

theorem set_other {q r : Nat} {o : Obj} (h : r ≠ q) : σ.objs[r]? = (σ.setObj q o).objs[r]? := by
 simp only [St.setObj]
 rw [List.getElem?_set_ne (Ne.symm h)]

theorem rows_free {q : Nat} {o : Obj} (hf : σ.objs[q]? = some .free) {x : V} {l : List (List D)} (h : V.rows σ x = some l) : V.rows (σ.setObj q o) x = some l := by
 rw [← rows_same (σ := σ) (fun r hr => ?_)]
 ·exact h
 by_cases e : r = q
 ·subst e
  exfalso
  cases x with
  | sl r' off len sz => simp [dref] at hr; subst hr; simp [V.rows, hf] at h
  | ref r' off => simp [V.rows] at h
  | map r' => simp [V.rows] at h
  | yld r' => simp [V.rows] at h
  | iter r' => simp [V.rows] at h
  | _ => simp [dref] at hr
 ·exact set_other e

theorem byVal_free {q : Nat} {o : Obj} (hf : σ.objs[q]? = some .free) {x y : V} (h : V.byVal σ x = some y) : V.byVal (σ.setObj q o) x = some y := by
 cases x with
 | sl r off len sz =>
  simp only [V.byVal] at h ⊢
  cases hr : V.rows σ (.sl r off len sz) with
  | none => rw [hr] at h; cases h
  | some l => rw [hr] at h; rw [rows_free hf hr]; exact h
 | _ => exact h
theorem byVals_free {q : Nat} {o : Obj} (hf : σ.objs[q]? = some .free) : ∀ {xs ys : List V}, byVals σ xs = some ys → byVals (σ.setObj q o) xs = some ys
 | [], ys, h => h
 | x :: xs, ys, h => by
  simp only [byVals] at h ⊢
  cases hx : V.byVal σ x with
  | none => rw [hx] at h; cases h
  | some y =>
   rw [hx] at h
   cases hxs : byVals σ xs with
   | none => rw [hxs] at h; cases h
   | some l =>
    rw [hxs] at h
    rw [byVal_free hf hx, byVals_free hf hxs]
    exact h

theorem evalP_free {q : Nat} {o : Obj} (hf : σ.objs[q]? = some .free) {op : POp} {v : V} (h : evalP op e σ = some v) : evalP op e (σ.setObj q o) = some v := by
 cases op with
 | conv k x =>
  cases k with
  | bytesStr =>
   simp only [evalP, evalConv] at h ⊢
   split at h
   ·rename_i rows hr
    rw [rows_free hf hr]
    exact h
   ·cases h
  | _ => exact h
 | load agg n x =>
  simp only [evalP] at h ⊢
  rw [← load_same (σ := σ) (fun r hr => ?_)]
  ·exact h
  by_cases e' : r = q
  ·subst e'
   exfalso
   generalize x.ev e = y at *
   cases y with
   | ref r' off => simp [dref] at hr; subst hr; simp [loadAt, hf] at h
   | sl r' off len sz => simp [loadAt] at h
   | map r' => simp [loadAt] at h
   | yld r' => simp [loadAt] at h
   | iter r' => simp [loadAt] at h
   | _ => simp [dref] at hr
  ·exact set_other e'
 | iaddr sz x i =>
  simp only [evalP, iaddrV] at h ⊢
  split at h
  ·rename_i j hj
   generalize x.ev e = y at *
   cases y with
   | sl r' off len s => exact h
   | d y =>
    split at h
    ·rename_i h1; cases h1
    ·rename_i y' _
     split at h
     ·rename_i rows hr
      simp only [rows_free hf hr]
      exact h
     ·cases h
   | _ =>
    split at h
    ·rename_i h1; cases h1
    ·rename_i y' _
     split at h
     ·rename_i rows hr
      simp only [rows_free hf hr]
      exact h
     ·cases h
  ·cases h
 | sliceArr n sz x lo hi =>
  simp only [evalP] at h ⊢
  rw [← sliceArr_same (σ := σ) (fun r hr => ?_)]
  ·exact h
  by_cases e' : r = q
  ·subst e'
   exfalso
   generalize x.ev e = y at *
   unfold sliceArrV at h
   split at h
   ·split at h
    ·cases y with
     | ref r' off => simp [dref] at hr; subst hr; simp [hf] at h
     | sl r' off len sz => simp at h
     | map r' => simp at h
     | yld r' => simp at h
     | iter r' => simp at h
     | _ => simp [dref] at hr
    ·cases h
   ·cases h
  ·exact set_other e'
 | len ty x =>
  simp only [evalP] at h ⊢
  cases hl : lenT σ ty (x.ev e) with
  | none => rw [hl] at h; cases h
  | some n =>
   rw [hl] at h
   have : lenT (σ.setObj q o) ty (x.ev e) = some n := by
    generalize x.ev e = y at *
    cases ty with
    | map =>
     cases y with
     | map r' =>
      have hne : r' ≠ q := by
       rintro rfl
       simp [lenT, hf] at hl
      simp only [lenT] at hl ⊢
      rw [← set_other hne]
      exact hl
     | d y => cases y <;> exact hl
     | _ => exact hl
    | slice => cases y <;> first | exact hl | (rename_i d; cases d <;> exact hl)
    | _ => exact hl
   rw [this]
   exact h
 | lookup ka ks zero ok x k =>
  simp only [evalP] at h ⊢
  rw [← lookup_same (σ := σ) (fun r hr => ?_)]
  ·exact h
  by_cases e' : r = q
  ·subst e'
   exfalso
   generalize x.ev e = y at *
   cases y with
   | map r' =>
    simp [dref] at hr
    subst hr
    simp only [lookupV, lookM, hf] at h
    split at h
    ·rename_i h1; split at h1 <;> cases h1
    ·rename_i h1; split at h1 <;> cases h1
    ·cases h
   | ref r' off => simp [lookupV, lookM] at h
   | sl r' off len sz => simp [lookupV, lookM] at h
   | yld r' => simp [lookupV, lookM] at h
   | iter r' => simp [lookupV, lookM] at h
   | _ => simp [dref] at hr
  ·exact set_other e'
 | slice sz x lo hi mx => exact h
 | _ => exact h

end Go.Dn

/- Regions that draw their order: the order of the text is enough. -/
namespace Go.Dn
set_option linter.unusedVariables false
set_option linter.unusedSimpArgs false

def EOp.reads : EOp → List Nat
 | .alloc _ | .makeMap => []
 | .box x => x.slots
 | .store _ a x => a.slots ++ x.slots
 | .append _ _ _ a x => a.slots ++ x.slots
 | .appendStr _ a x => a.slots ++ x.slots
 | .appendZero _ _ _ _ a x => a.slots ++ x.slots
 | .copy _ a x => a.slots ++ x.slots
 | .clear _ _ a => a.slots
 | .makeSlice _ _ _ _ a x => a.slots ++ x.slots
 | .mapUpdate _ _ a b c => a.slots ++ (b.slots ++ c.slots)
 | .mapDelete _ _ a b => a.slots ++ b.slots
 | .range x => x.slots
 | .entry x => x.slots
 | .cloneMap x => x.slots

def Ins.reads : Ins → List Nat
 | .p _ op => op.reads
 | .e _ op => op.reads
 | .call _ _ args => args.flatMap Opd.slots
 | .callv _ f args => f.slots ++ args.flatMap Opd.slots
 | .next _ it => it.slots
 | _ => []

def POp.blind : POp → Bool
 | .load .. => false
 | .conv .bytesStr _ => false
 | .sliceArr .. => false
 | .lookup .. => false
 | .len .map _ => false
 | _ => true

def DOp.gslot (d : DOp) : List Nat := match d.guard with | some (s, _) => [s] | none => []
def DOp.reads (d : DOp) : List Nat := d.gslot ++ d.ins.reads

def DOp.isP (d : DOp) : Bool := match d.ins with | .p _ _ => true | _ => false
def DOp.isB (d : DOp) : Bool := match d.ins with | .p _ op => op.blind | _ => false
def DOp.isN (md : Nat → Mode) (d : DOp) : Bool := match d.ins with
 | .p _ _ => true
 | .call _ f _ => match md f with | .raw => false | .rnd => false | _ => true
 | _ => false
def DOp.isNew (d : DOp) : Bool := d.guard.isNone && match d.ins with | .e (some _) (.alloc _) => true | .e (some _) (.box _) => true | _ => false
def DOp.isSto (l : List DOp) (d : DOp) : Bool := d.guard.isNone && match d.ins with
 | .e none (.store _ (.t s) _) => d.after.any fun m => match l[m]? with | some m => m.isNew && m.ins.dst == some s | none => false
 | _ => false
def DOp.one (d : DOp) : Bool := match d.ins with | .when .. => false | _ => true

def DOp.faOf (l : List DOp) (d : DOp) : Option (Nat × Nat) := if d.guard.isNone then (match d.ins with
 | .p (some s) (.faddr _ (.t q)) => if l.all (fun d' => d'.ins.dst != some q) then some (s, q) else none
 | _ => none) else none

def rootD (l : List DOp) (d : DOp) (s : Nat) : Option Nat := if l.all (fun d' => d'.ins.dst != some s) then some s else
 d.after.findSome? fun m => match l[m]? with
  | some dm => (match dm.faOf l with | some (s', q) => if s' = s then some q else none | none => none)
  | none => none

def DOp.near (l : List DOp) (dr : List Nat) (d : DOp) : Bool := d.reads.all fun s => (d.isP && dr.contains s) || (rootD l d s).isSome

def DOp.isNF (l : List DOp) (d : DOp) : Bool := d.isNew || (d.faOf l).isSome

def EOp.isStore : EOp → Bool
 | .store .. | .append .. | .appendStr .. | .appendZero .. => true
 | _ => false

def apartD (x y : DOp) : Bool :=
 (match x.ins.dst with | some d => !(y.reads.contains d) && y.ins.dst != some d | none => true) &&
 (match y.ins.dst with | some d => !(x.reads.contains d) | none => true)

def DOp.isXc (md : Nat → Mode) (d : DOp) : Bool := match d.ins with
 | .e _ op => op.isStore
 | .call _ f _ => match md f with | .raw => true | _ => false
 | .callv .. => true
 | _ => false

def keepOf (dr : List Nat) (l : List DOp) : List Nat := (l.filter fun d => d.isP && !d.isB && d.near l dr).flatMap fun d => d.reads.filterMap (rootD l d)

def okPair (md : Nat → Mode) (dr : List Nat) (l : List DOp) (x y : DOp) : Bool := apartD x y &&
  (x.isB || y.isB || (x.isP && y.isN md) || (x.isN md && y.isP) ||
   ((x.isNew || x.isSto l) && y.isN md && y.near l dr) ||
   (x.isN md && x.near l dr && (y.isNew || y.isSto l)) ||
   (x.isNew && y.isNew && x.al != y.al) ||
   (x.isP && x.near l dr && y.isXc md) || (x.isXc md && y.isP && y.near l dr) ||
   (x.isN md && y.isNew))

def closeT : List DOp → List (List Nat) → List (List Nat)
 | [], acc => acc
 | d :: r, acc => closeT r (acc ++ [(d.after ++ d.after.flatMap fun a => acc.getD a []).eraseDups])

def pairsOk (md : Nat → Mode) (dr : List Nat) (l : List DOp) (T : List (List Nat)) : Bool :=
 (List.range l.length).all fun j => match l[j]? with
  | some y => y.one && y.after.all (· < j) &&
   (List.range j).all fun i => match l[i]? with
    | some x => ((T.getD j []).contains i || okPair md dr l x y) && (!(x.isNF l || y.isNF l) || x.ins.dst != y.ins.dst)
    | none => false
  | none => false

def drwOk (md : Nat → Mode) (dr : List Nat) (l : List DOp) : Bool := pairsOk md dr l (closeT l [])

def gsel (gd : Option (Nat × Bool)) (e : Env) : Option Bool :=
 match gd with
 | none => some true
 | some (s, want) => match e.get s with
  | .d (.bool b) => some (decide (b = want))
  | .gone => some false
  | _ => none

def Agr (n0 : Nat) (σ σ' : St) : Prop := (∀ r, r < n0 → σ'.objs[r]? = σ.objs[r]?) ∧ σ'.toks = σ.toks

theorem Agr.refl (n0 : Nat) (σ : St) : Agr n0 σ σ := ⟨fun _ _ => rfl, rfl⟩
theorem Agr.trans {n0 : Nat} {a b c : St} (h : Agr n0 a b) (h' : Agr n0 b c) : Agr n0 a c := ⟨fun r hr => (h'.1 r hr).trans (h.1 r hr), h'.2.trans h.2⟩
theorem Agr.symm {n0 : Nat} {a b : St} (h : Agr n0 a b) : Agr n0 b a := ⟨fun r hr => (h.1 r hr).symm, h.2.symm⟩

def nGo (K : CallP) (cx : Cx) (n0 : Nat) (i : Ins) (e : Env) (σ : St) (R : V → Prop) : Prop :=
 match i with
 | .p _ op => match evalP op e σ with
  | some v => R v
  | none => False
 | .call _ f args => match cx.mode f with
  | .raw => False
  | .rnd => False
  | .val => match byVals σ (args.map (Opd.ev e)) with
   | some ds => ∃ Q', K .val f ds St.empty Q' ∧ (∃ v s, Q' v s) ∧ ∀ v s, Q' v s → v.pure = true ∧ ((args.map (Opd.ev e)).any V.borrows = true → v.scalars = true) ∧ R v
   | none => False
  | .rd => ∀ σ1, Agr n0 σ σ1 → ∃ Q', K .rd f (args.map (Opd.ev e)) σ1 Q' ∧ (∃ v s, Q' v s) ∧ ∀ v s, Q' v s → R v
 | _ => False

def AdmN (K : CallP) (cx : Cx) (n0 : Nat) (d : DOp) (e : Env) (σ : St) (R : V → Prop) : Prop :=
 match gsel d.guard e with
 | some true => nGo K cx n0 d.ins e σ R
 | some false => R .gone
 | none => False

def Kept (ks : List Nat) (e : Env) (σ s : St) : Prop := ∀ t ∈ ks, ∀ r ∈ dref (e.get t), s.objs[r]? = σ.objs[r]?

theorem Kept.refl (ks : List Nat) (e : Env) (σ : St) : Kept ks e σ σ := fun _ _ _ _ => rfl

def xCall (K : CallP) (cx : Cx) (ks : List Nat) (e : Env) (f : Nat) (vs : List V) (σ : St) (R : V → St → Prop) : Prop :=
 match cx.mode f with
 | .rnd => False
 | .raw => ∃ Q', K .raw f vs σ Q' ∧ (∃ v s, Q' v s) ∧ ∀ v s, Q' v s → Kept ks e σ s ∧ R v s
 | .rd => ∃ Q', K .rd f vs σ Q' ∧ (∃ v s, Q' v s) ∧ ∀ v s, Q' v s → R v σ
 | .val => match byVals σ vs with
  | some ds => ∃ Q', K .val f ds St.empty Q' ∧ (∃ v s, Q' v s) ∧ ∀ v s, Q' v s → v.pure = true ∧ (vs.any V.borrows = true → v.scalars = true) ∧ R v σ
  | none => False

def xGo (K : CallP) (cx : Cx) (n0 : Nat) (ks : List Nat) (al : Nat) (i : Ins) (e : Env) (σ : St) (R : V → St → Prop) : Prop :=
 match i with
 | .e _ op => (match evalE op e σ (some (n0 + al)) with
  | some (v, s) => (op.isStore = true → Kept ks e σ s) ∧ R v s
  | none => False) ∨ (match evalM op e σ (some (n0 + al)) with
  | some (v, s) => (op.isStore = true → Kept ks e σ s) ∧ R v s
  | none => False)
 | .call _ f args => xCall K cx ks e f (args.map (Opd.ev e)) σ R
 | .callv _ f args => match f.ev e with
  | .fn (.func g) first caps => xCall K cx ks e g (first ++ args.map (Opd.ev e) ++ caps) σ R
  | _ => False
 | _ => False

def AdmX (K : CallP) (cx : Cx) (n0 : Nat) (ks : List Nat) (d : DOp) (e : Env) (σ : St) (R : V → St → Prop) : Prop :=
 match gsel d.guard e with
 | some true => xGo K cx n0 ks d.al d.ins e σ R
 | some false => R .gone σ
 | none => False

def Adm0 (K : CallP) (cx : Cx) (n0 : Nat) (ks : List Nat) (d : DOp) (e : Env) (σ : St) (R : V → St → Prop) : Prop :=
 match d.isN cx.mode with
 | true => AdmN K cx n0 d e σ fun v => R v σ
 | false => AdmX K cx n0 ks d e σ R

def Dry (cx : Cx) (d : DOp) (e : Env) : Prop := d.isP = true → ∀ s ∈ cx.dry, s ∈ d.reads → dref (e.get s) = []

def Adm (K : CallP) (cx : Cx) (n0 : Nat) (ks : List Nat) (d : DOp) (e : Env) (σ : St) (R : V → St → Prop) : Prop :=
 Dry cx d e ∧ Adm0 K cx n0 ks d e σ R

def wtx (K : CallP) (cx : Cx) (n0 : Nat) (ks : List Nat) : List DOp → Env → St → (Env → St → Prop) → Prop
 | [], e, σ, Q => Q e σ
 | d :: r, e, σ, Q => Adm K cx n0 ks d e σ fun v s => wtx K cx n0 ks r (putE e d.ins.dst v) s Q

variable {K : CallP} {cx : Cx} {n0 : Nat} {ks : List Nat}

theorem nGo.mono {i : Ins} {e : Env} {σ : St} {R R' : V → Prop} (hr : ∀ v, R v → R' v) (h : nGo K cx n0 i e σ R) : nGo K cx n0 i e σ R' := by
 cases i with
 | p dst op =>
  simp only [nGo] at *
  split
  ·rename_i v hv; rw [hv] at h; exact hr _ h
  ·rename_i hv; rw [hv] at h; exact h
 | call dst f args =>
  simp only [nGo] at *
  cases hm : cx.mode f with
  | raw => simp only [hm] at h
  | rnd => simp only [hm] at h
  | val =>
   simp only [hm] at h ⊢
   split
   ·rename_i ds hds
    rw [hds] at h
    obtain ⟨Q', a, b, c⟩ := h
    exact ⟨Q', a, b, fun v s hq => ⟨(c v s hq).1, (c v s hq).2.1, hr _ (c v s hq).2.2⟩⟩
   ·rename_i hds; rw [hds] at h; exact h
  | rd =>
   simp only [hm] at h ⊢
   intro σ1 ha
   obtain ⟨Q', a, b, c⟩ := h σ1 ha
   exact ⟨Q', a, b, fun v s hq => hr _ (c v s hq)⟩
 | _ => exact h

theorem AdmN.mono {d : DOp} {e : Env} {σ : St} {R R' : V → Prop} (hr : ∀ v, R v → R' v) (h : AdmN K cx n0 d e σ R) : AdmN K cx n0 d e σ R' := by
 unfold AdmN at *
 split
 ·rename_i hg; rw [hg] at h; exact nGo.mono hr h
 ·rename_i hg; rw [hg] at h; exact hr _ h
 ·rename_i hg; rw [hg] at h; exact h

theorem nGo.some {i : Ins} {e : Env} {σ : St} {R : V → Prop} (h : nGo K cx n0 i e σ R) : ∃ v, R v := by
 cases i with
 | p dst op =>
  simp only [nGo] at h
  split at h
  ·exact ⟨_, h⟩
  ·exact h.elim
 | call dst f args =>
  simp only [nGo] at h
  cases hm : cx.mode f with
  | raw => simp only [hm] at h
  | rnd => simp only [hm] at h
  | val =>
   simp only [hm] at h
   split at h
   ·obtain ⟨Q', a, ⟨v, s, hv⟩, c⟩ := h
    exact ⟨v, (c v s hv).2.2⟩
   ·exact h.elim
  | rd =>
   simp only [hm] at h
   obtain ⟨Q', a, ⟨v, s, hv⟩, c⟩ := h σ (Agr.refl _ _)
   exact ⟨v, c v s hv⟩
 | _ => exact h.elim

theorem AdmN.some {d : DOp} {e : Env} {σ : St} {R : V → Prop} (h : AdmN K cx n0 d e σ R) : ∃ v, R v := by
 unfold AdmN at h
 split at h
 ·exact nGo.some h
 ·exact ⟨_, h⟩
 ·exact h.elim

theorem gsel_same {d : DOp} {e e' : Env} (h : ∀ s ∈ d.reads, e.get s = e'.get s) : gsel d.guard e = gsel d.guard e' := by
 unfold gsel
 cases hg : d.guard with
 | none => rfl
 | some p =>
  obtain ⟨s, w⟩ := p
  simp only
  rw [h s (by simp [DOp.reads, DOp.gslot, hg])]

theorem AdmN.same {d : DOp} {e e' : Env} {σ σ' : St} (h : Same d.reads e σ e' σ') (hag : Agr n0 σ σ') {R : V → Prop} (ha : AdmN K cx n0 d e σ R) : AdmN K cx n0 d e' σ' R := by
 have hr : Same d.ins.reads e σ e' σ' := Same.right (a := d.gslot) h
 unfold AdmN at *
 rw [← gsel_same (fun s hs => (h s hs).1)]
 split
 ·rename_i hg
  rw [hg] at ha
  simp only at ha
  generalize d.ins = i at *
  cases i with
  | p dst op =>
   simp only [nGo] at *
   rw [← evalP_same hr]
   exact ha
  | call dst f args =>
   simp only [nGo] at *
   cases hm : cx.mode f with
   | raw => simp only [hm] at ha
   | rnd => simp only [hm] at ha
   | val =>
    simp only [hm] at ha ⊢
    rw [← byVals_same hr, ← Same.opds hr]
    exact ha
   | rd =>
    simp only [hm] at ha ⊢
    intro σ1 h1
    rw [← Same.opds hr]
    exact ha σ1 (hag.trans h1)
  | _ => exact ha
 ·rename_i hg; rw [hg] at ha; exact ha
 ·rename_i hg; rw [hg] at ha; exact ha

theorem AdmN.free {d : DOp} {e e' : Env} {σ : St} {q : Nat} {o : Obj} {R : V → Prop} (ha : AdmN K cx n0 d e σ R) (h : ∀ s ∈ d.reads, e.get s = e'.get s) (hf : σ.objs[q]? = Option.some Obj.free) (hq : n0 ≤ q) : AdmN K cx n0 d e' (σ.setObj q o) R := by
 have hs : Same d.reads e σ e' σ := fun s hs => ⟨h s hs, fun _ _ => rfl⟩
 have h2 := ha.same hs (Agr.refl n0 σ)
 have hag : Agr n0 σ (σ.setObj q o) := ⟨fun r hr => (set_other (by omega)).symm, rfl⟩
 unfold AdmN at h2 ⊢
 split
 ·rename_i hg
  rw [hg] at h2
  simp only at h2
  generalize d.ins = i at *
  cases i with
  | p dst op =>
   simp only [nGo] at h2 ⊢
   split at h2
   ·rename_i v hv; rw [evalP_free hf hv]; exact h2
   ·exact h2.elim
  | call dst f args =>
   simp only [nGo] at h2 ⊢
   cases hm : cx.mode f with
   | raw => simp only [hm] at h2
   | rnd => simp only [hm] at h2
   | val =>
    simp only [hm] at h2 ⊢
    split at h2
    ·rename_i ds hds; rw [byVals_free hf hds]; exact h2
    ·exact h2.elim
   | rd =>
    simp only [hm] at h2 ⊢
    intro σ1 h1
    exact h2 σ1 (hag.trans h1)
  | _ => exact h2
 ·rename_i hg; rw [hg] at h2; exact h2
 ·rename_i hg; rw [hg] at h2; exact h2

theorem AdmN.single {d : DOp} (hp : d.isP = true) {e : Env} {σ : St} {R : V → Prop} (h : AdmN K cx n0 d e σ R) : ∃ v, ∀ R', AdmN K cx n0 d e σ R' ↔ R' v := by
 unfold DOp.isP at hp
 split at hp
 ·rename_i dst op hi
  unfold AdmN at h
  simp only [AdmN]
  rw [hi] at h ⊢
  split at h
  ·simp only [nGo] at h ⊢
   split at h
   ·rename_i v hv
    exact ⟨v, fun R' => Iff.rfl⟩
   ·exact h.elim
  ·exact ⟨.gone, fun R' => Iff.rfl⟩
  ·exact h.elim
 ·cases hp

theorem opd_slots {x : Opd} {e e' : Env} (h : ∀ s ∈ x.slots, e.get s = e'.get s) : x.ev e = x.ev e' := by
 cases x with
 | t n => exact h n (by simp [Opd.slots])
 | _ => rfl
theorem opds_slots {xs : List Opd} {e e' : Env} (h : ∀ s ∈ xs.flatMap Opd.slots, e.get s = e'.get s) : xs.map (Opd.ev e) = xs.map (Opd.ev e') :=
 List.map_congr_left fun x hx => opd_slots fun s hs => h s (List.mem_flatMap.2 ⟨x, hx, hs⟩)

theorem same_slots {rd : List Nat} {e e' : Env} (h : ∀ s ∈ rd, e.get s = e'.get s) (σ : St) : Same rd e σ e' σ := fun s hs => ⟨h s hs, fun _ _ => rfl⟩

theorem rows_blind {x : V} (h : ∀ r off len sz, x ≠ .sl r off len sz) (σ σ' : St) : V.rows σ x = V.rows σ' x := by
 cases x with
 | sl r off len sz => exact absurd rfl (h _ _ _ _)
 | d x => cases x <;> rfl
 | _ => rfl

theorem iaddr_blind (sz : Nat) (x i : V) (σ σ' : St) : iaddrV σ sz x i = iaddrV σ' sz x i := by
 cases x with
 | sl r off len s => rfl
 | d x => simp only [iaddrV]; rw [rows_blind (by simp) σ σ']
 | _ => simp only [iaddrV]; rw [rows_blind (by simp) σ σ']

theorem evalP_blind {op : POp} (hb : op.blind = true) {e e' : Env} (h : ∀ s ∈ op.reads, e.get s = e'.get s) (σ σ' : St) : evalP op e σ = evalP op e' σ' := by
 rw [evalP_same (same_slots h σ)]
 cases op with
 | load => simp [POp.blind] at hb
 | sliceArr => simp [POp.blind] at hb
 | lookup => simp [POp.blind] at hb
 | conv k x => cases k <;> first | (simp [POp.blind] at hb; done) | rfl
 | len ty x => cases ty <;> first | (simp [POp.blind] at hb; done) | rfl
 | iaddr sz x i => simp only [evalP]; exact iaddr_blind _ _ _ _ _
 | _ => rfl

theorem AdmN.blind {d : DOp} (hb : d.isB = true) {e : Env} {σ : St} {R : V → Prop} (h : AdmN K cx n0 d e σ R) : ∃ v, ∀ (e' : Env) (σ' : St), (∀ s ∈ d.reads, e.get s = e'.get s) → ∀ R', AdmN K cx n0 d e' σ' R' ↔ R' v := by
 unfold DOp.isB at hb
 split at hb
 ·rename_i dst op hi
  have hg : ∀ e' : Env, (∀ s ∈ d.reads, e.get s = e'.get s) → gsel d.guard e = gsel d.guard e' := fun e' he => gsel_same he
  have hrd : ∀ s ∈ op.reads, s ∈ d.reads := fun s hs => by
   unfold DOp.reads
   rw [hi]
   exact List.mem_append_right _ hs
  unfold AdmN at *
  cases hs : gsel d.guard e with
  | none => rw [hs] at h; exact h.elim
  | some b =>
   rw [hs] at h
   cases b with
   | true =>
    rw [hi] at *
    simp only [nGo] at h
    split at h
    ·rename_i v hv
     refine ⟨v, fun e' σ' he R' => ?_⟩
     rw [← hg e' he, hs]
     simp only [nGo]
     rw [← evalP_blind hb (fun s hs => he s (hrd s hs)) σ σ', hv]
    ·exact h.elim
   | false =>
    refine ⟨.gone, fun e' σ' he R' => ?_⟩
    rw [← hg e' he, hs]
 ·cases hb

theorem evalE_slots {op : EOp} {e e' : Env} (h : ∀ s ∈ op.reads, e.get s = e'.get s) (σ : St) (tg : Option Nat) : evalE op e σ tg = evalE op e' σ tg ∧ evalM op e σ tg = evalM op e' σ tg := by
 cases op with
 | alloc z => exact ⟨rfl, rfl⟩
 | makeMap => exact ⟨rfl, rfl⟩
 | box x => simp only [evalE, evalM, opd_slots (x := x) h, and_self]
 | clear sz z x => simp only [evalE, evalM, opd_slots (x := x) h, and_self]
 | mapUpdate ka ks a b c => simp only [evalE, evalM, opd_slots (x := a) (fun s hs => h s (List.mem_append_left _ hs)), opd_slots (x := b) (fun s hs => h s (List.mem_append_right _ (List.mem_append_left _ hs))), opd_slots (x := c) (fun s hs => h s (List.mem_append_right _ (List.mem_append_right _ hs))), and_self]
 | mapDelete ka ks a b => simp only [evalE, evalM, opd_slots (x := a) (fun s hs => h s (List.mem_append_left _ hs)), opd_slots (x := b) (fun s hs => h s (List.mem_append_right _ hs)), and_self]
 | range x => simp only [evalE, evalM, opd_slots (x := x) h, and_self]
 | entry x => simp only [evalE, evalM, opd_slots (x := x) h, and_self]
 | cloneMap x => simp only [evalE, evalM, opd_slots (x := x) h, and_self]
 | appendZero t sz b z a x => simp only [evalE, evalM, opd_slots (x := a) (fun s hs => h s (List.mem_append_left _ hs)), opd_slots (x := x) (fun s hs => h s (List.mem_append_right _ hs)), and_self]
 | store n a x => simp only [evalE, evalM, opd_slots (x := a) (fun s hs => h s (List.mem_append_left _ hs)), opd_slots (x := x) (fun s hs => h s (List.mem_append_right _ hs)), and_self]
 | append t sz b a x => simp only [evalE, evalM, opd_slots (x := a) (fun s hs => h s (List.mem_append_left _ hs)), opd_slots (x := x) (fun s hs => h s (List.mem_append_right _ hs)), and_self]
 | appendStr t a x => simp only [evalE, evalM, opd_slots (x := a) (fun s hs => h s (List.mem_append_left _ hs)), opd_slots (x := x) (fun s hs => h s (List.mem_append_right _ hs)), and_self]
 | copy sz a x => simp only [evalE, evalM, opd_slots (x := a) (fun s hs => h s (List.mem_append_left _ hs)), opd_slots (x := x) (fun s hs => h s (List.mem_append_right _ hs)), and_self]
 | makeSlice t sz b z a x => simp only [evalE, evalM, opd_slots (x := a) (fun s hs => h s (List.mem_append_left _ hs)), opd_slots (x := x) (fun s hs => h s (List.mem_append_right _ hs)), and_self]

theorem xCall.mono {e : Env} {f : Nat} {vs : List V} {σ : St} {R R' : V → St → Prop} (hr : ∀ v s, R v s → R' v s) (h : xCall K cx ks e f vs σ R) : xCall K cx ks e f vs σ R' := by
 unfold xCall at *
 cases hm : cx.mode f with
 | rnd => simp only [hm] at h
 | raw => simp only [hm] at h ⊢; obtain ⟨Q', a, b, c⟩ := h; exact ⟨Q', a, b, fun v s hq => ⟨(c v s hq).1, hr _ _ (c v s hq).2⟩⟩
 | rd => simp only [hm] at h ⊢; obtain ⟨Q', a, b, c⟩ := h; exact ⟨Q', a, b, fun v s hq => hr _ _ (c v s hq)⟩
 | val =>
  simp only [hm] at h ⊢
  split
  ·rename_i ds hds
   rw [hds] at h
   obtain ⟨Q', a, b, c⟩ := h
   exact ⟨Q', a, b, fun v s hq => ⟨(c v s hq).1, (c v s hq).2.1, hr _ _ (c v s hq).2.2⟩⟩
  ·rename_i hds; rw [hds] at h; exact h

theorem xCall.some {e : Env} {f : Nat} {vs : List V} {σ : St} {R : V → St → Prop} (h : xCall K cx ks e f vs σ R) : ∃ v s, R v s := by
 unfold xCall at h
 cases hm : cx.mode f with
 | rnd => simp only [hm] at h
 | raw => simp only [hm] at h; obtain ⟨Q', a, ⟨v, s, b⟩, c⟩ := h; exact ⟨v, s, (c v s b).2⟩
 | rd => simp only [hm] at h; obtain ⟨Q', a, ⟨v, s, b⟩, c⟩ := h; exact ⟨v, σ, c v s b⟩
 | val =>
  simp only [hm] at h
  split at h
  ·obtain ⟨Q', a, ⟨v, s, b⟩, c⟩ := h; exact ⟨v, σ, (c v s b).2.2⟩
  ·exact h.elim

theorem xCall.callK {e : Env} {f : Nat} {vs : List V} {σ : St} {R : V → St → Prop} (h : xCall K cx ks e f vs σ R) (cx' : Cx) : Dn.callK K cx' f vs σ R := by
 unfold xCall at h
 refine .inl ⟨cx.mode f, ?_⟩
 cases hm : cx.mode f with
 | rnd => simp only [hm] at h
 | raw => simp only [hm] at h; obtain ⟨Q', a, b, c⟩ := h; exact ⟨Q', a, fun v s hq => (c v s hq).2⟩
 | rd => simp only [hm] at h; obtain ⟨Q', a, b, c⟩ := h; exact ⟨Q', a, c⟩
 | val =>
  simp only [hm] at h
  simp only [callM]
  split at h
  ·rename_i ds hds
   rw [hds]
   obtain ⟨Q', a, b, c⟩ := h; exact ⟨Q', a, c⟩
  ·exact h.elim

theorem AdmX.mono {d : DOp} {e : Env} {σ : St} {R R' : V → St → Prop} (hr : ∀ v s, R v s → R' v s) (h : AdmX K cx n0 ks d e σ R) : AdmX K cx n0 ks d e σ R' := by
 unfold AdmX at *
 split
 ·rename_i hg
  rw [hg] at h
  simp only at h
  generalize d.ins = i at *
  cases i with
  | e dst op =>
   simp only [xGo] at *
   refine h.imp (fun h => ?_) (fun h => ?_)
   ·split
    ·rename_i v s hv; rw [hv] at h; exact ⟨h.1, hr _ _ h.2⟩
    ·rename_i hv; rw [hv] at h; exact h
   ·split
    ·rename_i v s hv; rw [hv] at h; exact ⟨h.1, hr _ _ h.2⟩
    ·rename_i hv; rw [hv] at h; exact h
  | call dst f args => exact xCall.mono hr h
  | callv dst f args =>
   simp only [xGo] at *
   split
   ·rename_i g first caps hf; rw [hf] at h; exact xCall.mono hr h
   ·rename_i hn
    split at h
    ·rename_i g first caps hf; exact (hn _ _ _ hf).elim
    ·exact h
  | _ => exact h
 ·rename_i hg; rw [hg] at h; exact hr _ _ h
 ·rename_i hg; rw [hg] at h; exact h

theorem AdmX.some {d : DOp} {e : Env} {σ : St} {R : V → St → Prop} (h : AdmX K cx n0 ks d e σ R) : ∃ v s, R v s := by
 unfold AdmX at h
 split at h
 ·generalize d.ins = i at *
  cases i with
  | e dst op =>
   simp only [xGo] at h
   rcases h with h | h
   ·split at h
    ·exact ⟨_, _, h.2⟩
    ·exact h.elim
   ·split at h
    ·exact ⟨_, _, h.2⟩
    ·exact h.elim
  | call dst f args => exact xCall.some h
  | callv dst f args =>
   simp only [xGo] at h
   split at h
   ·exact xCall.some h
   ·exact h.elim
  | _ => exact h.elim
 ·exact ⟨_, _, h⟩
 ·exact h.elim

theorem kept_slots {e e' : Env} (hk : ∀ s ∈ ks, e.get s = e'.get s) (σ s : St) : Kept ks e σ s ↔ Kept ks e' σ s := by
 constructor
 ·intro h t ht r hr; exact h t ht r (by rw [hk t ht]; exact hr)
 ·intro h t ht r hr; exact h t ht r (by rw [← hk t ht]; exact hr)

theorem xCall.slots {e e' : Env} (hk : ∀ s ∈ ks, e.get s = e'.get s) {f : Nat} {vs : List V} {σ : St} {R : V → St → Prop} (h : xCall K cx ks e f vs σ R) : xCall K cx ks e' f vs σ R := by
 unfold xCall at *
 cases hm : cx.mode f with
 | rnd => simp only [hm] at h
 | raw => simp only [hm] at h ⊢; obtain ⟨Q', a, b, c⟩ := h; exact ⟨Q', a, b, fun v s hq => ⟨(kept_slots hk σ s).1 (c v s hq).1, (c v s hq).2⟩⟩
 | rd => simp only [hm] at h ⊢; exact h
 | val => simp only [hm] at h ⊢; exact h

theorem AdmX.slots {d : DOp} {e e' : Env} (he : ∀ s ∈ d.reads, e.get s = e'.get s) (hk : ∀ s ∈ ks, e.get s = e'.get s) {σ : St} {R : V → St → Prop} (h : AdmX K cx n0 ks d e σ R) : AdmX K cx n0 ks d e' σ R := by
 have hr : ∀ s ∈ d.ins.reads, e.get s = e'.get s := fun s hs => he s (List.mem_append_right _ hs)
 unfold AdmX at *
 rw [← gsel_same he]
 split
 ·rename_i hg
  rw [hg] at h
  simp only at h
  generalize d.ins = i at *
  cases i with
  | e dst op =>
   simp only [xGo] at *
   rw [← (evalE_slots hr σ _).1, ← (evalE_slots hr σ _).2]
   refine h.imp (fun h => ?_) (fun h => ?_)
   ·split
    ·rename_i v s hv; rw [hv] at h; exact ⟨fun hs => (kept_slots hk σ s).1 (h.1 hs), h.2⟩
    ·rename_i hv; rw [hv] at h; exact h
   ·split
    ·rename_i v s hv; rw [hv] at h; exact ⟨fun hs => (kept_slots hk σ s).1 (h.1 hs), h.2⟩
    ·rename_i hv; rw [hv] at h; exact h
  | call dst f args =>
   simp only [xGo] at *
   rw [← opds_slots hr]
   exact h.slots hk
  | callv dst f args =>
   simp only [xGo] at *
   rw [← opds_slots (xs := args) (fun s hs => hr s (List.mem_append_right _ hs)), ← opd_slots (x := f) (fun s hs => hr s (List.mem_append_left _ hs))]
   split
   ·rename_i g first caps hf
    rw [hf] at h
    exact h.slots hk
   ·rename_i hn
    split at h
    ·rename_i g first caps hf; exact (hn _ _ _ hf).elim
    ·exact h
  | _ => exact h
 ·rename_i hg; rw [hg] at h; exact h
 ·rename_i hg; rw [hg] at h; exact h

theorem Adm0.mono {d : DOp} {e : Env} {σ : St} {R R' : V → St → Prop} (hr : ∀ v s, R v s → R' v s) (h : Adm0 K cx n0 ks d e σ R) : Adm0 K cx n0 ks d e σ R' := by
 unfold Adm0 at *
 split
 ·rename_i he; rw [he] at h; exact AdmN.mono (fun v => hr v σ) h
 ·rename_i he; rw [he] at h; exact AdmX.mono hr h

theorem Adm0.some {d : DOp} {e : Env} {σ : St} {R : V → St → Prop} (h : Adm0 K cx n0 ks d e σ R) : ∃ v s, R v s := by
 unfold Adm0 at h
 split at h
 ·obtain ⟨v, hv⟩ := h.some; exact ⟨v, σ, hv⟩
 ·exact AdmX.some h

theorem Adm0.slots {d : DOp} {e e' : Env} (he : ∀ s ∈ d.reads, e.get s = e'.get s) (hk : ∀ s ∈ ks, e.get s = e'.get s) {σ : St} {R : V → St → Prop} (h : Adm0 K cx n0 ks d e σ R) : Adm0 K cx n0 ks d e' σ R := by
 unfold Adm0 at *
 split
 ·rename_i hn; rw [hn] at h; exact AdmN.same (same_slots he σ) (Agr.refl _ _) h
 ·rename_i hn; rw [hn] at h; exact AdmX.slots he hk h

theorem Dry.slots {d : DOp} {e e' : Env} (he : ∀ s ∈ d.reads, e.get s = e'.get s) (h : Dry cx d e) : Dry cx d e' := fun hp s hs hr => by
 rw [← he s hr]
 exact h hp s hs hr

theorem Adm.slots {d : DOp} {e e' : Env} (he : ∀ s ∈ d.reads, e.get s = e'.get s) (hk : ∀ s ∈ ks, e.get s = e'.get s) {σ : St} {R : V → St → Prop} (h : Adm K cx n0 ks d e σ R) : Adm K cx n0 ks d e' σ R := ⟨h.1.slots he, h.2.slots he hk⟩
theorem Adm.mono {d : DOp} {e : Env} {σ : St} {R R' : V → St → Prop} (hr : ∀ v s, R v s → R' v s) (h : Adm K cx n0 ks d e σ R) : Adm K cx n0 ks d e σ R' := ⟨h.1, h.2.mono hr⟩

theorem Adm_N {d : DOp} (h : d.isN cx.mode = true) (e : Env) (σ : St) (R : V → St → Prop) : Adm0 K cx n0 ks d e σ R = AdmN K cx n0 d e σ (fun v => R v σ) := by
 unfold Adm0; rw [h]

theorem AdmN.sameP {d : DOp} (hp : d.isP = true) {e e' : Env} {σ σ' : St} (h : Same d.reads e σ e' σ') {R : V → Prop} (ha : AdmN K cx n0 d e σ R) : AdmN K cx n0 d e' σ' R := by
 have hr : Same d.ins.reads e σ e' σ' := Same.right (a := d.gslot) h
 unfold DOp.isP at hp
 unfold AdmN at *
 rw [← gsel_same (fun s hs => (h s hs).1)]
 split
 ·rename_i hg
  rw [hg] at ha
  simp only at ha
  generalize d.ins = i at *
  cases i with
  | p dst op =>
   simp only [nGo] at *
   rw [← evalP_same hr]
   exact ha
  | _ => cases hp
 ·rename_i hg; rw [hg] at ha; exact ha
 ·rename_i hg; rw [hg] at ha; exact ha

theorem AdmX.kept {d : DOp} (hx : d.isXc cx.mode = true) {e : Env} {σ : St} {R : V → St → Prop} (h : AdmX K cx n0 ks d e σ R) : AdmX K cx n0 ks d e σ fun v s => Kept ks e σ s ∧ R v s := by
 have xc : ∀ {f : Nat} {vs : List V}, xCall K cx ks e f vs σ R → xCall K cx ks e f vs σ fun v s => Kept ks e σ s ∧ R v s := fun {f vs} h => by
  unfold xCall at *
  cases hm : cx.mode f with
  | rnd => simp only [hm] at h
  | raw => simp only [hm] at h ⊢; obtain ⟨Q', a, b, c⟩ := h; exact ⟨Q', a, b, fun v s hq => ⟨(c v s hq).1, (c v s hq).1, (c v s hq).2⟩⟩
  | rd => simp only [hm] at h ⊢; obtain ⟨Q', a, b, c⟩ := h; exact ⟨Q', a, b, fun v s hq => ⟨Kept.refl _ _ _, c v s hq⟩⟩
  | val =>
   simp only [hm] at h ⊢
   split
   ·rename_i ds hds
    rw [hds] at h
    obtain ⟨Q', a, b, c⟩ := h
    exact ⟨Q', a, b, fun v s hq => ⟨(c v s hq).1, (c v s hq).2.1, Kept.refl _ _ _, (c v s hq).2.2⟩⟩
   ·rename_i hds; rw [hds] at h; exact h
 unfold DOp.isXc at hx
 unfold AdmX at *
 split
 ·rename_i hg
  rw [hg] at h
  simp only at h
  generalize d.ins = i at *
  cases i with
  | e dst op =>
   simp only [xGo] at *
   refine h.imp (fun h => ?_) (fun h => ?_)
   ·split
    ·rename_i v s hv; rw [hv] at h; exact ⟨h.1, h.1 hx, h.2⟩
    ·rename_i hv; rw [hv] at h; exact h
   ·split
    ·rename_i v s hv; rw [hv] at h; exact ⟨h.1, h.1 hx, h.2⟩
    ·rename_i hv; rw [hv] at h; exact h
  | call dst f args => exact xc h
  | callv dst f args =>
   simp only [xGo] at *
   split
   ·rename_i g first caps hf; rw [hf] at h; exact xc h
   ·rename_i hn
    split at h
    ·rename_i g first caps hf; exact (hn _ _ _ hf).elim
    ·exact h
  | _ => cases hx
 ·rename_i hg; rw [hg] at h; exact ⟨Kept.refl _ _ _, h⟩
 ·rename_i hg; rw [hg] at h; exact h

theorem isN_Xc {md : Nat → Mode} {d : DOp} (h : d.isXc md = true) : d.isN md = false := by
 unfold DOp.isXc at h; unfold DOp.isN
 generalize d.ins = i at *
 cases i with
 | call dst f args =>
  simp only at h ⊢
  cases hm : md f <;> simp only [hm] at h ⊢ <;> cases h
 | callv dst f args => rfl
 | e dst op => rfl
 | _ => cases h

theorem isN_P {md : Nat → Mode} {d : DOp} (h : d.isP = true) : d.isN md = true := by
 unfold DOp.isP at h; unfold DOp.isN
 generalize d.ins = i at *
 cases i <;> first | rfl | cases h
theorem isP_B {d : DOp} (h : d.isB = true) : d.isP = true := by
 unfold DOp.isB at h; unfold DOp.isP
 generalize d.ins = i at *
 cases i <;> first | rfl | cases h

theorem get_put2 {e : Env} {d d' : Option Nat} {v u : V} (h : ∀ s, d = some s → d' ≠ some s) : ∀ s, (putE (putE e d v) d' u).get s = (putE (putE e d' u) d v).get s := fun s => by
 by_cases h1 : d = some s
 ·have h2 := h s h1
  rw [get_put_ne h2]
  subst h1
  simp [putE, Env.get_set]
 ·by_cases h2 : d' = some s
  ·rw [get_put_ne (e := putE e d' u) h1]
   subst h2
   simp [putE, Env.get_set]
  ·rw [get_put_ne h2, get_put_ne h1, get_put_ne h1, get_put_ne h2]

theorem same_put {rd : List Nat} {e : Env} {σ : St} {d : Option Nat} {v : V} (h : ∀ s, d = some s → s ∉ rd) : Same rd e σ (putE e d v) σ := fun s hs =>
 ⟨(get_put_ne (fun hd => h s hd hs) v).symm, fun _ _ => rfl⟩

theorem Same.symm {rd : List Nat} {e e' : Env} {σ σ' : St} (h : Same rd e σ e' σ') : Same rd e' σ' e σ := fun s hs =>
 ⟨(h s hs).1.symm, fun r hr => ((h s hs).2 r (by rw [(h s hs).1]; exact hr)).symm⟩

end Go.Dn

/- Neighbours that may change places. -/
namespace Go.Dn
set_option linter.unusedVariables false
set_option linter.unusedSimpArgs false

variable {K : CallP} {cx : Cx} {n0 : Nat} {ks : List Nat}

def newCells (op : EOp) (e : Env) : Option (List V) :=
 match op with
 | .alloc zero => some zero
 | .box x => (x.ev e).cells
 | _ => none

theorem isNew_inv {d : DOp} (h : d.isNew = true) : d.guard = none ∧ ∃ s op, d.ins = .e (some s) op ∧ (∀ e σ r, evalE op e σ (some r) = match newCells op e with
  | some cs => newObj σ (some r) (.cells cs) (fun r => .ref r 0)
  | none => none) ∧ (∀ e e', (∀ s ∈ op.reads, e.get s = e'.get s) → newCells op e = newCells op e') := by
 unfold DOp.isNew at h
 simp only [Bool.and_eq_true] at h
 obtain ⟨h1, h2⟩ := h
 refine ⟨by simpa using h1, ?_⟩
 split at h2
 ·rename_i s z hi
  exact ⟨s, _, hi, fun e σ r => rfl, fun _ _ _ => rfl⟩
 ·rename_i s x hi
  refine ⟨s, _, hi, fun e σ r => by simp only [evalE, newCells]; split <;> simp_all, fun e e' h => ?_⟩
  simp only [newCells]
  have : x.ev e = x.ev e' := by
   cases x with
   | t n => exact h n (by simp [EOp.reads, Opd.slots])
   | _ => rfl
  rw [this]
 ·cases h2

theorem isSto_inv {l : List DOp} {d : DOp} (h : d.isSto l = true) : d.guard = none ∧ ∃ n s x, d.ins = .e none (.store n (.t s) x) ∧ ∃ m ∈ d.after, ∃ dm, l[m]? = some dm ∧ dm.isNew = true ∧ dm.ins.dst = some s := by
 unfold DOp.isSto at h
 simp only [Bool.and_eq_true] at h
 obtain ⟨h1, h2⟩ := h
 refine ⟨by simpa using h1, ?_⟩
 split at h2
 ·rename_i n s x hi
  refine ⟨n, s, x, hi, ?_⟩
  rw [List.any_eq_true] at h2
  obtain ⟨m, hm, h3⟩ := h2
  split at h3
  ·rename_i dm hdm
   simp only [Bool.and_eq_true, beq_iff_eq] at h3
   exact ⟨m, hm, dm, hdm, h3.1, h3.2⟩
  ·cases h3
 ·cases h2

theorem isN_new {md : Nat → Mode} {d : DOp} (h : d.isNew = true) : d.isN md = false := by
 obtain ⟨_, s, op, hi, _⟩ := isNew_inv h
 simp [DOp.isN, hi]
theorem isN_sto {md : Nat → Mode} {l : List DOp} {d : DOp} (h : d.isSto l = true) : d.isN md = false := by
 obtain ⟨_, n, s, x, hi, _⟩ := isSto_inv h
 simp [DOp.isN, hi]
theorem new_M {d : DOp} (h : d.isNew = true) {dst : Option Nat} {op : EOp} (hi : d.ins = .e dst op) (e : Env) (σ : St) (tg : Option Nat) : evalM op e σ tg = none := by
 unfold DOp.isNew at h
 rw [hi] at h
 cases op <;> first | rfl | (simp at h; done)
theorem sto_M {l : List DOp} {d : DOp} (h : d.isSto l = true) {dst : Option Nat} {op : EOp} (hi : d.ins = .e dst op) (e : Env) (σ : St) (tg : Option Nat) : evalM op e σ tg = none := by
 obtain ⟨_, n, s, x, hi', _⟩ := isSto_inv h
 rw [hi] at hi'
 cases hi'
 rfl

def Low (n0 : Nat) (σ σ' : St) : Prop := ∀ r, r < n0 → σ'.objs[r]? = σ.objs[r]?

structure Inv (l : List DOp) (n0 : Nat) (S : List Nat) (e : Env) : Prop where
 low : ∀ s, (∀ d ∈ l, d.ins.dst ≠ some s) → ∀ r ∈ dref (e.get s), r < n0
 new : ∀ m ∈ S, ∀ d, l[m]? = some d → d.isNew = true → ∀ s, d.ins.dst = some s → e.get s = .ref (n0 + d.al) 0
 fa : ∀ m ∈ S, ∀ d, l[m]? = some d → ∀ s q, d.faOf l = some (s, q) → ∀ r ∈ dref (e.get s), r ∈ dref (e.get q)

theorem all_ne {l : List DOp} {s : Nat} (h : l.all (fun d' => d'.ins.dst != some s) = true) : ∀ d ∈ l, d.ins.dst ≠ some s := fun d hd => by
 rw [List.all_eq_true] at h
 simpa using h d hd

theorem faOf_inv {l : List DOp} {d : DOp} {s q : Nat} (h : d.faOf l = some (s, q)) : d.guard = none ∧ (∃ k, d.ins = .p (some s) (.faddr k (.t q))) ∧ ∀ d' ∈ l, d'.ins.dst ≠ some q := by
 unfold DOp.faOf at h
 split at h
 ·rename_i hg
  split at h
  ·rename_i s' k q' hi
   split at h
   ·rename_i hq
    cases h
    exact ⟨by simpa using hg, ⟨k, hi⟩, all_ne hq⟩
   ·cases h
  ·cases h
 ·cases h

theorem root_dref {l : List DOp} {S : List Nat} {e : Env} (hi : Inv l n0 S e) {d : DOp} (haf : ∀ a ∈ d.after, a ∈ S) {s q : Nat} (h : rootD l d s = some q) : (∀ d' ∈ l, d'.ins.dst ≠ some q) ∧ ∀ r ∈ dref (e.get s), r ∈ dref (e.get q) := by
 unfold rootD at h
 split at h
 ·rename_i hs
  cases h
  exact ⟨all_ne hs, fun r hr => hr⟩
 ·obtain ⟨m, hm, h1⟩ := List.exists_of_findSome?_eq_some h
  split at h1
  ·rename_i dm hdm
   split at h1
   ·rename_i s' q' hf
    split at h1
    ·rename_i hss
     cases h1
     subst hss
     exact ⟨(faOf_inv hf).2.2, hi.fa m (haf m hm) dm hdm _ _ hf⟩
    ·cases h1
   ·cases h1
  ·cases h1

theorem near_root {l : List DOp} {dr : List Nat} {d : DOp} (h : d.near l dr = true) {s : Nat} (hs : s ∈ d.reads) : (d.isP = true ∧ s ∈ dr) ∨ ∃ q, rootD l d s = some q := by
 unfold DOp.near at h
 rw [List.all_eq_true] at h
 have := h s hs
 rw [Bool.or_eq_true, Bool.and_eq_true] at this
 exact this.imp (fun h => ⟨h.1, by simpa using h.2⟩) Option.isSome_iff_exists.1

theorem early_same {l : List DOp} {S : List Nat} {e : Env} (hi : Inv l n0 S e) {d : DOp} (haf : ∀ a ∈ d.after, a ∈ S) (hdry : Dry cx d e) (hd : d.near l cx.dry = true) {σ σ' : St} (hlow : Low n0 σ σ') : Same d.reads e σ e σ' := fun s hs => by
 rcases near_root hd hs with ⟨hp, hdr⟩ | ⟨q, hq⟩
 ·exact ⟨rfl, fun r hr => by rw [hdry hp s hdr hs] at hr; cases hr⟩
 obtain ⟨h1, h2⟩ := root_dref hi haf hq
 exact ⟨rfl, fun r hr => (hlow r (hi.low q h1 r (h2 r hr))).symm⟩

theorem new_low {d : DOp} (hn : d.isNew = true) {e : Env} {σ : St} {v : V} {s' : St} {op : EOp} {dst : Option Nat} (hi : d.ins = .e dst op) (h : evalE op e σ (some (n0 + d.al)) = some (v, s')) :
  v = .ref (n0 + d.al) 0 ∧ ∃ cs, newCells op e = some cs ∧ σ.objs[n0 + d.al]? = some .free ∧ s' = σ.setObj (n0 + d.al) (.cells cs) := by
 obtain ⟨_, s, op', hi', h1, _⟩ := isNew_inv hn
 rw [hi] at hi'
 cases hi'
 rw [h1] at h
 split at h
 ·rename_i cs hcs
  unfold newObj St.place at h
  simp only [St.spot] at h
  split at h
  ·rename_i σ' hp
   split at hp
   ·rename_i hf
    simp only [Option.some.injEq] at hp
    simp only [Option.some.injEq, Prod.mk.injEq] at h
    obtain ⟨rfl, rfl⟩ := h
    exact ⟨rfl, cs, hcs, hf, hp.symm⟩
   ·cases hp
  ·cases h
 ·cases h

theorem agr_set {σ : St} {r : Nat} {o : Obj} (h : n0 ≤ r) : Agr n0 σ (σ.setObj r o) := ⟨fun q hq => by
 simp only [St.setObj]
 rw [List.getElem?_set_ne (by omega)], rfl⟩

theorem sto_low {l : List DOp} {S : List Nat} {e : Env} (hi : Inv l n0 S e) {d : DOp} (hs : d.isSto l = true) (haf : ∀ a ∈ d.after, a ∈ S) {σ : St} {v : V} {s' : St} {op : EOp} {dst : Option Nat} (hd : d.ins = .e dst op)
  {tg : Option Nat} (h : evalE op e σ tg = some (v, s')) : Agr n0 σ s' := by
 obtain ⟨_, n, s, x, hi', m, hm, dm, h1, h2, h3⟩ := isSto_inv hs
 rw [hd] at hi'
 cases hi'
 have hg := hi.new m (haf m hm) dm h1 h2 s h3
 simp only [evalE, Opd.ev, hg] at h
 split at h
 ·split at h
  ·split at h
   ·simp only [Option.some.injEq, Prod.mk.injEq] at h
    obtain ⟨_, rfl⟩ := h
    exact agr_set (by omega)
   ·cases h
  ·cases h
 ·cases h

theorem evalE_same {l : List DOp} {d : DOp} (h : d.isNew = true ∨ d.isSto l = true) {op : EOp} {dst : Option Nat} (hi : d.ins = .e dst op) {e e' : Env} (hr : ∀ s ∈ op.reads, e.get s = e'.get s) (σ : St) :
  evalE op e σ (some (n0 + d.al)) = evalE op e' σ (some (n0 + d.al)) := by
 rcases h with h | h
 ·obtain ⟨_, s, op', hi', h1, h2⟩ := isNew_inv h
  rw [hi] at hi'
  cases hi'
  rw [h1, h1, h2 e e' hr]
 ·obtain ⟨_, n, s, x, hi', _⟩ := isSto_inv h
  rw [hi] at hi'
  cases hi'
  have e1 : e.get s = e'.get s := hr s (by simp [EOp.reads, Opd.slots])
  have e2 : x.ev e = x.ev e' := by
   cases x with
   | t k => exact hr k (by simp [EOp.reads, Opd.slots])
   | _ => rfl
  simp only [evalE, e2]
  simp only [Opd.ev, e1]

structure Apart (x y : DOp) : Prop where
 rd : ∀ s, x.ins.dst = some s → s ∉ y.reads
 ne : ∀ s, x.ins.dst = some s → y.ins.dst ≠ some s
 dr : ∀ s, y.ins.dst = some s → s ∉ x.reads

theorem apart_inv {x y : DOp} (h : apartD x y = true) : Apart x y := by
 unfold apartD at h
 simp only [Bool.and_eq_true] at h
 obtain ⟨h1, h2⟩ := h
 refine ⟨fun s hs => ?_, fun s hs => ?_, fun s hs => ?_⟩
 ·rw [hs] at h1; simp at h1; exact h1.1
 ·rw [hs] at h1; simp at h1; exact h1.2
 ·rw [hs] at h2; simp at h2; exact h2

def Ext (Q : Env → St → Prop) : Prop := ∀ e e' σ, (∀ s, e.get s = e'.get s) → Q e σ → Q e' σ

theorem Apart.swap {x y : DOp} (h : Apart x y) {Q : Env → St → Prop} (hq : Ext Q) {e : Env} {v u : V} {σ : St} (hQ : Q (putE (putE e x.ins.dst v) y.ins.dst u) σ) : Q (putE (putE e y.ins.dst u) x.ins.dst v) σ :=
 hq _ _ _ (get_put2 h.ne) hQ

theorem ins_reads {d : DOp} {s : Nat} (h : s ∈ d.ins.reads) : s ∈ d.reads := List.mem_append_right _ h

theorem Adm0_E {l : List DOp} {d : DOp} (h : d.isNew = true ∨ d.isSto l = true) (e : Env) (σ : St) (R : V → St → Prop) : Adm0 K cx n0 ks d e σ R ↔ d.guard = none ∧ ∃ dst op v s, d.ins = .e dst op ∧ evalE op e σ (some (n0 + d.al)) = some (v, s) ∧ (op.isStore = true → Kept ks e σ s) ∧ R v s := by
 have hN : d.isN cx.mode = false := h.elim isN_new isN_sto
 have hg : d.guard = none := h.elim (fun h => (isNew_inv h).1) (fun h => (isSto_inv h).1)
 have hins : ∃ dst op, d.ins = .e dst op := by
  rcases h with h | h
  ·obtain ⟨_, s, op, hi, _⟩ := isNew_inv h; exact ⟨_, _, hi⟩
  ·obtain ⟨_, n, s, x, hi, _⟩ := isSto_inv h; exact ⟨_, _, hi⟩
 obtain ⟨dst, op, hi⟩ := hins
 have hM : evalM op e σ (some (n0 + d.al)) = none := h.elim (fun h => new_M h hi _ _ _) (fun h => sto_M h hi _ _ _)
 unfold Adm0 AdmX
 rw [hN, hg]
 simp only [gsel, true_and]
 rw [hi]
 simp only [xGo, hM, or_false]
 constructor
 ·intro h
  split at h
  ·rename_i v s hv; exact ⟨dst, op, v, s, rfl, hv, h.1, h.2⟩
  ·exact h.elim
 ·rintro ⟨dst', op', v, s, h1, h2, h3⟩
  cases h1
  rw [h2]
  exact h3

theorem new_noStore {d : DOp} (h : d.isNew = true) {dst : Option Nat} {op : EOp} (hi : d.ins = .e dst op) : op.isStore = false := by
 unfold DOp.isNew at h
 rw [hi] at h
 simp only [Bool.and_eq_true] at h
 obtain ⟨_, h2⟩ := h
 cases op <;> first | rfl | (cases dst <;> cases h2)

def KeepP (md : Nat → Mode) (dr : List Nat) (l : List DOp) (ks : List Nat) (x y : DOp) : Prop :=
 (x.isP = true → x.isB = false → y.isXc md = true → x.near l dr = true → ∀ s ∈ x.reads, ∀ q, rootD l x s = some q → q ∈ ks) ∧
 (y.isP = true → y.isB = false → x.isXc md = true → y.near l dr = true → ∀ s ∈ y.reads, ∀ q, rootD l y s = some q → q ∈ ks)

theorem exchange0 {l : List DOp} {S : List Nat} {x y : DOp} (hok : okPair cx.mode cx.dry l x y = true) {e : Env} {σ : St} (hks : ∀ s ∈ ks, ∀ d ∈ l, d.ins.dst ≠ some s) (hkeep : KeepP cx.mode cx.dry l ks x y) (hxl : x ∈ l) (hyl : y ∈ l) (hi : Inv l n0 S e) (hx : ∀ a ∈ x.after, a ∈ S) (hy : ∀ a ∈ y.after, a ∈ S) (hdx : Dry cx x e) (hdy : Dry cx y e) {Q : Env → St → Prop} (hq : Ext Q)
  (h : Adm0 K cx n0 ks x e σ fun v s => Adm0 K cx n0 ks y (putE e x.ins.dst v) s fun u s' => Q (putE (putE e x.ins.dst v) y.ins.dst u) s') :
  Adm0 K cx n0 ks y e σ fun u s => Adm0 K cx n0 ks x (putE e y.ins.dst u) s fun v s' => Q (putE (putE e y.ins.dst u) x.ins.dst v) s' := by
 unfold okPair at hok
 rw [Bool.and_eq_true] at hok
 obtain ⟨hap, hk⟩ := hok
 have ha := apart_inv hap
 have sx : ∀ (u : V) (σ : St), Same x.reads e σ (putE e y.ins.dst u) σ := fun u σ => same_put ha.dr
 have sy : ∀ (v : V) (σ : St), Same y.reads e σ (putE e x.ins.dst v) σ := fun v σ => same_put ha.rd
 have lx : ∀ (u : V), ∀ s ∈ x.reads, e.get s = (putE e y.ins.dst u).get s := fun u s hs => (sx u σ s hs).1
 have ly : ∀ (v : V), ∀ s ∈ y.reads, e.get s = (putE e x.ins.dst v).get s := fun v s hs => (sy v σ s hs).1
 simp only [Bool.or_eq_true, Bool.and_eq_true] at hk
 have kx : ∀ (u : V), ∀ s ∈ ks, e.get s = (putE e y.ins.dst u).get s := fun u s hs => (get_put_ne (hks s hs y hyl) u).symm
 have ky : ∀ (v : V), ∀ s ∈ ks, e.get s = (putE e x.ins.dst v).get s := fun v s hs => (get_put_ne (hks s hs x hxl) v).symm
 by_cases xb : x.isB = true
 ·-- the first doesn't look at the store
  have xN := isN_P (md := cx.mode) (isP_B xb)
  simp only [Adm_N xN] at h ⊢
  obtain ⟨v, hv⟩ := AdmN.blind xb h
  have h1 := (hv e σ (fun _ _ => rfl) _).1 h
  refine (h1.slots (fun s hs => (ly v s hs).symm) (fun s hs => (ky v s hs).symm)).mono fun u s' hu => ?_
  exact (hv _ s' (lx u) _).2 (ha.swap hq hu)
 by_cases yb : y.isB = true
 ·-- the second doesn't look at the store
  have yN := isN_P (md := cx.mode) (isP_B yb)
  simp only [Adm_N yN] at h ⊢
  obtain ⟨v1, s1, h1⟩ := h.some
  obtain ⟨u, hu⟩ := AdmN.blind yb h1
  have hu' : ∀ (v : V) (s : St) (R' : V → Prop), AdmN K cx n0 y (putE e x.ins.dst v) s R' ↔ R' u := fun v s R' =>
   hu _ s (fun t ht => (ly v1 t ht).symm.trans (ly v t ht)) R'
  refine (hu e σ (fun t ht => (ly v1 t ht).symm) _).2 ?_
  refine (h.slots (lx u) (kx u)).mono fun v s' hv => ?_
  exact ha.swap hq ((hu' v s' _).1 hv)
 simp only [Bool.not_eq_true] at xb yb
 simp only [xb, yb, Bool.false_eq_true, false_or] at hk
 rcases hk with (((((((⟨xp, yk⟩ | ⟨xc, yp⟩) | ⟨⟨xe, yk⟩, ye⟩) | ⟨⟨xk, xe⟩, ye⟩) | ⟨⟨xn, yn⟩, hal⟩) | ⟨⟨xp, xe⟩, yx⟩) | ⟨⟨xx, yp⟩, ye⟩) | ⟨xk, yn⟩)
 ·-- both leave the store alone; the first has one outcome
  simp only [Adm_N (isN_P xp), Adm_N yk] at h ⊢
  obtain ⟨v, hv⟩ := AdmN.single xp h
  have h1 := ((hv _).1 h).same (sy v σ).symm (Agr.refl _ _)
  refine h1.mono fun u hu => ?_
  refine AdmN.same (sx u σ) (Agr.refl _ _) ((hv _).2 ?_)
  exact ha.swap hq hu
 ·simp only [Adm_N xc, Adm_N (isN_P yp)] at h ⊢
  obtain ⟨v1, h1⟩ := h.some
  obtain ⟨u, hu⟩ := AdmN.single yp (h1.same (sy v1 σ).symm (Agr.refl _ _))
  refine (hu _).2 (AdmN.same (sx u σ) (Agr.refl _ _) (h.mono fun v hv => ?_))
  exact ha.swap hq ((hu _).1 (hv.same (sy v σ).symm (Agr.refl _ _)))
 ·-- the first turns the store, the second looks at what was there before
  rw [Adm0_E xe] at h
  rw [Adm_N yk]
  obtain ⟨hg, dst, op, v, s1, hxi, hv, hkk, h⟩ := h
  rw [Adm_N yk] at h
  have hagr : Agr n0 σ s1 := by
   rcases xe with xn | xs
   ·obtain ⟨_, cs, _, _, rfl⟩ := new_low xn hxi hv
    exact agr_set (by omega)
   ·exact sto_low hi xs hx hxi hv
  have h1 := (h.same (sy v s1).symm (Agr.refl _ _)).same (early_same hi hy hdy ye hagr.1).symm hagr.symm
  refine h1.mono fun u hu => ?_
  rw [Adm0_E xe]
  refine ⟨hg, dst, op, v, s1, hxi, ?_, fun hs => (kept_slots (kx u) σ s1).1 (hkk hs), ha.swap hq hu⟩
  rw [← evalE_same xe hxi (e := e) (e' := putE e y.ins.dst u) (fun s hs => (sx u σ s (ins_reads (by rw [hxi]; exact hs))).1) σ, hv]
 ·rw [Adm_N xk] at h
  rw [Adm0_E ye]
  obtain ⟨v1, h1⟩ := h.some
  rw [Adm0_E ye] at h1
  obtain ⟨hg, dst, op, u, s1, hyi, hu, hkk, _⟩ := h1
  have hsame : ∀ v : V, evalE op (putE e x.ins.dst v) σ (some (n0 + y.al)) = evalE op e σ (some (n0 + y.al)) := fun v =>
   (evalE_same ye hyi (fun s hs => (sy v σ s (ins_reads (by rw [hyi]; exact hs))).1) σ).symm
  rw [hsame] at hu
  refine ⟨hg, dst, op, u, s1, hyi, hu, fun hs => (kept_slots (ky v1) σ s1).2 (hkk hs), ?_⟩
  rw [Adm_N xk]
  have hagr : Agr n0 σ s1 := by
   rcases ye with yn | ys
   ·obtain ⟨_, cs, _, _, rfl⟩ := new_low yn hyi hu
    exact agr_set (by omega)
   ·exact sto_low hi ys hy hyi hu
  have sxe : Same x.reads e σ (putE e y.ins.dst u) s1 := fun s hs => ⟨(sx u s1 s hs).1, (early_same hi hx hdx xe hagr.1 s hs).2⟩
  refine AdmN.same sxe hagr (h.mono fun v hv => ?_)
  rw [Adm0_E ye] at hv
  obtain ⟨_, dst', op', u', s1', hyi', hu', _, hv⟩ := hv
  rw [hyi] at hyi'
  cases hyi'
  rw [hsame, hu] at hu'
  cases hu'
  exact ha.swap hq hv
 ·-- two new objects
  have xn' : x.isNew = true ∨ x.isSto l = true := .inl xn
  have yn' : y.isNew = true ∨ y.isSto l = true := .inl yn
  rw [Adm0_E xn'] at h
  rw [Adm0_E yn']
  obtain ⟨hgx, dx, ox, v, s1, hxi, hv, _, h⟩ := h
  rw [Adm0_E yn'] at h
  obtain ⟨hgy, dy, oy, u, s2, hyi, hu, _, h⟩ := h
  have hne : n0 + x.al ≠ n0 + y.al := by
   simp at hal
   omega
  obtain ⟨rfl, cx', c1, c2, rfl⟩ := new_low xn hxi hv
  obtain ⟨rfl, cy, d1, d2, rfl⟩ := new_low yn hyi hu
  have ry : newCells oy e = some cy := by
   rw [← d1]
   obtain ⟨_, _, oy', hyi', _, hc⟩ := isNew_inv yn
   rw [hyi] at hyi'
   cases hyi'
   exact hc _ _ fun s hs => (sy (.ref (n0 + x.al) 0) σ s (ins_reads (by rw [hyi]; exact hs))).1
  have rx : newCells ox (putE e y.ins.dst (.ref (n0 + y.al) 0)) = some cx' := by
   rw [← c1]
   obtain ⟨_, _, ox', hxi', _, hc⟩ := isNew_inv xn
   rw [hxi] at hxi'
   cases hxi'
   exact hc _ _ fun s hs => (sx (.ref (n0 + y.al) 0) σ s (ins_reads (by rw [hxi]; exact hs))).1.symm
  have fy : σ.objs[n0 + y.al]? = some .free := by
   simp only [St.setObj] at d2
   rw [List.getElem?_set_ne hne] at d2
   exact d2
  refine ⟨hgy, dy, oy, .ref (n0 + y.al) 0, σ.setObj (n0 + y.al) (.cells cy), hyi, ?_, (fun h => by rw [new_noStore yn hyi] at h; cases h), ?_⟩
  ·obtain ⟨_, _, oy', hyi', hE, _⟩ := isNew_inv yn
   rw [hyi] at hyi'
   cases hyi'
   rw [hE, ry]
   simp [newObj, St.place, St.spot, fy]
  ·rw [Adm0_E xn']
   refine ⟨hgx, dx, ox, .ref (n0 + x.al) 0, (σ.setObj (n0 + y.al) (.cells cy)).setObj (n0 + x.al) (.cells cx'), hxi, ?_, (fun h => by rw [new_noStore xn hxi] at h; cases h), ?_⟩
   ·obtain ⟨_, _, ox', hxi', hE, _⟩ := isNew_inv xn
    rw [hxi] at hxi'
    cases hxi'
    rw [hE, rx]
    have : (σ.setObj (n0 + y.al) (.cells cy)).objs[n0 + x.al]? = some .free := by
     simp only [St.setObj]
     rw [List.getElem?_set_ne (Ne.symm hne)]
     exact c2
    simp [newObj, St.place, St.spot, this]
   ·have hsw : (σ.setObj (n0 + y.al) (.cells cy)).setObj (n0 + x.al) (.cells cx') = (σ.setObj (n0 + x.al) (.cells cx')).setObj (n0 + y.al) (.cells cy) := by
     simp only [St.setObj]
     rw [List.set_comm _ _ hne]
    rw [hsw]
    exact ha.swap hq h

 ·-- a look at what is kept, and a call
  have yN := isN_Xc yx
  rw [Adm_N (isN_P xp)] at h
  obtain ⟨v, hv⟩ := AdmN.single xp h
  have h1 := (((hv _).1 h).slots (fun s hs => (ly v s hs).symm) (fun s hs => (ky v s hs).symm))
  unfold Adm0 at h1 ⊢
  rw [yN] at h1 ⊢
  refine (AdmX.kept yx h1).mono fun u s' ⟨hkp, hu⟩ => ?_
  have := Adm_N (K := K) (n0 := n0) (ks := ks) (isN_P (md := cx.mode) xp) (putE e y.ins.dst u) s' (fun v s' => Q (putE (putE e y.ins.dst u) x.ins.dst v) s')
  unfold Adm0 at this
  rw [this]
  refine AdmN.sameP xp (fun s hs => ⟨lx u s hs, fun r hr => ?_⟩) ((hv _).2 (ha.swap hq hu))
  rcases near_root xe hs with ⟨hp, hdr⟩ | ⟨q, hq2⟩
  ·rw [hdx hp s hdr hs] at hr; cases hr
  exact (hkp q (hkeep.1 xp xb yx xe s hs q hq2) r ((root_dref hi hx hq2).2 r hr)).symm
 ·have xN := isN_Xc xx
  rw [Adm_N (isN_P yp)]
  have h0 := h
  unfold Adm0 at h0
  rw [xN] at h0
  have h2 := AdmX.kept xx h0
  obtain ⟨v1, s1, hk1, h1⟩ := AdmX.some h2
  have back : ∀ (v : V) (s : St), Kept ks e σ s → Same y.reads (putE e x.ins.dst v) s e σ := fun v s hkp t ht =>
   ⟨(ly v t ht).symm, fun r hr => by
    rcases near_root ye ht with ⟨hp, hdr⟩ | ⟨q, hq2⟩
    ·rw [← ly v t ht, hdy hp t hdr ht] at hr; cases hr
    exact hkp q (hkeep.2 yp yb xx ye t ht q hq2) r ((root_dref hi hy hq2).2 r (by rw [ly v t ht]; exact hr))⟩
  have conv : ∀ (v : V) (s : St) (R : V → St → Prop), (match y.isN cx.mode with | true => AdmN K cx n0 y (putE e x.ins.dst v) s fun u => R u s | false => AdmX K cx n0 ks y (putE e x.ins.dst v) s R) = AdmN K cx n0 y (putE e x.ins.dst v) s fun u => R u s := fun v s R => by rw [isN_P (md := cx.mode) yp]
  have h1' : AdmN K cx n0 y (putE e x.ins.dst v1) s1 fun u => Q (putE (putE e x.ins.dst v1) y.ins.dst u) s1 := by rw [← conv v1 s1 (fun u s' => Q (putE (putE e x.ins.dst v1) y.ins.dst u) s')]; exact h1
  obtain ⟨u, hu⟩ := AdmN.single yp (AdmN.sameP yp (back v1 s1 hk1) h1')
  refine (hu _).2 ?_
  unfold Adm0
  rw [xN]
  refine ((AdmX.slots (lx u) (kx u) h2)).mono fun v s' ⟨hkp, hv⟩ => ?_
  have hv' : AdmN K cx n0 y (putE e x.ins.dst v) s' fun u => Q (putE (putE e x.ins.dst v) y.ins.dst u) s' := by rw [← conv v s' (fun u s'' => Q (putE (putE e x.ins.dst v) y.ins.dst u) s'')]; exact hv
  exact ha.swap hq ((hu _).1 (AdmN.sameP yp (back v s' hkp) hv'))
 ·-- the first looks, the second lays a new object
  have ye : y.isNew = true ∨ y.isSto l = true := .inl yn
  rw [Adm_N xk] at h
  rw [Adm0_E ye]
  obtain ⟨v1, h1⟩ := h.some
  rw [Adm0_E ye] at h1
  obtain ⟨hg, dst, op, u, s1, hyi, hu, hkk, _⟩ := h1
  have hsame : ∀ v : V, evalE op (putE e x.ins.dst v) σ (some (n0 + y.al)) = evalE op e σ (some (n0 + y.al)) := fun v =>
   (evalE_same ye hyi (fun s hs => (sy v σ s (ins_reads (by rw [hyi]; exact hs))).1) σ).symm
  rw [hsame] at hu
  refine ⟨hg, dst, op, u, s1, hyi, hu, fun hs => (kept_slots (ky v1) σ s1).2 (hkk hs), ?_⟩
  rw [Adm_N xk]
  have h2 : AdmN K cx n0 x e σ fun v => Q (putE (putE e y.ins.dst u) x.ins.dst v) s1 := h.mono fun v hv => by
   rw [Adm0_E ye] at hv
   obtain ⟨_, dst', op', u', s1', hyi', hu', _, hv⟩ := hv
   rw [hyi] at hyi'
   cases hyi'
   rw [hsame, hu] at hu'
   cases hu'
   exact ha.swap hq hv
  obtain ⟨_, cs, _, c2, rfl⟩ := new_low yn hyi hu
  exact h2.free (lx u) c2 (by omega)

theorem exchange {l : List DOp} {S : List Nat} {x y : DOp} (hok : okPair cx.mode cx.dry l x y = true) {e : Env} {σ : St} (hks : ∀ s ∈ ks, ∀ d ∈ l, d.ins.dst ≠ some s) (hkeep : KeepP cx.mode cx.dry l ks x y) (hxl : x ∈ l) (hyl : y ∈ l) (hi : Inv l n0 S e) (hx : ∀ a ∈ x.after, a ∈ S) (hy : ∀ a ∈ y.after, a ∈ S) {Q : Env → St → Prop} (hq : Ext Q)
  (h : Adm K cx n0 ks x e σ fun v s => Adm K cx n0 ks y (putE e x.ins.dst v) s fun u s' => Q (putE (putE e x.ins.dst v) y.ins.dst u) s') :
  Adm K cx n0 ks y e σ fun u s => Adm K cx n0 ks x (putE e y.ins.dst u) s fun v s' => Q (putE (putE e y.ins.dst u) x.ins.dst v) s' := by
 obtain ⟨hdx, h0⟩ := h
 have hap := hok
 unfold okPair at hap
 rw [Bool.and_eq_true] at hap
 have ha := apart_inv hap.1
 obtain ⟨v1, s1, h1⟩ := h0.some
 have hdy : Dry cx y e := h1.1.slots fun s hs => (same_put (σ := σ) ha.rd s hs).1.symm
 exact ⟨hdy, (exchange0 hok hks hkeep hxl hyl hi hx hy hdx hdy hq (h0.mono fun v s h => h.2)).mono fun u s h => ⟨hdx.slots fun s hs => (same_put (σ := σ) ha.dr s hs).1, h⟩⟩

end Go.Dn
