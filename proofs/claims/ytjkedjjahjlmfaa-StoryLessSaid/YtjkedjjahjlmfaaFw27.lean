/- Function bodies: calls are what the small language says. -/
import Derived.Test.YtjkedjjahjlmfaaFw26
namespace Go.Dn
open Go.Lib
set_option linter.unusedVariables false
set_option linter.unusedSimpArgs false

variable {P : Program}

/-- What a compiled function says of the program's. -/
structure Fits (P : Program) (f : Nat) (fc : FnC) where
  fn : Func
  code : Code
  at_ : P.funcs[f]? = some fn
  body : fn.body = some code
  name : (fn.name == "runtime.NumGoroutine") = false
  comp : comp P fn.ntmps code = some (erase fc.body)
  res : compRes P fn.results.toList = some fc.res
  tmps : fc.nparams ≤ fn.ntmps

theorem initEnv_get : ∀ (vs : List V) (i s : Nat), (initEnv i vs).get s = if s < i then .any else (vs[s - i]?).getD .any
  | [], i, s => by simp [initEnv, Env.get]
  | v :: r, i, s => by
    simp only [initEnv, Env.get]
    by_cases h : i = s
    · subst h; simp
    · rw [if_neg h, initEnv_get r (i + 1) s]
      by_cases h2 : s < i
      · rw [if_pos h2, if_pos (by omega)]
      · rw [if_neg h2, if_neg (by omega), show s - i = (s - (i + 1)) + 1 by omega]
        simp

theorem init_env {g : Gh} {tk : List Nat} {w : World} {vs : List V} {args : Array Value} (hv : VRs g tk w vs args.toList) {n : Nat} (hn : vs.length ≤ n) :
    EnvR g tk w n (initEnv 0 vs) (args ++ Array.replicate (n - args.size) undef) := by
  have hl := hv.length
  simp at hl
  refine ⟨by simp; omega, fun s => ?_⟩
  rw [initEnv_get, if_neg (by omega), Nat.sub_zero]
  cases hs : vs[s]? with
  | none => exact .any _
  | some v =>
    have hlt : s < vs.length := (List.getElem?_eq_some_iff.1 hs).1
    have : (args ++ Array.replicate (n - args.size) undef).getD s undef = args[s]'(by omega) := by
      rw [Array.getD_eq_getD_getElem?, Array.getElem?_append_left (by omega)]
      simp [show s < args.size by omega]
    rw [this]
    exact hv.get s v _ hs (by simp [show s < args.size by omega])

def resF (tmps : Array Value) : ResultVar → Sem Value
  | .tmp t => pure (tmps.getD t undef)
  | .cell a t => do loadVar t (← asAddr (tmps.getD a undef))

def tupC : List Value → Value
  | [x] => x
  | xs => .tuple xs.toArray

theorem res_rel {g : Gh} {σ : St} {w : World} (hs : Sim g σ w) {n : Nat} {e : Env} {tmps : Array Value} (he : EnvR g σ.toks w n e tmps) : ∀ {rs : List ResultVar} {l : List Res}, compRes P rs = some l → ∀ {vs : List V}, resAll e σ l = some vs →
    ∃ xs : List Value, (List.mapM (m := Sem) (resF tmps) rs).run P w = .ok xs w ∧ VRs g σ.toks w vs xs
  | [], l, h, vs, hv => by
    simp [compRes] at h
    subst h
    simp [resAll] at hv
    subst hv
    exact ⟨[], by simp, trivial⟩
  | .tmp s :: r, l, h, vs, hv => by
    simp only [compRes] at h
    split at h
    · rename_i l' hl
      cases h
      simp only [resAll, Res.ev] at hv
      split at hv
      · rename_i v vs' h1 h2
        cases hv
        cases h1
        obtain ⟨xs, r1, r2⟩ := res_rel hs he hl h2
        exact ⟨tmps.getD s undef :: xs, by
          have : (resF tmps (.tmp s)).run P w = .ok (tmps.getD s undef) w := rfl
          rw [List.mapM_cons]
          simp only [Sem.run_bind, Sem.run_pure, Result.andThen_ok, this, r1], he.2 s, r2⟩
      · cases hv
    · cases h
  | .cell a t :: r, l, h, vs, hv => by
    simp only [compRes] at h
    split at h
    · rename_i l' hl
      split at h
      · rename_i hok
        cases h
        simp only [resAll, Res.ev] at hv
        split at hv
        · rename_i v vs' h1 h2
          cases hv
          obtain ⟨xs, r1, r2⟩ := res_rel hs he hl h2
          obtain ⟨cv, c1, c2⟩ := loadAt_rel hs hok (he.2 a) h1
          have hp : ∃ ad, tmps.getD a undef = .pointer (some ad) := by
            have := he.2 a
            unfold loadAt at h1
            split at h1
            · rename_i r o hr
              rw [hr] at this
              generalize tmps.getD a undef = tv at this
              cases this
              exact ⟨_, rfl⟩
            · rename_i cs hr
              rw [hr] at this
              generalize tmps.getD a undef = tv at this
              cases this
              exact ⟨_, rfl⟩
            · cases h1
          obtain ⟨ad, had⟩ := hp
          refine ⟨cv :: xs, ?_, c2, r2⟩
          rw [had] at c1
          simp only [Instr.loadAt, Instr.sureAddr, Sem.run_bind, Sem.run_pure, Result.andThen_ok] at c1
          have : (resF tmps (.cell a t)).run P w = .ok cv w := by simp only [resF, had, asAddr, Sem.run_bind, Sem.run_pure, Result.andThen_ok, c1]
          rw [List.mapM_cons]
          simp only [Sem.run_bind, Sem.run_pure, Result.andThen_ok, this, r1]
        · cases hv
      · cases h
    · cases h

theorem run_results {fn : Func} {tmps : Array Value} {w : World} {xs : List Value}
    (h : (List.mapM (m := Sem) (resF tmps) fn.results.toList).run P w = .ok xs w) :
    (results fn tmps).run P w = .ok (tupC xs) w := by
  have e : results fn tmps = (do let vs ← fn.results.mapM (resF tmps); pure (if h : vs.size = 1 then vs[0] else .tuple vs)) := rfl
  rw [e, Array.mapM_eq_mapM_toList]
  simp only [map_eq_pure_bind, Sem.run_bind, h, Result.andThen_ok, Sem.run_pure]
  congr 1
  match xs with
  | [] => rfl
  | [x] => rfl
  | _ :: _ :: _ => rfl

theorem tup_rel {g : Gh} {tk : List Nat} {w : World} {vs : List V} {xs : List Value} (h : VRs g tk w vs xs) : VR g tk w (tupOf vs) (tupC xs) := by
  match vs, xs, h with
  | [v], [x], h => exact h.1
  | [], [], h => exact .tup [] #[] rfl (fun i c v h => by simp at h)
  | v :: v' :: r, x :: x' :: s, h =>
    refine .tup _ _ (by simpa using h.length) (fun i c v hc hx => h.get i c v hc (by simpa using hx))
  | [], _ :: _, h => exact h.elim
  | _ :: _, [], h => exact h.elim
  | [_], _ :: _ :: _, h => exact h.2.elim
  | _ :: _ :: _, [_], h => exact h.2.elim

theorem lent_mine {g : Gh} {σ : St} {x y : V} (h : x.byVal σ = some y) {b q : Nat} (hl : Lent g x b q) : Mine g σ b := by
  cases x with
  | sl r off len sz =>
    obtain ⟨rfl, _⟩ := hl
    simp only [V.byVal, V.rows] at h
    split at h
    · rename_i rows hr
      split at hr
      · rename_i cs hobj
        exact .inl ⟨r, _, hobj, trivial, rfl⟩
      · cases hr
    · cases h
  | _ => exact hl.elim

theorem lents_mine {g : Gh} {σ : St} : ∀ {xs ys : List V}, byVals σ xs = some ys → ∀ x ∈ xs, ∀ b q, Lent g x b q → Mine g σ b
  | [], _, _, x, hx => by simp at hx
  | x :: xs, ys, h, z, hz => by
    simp only [byVals] at h
    split at h
    · rename_i y l hy hyl
      rcases List.mem_cons.1 hz with rfl | hz
      · exact fun b q hl => lent_mine hy hl
      · exact lents_mine hyl z hz
    · cases h

/-- What a value of the elder store stands for, of a later world: by the elder ghosts. -/
theorem VR.back {g g' : Gh} {σ σ' : St} {w w' : World} (hl : Later g σ.toks w g' σ'.toks w') (hk : ∀ (t k : Nat), σ.toks[t]? = some k → σ'.toks[t]? = some k) {f' : Nat → Nat → Prop} (hf : ∀ b q, g'.frz b q → f' b q) {v : V} {x0 : Value} (h0 : VR g σ.toks w v x0) :
    ∀ {x : Value}, VR g' σ'.toks w' v x → VR { g with frz := f' } σ.toks w' v x := by
  have hst : Stay g'.frz f' w' w' := ⟨hf, fun _ _ _ => rfl⟩
  induction h0 with
  | d y v h h1 => intro x hx; cases hx with | d _ _ a b => exact .d _ _ (a.mono hst) b
  | da cs vs h => intro x hx; cases hx with | da _ _ a => exact .da _ _ (a.mono hst)
  | agg cs vs hs h1 hh ih =>
    intro x hx
    cases hx with
    | agg _ vs' hs' h1' hh' =>
      exact .agg cs vs' hs' h1' fun i c v hc hv => by
        have hi : i < vs.size := by rw [← hs]; exact (List.getElem?_eq_some_iff.1 hc).1
        exact ih i c vs[i] hc (by simp [hi]) (hh' i c v hc hv)
  | tup cs vs hs hh ih =>
    intro x hx
    cases hx with
    | tup _ vs' hs' hh' =>
      exact .tup cs vs' hs' fun i c v hc hv => by
        have hi : i < vs.size := by rw [← hs]; exact (List.getElem?_eq_some_iff.1 hc).1
        exact ih i c vs[i] hc (by simp [hi]) (hh' i c v hc hv)
  | ref r off h =>
    intro x hx
    cases hx with
    | ref _ _ h' => rw [(hl.has r h).2.1]; exact VR.ref (g := { g with frz := f' }) r off h
  | ro cs b o cv hf1 hc h1 hd =>
    intro x hx
    cases hx with
    | ro _ b' o' cv' hf1' hc' h1' hd' => exact .ro cs b' o' cv' (fun k hk => hf _ _ (hf1' k hk)) hc' h1' (fun k d hk => (hd' k d hk).mono hst)
  | sl r off len sz cap a h hcap hsz hin hout ha hsp =>
    intro x hx
    cases hx with
    | sl _ _ _ _ cap' a' h' hcap' hsz' hin' hout' ha' hsp' =>
      obtain ⟨_, e1, e2⟩ := hl.has r h
      exact VR.sl (g := { g with frz := f' }) r off len sz cap' a' h hcap' hsz' (by rw [← e2]; exact hin') (by rw [← e2]; exact hout') (by rw [← e2, ← e1]; exact ha') hsp'
  | fl rows a h =>
    intro x hx
    cases hx with
    | fl _ a' h' => exact .fl rows a' (h'.mono hst)
  | tl rows t st sz k a cap hd ht hle hh hsz ha =>
    intro x hx
    cases hx with
    | tl _ _ _ _ k' a' cap' hd' ht' hle' hh' hsz' ha' =>
      have hkk := hk t k ht
      rw [ht'] at hkk
      cases hkk
      obtain ⟨k2, e1, e2, e3, e4⟩ := hl.tok t k ht
      rw [ht'] at e1
      cases e1
      have e5 := e3 rfl
      exact VR.tl (g := { g with frz := f' }) rows t st sz k a' cap' (hd'.mono hst) ht hle' hh' (by show (g.tok t).sz = sz; rw [← e5]; exact hsz') (fun p q => by show (g.tok t).s0 ≤ st ∧ a' = ⟨(g.tok t).b, _, none⟩ ∧ _; rw [← e5]; exact ha' p q)
  | map r h =>
    intro x hx
    cases hx with
    | map _ h' => rw [(hl.has r h).2.1]; exact VR.map (g := { g with frz := f' }) r h
  | fn f first caps first' caps' h1 h2 hh hh' ih ih' =>
    intro x hx
    cases hx with
    | fn _ _ _ xf xc a1 a2 b1 b2 =>
      exact .fn f first caps xf xc a1 a2 (fun i c v hc hv => by
        have hi : i < first'.size := by rw [← h1]; exact (List.getElem?_eq_some_iff.1 hc).1
        exact ih i c first'[i] hc (by simp [hi]) (b1 i c v hc hv)) (fun i c v hc hv => by
        have hi : i < caps'.size := by rw [← h2]; exact (List.getElem?_eq_some_iff.1 hc).1
        exact ih' i c caps'[i] hc (by simp [hi]) (b2 i c v hc hv))
  | ifc t v y hh ih =>
    intro x hx
    cases hx with
    | ifc _ _ y' h' => exact .ifc t v y' (ih h')
  | gone => intro x hx; cases hx; exact .gone
  | any v => intro x hx; exact .any x

/-- A stretch that kept the store, taken as if it hadn't been. -/
theorem Sim.restrict {g g' : Gh} {σ σ' : St} {w w' : World} (hs : Sim g σ w) (hs' : Sim g' σ' w') (hev : Ev g σ w g' σ' w') (hk : Keeps σ σ') {f' : Nat → Nat → Prop} (hf : ∀ b q, g'.frz b q → f' b q)
    (hnew : ∀ b q, f' b q → g'.frz b q ∨ ((∃ u, w'.cell? ⟨b, q, none⟩ = some u) ∧ (∃ (r : Nat) (o : Obj), σ.objs.length ≤ r ∧ σ'.objs[r]? = some o ∧ o.live ∧ (g'.obj r).1 = b))) :
    Sim { g with frz := f' } σ w' ∧ Ev g σ w { g with frz := f' } σ w' := by
  obtain ⟨ko, kt⟩ := hk
  have keep : ∀ (r : Nat) (o : Obj), σ.objs[r]? = some o → σ'.objs[r]? = some o := fun r o h => by
    rw [ko r (List.getElem?_eq_some_iff.1 h).1]; exact h
  have hobj : ∀ r, g.has r → g'.obj r = g.obj r := fun r h => (hev.later.has r h).2.1
  have hlen : ∀ r, g.has r → g'.len r = g.len r := fun r h => (hev.later.has r h).2.2
  have htok : ∀ (t k : Nat), σ.toks[t]? = some k → g'.tok t = g.tok t := fun t k h => by
    obtain ⟨k2, e1, e2, e3, e4⟩ := hev.later.tok t k h
    have := kt t k h
    rw [e1] at this
    cases this
    exact e3 rfl
  have free : ∀ (r : Nat) (o : Obj), σ.objs[r]? = some o → o.live → ∀ q, ¬ f' (g.obj r).1 q := fun r o h hl q hq => by
    have hh := hs.has r o h hl
    rcases hnew _ _ hq with h1 | ⟨_, r2, o2, h2, h3, h4, h5⟩
    · exact hs'.nofrz r o (keep r o h) hl q (by rw [hobj r hh]; exact h1)
    · have hne : r2 ≠ r := fun e => by
        have := (List.getElem?_eq_some_iff.1 h).1
        omega
      exact hs'.dist r2 r o2 o h3 h4 (keep r o h) hl hne (by rw [h5, hobj r hh])
  refine ⟨⟨hs.has, hs.bound, hs.free, fun r cs h => ?_, hs.maps, hs.dist, free, fun t k h => ?_, hs.tdist, hs.tobj, fun b q h => ?_⟩, ⟨⟨⟨fun b q h => hf b q (hev.later.stay.frz b q h), hev.later.stay.cell⟩, fun r h => ⟨h, rfl, rfl⟩, fun t k h => ⟨k, h, Nat.le_refl _, fun _ => rfl, rfl⟩⟩,
    hev.size, hev.os, hev.tape, hev.output, hev.frame, fun b h => .inl h, fun b q h => ?_⟩⟩
  · have hh := hs.has r _ h trivial
    obtain ⟨h1, c, e, fz, h2, h3, h4⟩ := hs'.cells r cs (keep r _ h)
    obtain ⟨o1, oc, oe, ofz, o2, o3, o4⟩ := hs.cells r cs h
    refine ⟨o1, c, e, fz, by rw [← hobj r hh]; exact h2, h3, fun j v hj => ?_⟩
    obtain ⟨cv, a1, a2, a3⟩ := h4 j v hj
    obtain ⟨cv0, b1, b2, b3⟩ := o4 j v hj
    exact ⟨cv, by rw [← hobj r hh]; exact a1, a2, VR.back hev.later kt hf b3 a3⟩
  · obtain ⟨h0, c, e, fz, hb, hn, hsz, hz⟩ := hs'.tok t k (kt t k h)
    have et := htok t k h
    rw [et] at h0 hb hsz hz
    refine ⟨h0, c, e, fz, hb, hn, hsz, fun q hq hfr => ?_⟩
    rcases hnew _ _ hfr with h1 | ⟨_, r2, o2, h2, h3, h4, h5⟩
    · exact hz q hq h1
    · exact hs'.tobj t k r2 o2 (kt t k h) h3 h4 (by rw [et, h5])
  · rcases hnew b q h with h1 | ⟨h1, _⟩
    · exact hs'.frzb b q h1
    · exact h1
  · rcases hnew b q h with h1 | ⟨_, r2, o2, h2, h3, h4, h5⟩
    · exact hev.newf b q h1
    · rcases hev.mine b (.inl ⟨r2, o2, h3, h4, h5⟩) with h6 | h6
      · exact .inr (.inl h6)
      · exact .inr (.inr h6)

theorem lents_row {σ : St} : ∀ {xs ys : List V}, byVals σ xs = some ys → ∀ x ∈ xs, x.byVal σ ≠ none
  | [], _, _, x, hx => by simp at hx
  | x :: xs, ys, h, z, hz => by
    simp only [byVals] at h
    split at h
    · rename_i y l hy hyl
      rcases List.mem_cons.1 hz with rfl | hz
      · rw [hy]; simp
      · exact lents_row hyl z hz
    · cases h

theorem byValsN_inv {lo : Nat} {σ : St} : ∀ {vs ds : List V}, byValsN lo σ vs = some ds → byVals σ vs = some ds ∧ ∀ x ∈ vs, ∀ r off len sz, x = .sl r off len sz → lo ≤ r
  | [], ds, h => by simp only [byValsN] at h; cases h; exact ⟨rfl, by simp⟩
  | v :: r, ds, h => by
    simp only [byValsN] at h
    split at h
    · rename_i y l hy hl
      cases h
      obtain ⟨a, b⟩ := byValsN_inv hl
      have : v.byVal σ = some y ∧ ∀ r off len sz, v = .sl r off len sz → lo ≤ r := by
        cases v with
        | sl q off len sz =>
          simp only [V.byValN] at hy
          split at hy
          · rename_i hlo
            exact ⟨hy, fun r off len sz e => by cases e; exact hlo⟩
          · cases hy
        | _ => exact ⟨hy, fun r off len sz e => by cases e⟩
      refine ⟨by simp [byVals, this.1, a], fun x hx => ?_⟩
      rcases List.mem_cons.1 hx with rfl | hx
      · exact this.2
      · exact b x hx
    · cases h

theorem body_sound {cx : Cx} (hm : P.follows .mixedOrders = true) {f : Nat} {fc : FnC} (hf : Fits P f fc) {vs : List V} {σ : St} {Q : Post} {m : Mode} (h : bodyP (SK P cx) cx m fc vs σ Q) : SK P cx m f vs σ Q := by
  refine ⟨⟨hf.fn, hf.code, hf.at_, hf.body, hf.name⟩, fun g w args hs hv => ?_⟩
  obtain ⟨hlen, h⟩ := h
  have h0 : At hf.fn.ntmps g σ w (initEnv 0 vs) σ { tmps := args ++ Array.replicate (hf.fn.ntmps - args.size) undef, defers := [] } w :=
    ⟨g, hs, init_env hv (by rw [hlen]; exact hf.tmps), rfl, Ev.refl _ _ _⟩
  have fin : ∀ {e' : Env} {σ' : St} {a' : Act} {w' : World}, At hf.fn.ntmps g σ w e' σ' a' w' → ∀ {vs' : List V}, resAll e' σ' fc.res = some vs' → ∃ xs g', (results hf.fn a'.tmps).run P w' = .ok (tupC xs) w' ∧ VRs g' σ'.toks w' vs' xs ∧
      Sim g' σ' w' ∧ Ev g σ w g' σ' w' ∧ a'.defers = [] := fun ha vs' hr => by
    obtain ⟨g', hs', he', hd', hev'⟩ := ha
    obtain ⟨xs, r1, r2⟩ := res_rel hs' he' hf.res hr
    exact ⟨xs, g', run_results r1, r2, hs', hev', hd'⟩
  cases m with
  | raw =>
    refine calls_of_wp hf.at_ hf.body (wcode_sound hm _ _ hf.comp _ _ _ h _ _ h0 _ fun ex e' σ' a' w' h' ha' => ?_)
    have main : (∃ v, retV .raw σ.objs.length e' σ' fc.res = some v ∧ (Mode.raw = .rd → Keeps σ σ') ∧ Q v σ') → a'.defers = [] ∧ ∃ v, (results hf.fn a'.tmps).run P w' = .ok v w' ∧ RetV (fun v w' => ∃ g' x σ', Q x σ' ∧ Sim g' σ' w' ∧ VR g' σ'.toks w' x v ∧ Ev g σ w g' σ' w') (.returned v) w' := fun ⟨v, hv, _, hq⟩ => by
      unfold retV at hv
      split at hv
      · rename_i vs' hr
        simp only [Option.some.injEq] at hv
        subst hv
        obtain ⟨xs, g', r1, r2, r3, r4, r5⟩ := fin ha' hr
        exact ⟨r5, _, r1, g', _, σ', hq, r3, tup_rel r2, r4⟩
      · cases hv
    cases ex with
    | exit id => exact h'.elim
    | normal => exact main h'
    | ret => exact main h'
  | rd =>
    refine calls_of_wp hf.at_ hf.body (wcode_sound hm _ _ hf.comp _ _ _ h _ _ h0 _ fun ex e' σ' a' w' h' ha' => ?_)
    have main : (∃ v, retV .rd σ.objs.length e' σ' fc.res = some v ∧ (Mode.rd = .rd → Keeps σ σ') ∧ Q v σ') → a'.defers = [] ∧ ∃ v, (results hf.fn a'.tmps).run P w' = .ok v w' ∧ RetV (fun v w' => ∃ g' x σ', Q x σ' ∧ Sim g' σ w' ∧ VR g' σ.toks w' x v ∧ Ev g σ w g' σ w') (.returned v) w' := fun ⟨v, hv, hkp, hq⟩ => by
      unfold retV at hv
      split at hv
      · rename_i vs' hr
        simp only at hv
        split at hv
        · rename_i ds hdsN
          simp only [Option.some.injEq] at hv
          subst hv
          obtain ⟨hds, hlo⟩ := byValsN_inv hdsN
          obtain ⟨xs, g', r1, r2, r3, r4, r5⟩ := fin ha' hr
          let f' : Nat → Nat → Prop := fun b q => g'.frz b q ∨ ∃ x ∈ vs', Lent g' x b q
          obtain ⟨b1, b2⟩ := byVals_rel (tk := σ.toks) (g' := { g with frz := f' }) r3 (f := f') (fun b q h => .inl h) rfl r2 hds (fun x hx b q hl => .inr ⟨x, hx, hl⟩)
          obtain ⟨q1, q2⟩ := Sim.restrict hs r3 r4 (hkp rfl) (f' := f') (fun b q h => .inl h) (fun b q h => by
            rcases h with h | ⟨x, hx, hl⟩
            · exact .inl h
            · refine .inr ⟨lents_cell r3 r2 hds x hx b q hl, ?_⟩
              cases x with
              | sl r off len sz =>
                have hle := hlo _ hx r off len sz rfl
                have hm := lents_row hds _ hx
                simp only [V.byVal, V.rows] at hm
                obtain ⟨hb, _, _⟩ := hl
                split at hm
                · rename_i rows hrw
                  split at hrw
                  · rename_i cs hobj
                    exact ⟨r, _, hle, hobj, trivial, hb.symm⟩
                  · cases hrw
                · exact absurd rfl hm
              | _ => exact hl.elim)
          exact ⟨r5, _, r1, _, _, σ', hq, q1, tup_rel b1, q2⟩
        · cases hv
      · cases hv
    cases ex with
    | exit id => exact h'.elim
    | normal => exact main h'
    | ret => exact main h'
  | val =>
    intro hσ
    subst hσ
    refine calls_of_wp hf.at_ hf.body (wcode_sound hm _ _ hf.comp _ _ _ h _ _ h0 _ fun ex e' σ' a' w' h' ha' => ?_)
    have main : (∃ v, retV .val St.empty.objs.length e' σ' fc.res = some v ∧ (Mode.val = .rd → Keeps St.empty σ') ∧ Q v σ') → a'.defers = [] ∧ ∃ v, (results hf.fn a'.tmps).run P w' = .ok v w' ∧ RetV (fun v w' => ∃ f' x σ', Q x σ' ∧ (∀ b q, f' b q → ∃ u, w'.cell? ⟨b, q, none⟩ = some u) ∧ VR (Gh.bare f') [] w' x v ∧ Ev g St.empty w (Gh.bare f') St.empty w') (.returned v) w' := fun ⟨v, hv, _, hq⟩ => by
      unfold retV at hv
      split at hv
      · rename_i vs' hr
        simp only at hv
        split at hv
        · rename_i ds hds
          simp only [Option.some.injEq] at hv
          subst hv
          obtain ⟨xs, g', r1, r2, r3, r4, r5⟩ := fin ha' hr
          let f' : Nat → Nat → Prop := fun b q => g'.frz b q ∨ ∃ x ∈ vs', Lent g' x b q
          obtain ⟨b1, b2⟩ := byVals_rel (tk := []) (g' := Gh.bare f') r3 (f := f') (fun b q h => .inl h) rfl r2 hds (fun x hx b q hl => .inr ⟨x, hx, hl⟩)
          refine ⟨r5, _, r1, f', _, σ', hq, fun b q h => ?_, tup_rel b1, ?_⟩
          · rcases h with h | ⟨x, hx, hl⟩
            · exact r3.frzb b q h
            · exact lents_cell r3 r2 hds x hx b q hl
          · refine ⟨⟨⟨fun b q h => .inl (r4.later.stay.frz b q h), r4.later.stay.cell⟩, fun r h => ?_, fun t k h => by simp [St.empty] at h⟩, r4.size, r4.os, r4.tape, r4.output, fun b hb hm => r4.frame b hb hm, fun b h => (not_mine_empty h).elim, fun b q h => ?_⟩
            · have := hs.bound r h
              simp [St.empty] at this
            · rcases h with h | ⟨x, hx, hl⟩
              · exact r4.newf b q h
              · rcases r4.mine b (lents_mine hds x hx b q hl) with h | h
                · exact .inr (.inl h)
                · exact .inr (.inr h)
        · cases hv
      · cases hv
    cases ex with
    | exit id => exact h'.elim
    | normal => exact main h'
    | ret => exact main h'

/-- Calls over a table of functions that the program has. -/
theorem call_sound {cx : Cx} (hm : P.follows .mixedOrders = true) {Γ : Nat → Option FnC} (hΓ : ∀ f fc, Γ f = some fc → Nonempty (Fits P f fc)) {f : Nat} {vs : List V} {σ : St} {Q : Post} {m : Mode} (h : Call Γ cx m f vs σ Q) : SK P cx m f vs σ Q :=
  h (SK P cx) fun m f vs σ Q ⟨fc, hf, hb⟩ => by
    obtain ⟨ft⟩ := hΓ f fc hf
    exact body_sound hm ft hb

end Go.Dn
