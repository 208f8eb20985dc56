/- Function bodies: calls are what the small language says. -/
import Derived.Test.YtgpbkgfkmengaaaFw26
namespace Go.Dn
open Go.Lib
set_option linter.unusedVariables false
set_option linter.unusedSimpArgs false

variable {P : Program}

/-- What a compiled function says of the program's. -/
structure Fits (P : Program) (f : Nat) (fc : FnC) where
  fn : Func
  code : Code
  at_ : P.funcs[f]? = some fn
  body : fn.body = some code
  name : (fn.name == "runtime.NumGoroutine") = false
  comp : comp P fn.ntmps code = some (erase fc.body)
  res : compRes P fn.results.toList = some fc.res
  tmps : fc.nparams ≤ fn.ntmps

theorem initEnv_get : ∀ (vs : List V) (i s : Nat), (initEnv i vs).get s = if s < i then .any else (vs[s - i]?).getD .any
  | [], i, s => by simp [initEnv, Env.get]
  | v :: r, i, s => by
    simp only [initEnv, Env.get]
    by_cases h : i = s
    · subst h; simp
    · rw [if_neg h, initEnv_get r (i + 1) s]
      by_cases h2 : s < i
      · rw [if_pos h2, if_pos (by omega)]
      · rw [if_neg h2, if_neg (by omega), show s - i = (s - (i + 1)) + 1 by omega]
        simp

theorem init_env {g : Gh} {tk : List Nat} {w : World} {vs : List V} {args : Array Value} (hv : VRs g tk w vs args.toList) {n : Nat} (hn : vs.length ≤ n) :
    EnvR g tk w n (initEnv 0 vs) (args ++ Array.replicate (n - args.size) undef) := by
  have hl := hv.length
  simp at hl
  refine ⟨by simp; omega, fun s => ?_⟩
  rw [initEnv_get, if_neg (by omega), Nat.sub_zero]
  cases hs : vs[s]? with
  | none => exact .any _
  | some v =>
    have hlt : s < vs.length := (List.getElem?_eq_some_iff.1 hs).1
    have : (args ++ Array.replicate (n - args.size) undef).getD s undef = args[s]'(by omega) := by
      rw [Array.getD_eq_getD_getElem?, Array.getElem?_append_left (by omega)]
      simp [show s < args.size by omega]
    rw [this]
    exact hv.get s v _ hs (by simp [show s < args.size by omega])

def resF (tmps : Array Value) : ResultVar → Sem Value
  | .tmp t => pure (tmps.getD t undef)
  | .cell a t => do loadVar t (← asAddr (tmps.getD a undef))

def tupC : List Value → Value
  | [x] => x
  | xs => .tuple xs.toArray

theorem res_rel {g : Gh} {σ : St} {w : World} (hs : Sim g σ w) {n : Nat} {e : Env} {tmps : Array Value} (he : EnvR g σ.toks w n e tmps) : ∀ {rs : List ResultVar} {l : List Res}, compRes P rs = some l → ∀ {vs : List V}, resAll e σ l = some vs →
    ∃ xs : List Value, (List.mapM (m := Sem) (resF tmps) rs).run P w = .ok xs w ∧ VRs g σ.toks w vs xs
  | [], l, h, vs, hv => by
    simp [compRes] at h
    subst h
    simp [resAll] at hv
    subst hv
    exact ⟨[], by simp, trivial⟩
  | .tmp s :: r, l, h, vs, hv => by
    simp only [compRes] at h
    split at h
    · rename_i l' hl
      cases h
      simp only [resAll, Res.ev] at hv
      split at hv
      · rename_i v vs' h1 h2
        cases hv
        cases h1
        obtain ⟨xs, r1, r2⟩ := res_rel hs he hl h2
        exact ⟨tmps.getD s undef :: xs, by
          have : (resF tmps (.tmp s)).run P w = .ok (tmps.getD s undef) w := rfl
          rw [List.mapM_cons]
          simp only [Sem.run_bind, Sem.run_pure, Result.andThen_ok, this, r1], he.2 s, r2⟩
      · cases hv
    · cases h
  | .cell a t :: r, l, h, vs, hv => by
    simp only [compRes] at h
    split at h
    · rename_i l' hl
      split at h
      · rename_i hok
        cases h
        simp only [resAll, Res.ev] at hv
        split at hv
        · rename_i v vs' h1 h2
          cases hv
          obtain ⟨xs, r1, r2⟩ := res_rel hs he hl h2
          obtain ⟨cv, c1, c2⟩ := loadAt_rel hs hok (he.2 a) h1
          have hp : ∃ ad, tmps.getD a undef = .pointer (some ad) := by
            have := he.2 a
            unfold loadAt at h1
            split at h1
            · rename_i r o hr
              rw [hr] at this
              generalize tmps.getD a undef = tv at this
              cases this
              exact ⟨_, rfl⟩
            · rename_i cs hr
              rw [hr] at this
              generalize tmps.getD a undef = tv at this
              cases this
              exact ⟨_, rfl⟩
            · cases h1
          obtain ⟨ad, had⟩ := hp
          refine ⟨cv :: xs, ?_, c2, r2⟩
          rw [had] at c1
          simp only [Instr.loadAt, Instr.sureAddr, Sem.run_bind, Sem.run_pure, Result.andThen_ok] at c1
          have : (resF tmps (.cell a t)).run P w = .ok cv w := by simp only [resF, had, asAddr, Sem.run_bind, Sem.run_pure, Result.andThen_ok, c1]
          rw [List.mapM_cons]
          simp only [Sem.run_bind, Sem.run_pure, Result.andThen_ok, this, r1]
        · cases hv
      · cases h
    · cases h

theorem run_results {fn : Func} {tmps : Array Value} {w : World} {xs : List Value}
    (h : (List.mapM (m := Sem) (resF tmps) fn.results.toList).run P w = .ok xs w) :
    (results fn tmps).run P w = .ok (tupC xs) w := by
  have e : results fn tmps = (do let vs ← fn.results.mapM (resF tmps); pure (if h : vs.size = 1 then vs[0] else .tuple vs)) := rfl
  rw [e, Array.mapM_eq_mapM_toList]
  simp only [map_eq_pure_bind, Sem.run_bind, h, Result.andThen_ok, Sem.run_pure]
  congr 1
  match xs with
  | [] => rfl
  | [x] => rfl
  | _ :: _ :: _ => rfl

theorem tup_rel {g : Gh} {tk : List Nat} {w : World} {vs : List V} {xs : List Value} (h : VRs g tk w vs xs) : VR g tk w (tupOf vs) (tupC xs) := by
  match vs, xs, h with
  | [v], [x], h => exact h.1
  | [], [], h => exact .tup [] #[] rfl (fun i c v h => by simp at h)
  | v :: v' :: r, x :: x' :: s, h =>
    refine .tup _ _ (by simpa using h.length) (fun i c v hc hx => h.get i c v hc (by simpa using hx))
  | [], _ :: _, h => exact h.elim
  | _ :: _, [], h => exact h.elim
  | [_], _ :: _ :: _, h => exact h.2.elim
  | _ :: _ :: _, [_], h => exact h.2.elim

theorem lent_mine {g : Gh} {σ : St} {x y : V} (h : x.byVal σ = some y) {b q : Nat} (hl : Lent g x b q) : Mine g σ b := by
  cases x with
  | sl r off len sz =>
    obtain ⟨rfl, _⟩ := hl
    simp only [V.byVal, V.rows] at h
    split at h
    · rename_i rows hr
      split at hr
      · rename_i cs hobj
        exact .inl ⟨r, _, hobj, trivial, rfl⟩
      · cases hr
    · cases h
  | _ => exact hl.elim

theorem lents_mine {g : Gh} {σ : St} : ∀ {xs ys : List V}, byVals σ xs = some ys → ∀ x ∈ xs, ∀ b q, Lent g x b q → Mine g σ b
  | [], _, _, x, hx => by simp at hx
  | x :: xs, ys, h, z, hz => by
    simp only [byVals] at h
    split at h
    · rename_i y l hy hyl
      rcases List.mem_cons.1 hz with rfl | hz
      · exact fun b q hl => lent_mine hy hl
      · exact lents_mine hyl z hz
    · cases h

theorem body_sound {cx : Cx} (hm : P.follows .mixedOrders = true) {f : Nat} {fc : FnC} (hf : Fits P f fc) {vs : List V} {σ : St} {Q : Post} (h : bodyP (SK P cx) cx (cx.mode f) fc vs σ Q) : SK P cx f vs σ Q := by
  refine ⟨⟨hf.fn, hf.code, hf.at_, hf.body, hf.name⟩, fun g w args hs hv => ?_⟩
  obtain ⟨hlen, h⟩ := h
  have h0 : At hf.fn.ntmps g σ w (initEnv 0 vs) σ { tmps := args ++ Array.replicate (hf.fn.ntmps - args.size) undef, defers := [] } w :=
    ⟨g, hs, init_env hv (by rw [hlen]; exact hf.tmps), rfl, Ev.refl _ _ _⟩
  have fin : ∀ {e' : Env} {σ' : St} {a' : Act} {w' : World}, At hf.fn.ntmps g σ w e' σ' a' w' → ∀ {vs' : List V}, resAll e' σ' fc.res = some vs' → ∃ xs g', (results hf.fn a'.tmps).run P w' = .ok (tupC xs) w' ∧ VRs g' σ'.toks w' vs' xs ∧
      Sim g' σ' w' ∧ Ev g σ w g' σ' w' ∧ a'.defers = [] := fun ha vs' hr => by
    obtain ⟨g', hs', he', hd', hev'⟩ := ha
    obtain ⟨xs, r1, r2⟩ := res_rel hs' he' hf.res hr
    exact ⟨xs, g', run_results r1, r2, hs', hev', hd'⟩
  split
  · rename_i hmode
    rw [hmode] at h
    refine calls_of_wp hf.at_ hf.body (wcode_sound hm _ _ hf.comp _ _ _ h _ _ h0 _ fun ex e' σ' a' w' h' ha' => ?_)
    have main : (∃ v, retV .raw e' σ' fc.res = some v ∧ Q v σ') → a'.defers = [] ∧ ∃ v, (results hf.fn a'.tmps).run P w' = .ok v w' ∧ RetV (fun v w' => ∃ g' x σ', Q x σ' ∧ Sim g' σ' w' ∧ VR g' σ'.toks w' x v ∧ Ev g σ w g' σ' w') (.returned v) w' := fun ⟨v, hv, hq⟩ => by
      unfold retV at hv
      split at hv
      · rename_i vs' hr
        simp only [Option.some.injEq] at hv
        subst hv
        obtain ⟨xs, g', r1, r2, r3, r4, r5⟩ := fin ha' hr
        exact ⟨r5, _, r1, g', _, σ', hq, r3, tup_rel r2, r4⟩
      · cases hv
    cases ex with
    | exit id => exact h'.elim
    | normal => exact main h'
    | ret => exact main h'
  · rename_i hmode
    rw [hmode] at h
    intro hσ
    subst hσ
    refine calls_of_wp hf.at_ hf.body (wcode_sound hm _ _ hf.comp _ _ _ h _ _ h0 _ fun ex e' σ' a' w' h' ha' => ?_)
    have main : (∃ v, retV .val e' σ' fc.res = some v ∧ Q v σ') → a'.defers = [] ∧ ∃ v, (results hf.fn a'.tmps).run P w' = .ok v w' ∧ RetV (fun v w' => ∃ f' x σ', Q x σ' ∧ (∀ b q, f' b q → ∃ u, w'.cell? ⟨b, q, none⟩ = some u) ∧ VR (Gh.bare f') [] w' x v ∧ Ev g St.empty w (Gh.bare f') St.empty w') (.returned v) w' := fun ⟨v, hv, hq⟩ => by
      unfold retV at hv
      split at hv
      · rename_i vs' hr
        simp only at hv
        split at hv
        · rename_i ds hds
          simp only [Option.some.injEq] at hv
          subst hv
          obtain ⟨xs, g', r1, r2, r3, r4, r5⟩ := fin ha' hr
          let f' : Nat → Nat → Prop := fun b q => g'.frz b q ∨ ∃ x ∈ vs', Lent g' x b q
          obtain ⟨b1, b2⟩ := byVals_rel (tk := []) (g' := Gh.bare f') r3 (f := f') (fun b q h => .inl h) rfl r2 hds (fun x hx b q hl => .inr ⟨x, hx, hl⟩)
          refine ⟨r5, _, r1, f', _, σ', hq, fun b q h => ?_, tup_rel b1, ?_⟩
          · rcases h with h | ⟨x, hx, hl⟩
            · exact r3.frzb b q h
            · exact lents_cell r3 r2 hds x hx b q hl
          · refine ⟨⟨⟨fun b q h => .inl (r4.later.stay.frz b q h), r4.later.stay.cell⟩, fun r h => ?_, fun t k h => by simp [St.empty] at h⟩, r4.size, r4.os, r4.tape, r4.output, fun b hb hm => r4.frame b hb hm, fun b h => (not_mine_empty h).elim, fun b q h => ?_⟩
            · have := hs.bound r h
              simp [St.empty] at this
            · rcases h with h | ⟨x, hx, hl⟩
              · exact r4.newf b q h
              · rcases r4.mine b (lents_mine hds x hx b q hl) with h | h
                · exact .inr (.inl h)
                · exact .inr (.inr h)
        · cases hv
      · cases hv
    cases ex with
    | exit id => exact h'.elim
    | normal => exact main h'
    | ret => exact main h'

/-- Calls over a table of functions that the program has. -/
theorem call_sound {cx : Cx} (hm : P.follows .mixedOrders = true) {Γ : Nat → Option FnC} (hΓ : ∀ f fc, Γ f = some fc → Nonempty (Fits P f fc)) {f : Nat} {vs : List V} {σ : St} {Q : Post} (h : Call Γ cx f vs σ Q) : SK P cx f vs σ Q :=
  h (SK P cx) fun f vs σ Q ⟨fc, hf, hb⟩ => by
    obtain ⟨ft⟩ := hΓ f fc hf
    exact body_sound hm ft hb

end Go.Dn
