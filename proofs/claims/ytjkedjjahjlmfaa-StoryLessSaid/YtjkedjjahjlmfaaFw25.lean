/- Operations and regions are what they compile to. -/
import Derived.Test.YtjkedjjahjlmfaaFw24
namespace Go.Dn
open Go.Lib
set_option linter.unusedVariables false
set_option linter.unusedSimpArgs false

variable {P : Program}

/-- Where a frame stands: `g0 σ0 w0` is where its function began. -/
def At (n : Nat) (g0 : Gh) (σ0 : St) (w0 : World) (e : Env) (σ : St) (a : Act) (w : World) : Prop :=
  ∃ g, Sim g σ w ∧ EnvR g σ.toks w n e a.tmps ∧ a.defers = [] ∧ Ev g0 σ0 w0 g σ w

variable {n : Nat} {g0 : Gh} {σ0 : St} {w0 : World}

theorem EnvR.put {g : Gh} {tk : List Nat} {w : World} {e : Env} {a : Act} (h : EnvR g tk w n e a.tmps) {dst : Option Nat} (hd : dst.all (· < n) = true) {v : V} {x : Value} (hv : VR g tk w v x) :
    EnvR g tk w n (putE e dst v) (a.put dst x).tmps := by
  cases dst with
  | none => exact h
  | some s => exact h.set (by simpa using hd) hv

theorem put_defers (a : Act) (dst : Option Nat) (x : Value) : (a.put dst x).defers = a.defers := by cases dst <;> rfl

theorem compCall_call {dst d' : Option Nat} {ty : TypeId} {c : Go.Call} {f : Nat} {l : List Opd} (h : compCall P dst ty c = some (.call d' f l)) :
    c.callee = .value (.func f) ∧ compOpds c.args.toList = some l ∧ d' = dst := by
  unfold compCall compBuiltin at h
  split at h
  case h_1 hc =>
    (repeat' (split at h)) <;> first | (cases h; done) | skip
    cases h
    exact ⟨hc, by assumption, rfl⟩
  all_goals (exfalso; (repeat' (split at h)) <;> first | (cases h; done) | (simp at h; done))

theorem compCall_callv {dst d' : Option Nat} {ty : TypeId} {c : Go.Call} {f : Opd} {l : List Opd} (h : compCall P dst ty c = some (.callv d' f l)) :
    ∃ t, c.callee = .value (.tmp t) ∧ f = .t t ∧ compOpds c.args.toList = some l ∧ d' = dst := by
  unfold compCall compBuiltin at h
  split at h
  case h_2 t hc =>
    (repeat' (split at h)) <;> first | (cases h; done) | skip
    cases h
    exact ⟨t, hc, rfl, by assumption, rfl⟩
  all_goals (exfalso; (repeat' (split at h)) <;> first | (cases h; done) | (simp at h; done))

theorem compOp_call {o : Oper} {i : Ins} (h : compOp P o = some i) (hi : (∃ d f l, i = .call d f l) ∨ (∃ d f l, i = .callv d f l)) : ∃ c, o.op = .call c ∧ compCall P o.dst o.type c = some i := by
  obtain ⟨od, oop, oty, opos, oaft, ogd⟩ := o
  cases oop <;> simp only [compOp] at h
  case call c => exact ⟨c, rfl, h⟩
  case makeMap t r =>
    exfalso
    cases r with
    | none => cases h; rcases hi with ⟨_, _, _, h⟩ | ⟨_, _, _, h⟩ <;> cases h
    | some x => cases h
  all_goals (exfalso; rcases hi with ⟨_, _, _, rfl⟩ | ⟨_, _, _, rfl⟩ <;> (repeat' (split at h)) <;> first | (cases h; done) | (simp at h; done))

/-- A call's outcome, put where it goes. -/
theorem upon_enter_sound {o : Oper} {a : Act} {w1 : World} {f : Nat} {args : Array Value} {K : Act → World → Prop} {R : Exit → Act → World → Prop} {next : Value → World → Prop}
    (hc : Calls P f args w1 (RetV next)) (hn : ∀ v w', next v w' → K (a.put o.dst v) w') : o.upon P a K R (.ok (.enter f args) w1) := by
  rw [Oper.upon_enter]
  refine hc.mono fun e w' h => ?_
  cases e with
  | returned v => exact hn _ _ h
  | panicked c => exact h.elim
  | outgrown => exact h.elim

theorem wone_sound {cx : Cx} {o : Oper} {i : Ins} (hc : compOp P o = some i) (hd : o.dst.all (· < n) = true) {e : Env} {σ : St} {Q : Env → St → Prop} (h : wone (SK P cx) cx i e σ Q) {a : Act} {w : World} (ha : At n g0 σ0 w0 e σ a w)
    {K : Act → World → Prop} {R : Exit → Act → World → Prop} (hK : ∀ e' σ' a' w', Q e' σ' → At n g0 σ0 w0 e' σ' a' w' → K a' w') : o.wp P a w K R := by
  obtain ⟨g, hs, he, hdef, hev⟩ := ha
  unfold Oper.wp
  cases i with
  | p dst op =>
    simp only [wone] at h
    split at h
    · rename_i v hv
      obtain ⟨rfl, cv, w', g', hrun, hs', hv', hev'⟩ := evalP_rel hs he hc hv
      rw [hrun, Oper.upon_value]
      exact hK _ _ _ _ h ⟨g', hs', (he.later hev'.later).put hd hv', by rw [put_defers]; exact hdef, hev.trans hev'⟩
    · exact h.elim
  | e dst op =>
    simp only [wone] at h
    rcases h with h | h
    · split at h
      · rename_i v σ' hv
        obtain ⟨rfl, cv, w', g', hrun, hs', hv', hev'⟩ := evalE_rel hs he hc hv
        rcases hrun with hrun | ⟨hrun, rfl⟩
        · rw [hrun, Oper.upon_value]
          exact hK _ _ _ _ h ⟨g', hs', (he.later hev'.later).put hd hv', by rw [put_defers]; exact hdef, hev.trans hev'⟩
        · rw [hrun, Oper.upon_skip]
          exact hK _ _ _ _ h ⟨g', hs', (he.later hev'.later).put hd hv', by rw [put_defers]; exact hdef, hev.trans hev'⟩
      · exact h.elim
    · split at h
      · rename_i v σ' hv
        obtain ⟨rfl, cv, w', g', hrun, hs', hv', hev'⟩ := evalM_rel hs he hc hv
        rcases hrun with hrun | ⟨hrun, rfl⟩
        · rw [hrun, Oper.upon_value]
          exact hK _ _ _ _ h ⟨g', hs', (he.later hev'.later).put hd hv', by rw [put_defers]; exact hdef, hev.trans hev'⟩
        · rw [hrun, Oper.upon_skip]
          exact hK _ _ _ _ h ⟨g', hs', (he.later hev'.later).put hd hv', by rw [put_defers]; exact hdef, hev.trans hev'⟩
      · exact h.elim
  | call dst f args =>
    simp only [wone] at h
    obtain ⟨c, hop, hcc⟩ := compOp_call hc (.inl ⟨_, _, _, rfl⟩)
    obtain ⟨h1, h2, rfl⟩ := compCall_call hcc
    have hv := opds_vrs he h2
    obtain ⟨hg, hcalls⟩ := callK_sound h hs (args := #[] ++ c.args.map a.eval ++ #[]) (by simpa using hv)
    have hx : execOp a.eval o = callFunc f (#[] ++ c.args.map a.eval ++ #[]) := by
      obtain ⟨od, oop, oty, opos, oaft, ogd⟩ := o
      obtain ⟨cc, ca, ct⟩ := c
      simp only at hop h1
      subst hop h1
      rfl
    rw [hx, hg.run]
    exact upon_enter_sound hcalls fun v w' ⟨g', x, σ', q, hs', hv', hev'⟩ =>
      hK _ _ _ _ q ⟨g', hs', (he.later hev'.later).put hd hv', by rw [put_defers]; exact hdef, hev.trans hev'⟩
  | callv dst f args =>
    simp only [wone] at h
    obtain ⟨c, hop, hcc⟩ := compOp_call hc (.inr ⟨_, _, _, rfl⟩)
    obtain ⟨t, h1, rfl, h2, rfl⟩ := compCall_callv hcc
    split at h
    · rename_i f first caps hf
      have hfn := he.2 t
      simp only [Opd.ev] at hf
      rw [hf] at hfn
      generalize htv : a.tmps.getD t undef = tv at hfn
      cases hfn with
      | fn _ _ _ first' caps' hl hl' hh hh' =>
        have hv := opds_vrs he h2
        have v1 : VRs g σ.toks w first first'.toList := VRs.of_get (by simpa using hl) (fun i c v h1 h2 => hh i c v h1 (by simpa using h2))
        have v2 : VRs g σ.toks w caps caps'.toList := VRs.of_get (by simpa using hl') (fun i c v h1 h2 => hh' i c v h1 (by simpa using h2))
        obtain ⟨hg, hcalls⟩ := callK_sound h hs (args := first' ++ c.args.map a.eval ++ caps') (by simpa using (v1.append (hv.append v2)))
        have hx : execOp a.eval o = callFunc f (first' ++ c.args.map a.eval ++ caps') := by
          obtain ⟨od, oop, oty, opos, oaft, ogd⟩ := o
          obtain ⟨cc, ca, ct⟩ := c
          simp only at hop h1
          subst hop h1
          simp only [execOp, resolve, Act.eval, htv, Deferred.ofValue]
          rfl
        rw [hx, hg.run]
        exact upon_enter_sound hcalls fun v w' ⟨g', x, σ', q, hs', hv', hev'⟩ =>
          hK _ _ _ _ q ⟨g', hs', (he.later hev'.later).put hd hv', by rw [put_defers]; exact hdef, hev.trans hev'⟩
    · exact h.elim
  | «when» s want body =>
    have := (compOp_dst hc).1
    simp [Ins.simple] at this

theorem yielded_bool {g : Gh} {tk : List Nat} {w : World} {e : Env} {a : Act} (he : EnvR g tk w n e a.tmps) {ops : Array Oper} {j s : Nat} (hj : (ops[j]?).bind (·.dst) = some s) {b : Bool} (hb : e.get s = .d (.bool b)) :
    yielded ops a.tmps j = some b := by
  have h := he.2 s
  rw [hb] at h
  have h := h.inv_bool
  unfold yielded
  rw [hj]
  have : a.tmps[s]? = some (.bool b) := by
    rw [Array.getD_eq_getD_getElem?] at h
    cases ht : a.tmps[s]? with
    | none => rw [ht] at h; simp [undef] at h
    | some x => rw [ht] at h; simpa using h
  simp [this]

theorem yielded_gone {g : Gh} {tk : List Nat} {w : World} {e : Env} {a : Act} (he : EnvR g tk w n e a.tmps) {ops : Array Oper} {j s : Nat} (hj : (ops[j]?).bind (·.dst) = some s) (hb : e.get s = .gone) :
    yielded ops a.tmps j = none := by
  have h := he.2 s
  rw [hb] at h
  generalize htv : a.tmps.getD s undef = tv at h
  cases h
  unfold yielded
  rw [hj]
  rw [Array.getD_eq_getD_getElem?] at htv
  cases ht : a.tmps[s]? with
  | none => simp [ht]
  | some x => rw [ht] at htv; simp at htv; simp [ht, htv, undef]

theorem compOne_inv {ops : Array Oper} {o : Oper} {gd : Option (Nat × Bool)} {i : Ins} (h : compOne P n ops o = some (gd, i)) :
    compOp P o = some i ∧ o.dst.all (· < n) = true ∧ ((o.guard = none ∧ gd = none) ∨ ∃ j s w, o.guard = some (j, w) ∧ (ops[j]?).bind (·.dst) = some s ∧ gd = some (s, w)) := by
  unfold compOne at h
  split at h
  · cases h
  · rename_i i' hi
    split at h
    · rename_i hd
      split at h
      · rename_i hg
        cases h
        exact ⟨hi, hd, .inl ⟨hg, rfl⟩⟩
      · rename_i j w hg
        split at h
        · rename_i s hs
          cases h
          exact ⟨hi, hd, .inr ⟨j, s, w, hg, hs, rfl⟩⟩
        · cases h
    · cases h

def wgd (K : CallP) (cx : Cx) (gd : Option (Nat × Bool)) (i : Ins) (e : Env) (σ : St) (Q : Env → St → Prop) : Prop :=
  match gd with
  | none => wone K cx i e σ Q
  | some (s, want) => wone K cx (.when s want [i]) e σ Q

/-- One operation, under its guard. -/
theorem wpOp_sound {cx : Cx} {ops : Array Oper} {o : Oper} {gd : Option (Nat × Bool)} {i : Ins} (hc : compOne P n ops o = some (gd, i)) {k : Nat} (hk : ops[k]? = some o) {e : Env} {σ : St} {Q : Env → St → Prop}
    (h : wgd (SK P cx) cx gd i e σ Q) {a : Act} {w : World} (ha : At n g0 σ0 w0 e σ a w)
    {K : Act → World → Prop} {R : Exit → Act → World → Prop} (hK : ∀ e' σ' a' w', Q e' σ' → At n g0 σ0 w0 e' σ' a' w' → K a' w') : wpOp P ops R k K a w := by
  obtain ⟨h1, h2, h3⟩ := compOne_inv hc
  obtain ⟨hsim, hdst⟩ := compOp_dst h1
  unfold wpOp
  rw [hk]
  simp only
  have skip : ∀ e' : Env, e' = putE e o.dst .gone → Q e' σ → K (a.put o.dst undef) w := fun e' he' hq => by
    obtain ⟨g, hs, he, hdef, hev⟩ := ha
    subst he'
    exact hK _ _ _ _ hq ⟨g, hs, he.put h2 .gone, by rw [put_defers]; exact hdef, hev⟩
  rcases h3 with ⟨hg, rfl⟩ | ⟨j, s, want, hg, hj, rfl⟩
  · have hw : Region.wanted o (yielded ops a.tmps) = true := by simp [Region.wanted, hg]
    rw [if_pos hw]
    exact .inl (wone_sound h1 h2 h ha hK)
  · simp only [wgd, wone, wins] at h
    have ha' := ha
    obtain ⟨g, hs, he, hdef, hev⟩ := ha'
    split at h
    · rename_i b hb
      have hy := yielded_bool he hj hb
      have hw : Region.wanted o (yielded ops a.tmps) = (b == want) := by simp [Region.wanted, hg, hy]
      split at h
      · rename_i hbw
        rw [hw, hbw, if_pos (by simp)]
        exact .inl (wone_sound h1 h2 h ha hK)
      · rename_i hbw
        rw [hw, if_neg (by simpa using hbw)]
        refine skip _ ?_ h
        simp only [goneAll, goneOne_simple hsim, hdst]
    · rename_i hb
      have hy := yielded_gone he hj hb
      have hw : Region.wanted o (yielded ops a.tmps) = false := by simp [Region.wanted, hg, hy]
      rw [hw, if_neg (by simp)]
      refine skip _ ?_ h
      simp only [goneAll, goneOne_simple hsim, hdst]
    · exact h.elim

theorem compList_simple {ops : Array Oper} : ∀ {os : List Oper} {l : List (Option (Nat × Bool) × Ins)}, compList P n ops os = some l → ∀ p ∈ l, p.2.simple = true
  | [], l, h => by simp [compList] at h; subst h; simp
  | o :: r, l, h => by
    simp only [compList] at h
    split at h
    · rename_i x l' hx hl
      cases h
      intro p hp
      rcases List.mem_cons.1 hp with rfl | hp
      · exact (compOp_dst (compOne_inv (gd := p.1) (i := p.2) hx).1).1
      · exact compList_simple hl p hp
    · cases h

theorem wg_sound {cx : Cx} {ops : Array Oper} {Q : Env → St → Prop} {R : Exit → Act → World → Prop} (hQ : ∀ e σ a w, Q e σ → At n g0 σ0 w0 e σ a w → R .normal a w) :
    ∀ (os : List Oper) (k : Nat), ops.toList.drop k = os → ∀ (l : List (Option (Nat × Bool) × Ins)), compList P n ops os = some l → ∀ (e : Env) (σ : St), wg (SK P cx) cx l e σ Q → ∀ (a : Act) (w : World), At n g0 σ0 w0 e σ a w →
      wpOps P ops R (List.range' k os.length) a w
  | [], k, hk, l, hl, e, σ, h, a, w, ha => by
    simp [compList] at hl
    subst hl
    exact hQ _ _ _ _ h ha
  | o :: r, k, hk, l, hl, e, σ, h, a, w, ha => by
    simp only [compList] at hl
    split at hl
    · rename_i x l' hx hl'
      cases hl
      have ho : ops[k]? = some o := by
        have := congrArg (·[0]?) hk
        simp only [List.getElem?_drop] at this
        simpa using this
      have hr : ops.toList.drop (k + 1) = r := by
        rw [← List.drop_drop, hk]; rfl
      rw [List.length_cons, List.range'_succ, wpOps_cons]
      obtain ⟨gd, i⟩ := x
      refine wpOp_sound (cx := cx) (Q := fun e' σ' => wg (SK P cx) cx l' e' σ' Q) hx ho ?_ ha (fun e' σ' a' w' h' ha' => wg_sound hQ r (k + 1) hr l' hl' e' σ' h' a' w' ha')
      cases gd with
      | none => exact h
      | some p => exact h
    · cases hl

theorem region_sound {cx : Cx} {id : Nat} {ops : Array Oper} {l : List (Option (Nat × Bool) × Ins)} (hl : compList P n ops ops.toList = some l) {Q : Env → St → Prop} {e : Env} {σ : St} (h : wins (SK P cx) cx (group l) e σ Q) {a : Act} {w : World}
    (ha : At n g0 σ0 w0 e σ a w) {R : Exit → Act → World → Prop} (hQ : ∀ e σ a w, Q e σ → At n g0 σ0 w0 e σ a w → R .normal a w) : (Code.region id ops false).wp P R a w := by
  apply wp_region
  have := wg_sound hQ ops.toList 0 rfl l hl e σ (group_wg l (compList_simple hl) e σ h) a w ha
  rw [List.range_eq_range']
  simpa using this

end Go.Dn
