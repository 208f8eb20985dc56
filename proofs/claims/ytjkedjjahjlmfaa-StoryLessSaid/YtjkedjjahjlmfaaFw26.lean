/- Regions that draw their order; code. -/
import Derived.Test.YtjkedjjahjlmfaaFw25
namespace Go.Dn
open Go.Lib
set_option linter.unusedVariables false
set_option linter.unusedSimpArgs false

variable {P : Program} {n : Nat} {g0 : Gh} {σ0 : St} {w0 : World}

theorem room_get {σ : St} {m r : Nat} {o : Obj} (h : (σ.room m).objs[r]? = some o) : σ.objs[r]? = some o ∨ (σ.objs.length ≤ r ∧ o = .free) := by
  simp only [St.room] at h
  rcases Nat.lt_or_ge r σ.objs.length with hlt | hge
  · rw [List.getElem?_append_left hlt] at h; exact .inl h
  · rw [List.getElem?_append_right hge, List.getElem?_replicate] at h
    split at h
    · cases h; exact .inr ⟨hge, rfl⟩
    · cases h

theorem room_live {σ : St} {m r : Nat} {o : Obj} (h : (σ.room m).objs[r]? = some o) (hl : o.live) : σ.objs[r]? = some o := by
  rcases room_get h with h | ⟨_, rfl⟩
  · exact h
  · exact hl.elim

theorem mine_room {g : Gh} {σ : St} {m b : Nat} (h : Mine g (σ.room m) b) : Mine g σ b := by
  rcases h with ⟨r, o, h1, h2, h3⟩ | h
  · exact .inl ⟨r, o, room_live h1 h2, h2, h3⟩
  · exact .inr h

theorem Sim.room {g : Gh} {σ : St} {w : World} (hs : Sim g σ w) (m : Nat) : Sim g (σ.room m) w ∧ Ev g σ w g (σ.room m) w := by
  refine ⟨⟨fun r o h hl => hs.has r o (room_live h hl) hl, fun r h => ?_, fun r h => ?_, fun r cs h => hs.cells r cs (room_live h trivial), fun r es h => hs.maps r es (room_live h trivial), fun r r' o o' h hl h' hl' => hs.dist r r' o o' (room_live h hl) hl (room_live h' hl') hl',
    fun r o h hl => hs.nofrz r o (room_live h hl) hl, hs.tok, hs.tdist, fun t k r o ht h hl => hs.tobj t k r o ht (room_live h hl) hl, hs.frzb⟩, Later.refl _ _ _, Nat.le_refl _, rfl, rfl, rfl, fun _ _ _ => rfl, fun b h => .inl (mine_room h), fun _ _ h => .inl h⟩
  · have := hs.bound r h
    simp only [St.room, List.length_append, List.length_replicate]
    omega
  · intro hh
    rcases room_get h with h | ⟨h, _⟩
    · exact hs.free r h hh
    · have := hs.bound r hh
      omega

/-- An operation of a region that draws: what runs, under its guard. -/
def gdo (gd : Option (Nat × Bool)) (i : Ins) (e : Env) (σ : St) (go : Prop) (Q : Env → St → Prop) : Prop :=
  match gd with
  | none => go
  | some (s, want) => match e.get s with
    | .d (.bool b) => if b = want then go else Q (goneOne i e) σ
    | .gone => Q (goneOne i e) σ
    | _ => False

def dgo (K : CallP) (cx : Cx) (n0 : Nat) (o : DOp) (e : Env) (σ : St) (Q : Env → St → Prop) : Prop :=
  match o.ins with
  | .e dst op => (match evalE op e σ (some (n0 + o.al)) with
    | some (v, σ') => Q (putE e dst v) σ'
    | none => False) ∨ (match evalM op e σ (some (n0 + o.al)) with
    | some (v, σ') => Q (putE e dst v) σ'
    | none => False)
  | i => wone K cx i e σ Q

theorem wdop_eq (K : CallP) (cx : Cx) (n0 : Nat) (o : DOp) (e : Env) (σ : St) (Q : Env → St → Prop) : wdop K cx n0 o e σ Q = gdo o.guard o.ins e σ (dgo K cx n0 o e σ Q) Q := rfl

theorem dgo_sound {cx : Cx} {o : Oper} {d : DOp} {n0 : Nat} (hc : compOp P o = some d.ins) (hd : o.dst.all (· < n) = true) {e : Env} {σ : St} {Q : Env → St → Prop} (h : dgo (SK P cx) cx n0 d e σ Q) {a : Act} {w : World} (ha : At n g0 σ0 w0 e σ a w)
    {K : Act → World → Prop} {R : Exit → Act → World → Prop} (hK : ∀ e' σ' a' w', Q e' σ' → At n g0 σ0 w0 e' σ' a' w' → K a' w') : o.wp P a w K R := by
  obtain ⟨gd, i, af, al⟩ := d
  cases i with
  | e dst op =>
    simp only [dgo] at h
    obtain ⟨g, hs, he, hdef, hev⟩ := ha
    unfold Oper.wp
    rcases h with h | h
    · split at h
      · rename_i v σ' hv
        obtain ⟨rfl, cv, w', g', hrun, hs', hv', hev'⟩ := evalE_rel hs he hc hv
        rcases hrun with hrun | ⟨hrun, rfl⟩
        · rw [hrun, Oper.upon_value]
          exact hK _ _ _ _ h ⟨g', hs', (he.later hev'.later).put hd hv', by rw [put_defers]; exact hdef, hev.trans hev'⟩
        · rw [hrun, Oper.upon_skip]
          exact hK _ _ _ _ h ⟨g', hs', (he.later hev'.later).put hd hv', by rw [put_defers]; exact hdef, hev.trans hev'⟩
      · exact h.elim
    · split at h
      · rename_i v σ' hv
        obtain ⟨rfl, cv, w', g', hrun, hs', hv', hev'⟩ := evalM_rel hs he hc hv
        rcases hrun with hrun | ⟨hrun, rfl⟩
        · rw [hrun, Oper.upon_value]
          exact hK _ _ _ _ h ⟨g', hs', (he.later hev'.later).put hd hv', by rw [put_defers]; exact hdef, hev.trans hev'⟩
        · rw [hrun, Oper.upon_skip]
          exact hK _ _ _ _ h ⟨g', hs', (he.later hev'.later).put hd hv', by rw [put_defers]; exact hdef, hev.trans hev'⟩
      · exact h.elim
  | p dst op => exact wone_sound (cx := cx) hc hd h ha hK
  | call dst f args => exact wone_sound (cx := cx) hc hd h ha hK
  | callv dst f args => exact wone_sound (cx := cx) hc hd h ha hK
  | «when» s want body => exact wone_sound (cx := cx) hc hd h ha hK

theorem wdop_sound {cx : Cx} {ops : Array Oper} {o : Oper} {d : DOp} {n0 : Nat} (hc : compOne P n ops o = some (d.guard, d.ins)) {k : Nat} (hk : ops[k]? = some o) {e : Env} {σ : St} {Q : Env → St → Prop}
    (h : wdop (SK P cx) cx n0 d e σ Q) {a : Act} {w : World} (ha : At n g0 σ0 w0 e σ a w)
    {K : Act → World → Prop} {R : Exit → Act → World → Prop} (hK : ∀ e' σ' a' w', Q e' σ' → At n g0 σ0 w0 e' σ' a' w' → K a' w') : wpOp P ops R k K a w := by
  obtain ⟨h1, h2, h3⟩ := compOne_inv hc
  obtain ⟨hsim, hdst⟩ := compOp_dst h1
  rw [wdop_eq] at h
  unfold wpOp
  rw [hk]
  simp only
  have skip : ∀ e' : Env, e' = putE e o.dst .gone → Q e' σ → K (a.put o.dst undef) w := fun e' he' hq => by
    obtain ⟨g, hs, he, hdef, hev⟩ := ha
    subst he'
    exact hK _ _ _ _ hq ⟨g, hs, he.put h2 .gone, by rw [put_defers]; exact hdef, hev⟩
  rcases h3 with ⟨hg, hgd⟩ | ⟨j, s, want, hg, hj, hgd⟩
  · rw [hgd] at h
    have hw : Region.wanted o (yielded ops a.tmps) = true := by simp [Region.wanted, hg]
    rw [if_pos hw]
    exact .inl (dgo_sound (cx := cx) h1 h2 h ha hK)
  · rw [hgd] at h
    simp only [gdo] at h
    have ha' := ha
    obtain ⟨g, hs, he, hdef, hev⟩ := ha'
    split at h
    · rename_i b hb
      have hy := yielded_bool he hj hb
      have hw : Region.wanted o (yielded ops a.tmps) = (b == want) := by simp [Region.wanted, hg, hy]
      split at h
      · rename_i hbw
        rw [hw, hbw, if_pos (by simp)]
        exact .inl (dgo_sound (cx := cx) h1 h2 h ha hK)
      · rename_i hbw
        rw [hw, if_neg (by simpa using hbw)]
        refine skip _ ?_ h
        rw [goneOne_simple hsim, hdst]
    · rename_i hb
      have hy := yielded_gone he hj hb
      have hw : Region.wanted o (yielded ops a.tmps) = false := by simp [Region.wanted, hg, hy]
      rw [hw, if_neg (by simp)]
      refine skip _ ?_ h
      rw [goneOne_simple hsim, hdst]
    · exact h.elim

theorem compDraw_get {ops : Array Oper} : ∀ {os : List Oper} {k : Nat} {l : List DOp} {m : Nat}, compDraw P n ops k os = some (l, m) → l.length = os.length ∧
    ∀ (i : Nat) (o : Oper), os[i]? = some o → ∃ d, l[i]? = some d ∧ compOne P n ops o = some (d.guard, d.ins) ∧ d.after = afterOf o
  | [], k, l, m, h => by simp [compDraw] at h; obtain ⟨rfl, rfl⟩ := h; exact ⟨rfl, fun i o h => by simp at h⟩
  | o :: r, k, l, m, h => by
    simp only [compDraw] at h
    split at h
    · rename_i gd i hc
      split at h
      · rename_i l' m' hr
        cases h
        obtain ⟨a1, a2⟩ := compDraw_get hr
        refine ⟨by simp [a1], fun j o' hj => ?_⟩
        cases j with
        | zero => simp at hj; subst hj; exact ⟨_, rfl, hc, rfl⟩
        | succ j => simp at hj; simpa using a2 j o' hj
      · cases h
    · cases h

theorem ready_eq {ops : Array Oper} {l : List DOp} {m : Nat} (hl : compDraw P n ops 0 ops.toList = some (l, m)) {listedA : Array Bool} {listed : List Nat} (hsz : listedA.size = ops.size) (hrel : ∀ j, listedA.getD j false = listed.contains j) :
    Region.ready .any ops listedA = readyD l listed := by
  obtain ⟨h1, h2⟩ := compDraw_get hl
  unfold Region.ready readyD
  rw [h1]
  simp only [Array.length_toList]
  apply List.filter_congr
  intro i hi
  rw [List.mem_range] at hi
  have ho : ops[i]? = some ops[i] := by simp [hi]
  obtain ⟨d, d1, d2, d3⟩ := h2 i ops[i] (by simp [hi])
  rw [ho, d1]
  simp only [Option.map_some, Option.getD_some, d3]
  have e1 : listedA.getD i true = listed.contains i := by
    rw [← hrel i]
    have : i < listedA.size := by omega
    simp [Array.getD_eq_getD_getElem?, this]
  rw [e1]
  congr 1
  unfold afterOf
  rw [List.all_map, List.all_filter, ← Array.all_toList]
  apply List.all_congr rfl
  intro e
  simp only [Function.comp, hrel]

theorem wany_sound {cx : Cx} {ops : Array Oper} {l : List DOp} {m n0 : Nat} (hl : compDraw P n ops 0 ops.toList = some (l, m)) {Q : Env → St → Prop} {R : Exit → Act → World → Prop} (hQ : ∀ e σ a w, Q e σ → At n g0 σ0 w0 e σ a w → R .normal a w) :
    ∀ (fuel : Nat) (listedA : Array Bool) (listed : List Nat), listedA.size = ops.size → (∀ j, listedA.getD j false = listed.contains j) → ∀ (e : Env) (σ : St), wany (SK P cx) cx n0 l fuel listed e σ Q → ∀ (a : Act) (w : World), At n g0 σ0 w0 e σ a w →
      wpAny P .any ops R fuel listedA a w
  | 0, listedA, listed, hsz, hrel, e, σ, h, a, w, ha => by
    obtain ⟨h1, h2⟩ := h
    exact ⟨by rw [ready_eq hl hsz hrel]; exact h1, hQ _ _ _ _ h2 ha⟩
  | fuel + 1, listedA, listed, hsz, hrel, e, σ, h, a, w, ha => by
    obtain ⟨h1, h2⟩ := h
    refine ⟨fun hr => hQ _ _ _ _ (h1 (by rw [← ready_eq hl hsz hrel]; exact hr)) ha, fun i hi => ?_⟩
    rw [ready_eq hl hsz hrel] at hi
    obtain ⟨d, hd, hw⟩ := h2 i hi
    obtain ⟨c1, c2⟩ := compDraw_get hl
    have hlt : i < ops.size := by
      have := (List.getElem?_eq_some_iff.1 hd).1
      simpa [c1] using this
    obtain ⟨d', d1, d2, d3⟩ := c2 i ops[i] (by simp [hlt])
    rw [hd] at d1
    cases d1
    refine wdop_sound (cx := cx) (k := i) d2 (by simp [hlt]) hw ha (fun e' σ' a' w' h' ha' => ?_)
    refine wany_sound (cx := cx) hl hQ fuel _ (i :: listed) (by simpa using hsz) (fun j => ?_) e' σ' h' a' w' ha'
    by_cases hij : i = j
    · subst hij
      simp [Array.getD_eq_getD_getElem?, hsz, hlt]
    · rw [getD_set_ne false hij, hrel j]
      have : ¬ j = i := fun e => hij e.symm
      simp [this]

theorem draw_sound {cx : Cx} (hm : P.follows .mixedOrders = true) {id : Nat} {ops : Array Oper} {l : List DOp} {m : Nat} (hl : compDraw P n ops 0 ops.toList = some (l, m)) {Q : Env → St → Prop} {e : Env} {σ : St}
    (h : Okay e σ → wany (SK P cx) cx σ.objs.length l l.length [] e (σ.room m) Q) {a : Act} {w : World}
    (ha : At n g0 σ0 w0 e σ a w) {R : Exit → Act → World → Prop} (hQ : ∀ e σ a w, Q e σ → At n g0 σ0 w0 e σ a w → R .normal a w) : (Code.region id ops true).wp P R a w := by
  apply wp_region_any hm
  obtain ⟨g, hs, he, hdef, hev⟩ := ha
  have h := h (fun s r hr => by
    have hv := he.2 s
    generalize a.tmps.getD s undef = cv at hv
    generalize e.get s = ev at hv hr
    cases hv <;> simp only [dref, List.not_mem_nil, List.mem_singleton] at hr <;> (subst hr; exact hs.bound _ (by assumption)))
  obtain ⟨r1, r2⟩ := hs.room m
  obtain ⟨r3, r4⟩ := r1.drawn (w.drawn + 1)
  rw [(compDraw_get hl).1, Array.length_toList] at h
  refine wany_sound (cx := cx) hl hQ ops.size _ [] (by simp) (fun j => ?_) e _ h a _ ⟨g, r3, (he.later r2.later).later r4.later, hdef, (hev.trans r2).trans r4⟩
  simp only [Array.getD_eq_getD_getElem?, Array.getElem?_replicate, List.contains_nil]
  split <;> rfl

def exOf : Ex → Exit
  | .normal => .normal
  | .exit id => .exit id
  | .ret => .ret

theorem At.pick {e : Env} {σ : St} {a : Act} {w : World} (h : At n g0 σ0 w0 e σ a w) (ks : List Nat) : At n g0 σ0 w0 (e.pick ks) σ a w := by
  obtain ⟨g, hs, he, hd, hev⟩ := h
  exact ⟨g, hs, he.pick ks, hd, hev⟩

theorem wcode_sound {cx : Cx} (hm : P.follows .mixedOrders = true) : ∀ (c : Code) (x : C), comp P n c = some (erase x) → ∀ (e : Env) (σ : St) (Q : PostC), wcode (SK P cx) cx x e σ Q → ∀ (a : Act) (w : World), At n g0 σ0 w0 e σ a w →
    ∀ (R : Exit → Act → World → Prop), (∀ ex e' σ' a' w', Q ex e' σ' → At n g0 σ0 w0 e' σ' a' w' → R (exOf ex) a' w') → c.wp P R a w := by
  intro c
  induction c with
  | skip =>
    intro x hx e σ Q h a w ha R hR
    simp only [comp, Option.some.injEq] at hx
    cases x <;> simp only [erase, reduceCtorEq] at hx
    simp only [wcode] at h
    exact wp_skip (hR .normal _ _ _ _ h ha)
  | exit id =>
    intro x hx e σ Q h a w ha R hR
    simp only [comp, Option.some.injEq] at hx
    cases x <;> simp only [erase, reduceCtorEq, C.exit.injEq] at hx
    subst hx
    simp only [wcode] at h
    exact wp_exit (hR (.exit _) _ _ _ _ h ha)
  | ret =>
    intro x hx e σ Q h a w ha R hR
    simp only [comp, Option.some.injEq] at hx
    cases x <;> simp only [erase, reduceCtorEq] at hx
    simp only [wcode] at h
    exact wp_ret (hR .ret _ _ _ _ h ha)
  | seq c1 c2 ih1 ih2 =>
    intro x hx e σ Q h a w ha R hR
    simp only [comp] at hx
    split at hx
    · rename_i x1 x2 h1 h2
      simp only [Option.some.injEq] at hx
      cases x <;> simp only [erase, reduceCtorEq, C.seq.injEq] at hx
      obtain ⟨rfl, rfl⟩ := hx
      simp only [wcode] at h
      refine wp_seq (ih1 _ h1 _ _ _ h _ _ ha _ fun ex e' σ' a' w' h' ha' => ?_)
      cases ex with
      | normal => exact ih2 _ h2 _ _ _ h' _ _ ha' _ hR
      | exit id => exact hR (.exit id) _ _ _ _ h' ha'
      | ret => exact hR .ret _ _ _ _ h' ha'
    · cases hx
  | cond c t f ih1 ih2 =>
    intro x hx e σ Q h a w ha R hR
    simp only [comp] at hx
    split at hx
    · rename_i c' x1 x2 hc h1 h2
      simp only [Option.some.injEq] at hx
      cases x <;> simp only [erase, reduceCtorEq, C.cond.injEq] at hx
      obtain ⟨rfl, rfl, rfl⟩ := hx
      simp only [wcode] at h
      split at h
      · rename_i b hb
        have ha' := ha
        obtain ⟨g, hs, he, hd, hev⟩ := ha'
        have hv := opd_rel hc he
        rw [hb] at hv
        refine wp_cond_split hv.inv_bool (fun ht => ?_) (fun ht => ?_)
        · rw [if_pos ht] at h
          exact ih1 _ h1 _ _ _ h _ _ ha _ hR
        · rw [if_neg (by simp [ht])] at h
          exact ih2 _ h2 _ _ _ h _ _ ha _ hR
      · exact h.elim
    · cases hx
  | block id c ih =>
    intro x hx e σ Q h a w ha R hR
    simp only [comp] at hx
    split at hx
    · rename_i x1 h1
      simp only [Option.some.injEq] at hx
      cases x <;> simp only [erase, reduceCtorEq, C.block.injEq] at hx
      obtain ⟨rfl, rfl⟩ := hx
      simp only [wcode] at h
      refine wp_block (ih _ h1 _ _ _ h _ _ ha _ fun ex e' σ' a' w' h' ha' => ?_)
      cases ex with
      | normal => exact hR .normal _ _ _ _ h' ha'
      | exit j =>
        simp only at h'
        show Exit.inBlock id R (.exit j) a' w'
        simp only [Exit.inBlock]
        split
        · rename_i hj; rw [if_pos hj] at h'; exact hR .normal _ _ _ _ h' ha'
        · rename_i hj; rw [if_neg hj] at h'; exact hR (.exit j) _ _ _ _ h' ha'
      | ret => exact hR .ret _ _ _ _ h' ha'
    · cases hx
  | loop c ih =>
    intro x hx e σ Q h a w ha R hR
    simp only [comp] at hx
    split at hx
    · rename_i x1 h1
      simp only [Option.some.injEq] at hx
      cases x <;> simp only [erase, reduceCtorEq, C.loop.injEq] at hx
      rename_i ks y
      obtain ⟨_, rfl⟩ := hx
      simp only [wcode] at h
      intro b k cs
      have key := h (fun e σ => ∀ (a : Act) (w : World), At n g0 σ0 w0 e σ a w → ∃ ex a' w', R ex a' w' ∧ Arrives P (lone (b.at a (.code c :: .inLoop c :: k)) cs w) b k cs ex a' w') (fun e σ hb a w ha => by
        obtain ⟨ex, a1, w1, hq, harr⟩ := ih y h1 e σ _ hb a w ha (Exit.then (fun a1 w1 => ∃ ex a' w', R ex a' w' ∧ Arrives P (lone (b.at a1 (.code c :: .inLoop c :: k)) cs w1) b k cs ex a' w') R) (fun ex e' σ' a' w' h' ha' => by
          cases ex with
          | normal => exact h' _ _ (ha'.pick ks)
          | exit id => exact hR (.exit id) _ _ _ _ h' ha'
          | ret => exact hR .ret _ _ _ _ h' ha') b (.inLoop c :: k) cs
        cases ex with
        | normal =>
          obtain ⟨ex2, a2, w2, hq2, harr2⟩ := hq
          exact ⟨ex2, a2, w2, hq2, .of_steps (Steps.trans harr (.one step_inLoop)) harr2⟩
        | exit id => exact ⟨_, a1, w1, hq, .pass (x := .inLoop c) rfl (fun _ _ => .inl (by simp)) harr⟩
        | goto l => exact ⟨_, a1, w1, hq, .pass (x := .inLoop c) rfl (fun _ _ => .inl (by simp)) harr⟩
        | ret => exact ⟨_, a1, w1, hq, .pass (x := .inLoop c) rfl (fun _ _ => .inl (by simp)) harr⟩
        | panic ch => exact ⟨_, a1, w1, hq, .pass (x := .inLoop c) rfl (fun _ _ => .inl (by simp)) harr⟩
        | outgrown => exact ⟨_, a1, w1, hq, .pass (x := .inLoop c) rfl (fun _ _ => .inl (by simp)) harr⟩)
      obtain ⟨ex, a', w', hq, harr⟩ := key a w (ha.pick ks)
      exact ⟨ex, a', w', hq, .of_steps (.one step_loop) harr⟩
    · cases hx
  | region id ops draw =>
    intro x hx e σ Q h a w ha R hR
    cases draw with
    | false =>
      simp only [comp] at hx
      split at hx
      · rename_i l hl
        simp only [Option.some.injEq] at hx
        cases x <;> simp only [erase, reduceCtorEq, C.ops.injEq] at hx
        rename_i ks y
        obtain ⟨_, rfl⟩ := hx
        simp only [wcode] at h
        exact region_sound (Q := fun e' σ' => Q .normal (e'.pick ks) σ') hl h ha (fun e' σ' a' w' h' ha' => hR .normal _ _ _ _ h' (ha'.pick ks))
      · cases hx
    | true =>
      simp only [comp] at hx
      split at hx
      · rename_i l m hl
        simp only [Option.some.injEq] at hx
        cases x <;> simp only [erase, reduceCtorEq, C.drw.injEq] at hx
        rename_i ks m' y
        obtain ⟨_, rfl, rfl⟩ := hx
        simp only [wcode] at h
        exact draw_sound (Q := fun e' σ' => Q .normal (e'.pick ks) σ') hm hl h ha (fun e' σ' a' w' h' ha' => hR .normal _ _ _ _ h' (ha'.pick ks))
      · cases hx
  | rangeFunc => intro x hx; simp [comp] at hx
  | scope => intro x hx; simp [comp] at hx
  | label => intro x hx; simp [comp] at hx
  | goto => intro x hx; simp [comp] at hx
  | refuse => intro x hx; simp [comp] at hx

end Go.Dn
