/- Calls: by value, and as it stands. -/
import Derived.Test.YtjkedjjahjlmfaaFw221
import Derived.Orders
namespace Go.Dn
open Go.Lib
set_option linter.unusedVariables false
set_option linter.unusedSimpArgs false

variable {P : Program} {g : Gh} {σ : St} {tk : List Nat} {w : World}

/-- Ghosts of one that has nothing of its own. -/
def Gh.bare (f : Nat → Nat → Prop) : Gh := { has := fun _ => False, obj := fun _ => (0, 0), len := fun _ => 0, tok := fun _ => ⟨0, 0, 0, 0, 0⟩, frz := f }

theorem Sim.bare {f : Nat → Nat → Prop} (hf : ∀ b q, f b q → ∃ v, w.cell? ⟨b, q, none⟩ = some v) : Sim (Gh.bare f) St.empty w where
  has := fun r o h => by simp [St.empty] at h
  bound := fun r h => h.elim
  free := fun r h => by simp [St.empty] at h
  cells := fun r cs h => by simp [St.empty] at h
  maps := fun r es h => by simp [St.empty] at h
  dist := fun r r' o o' h => by simp [St.empty] at h
  nofrz := fun r o h => by simp [St.empty] at h
  tok := fun t k h => by simp [St.empty] at h
  tdist := fun t t' k k' h => by simp [St.empty] at h
  tobj := fun t k r o h => by simp [St.empty] at h
  frzb := hf

theorem not_mine_empty {b : Nat} (h : Mine g St.empty b) : False := by
  rcases h with ⟨r, o, h, _⟩ | ⟨t, k, h, _⟩ <;> simp [St.empty] at h

/-- Something ran that touched none of what there was. -/
theorem Sim.away (hs : Sim g σ w) {w' : World} {f' : Nat → Nat → Prop} (hheap : ∀ b, b < w.heap.size → w'.heap[b]? = w.heap[b]?) (hsz : w.heap.size ≤ w'.heap.size) (hsub : ∀ b q, g.frz b q → f' b q)
    (hnew : ∀ b q, f' b q → g.frz b q ∨ w.heap.size ≤ b) (hcell : ∀ b q, f' b q → ∃ v, w'.cell? ⟨b, q, none⟩ = some v) (hos : w'.os = w.os) (htape : w'.tape = w.tape) (hout : w'.output = w.output) :
    Sim { g with frz := f' } σ w' ∧ Ev g σ w { g with frz := f' } σ w' := by
  have lt : ∀ {b : Nat} {o : Go.Obj}, w.heap[b]? = some o → b < w.heap.size := fun h => (Array.getElem?_eq_some_iff.1 h).1
  have hst : Stay g.frz f' w w' := ⟨hsub, fun b q h => by
    obtain ⟨v, hv⟩ := hs.frzb b q h
    have hb := cell_lt hv
    unfold World.cell?
    rw [hheap b hb]⟩
  have hl : Later g σ.toks w { g with frz := f' } σ.toks w' := ⟨hst, fun r h => ⟨h, rfl, rfl⟩, fun t k h => ⟨k, h, Nat.le_refl _, fun _ => rfl, rfl⟩⟩
  refine ⟨⟨hs.has, hs.bound, hs.free, fun r cs h => ?_, hs.maps, hs.dist, fun r o h ho q hq => ?_, fun t k h => ?_, hs.tdist, hs.tobj, hcell⟩, ⟨hl, hsz, hos, htape, hout, fun b hb _ => hheap b hb, fun b h => .inl h, fun b q h => (hnew b q h).imp id fun h => .inr h⟩⟩
  · obtain ⟨h1, c, e, fz, h2, h3, h4⟩ := hs.cells r cs h
    refine ⟨h1, c, e, fz, by rw [hheap _ (lt h2)]; exact h2, h3, fun j v hj => ?_⟩
    obtain ⟨cv, a1, a2, a3⟩ := h4 j v hj
    exact ⟨cv, a1, a2, a3.later hl⟩
  · rcases hnew _ q hq with h1 | h1
    · exact hs.nofrz r o h ho q h1
    · cases o with
      | cells cs =>
        obtain ⟨_, c, e, fz, h2, _⟩ := hs.cells r cs h
        have := lt h2
        simp only at h1
        omega
      | map es => exact hs.maps r es h
      | dead => exact ho
      | free => exact ho
  · obtain ⟨h1, c, e, fz, h2, h3, h4, h5⟩ := hs.tok t k h
    refine ⟨h1, c, e, fz, by rw [hheap _ (lt h2)]; exact h2, h3, h4, fun q hq hf => ?_⟩
    rcases hnew _ q hf with h6 | h6
    · exact h5 q hq h6
    · have := lt h2
      simp only at h6
      omega

theorem Sim.drawn (hs : Sim g σ w) (n : Nat) : Sim g σ { w with drawn := n } ∧ Ev g σ w g σ { w with drawn := n } :=
  hs.away (f' := g.frz) (fun _ _ => rfl) (Nat.le_refl _) (fun _ _ h => h) (fun _ _ h => .inl h) (fun b q h => hs.frzb b q h) rfl rfl rfl

theorem DR.scalar {f f' : Nat → Nat → Prop} {w' : World} {d : D} {v : Value} (h : DR f w d v) (hd : d.scalar = true) : DR f' w' d v := by
  cases h with
  | int k n => exact .int k n
  | bool b => exact .bool b
  | str l => exact .str l
  | nilp => exact .nilp
  | nils => exact .nils
  | nilm => exact .nilm
  | nilf => exact .nilf
  | nili => exact .nili
  | iface t d v h =>
    cases h with
    | int k n => exact .iface t _ _ (.int k n)
    | _ => simp [D.scalar] at hd
  | list => simp [D.scalar] at hd
  | list0 => simp [D.scalar] at hd
  | agg => simp [D.scalar] at hd

theorem VR.of_scalar {g' : Gh} {tk' : List Nat} {w' : World} {v : V} {x : Value} (h : VR g tk w v x) (hv : v.scalar = true) : VR g' tk' w' v x := by
  cases h with
  | d x v h h1 => exact .d _ _ (h.scalar hv) h1
  | da cs vs h =>
    cases h with
    | agg _ _ hl h1 h =>
      refine .da cs vs (.agg cs vs hl h1 fun i d v hd hx => (h i d v hd hx).scalar ?_)
      simp only [V.scalar, List.all_eq_true] at hv
      exact hv d (List.mem_of_getElem? hd)
  | _ => simp [V.scalar] at hv

theorem VR.of_scalars {g' : Gh} {tk' : List Nat} {w' : World} {v : V} {x : Value} (h : VR g tk w v x) (hv : v.scalars = true) : VR g' tk' w' v x := by
  cases h with
  | tup cs vs hl h =>
    simp only [V.scalars, List.all_eq_true] at hv
    exact .tup cs vs hl fun i c v hc hx => (h i c v hc hx).of_scalar (hv c (List.mem_of_getElem? hc))
  | d _ _ h h1 => exact VR.of_scalar (tk := tk) (.d _ _ h h1) hv
  | da _ _ h => exact VR.of_scalar (tk := tk) (.da _ _ h) hv
  | _ => simp [V.scalars, V.scalar] at hv

theorem VR.of_flatv {g' : Gh} {tk' : List Nat} {v : V} {x : Value} (h : VR g tk w v x) (hv : v.flatv = true) (hf : g'.frz = g.frz) : VR g' tk' w v x := by
  cases h with
  | d x v h h1 => exact .d _ _ (by rw [hf]; exact h) h1
  | da cs vs h => exact .da _ _ (by rw [hf]; exact h)
  | _ => simp [V.flatv] at hv

theorem VR.of_pure {g' : Gh} {tk' : List Nat} {v : V} {x : Value} (h : VR g tk w v x) (hv : v.pure = true) (hf : g'.frz = g.frz) : VR g' tk' w v x := by
  cases h with
  | tup cs vs hl h =>
    simp only [V.pure, List.all_eq_true] at hv
    exact .tup cs vs hl fun i c v hc hx => (h i c v hc hx).of_flatv (hv c (List.mem_of_getElem? hc)) hf
  | d _ _ h h1 => exact VR.of_flatv (tk := tk) (.d _ _ h h1) rfl hf
  | da _ _ h => exact VR.of_flatv (tk := tk) (.da _ _ h) rfl hf
  | _ => simp [V.pure] at hv

/-- The cells that a value by value leans on, of the store. -/
def Lent (g : Gh) : V → Nat → Nat → Prop
  | .sl r off len sz, b, q => b = (g.obj r).1 ∧ (g.obj r).2 + off ≤ q ∧ q < (g.obj r).2 + off + len * sz
  | _, _, _ => False

theorem lent_cell (hs : Sim g σ w) {x y : V} {cx : Value} (hx : VR g σ.toks w x cx) (h : x.byVal σ = some y) {b q : Nat} (hl : Lent g x b q) : ∃ v, w.cell? ⟨b, q, none⟩ = some v := by
  cases x with
  | sl r off len sz =>
    obtain ⟨rfl, h1, h2⟩ := hl
    simp only [V.byVal, V.rows] at h
    split at h
    · rename_i rows hr
      split at hr
      · rename_i cs hobj
        cases hx with
        | sl _ _ _ _ cap a hh hcap hsz hin hout ha hsp =>
          have hlen := (hs.cells r cs hobj).1
          obtain ⟨vs, v1, v2, v3, v4⟩ := hs.stretch hobj off (len * sz) (by omega)
          have := v2 (q - ((g.obj r).2 + off)) (by omega)
          rw [show (g.obj r).2 + off + (q - ((g.obj r).2 + off)) = q by omega] at this
          exact ⟨vs[q - ((g.obj r).2 + off)]'(by omega), by rw [this]; simp [show q - ((g.obj r).2 + off) < vs.length by omega]⟩
      · cases hr
    · cases h
  | _ => exact hl.elim

theorem byVal_rel (hs : Sim g σ w) {x y : V} {cx : Value} (hx : VR g σ.toks w x cx) (h : x.byVal σ = some y) {f : Nat → Nat → Prop} (hf : ∀ b q, g.frz b q → f b q) (hl : ∀ b q, Lent g x b q → f b q) {g' : Gh} (hg' : g'.frz = f) {tk : List Nat} :
    VR g' tk w y cx ∧ y.flatv = true := by
  have hst : Stay g.frz f w w := ⟨hf, fun _ _ _ => rfl⟩
  unfold V.byVal at h
  split at h
  · cases h; cases hx with
    | d _ _ h h1 => exact ⟨.d _ _ (by rw [hg']; exact h.mono hst) h1, rfl⟩
  · cases h; cases hx with
    | da _ _ h => exact ⟨.da _ _ (by rw [hg']; exact h.mono hst), rfl⟩
  · cases h; cases hx with
    | fl _ a h => exact ⟨.d _ _ (by rw [hg']; exact h.mono hst) rfl, rfl⟩
  · cases h; cases hx with
    | tl _ t st sz k a cap hd ht hle hh hsz ha => exact ⟨.d _ _ (by rw [hg']; exact hd.mono hst) rfl, rfl⟩
  · rename_i r off len sz
    split at h
    · rename_i rows hr
      cases h
      refine ⟨?_, rfl⟩
      rcases rows_rel hs hx hr with ⟨rfl, rfl⟩ | ⟨a, cap, sz', cv, rfl, hcap, hra⟩
      · cases hx
      · have hrl : rows.length = len := by
          cases hx
          rfl
        cases hx with
        | sl _ _ _ _ _ _ hh hcap' hsz hin hout ha hsp =>
          obtain ⟨ab, ao, asp⟩ := a
          simp only at hsp
          subst hsp
          refine .d _ _ ?_ rfl
          rw [hg']
          have hmem : ∀ k, k < rows.length * sz' → f ab (ao + k) := fun k hk => by
            have hpos : 0 < rows.length := by
              rcases Nat.eq_zero_or_pos rows.length with h | h
              · rw [h] at hk; simp at hk
              · exact h
            obtain ⟨row, hrow⟩ : ∃ row, rows[0]? = some row := ⟨rows[0], by simp [hpos]⟩
            have h1 := hra.hsz 0 row hrow
            have h2 : row.length = sz := by
              simp only [V.rows] at hr
              split at hr
              · rename_i cs hobj
                split at hr
                · rename_i l hofd
                  simp only [Option.some.injEq] at hr
                  rw [← hr, rowsOf_get, if_pos hpos] at hrow
                  cases hrow
                  have hlen : cs.length = g.len r := (hs.cells r cs hobj).1
                  have hll := congrArg List.length (ofD_some hofd)
                  simp at hll
                  have : sz ≤ rows.length * sz := Nat.le_mul_of_pos_left sz hpos
                  simp
                  omega
                · cases hr
              · cases hr
            have h3 : sz' = sz := by omega
            subst h3
            have h4 : off < g.len r := by rw [hrl] at hk; omega
            have h5 := ha h4
            simp only [Addr.mk.injEq] at h5
            obtain ⟨rfl, rfl, _⟩ := h5
            exact hl _ _ ⟨rfl, by omega, by rw [hrl] at hk; omega⟩
          exact .list rows ab ao cap sz' cv hcap hra.hsz hmem (fun k hk => by have := hra.hc k hk; rw [addr_add] at this; exact this) hra.h1 (fun i row j d h1 h2 => (hra.hd i row j d h1 h2).mono hst)
    · cases h
  · cases h

theorem byVals_rel (hs : Sim g σ w) {f : Nat → Nat → Prop} (hf : ∀ b q, g.frz b q → f b q) {g' : Gh} (hg' : g'.frz = f) {tk : List Nat} : ∀ {xs ys : List V} {cxs : List Value}, VRs g σ.toks w xs cxs → byVals σ xs = some ys → (∀ x ∈ xs, ∀ b q, Lent g x b q → f b q) →
    VRs g' tk w ys cxs ∧ ∀ y ∈ ys, y.flatv = true
  | [], ys, [], _, h, _ => by simp [byVals] at h; subst h; exact ⟨trivial, by simp⟩
  | x :: xs, ys, c :: cxs, hx, h, hl => by
    simp only [byVals] at h
    split at h
    · rename_i y l hy hyl
      cases h
      obtain ⟨a1, a2⟩ := byVal_rel hs hx.1 hy hf (hl x (by simp)) hg' (tk := tk)
      obtain ⟨b1, b2⟩ := byVals_rel hs hf hg' (tk := tk) hx.2 hyl (fun x hx => hl x (by simp [hx]))
      exact ⟨⟨a1, b1⟩, fun z hz => by
        rcases List.mem_cons.1 hz with h | h
        · rw [h]; exact a2
        · exact b2 z h⟩
    · cases h
  | [], _, _ :: _, h, _, _ => h.elim
  | _ :: _, _, [], h, _, _ => h.elim

theorem lents_cell (hs : Sim g σ w) : ∀ {xs ys : List V} {cxs : List Value}, VRs g σ.toks w xs cxs → byVals σ xs = some ys → ∀ x ∈ xs, ∀ b q, Lent g x b q → ∃ v, w.cell? ⟨b, q, none⟩ = some v
  | [], _, _, _, _, x, hx => by simp at hx
  | x :: xs, ys, [], h, _, _, _ => h.elim
  | x :: xs, ys, c :: cxs, hx, h, z, hz => by
    simp only [byVals] at h
    split at h
    · rename_i y l hy hyl
      rcases List.mem_cons.1 hz with rfl | hz
      · exact fun b q hl => lent_cell hs hx.1 hy hl
      · exact lents_cell hs hx.2 hyl z hz
    · cases h

/-- What a call that comes back comes to. -/
def RetV (R : Value → World → Prop) : Ending → World → Prop
  | .returned v, w => R v w
  | _, _ => False

/-- A function that the machine enters. -/
def GoodF (P : Program) (f : Nat) : Prop := ∃ (fn : Func) (c : Code), P.funcs[f]? = some fn ∧ fn.body = some c ∧ (fn.name == "runtime.NumGoroutine") = false

theorem GoodF.run {f : Nat} (h : GoodF P f) (args : Array Value) (w : World) : (callFunc f args).run P w = .ok (.enter f args) w := by
  obtain ⟨fn, c, h1, h2, h3⟩ := h
  have h4 : fn.name ≠ "runtime.NumGoroutine" := by simpa using h3
  simp [callFunc, h1, h4, h2]

/-- The machine's own meaning of calls. -/
def SK (P : Program) (cx : Cx) : CallP := fun m f vs σ Q => GoodF P f ∧ ∀ (g : Gh) (w : World) (args : Array Value), Sim g σ w → VRs g σ.toks w vs args.toList →
  match m with
  | .raw => Calls P f args w (RetV fun v w' => ∃ g' x σ', Q x σ' ∧ Sim g' σ' w' ∧ VR g' σ'.toks w' x v ∧ Ev g σ w g' σ' w')
  | .rd => Calls P f args w (RetV fun v w' => ∃ g' x σ', Q x σ' ∧ Sim g' σ w' ∧ VR g' σ.toks w' x v ∧ Ev g σ w g' σ w')
  | .val => σ = St.empty → Calls P f args w (RetV fun v w' => ∃ f' x σ', Q x σ' ∧ (∀ b q, f' b q → ∃ u, w'.cell? ⟨b, q, none⟩ = some u) ∧ VR (Gh.bare f') [] w' x v ∧ Ev g σ w (Gh.bare f') St.empty w')

theorem RetV.mono {R R' : Value → World → Prop} (h : ∀ v w, R v w → R' v w) : ∀ e w, RetV R e w → RetV R' e w := fun e w hr => by
  cases e with
  | returned v => exact h _ _ hr
  | panicked c => exact hr.elim
  | outgrown => exact hr.elim

theorem callK_sound {cx : Cx} {f : Nat} {vs : List V} {Q : Post} (h : callK (SK P cx) cx f vs σ Q) (hs : Sim g σ w) {args : Array Value} (hv : VRs g σ.toks w vs args.toList) :
    GoodF P f ∧ Calls P f args w (RetV fun v w' => ∃ g' x σ', Q x σ' ∧ Sim g' σ' w' ∧ VR g' σ'.toks w' x v ∧ Ev g σ w g' σ' w') := by
  obtain ⟨m, h⟩ := h
  cases m with
  | raw =>
    obtain ⟨Q', h1, h2⟩ := h
    have := h1.2 g w args hs hv
    refine ⟨h1.1, ?_⟩
    exact this.mono (RetV.mono fun v w' ⟨g', x, σ', q, r⟩ => ⟨g', x, σ', h2 _ _ q, r⟩)
  | rd =>
    obtain ⟨Q', h1, h2⟩ := h
    have := h1.2 g w args hs hv
    refine ⟨h1.1, ?_⟩
    exact this.mono (RetV.mono fun v w' ⟨g', x, σ', q, r⟩ => ⟨g', x, σ, h2 _ _ q, r⟩)
  | val =>
    simp only [callM] at h
    split at h
    · rename_i ds hds
      obtain ⟨Q', h1, h2⟩ := h
      let f0 : Nat → Nat → Prop := fun b q => g.frz b q ∨ ∃ x ∈ vs, Lent g x b q
      obtain ⟨b1, b2⟩ := byVals_rel (tk := []) (g' := Gh.bare f0) hs (f := f0) (fun b q h => .inl h) rfl hv hds (fun x hx b q hl => .inr ⟨x, hx, hl⟩)
      have hcell0 : ∀ b q, f0 b q → ∃ v, w.cell? ⟨b, q, none⟩ = some v := fun b q h => by
        rcases h with h | ⟨x, hx, hl⟩
        · exact hs.frzb b q h
        · exact lents_cell hs hv hds x hx b q hl
      have := h1.2 (Gh.bare f0) w args (Sim.bare hcell0) b1
      refine ⟨h1.1, ?_⟩
      refine (this rfl).mono (RetV.mono fun v w' ⟨f', x, σ', q, hc, hx, hev⟩ => ?_)
      obtain ⟨hp, hsc, hq⟩ := h2 _ _ q
      have hheap : ∀ b, b < w.heap.size → w'.heap[b]? = w.heap[b]? := fun b hb => hev.frame b hb not_mine_empty
      by_cases hb : vs.any V.borrows = true
      · have := hs.away (w' := w') (f' := g.frz) hheap hev.size (fun _ _ h => h) (fun _ _ h => .inl h) (fun b q h => by
          obtain ⟨u, hu⟩ := hs.frzb b q h
          refine ⟨u, ?_⟩
          rw [← hu]
          unfold World.cell?
          rw [hheap b (cell_lt hu)]) hev.os hev.tape hev.output
        exact ⟨g, x, σ, hq, this.1, hx.of_scalars (hsc hb), this.2⟩
      · have hno : ∀ b q, f0 b q → g.frz b q := fun b q h => by
          rcases h with h | ⟨x, hx, hl⟩
          · exact h
          · exfalso
            apply hb
            rw [List.any_eq_true]
            refine ⟨x, hx, ?_⟩
            cases x <;> first | exact hl.elim | rfl
        have := hs.away (w' := w') (f' := f') hheap hev.size (fun b q h => hev.later.stay.frz b q (.inl h)) (fun b q h => by
          rcases hev.newf b q h with h | h | h
          · exact .inl (hno b q h)
          · exact (not_mine_empty h).elim
          · exact .inr h) hc hev.os hev.tape hev.output
        exact ⟨{ g with frz := f' }, x, σ, hq, this.1, hx.of_pure hp rfl, this.2⟩
    · exact h.elim

end Go.Dn
