import Derived.Test.YtmlkdfjojoophaaFw221
import Derived.OrdersIn
import Derived.RangeFuncRecord
/- Calls: by value, and as it stands. -/
namespace Go.Dn
open Go.Lib
set_option linter.unusedVariables false
set_option linter.unusedSimpArgs false

variable {P : Program} {g : Gh} {σ : St} {tk : List Nat} {w : World}

def Gh.bare (P : Program) (f : Nat → Nat → Prop) : Gh := { has := fun _ => False, obj := fun _ => (0, 0), len := fun _ => 0, lim := fun _ => 0, tok := fun _ => ⟨0, 0, 0, 0, 0⟩, frz := f, prog := P }

theorem Sim.bare {f : Nat → Nat → Prop} (hf : ∀ b q, f b q → ∃ v, w.cell? ⟨b, q, none⟩ = some v) : Sim (Gh.bare P f) St.empty w where
 has := fun r o h => by simp [St.empty] at h
 bound := fun r h => h.elim
 free := fun r h => by simp [St.empty] at h
 cells := fun r cs h => by simp [St.empty] at h
 oth := fun r o h => by simp [St.empty] at h
 dist := fun r r' o o' h => by simp [St.empty] at h
 nofrz := fun r o h => by simp [St.empty] at h
 tok := fun t k h => by simp [St.empty] at h
 tdist := fun t t' k k' h => by simp [St.empty] at h
 tobj := fun t k r o h => by simp [St.empty] at h
 frzb := hf
 lims := fun r cs h => by simp [St.empty] at h

theorem not_mine_empty {b : Nat} (h : Mine g St.empty b) : False := by
 rcases h with ⟨r, o, h, _⟩ | ⟨t, k, h, _⟩ <;> simp [St.empty] at h

theorem Sim.away (hs : Sim g σ w) {w' : World} {f' : Nat → Nat → Prop} (hheap : ∀ b, b < w.heap.size → w'.heap[b]? = w.heap[b]?) (hsz : w.heap.size ≤ w'.heap.size) (hsub : ∀ b q, g.frz b q → f' b q)
  (hnew : ∀ b q, f' b q → g.frz b q ∨ w.heap.size ≤ b) (hcell : ∀ b q, f' b q → ∃ v, w'.cell? ⟨b, q, none⟩ = some v) (hos : w'.os = w.os) (htape : w'.tape = w.tape) (hout : w'.output = w.output) :
  Sim { g with frz := f' } σ w' ∧ Ev g σ w { g with frz := f' } σ w' := by
 have lt : ∀ {b : Nat} {o : Go.Obj}, w.heap[b]? = some o → b < w.heap.size := fun h => (Array.getElem?_eq_some_iff.1 h).1
 have hst : Stay g.frz f' w w' := ⟨hsub, fun b q h => by
  obtain ⟨v, hv⟩ := hs.frzb b q h
  have hb := cell_lt hv
  unfold World.cell?
  rw [hheap b hb]⟩
 have hl : Later g σ.toks w { g with frz := f' } σ.toks w' := ⟨hst, fun r h => ⟨h, rfl, rfl⟩, fun t k h => ⟨k, h, Nat.le_refl _, fun _ => rfl, rfl⟩, rfl, fun _ _ => rfl⟩
 refine ⟨⟨hs.has, hs.bound, hs.free, fun r cs h => ?_, fun r o h ho => ?_, hs.dist, fun r o h ho q hq => ?_, fun t k h => ?_, hs.tdist, hs.tobj, hcell, fun r cs h => ⟨(hs.lims r cs h).1, fun c e fz hb => (hs.lims r cs h).2 c e fz (by rw [← hheap _ (hs.blk h trivial)]; exact hb)⟩⟩, ⟨hl, hsz, hos, htape, hout, fun b hb _ => hheap b hb, fun b h => .inl h, fun b q h => (hnew b q h).imp id fun h => .inr h⟩⟩
 ·obtain ⟨h1, c, e, fz, h2, h3, h4⟩ := hs.cells r cs h
  refine ⟨h1, c, e, fz, by rw [hheap _ (lt h2)]; exact h2, h3, fun j v hj => ?_⟩
  obtain ⟨cv, a1, a2, a3⟩ := h4 j v hj
  exact ⟨cv, a1, a2, a3.later hl⟩
 ·obtain ⟨x, a1, a2⟩ := hs.oth r o h ho
  exact ⟨x, by rw [hheap _ (lt a1)]; exact a1, a2.later hl⟩
 ·rcases hnew _ q hq with h1 | h1
  ·exact hs.nofrz r o h ho q h1
  ·have := hs.blk h ho
   simp only at h1
   omega
 ·obtain ⟨h1, c, e, fz, h2, h3, h4, h5⟩ := hs.tok t k h
  refine ⟨h1, c, e, fz, by rw [hheap _ (lt h2)]; exact h2, h3, h4, fun q hq hf => ?_⟩
  rcases hnew _ q hf with h6 | h6
  ·exact h5 q hq h6
  ·have := lt h2
   simp only at h6
   omega

theorem Sim.drawn (hs : Sim g σ w) (n : Nat) : Sim g σ { w with drawn := n } ∧ Ev g σ w g σ { w with drawn := n } :=
 hs.away (f' := g.frz) (fun _ _ => rfl) (Nat.le_refl _) (fun _ _ h => h) (fun _ _ h => .inl h) (fun b q h => hs.frzb b q h) rfl rfl rfl

theorem DR.scalar {f f' : Nat → Nat → Prop} {w' : World} {d : D} {v : Value} (h : DR f w d v) (hd : d.scalar = true) : DR f' w' d v := by
 cases h with
 | int k n => exact .int k n
 | bool b => exact .bool b
 | str l => exact .str l
 | nilp => exact .nilp
 | nils => exact .nils
 | nilm => exact .nilm
 | nilf => exact .nilf
 | nili => exact .nili
 | iface t d v h =>
  cases h with
  | int k n => exact .iface t _ _ (.int k n)
  | _ => simp [D.scalar] at hd
 | list => simp [D.scalar] at hd
 | list0 => simp [D.scalar] at hd
 | agg => simp [D.scalar] at hd

theorem VR.of_scalar {g' : Gh} {tk' : List Nat} {w' : World} {v : V} {x : Value} (h : VR g tk w v x) (hv : v.scalar = true) : VR g' tk' w' v x := by
 cases h with
 | d x v h h1 => exact .d _ _ (h.scalar hv) h1
 | da cs vs h =>
  cases h with
  | agg _ _ hl h1 h =>
   refine .da cs vs (.agg cs vs hl h1 fun i d v hd hx => (h i d v hd hx).scalar ?_)
   simp only [V.scalar, List.all_eq_true] at hv
   exact hv d (List.mem_of_getElem? hd)
 | _ => simp [V.scalar] at hv

theorem VR.of_scalars {g' : Gh} {tk' : List Nat} {w' : World} {v : V} {x : Value} (h : VR g tk w v x) (hv : v.scalars = true) : VR g' tk' w' v x := by
 cases h with
 | tup cs vs hl h =>
  simp only [V.scalars, List.all_eq_true] at hv
  exact .tup cs vs hl fun i c v hc hx => (h i c v hc hx).of_scalar (hv c (List.mem_of_getElem? hc))
 | d _ _ h h1 => exact VR.of_scalar (tk := tk) (.d _ _ h h1) hv
 | da _ _ h => exact VR.of_scalar (tk := tk) (.da _ _ h) hv
 | _ => simp [V.scalars, V.scalar] at hv

theorem VR.of_flatv {g' : Gh} {tk' : List Nat} {v : V} {x : Value} (h : VR g tk w v x) (hv : v.flatv = true) (hf : g'.frz = g.frz) : VR g' tk' w v x := by
 cases h with
 | d x v h h1 => exact .d _ _ (by rw [hf]; exact h) h1
 | da cs vs h => exact .da _ _ (by rw [hf]; exact h)
 | _ => simp [V.flatv] at hv

theorem VR.of_pure {g' : Gh} {tk' : List Nat} {v : V} {x : Value} (h : VR g tk w v x) (hv : v.pure = true) (hf : g'.frz = g.frz) : VR g' tk' w v x := by
 cases h with
 | tup cs vs hl h =>
  simp only [V.pure, List.all_eq_true] at hv
  exact .tup cs vs hl fun i c v hc hx => (h i c v hc hx).of_flatv (hv c (List.mem_of_getElem? hc)) hf
 | d _ _ h h1 => exact VR.of_flatv (tk := tk) (.d _ _ h h1) rfl hf
 | da _ _ h => exact VR.of_flatv (tk := tk) (.da _ _ h) rfl hf
 | _ => simp [V.pure] at hv

def Lent (g : Gh) : V → Nat → Nat → Prop
 | .sl r off len sz, b, q => b = (g.obj r).1 ∧ (g.obj r).2 + off ≤ q ∧ q < (g.obj r).2 + off + len * sz
 | _, _, _ => False

theorem lent_cell (hs : Sim g σ w) {x y : V} {cx : Value} (hx : VR g σ.toks w x cx) (h : x.byVal σ = some y) {b q : Nat} (hl : Lent g x b q) : ∃ v, w.cell? ⟨b, q, none⟩ = some v := by
 cases x with
 | sl r off len sz =>
  obtain ⟨rfl, h1, h2⟩ := hl
  simp only [V.byVal, V.rows] at h
  split at h
  ·rename_i rows hr
   split at hr
   ·rename_i cs hobj
    cases hx with
    | sl _ _ _ _ cap a hh hcap hsz hin hout ha hsp =>
     have hlen := (hs.cells r cs hobj).1
     obtain ⟨vs, v1, v2, v3, v4⟩ := hs.stretch hobj off (len * sz) (by omega)
     have := v2 (q - ((g.obj r).2 + off)) (by omega)
     rw [show (g.obj r).2 + off + (q - ((g.obj r).2 + off)) = q by omega] at this
     exact ⟨vs[q - ((g.obj r).2 + off)]'(by omega), by rw [this]; simp [show q - ((g.obj r).2 + off) < vs.length by omega]⟩
   ·cases hr
  ·cases h
 | _ => exact hl.elim

theorem byVal_rel (hs : Sim g σ w) {x y : V} {cx : Value} (hx : VR g σ.toks w x cx) (h : x.byVal σ = some y) {f : Nat → Nat → Prop} (hf : ∀ b q, g.frz b q → f b q) (hl : ∀ b q, Lent g x b q → f b q) {g' : Gh} (hg' : g'.frz = f) {tk : List Nat} :
  VR g' tk w y cx ∧ y.flatv = true := by
 have hst : Stay g.frz f w w := ⟨hf, fun _ _ _ => rfl⟩
 unfold V.byVal at h
 split at h
 ·cases h; cases hx with
  | d _ _ h h1 => exact ⟨.d _ _ (by rw [hg']; exact h.mono hst) h1, rfl⟩
 ·cases h; cases hx with
  | da _ _ h => exact ⟨.da _ _ (by rw [hg']; exact h.mono hst), rfl⟩
 ·cases h; cases hx with
  | fl _ a h => exact ⟨.d _ _ (by rw [hg']; exact h.mono hst) rfl, rfl⟩
 ·cases h; cases hx with
  | tl _ t st sz k a cap hd ht hle hh hsz ha => exact ⟨.d _ _ (by rw [hg']; exact hd.mono hst) rfl, rfl⟩
 ·rename_i r off len sz
  split at h
  ·rename_i rows hr
   cases h
   refine ⟨?_, rfl⟩
   rcases rows_rel hs hx hr with ⟨rfl, rfl⟩ | ⟨a, cap, sz', cv, rfl, hcap, hra⟩
   ·cases hx
   ·have hrl : rows.length = len := by
     cases hx
     rfl
    cases hx with
    | sl _ _ _ _ _ _ hh hcap' hsz hin hout ha hsp =>
     obtain ⟨ab, ao, asp⟩ := a
     simp only at hsp
     subst hsp
     refine .d _ _ ?_ rfl
     rw [hg']
     have hmem : ∀ k, k < rows.length * sz' → f ab (ao + k) := fun k hk => by
      have hpos : 0 < rows.length := by
       rcases Nat.eq_zero_or_pos rows.length with h | h
       ·rw [h] at hk; simp at hk
       ·exact h
      obtain ⟨row, hrow⟩ : ∃ row, rows[0]? = some row := ⟨rows[0], by simp [hpos]⟩
      have h1 := hra.hsz 0 row hrow
      have h2 : row.length = sz := by
       simp only [V.rows] at hr
       split at hr
       ·rename_i cs hobj
        split at hr
        ·rename_i l hofd
         simp only [Option.some.injEq] at hr
         rw [← hr, rowsOf_get, if_pos hpos] at hrow
         cases hrow
         have hlen : cs.length = g.len r := (hs.cells r cs hobj).1
         have hll := congrArg List.length (ofD_some hofd)
         simp at hll
         have : sz ≤ rows.length * sz := Nat.le_mul_of_pos_left sz hpos
         simp
         omega
        ·cases hr
       ·cases hr
      have h3 : sz' = sz := by omega
      subst h3
      have h4 : off < g.len r := by rw [hrl] at hk; omega
      have h5 := ha h4
      simp only [Addr.mk.injEq] at h5
      obtain ⟨rfl, rfl, _⟩ := h5
      exact hl _ _ ⟨rfl, by omega, by rw [hrl] at hk; omega⟩
     exact .list rows ab ao cap sz' cv hcap hra.hsz hmem (fun k hk => by have := hra.hc k hk; rw [addr_add] at this; exact this) hra.h1 (fun i row j d h1 h2 => (hra.hd i row j d h1 h2).mono hst)
  ·cases h
 ·cases h

theorem byVals_rel (hs : Sim g σ w) {f : Nat → Nat → Prop} (hf : ∀ b q, g.frz b q → f b q) {g' : Gh} (hg' : g'.frz = f) {tk : List Nat} : ∀ {xs ys : List V} {cxs : List Value}, VRs g σ.toks w xs cxs → byVals σ xs = some ys → (∀ x ∈ xs, ∀ b q, Lent g x b q → f b q) →
  VRs g' tk w ys cxs ∧ ∀ y ∈ ys, y.flatv = true
 | [], ys, [], _, h, _ => by simp [byVals] at h; subst h; exact ⟨trivial, by simp⟩
 | x :: xs, ys, c :: cxs, hx, h, hl => by
  simp only [byVals] at h
  split at h
  ·rename_i y l hy hyl
   cases h
   obtain ⟨a1, a2⟩ := byVal_rel hs hx.1 hy hf (hl x (by simp)) hg' (tk := tk)
   obtain ⟨b1, b2⟩ := byVals_rel hs hf hg' (tk := tk) hx.2 hyl (fun x hx => hl x (by simp [hx]))
   exact ⟨⟨a1, b1⟩, fun z hz => by
    rcases List.mem_cons.1 hz with h | h
    ·rw [h]; exact a2
    ·exact b2 z h⟩
  ·cases h
 | [], _, _ :: _, h, _, _ => h.elim
 | _ :: _, _, [], h, _, _ => h.elim

theorem lents_cell (hs : Sim g σ w) : ∀ {xs ys : List V} {cxs : List Value}, VRs g σ.toks w xs cxs → byVals σ xs = some ys → ∀ x ∈ xs, ∀ b q, Lent g x b q → ∃ v, w.cell? ⟨b, q, none⟩ = some v
 | [], _, _, _, _, x, hx => by simp at hx
 | x :: xs, ys, [], h, _, _, _ => h.elim
 | x :: xs, ys, c :: cxs, hx, h, z, hz => by
  simp only [byVals] at h
  split at h
  ·rename_i y l hy hyl
   rcases List.mem_cons.1 hz with rfl | hz
   ·exact fun b q hl => lent_cell hs hx.1 hy hl
   ·exact lents_cell hs hx.2 hyl z hz
  ·cases h

def RetV (R : Value → World → Prop) : Ending → World → Prop
 | .returned v, w => R v w
 | _, _ => False

def GoodF (P : Program) (f : Nat) : Prop := ∃ (fn : Func) (c : Code), P.funcs[f]? = some fn ∧ fn.body = some c ∧ (fn.name == "runtime.NumGoroutine") = false

theorem GoodF.run {f : Nat} (h : GoodF P f) (args : Array Value) (w : World) : (callFunc f args).run P w = .ok (.enter f args) w := by
 obtain ⟨fn, c, h1, h2, h3⟩ := h
 have h4 : fn.name ≠ "runtime.NumGoroutine" := by simpa using h3
 simp [callFunc, h1, h4, h2]

def GlobR (l : List (Nat × List D)) (g : Gh) (tk : List Nat) (w : World) : Prop := ∀ (k : Nat) (cs : List D), (k, cs) ∈ l → VR g tk w (.ro cs) (.pointer (some ⟨k, 0, none⟩))

theorem GlobR.later {l : List (Nat × List D)} {g g' : Gh} {tk tk' : List Nat} {w w' : World} (hl : Later g tk w g' tk' w') (h : GlobR l g tk w) : GlobR l g' tk' w' := fun k cs hk => (h k cs hk).later hl

theorem GlobR.frz {l : List (Nat × List D)} {g g' : Gh} {tk tk' : List Nat} {w : World} (hf : ∀ b q, g.frz b q → g'.frz b q) (h : GlobR l g tk w) : GlobR l g' tk' w := fun k cs hk => by
 have h := h k cs hk
 cases h with
 | ro _ _ _ cv hf1 hc h1 hd => exact .ro cs k 0 cv (fun k hk => hf _ _ (hf1 k hk)) hc h1 (fun k d hk => (hd k d hk).mono ⟨hf, fun _ _ _ => rfl⟩)

def SK (P : Program) (cx : Cx) : CallP := fun m f vs σ Q =>
 match m with
 | .raw => GoodF P f ∧ ∀ (g : Gh) (w : World) (args : Array Value), g.prog = P → GlobR cx.globs g σ.toks w → Sim g σ w → VRs g σ.toks w vs args.toList →
  Calls P f args w (RetV fun v w' => ∃ g' x σ', Q x σ' ∧ Sim g' σ' w' ∧ VR g' σ'.toks w' x v ∧ Ev g σ w g' σ' w')
 | .rd => GoodF P f ∧ ∀ (g : Gh) (w : World) (args : Array Value), g.prog = P → GlobR cx.globs g σ.toks w → Sim g σ w → VRs g σ.toks w vs args.toList →
  Calls P f args w (RetV fun v w' => ∃ g' x σ', Q x σ' ∧ Sim g' σ w' ∧ VR g' σ.toks w' x v ∧ Ev g σ w g' σ w')
 | .val => GoodF P f ∧ ∀ (g : Gh) (w : World) (args : Array Value), g.prog = P → GlobR cx.globs g σ.toks w → Sim g σ w → VRs g σ.toks w vs args.toList →
  σ = St.empty → Calls P f args w (RetV fun v w' => ∃ f' x σ', Q x σ' ∧ (∀ b q, f' b q → ∃ u, w'.cell? ⟨b, q, none⟩ = some u) ∧ VR (Gh.bare P f') [] w' x v ∧ Ev g σ w (Gh.bare P f') St.empty w')
 | .rnd => ∀ (g : Gh) (w : World) (args : Array Value), g.prog = P → GlobR cx.globs g σ.toks w → Sim g σ w → VRs g σ.toks w vs args.toList →
  ∃ l : Loop, w.heap[(g.obj f).1]? = some (.loop l) ∧ args.size = l.params.size ∧
   RoundIn Fence.wide 0 P (g.obj f).1 l.fn ((l.params.zip args).foldl (fun tmps (t, a) => tmps.setIfInBounds t a) l.tmps) l.assign l.body w (RetV fun v w' => ∃ g' x σ', Q x σ' ∧ Sim g' σ' w' ∧ VR g' σ'.toks w' x v ∧ Ev g σ w g' σ' w')

theorem RetV.mono {R R' : Value → World → Prop} (h : ∀ v w, R v w → R' v w) : ∀ e w, RetV R e w → RetV R' e w := fun e w hr => by
 cases e with
 | returned v => exact h _ _ hr
 | panicked c => exact hr.elim
 | outgrown => exact hr.elim

def Gh.lend (g : Gh) (v : V) : Gh := { g with frz := fun b q => g.frz b q ∨ Lent g v b q }

theorem Sim.thaw1 (hs : Sim g σ w) {r off len sz : Nat} {c : Value} (hv : VR g σ.toks w (.sl r off len sz) c) {rows : List (List D)} (h : V.rows σ (.sl r off len sz) = some rows) :
  Sim (g.lend (.sl r off len sz)) (σ.setObj r .dead) w ∧ Ev g σ w (g.lend (.sl r off len sz)) (σ.setObj r .dead) w ∧ VR (g.lend (.sl r off len sz)) σ.toks w (.d (.list rows)) c := by
 have hby : V.byVal σ (.sl r off len sz) = some (.d (.list rows)) := by simp only [V.byVal, h]
 obtain ⟨hvr, -⟩ := byVal_rel hs hv hby (f := (g.lend (.sl r off len sz)).frz) (fun b q h => .inl h) (fun b q h => .inr h) (g' := g.lend (.sl r off len sz)) rfl (tk := σ.toks)
 have hobj : ∃ cs, σ.objs[r]? = some (.cells cs) := by
  simp only [V.rows] at h
  split at h
  ·rename_i cs hcs; exact ⟨cs, hcs⟩
  ·cases h
 obtain ⟨cs, hobj⟩ := hobj
 obtain ⟨d1, d2, dlive⟩ := hs.drop hobj (by simp)
 have hl : Later g σ.toks w (g.lend (.sl r off len sz)) σ.toks w := ⟨⟨fun b q h => .inl h, fun _ _ _ => rfl⟩, fun r hr => ⟨hr, rfl, rfl⟩, fun t k ht => ⟨k, ht, Nat.le_refl _, fun _ => rfl, rfl⟩, rfl, fun _ _ => rfl⟩
 have hcell : ∀ b q, Lent g (.sl r off len sz) b q → ∃ v, w.cell? ⟨b, q, none⟩ = some v := fun b q hq => lent_cell hs hv hby hq
 refine ⟨⟨d1.has, d1.bound, d1.free, fun q cs' hq => ?_, fun q o hq ho => ?_, d1.dist, fun q o hq ho p hp => ?_, fun t k ht => ?_, d1.tdist, d1.tobj, fun b q hf => ?_, d1.lims⟩, ⟨hl, Nat.le_refl _, rfl, rfl, rfl, fun _ _ _ => rfl, fun b hb => ?_, fun b q hf => ?_⟩, hvr⟩
 ·obtain ⟨h1, c', e', fz', h2, h3, h4⟩ := d1.cells q cs' hq
  exact ⟨h1, c', e', fz', h2, h3, fun j v hj => by
   obtain ⟨cv, a1, a2, a3⟩ := h4 j v hj
   exact ⟨cv, a1, a2, a3.later hl⟩⟩
 ·obtain ⟨ho', h1, h2⟩ := d1.oth q o hq ho
  exact ⟨ho', h1, h2.later hl⟩
 ·rcases hp with hp | ⟨hb, _, _⟩
  ·exact d1.nofrz q o hq ho p hp
  ·obtain ⟨hne, hq'⟩ := dlive q o hq ho
   exact hs.dist q r o _ hq' ho hobj trivial hne hb
 ·obtain ⟨h1, c', e', fz', h2, h3, h4, h5⟩ := d1.tok t k ht
  refine ⟨h1, c', e', fz', h2, h3, h4, fun q hq hf => ?_⟩
  rcases hf with hf | ⟨hb, _, _⟩
  ·exact h5 q hq hf
  ·exact hs.tobj t k r _ ht hobj trivial hb
 ·rcases hf with hf | hf
  ·exact hs.frzb b q hf
  ·exact hcell b q hf
 ·rcases hb with ⟨q, o', h1, h2, h3⟩ | h
  ·exact .inl (.inl ⟨q, o', (dlive q o' h1 h2).2, h2, h3⟩)
  ·exact .inl (.inr h)
 ·rcases hf with hf | ⟨hb, _, _⟩
  ·exact .inl hf
  ·exact .inr (.inl (.inl ⟨r, _, hobj, trivial, hb.symm⟩))

theorem callK0_sound {cx : Cx} {f : Nat} {vs : List V} {Q : Post} (h : callK0 (SK P cx) cx f vs σ Q) (hs : Sim g σ w) (hp : g.prog = P) (hgl : GlobR cx.globs g σ.toks w) {args : Array Value} (hv : VRs g σ.toks w vs args.toList) :
  GoodF P f ∧ Calls P f args w (RetV fun v w' => ∃ g' x σ', Q x σ' ∧ Sim g' σ' w' ∧ VR g' σ'.toks w' x v ∧ Ev g σ w g' σ' w') := by
 obtain ⟨m, h⟩ := h
 cases m with
 | rnd => exact h.elim
 | raw =>
  obtain ⟨Q', h1, h2⟩ := h
  have := h1.2 g w args hp hgl hs hv
  refine ⟨h1.1, ?_⟩
  exact this.mono (RetV.mono fun v w' ⟨g', x, σ', q, r⟩ => ⟨g', x, σ', h2 _ _ q, r⟩)
 | rd =>
  obtain ⟨Q', h1, h2⟩ := h
  have := h1.2 g w args hp hgl hs hv
  refine ⟨h1.1, ?_⟩
  exact this.mono (RetV.mono fun v w' ⟨g', x, σ', q, r⟩ => ⟨g', x, σ, h2 _ _ q, r⟩)
 | val =>
  simp only [callM] at h
  split at h
  ·rename_i ds hds
   obtain ⟨Q', h1, h2⟩ := h
   let f0 : Nat → Nat → Prop := fun b q => g.frz b q ∨ ∃ x ∈ vs, Lent g x b q
   obtain ⟨b1, b2⟩ := byVals_rel (tk := []) (g' := Gh.bare P f0) hs (f := f0) (fun b q h => .inl h) rfl hv hds (fun x hx b q hl => .inr ⟨x, hx, hl⟩)
   have hcell0 : ∀ b q, f0 b q → ∃ v, w.cell? ⟨b, q, none⟩ = some v := fun b q h => by
    rcases h with h | ⟨x, hx, hl⟩
    ·exact hs.frzb b q h
    ·exact lents_cell hs hv hds x hx b q hl
   have := h1.2 (Gh.bare P f0) w args rfl (hgl.frz (g' := Gh.bare P f0) (tk' := []) (fun b q h => .inl h)) (Sim.bare hcell0) b1
   refine ⟨h1.1, ?_⟩
   refine (this rfl).mono (RetV.mono fun v w' ⟨f', x, σ', q, hc, hx, hev⟩ => ?_)
   obtain ⟨hp, hsc, hq⟩ := h2 _ _ q
   have hheap : ∀ b, b < w.heap.size → w'.heap[b]? = w.heap[b]? := fun b hb => hev.frame b hb not_mine_empty
   by_cases hb : vs.any V.borrows = true
   ·have := hs.away (w' := w') (f' := g.frz) hheap hev.size (fun _ _ h => h) (fun _ _ h => .inl h) (fun b q h => by
     obtain ⟨u, hu⟩ := hs.frzb b q h
     refine ⟨u, ?_⟩
     rw [← hu]
     unfold World.cell?
     rw [hheap b (cell_lt hu)]) hev.os hev.tape hev.output
    exact ⟨g, x, σ, hq, this.1, hx.of_scalars (hsc hb), this.2⟩
   ·have hno : ∀ b q, f0 b q → g.frz b q := fun b q h => by
     rcases h with h | ⟨x, hx, hl⟩
     ·exact h
     ·exfalso
      apply hb
      rw [List.any_eq_true]
      refine ⟨x, hx, ?_⟩
      cases x <;> first | exact hl.elim | rfl
    have := hs.away (w' := w') (f' := f') hheap hev.size (fun b q h => hev.later.stay.frz b q (.inl h)) (fun b q h => by
     rcases hev.newf b q h with h | h | h
     ·exact .inl (hno b q h)
     ·exact (not_mine_empty h).elim
     ·exact .inr h) hc hev.os hev.tape hev.output
    exact ⟨{ g with frz := f' }, x, σ, hq, this.1, hx.of_pure hp rfl, this.2⟩
  ·exact h.elim

theorem thawV_rel : ∀ {l : List V} {l' : List Value} {g : Gh} {σ σ' : St} {w : World} {pl : List V}, Sim g σ w → VRs g σ.toks w l l' → thawV σ l = some (pl, σ') →
  ∃ g', Sim g' σ' w ∧ Ev g σ w g' σ' w ∧ VRs g' σ'.toks w pl l'
 | [], [], g, σ, σ', w, pl, hs, hp, h => by
  simp only [thawV, Option.some.injEq, Prod.mk.injEq] at h
  obtain ⟨rfl, rfl⟩ := h
  exact ⟨g, hs, Ev.refl _ _ _, trivial⟩
 | v :: l, cv :: l', g, σ, σ', w, pl, hs, hp, h => by
  obtain ⟨h1, h2⟩ := hp
  have plain : (∀ {pl0 : List V} {s : St}, thawV σ l = some (pl0, s) → pl = v :: pl0 → σ' = s → ∃ g', Sim g' σ' w ∧ Ev g σ w g' σ' w ∧ VRs g' σ'.toks w pl (cv :: l')) := by
   intro pl0 s ht hpl hss
   subst hpl hss
   obtain ⟨g', a1, a2, a3⟩ := thawV_rel hs h2 ht
   exact ⟨g', a1, a2, h1.later a2.later, a3⟩
  cases v with
  | sl r off len sz =>
   simp only [thawV] at h
   split at h
   ·rename_i rows hrows
    split at h
    ·rename_i pl0 s ht
     simp only [Option.some.injEq, Prod.mk.injEq] at h
     obtain ⟨rfl, rfl⟩ := h
     obtain ⟨d1, d2, d3⟩ := hs.thaw1 h1 hrows
     obtain ⟨g', a1, a2, a3⟩ := thawV_rel (σ := σ.setObj r .dead) d1 (VRs.later d2.later h2) ht
     exact ⟨g', a1, d2.trans a2, VR.later a2.later d3, a3⟩
    ·cases h
   ·cases h
  | _ =>
   simp only [thawV] at h
   split at h
   ·rename_i pl0 s ht
    simp only [Option.some.injEq, Prod.mk.injEq] at h
    exact plain ht h.1.symm h.2.symm
   ·cases h
 | [], _ :: _, g, σ, σ', w, pl, hs, hp, h => hp.elim
 | _ :: _, [], g, σ, σ', w, pl, hs, hp, h => hp.elim
theorem callK_sound {cx : Cx} {f : Nat} {vs : List V} {Q : Post} (h : callK (SK P cx) cx f vs σ Q) (hs : Sim g σ w) (hp : g.prog = P) (hgl : GlobR cx.globs g σ.toks w) {args : Array Value} (hv : VRs g σ.toks w vs args.toList) :
  GoodF P f ∧ Calls P f args w (RetV fun v w' => ∃ g' x σ', Q x σ' ∧ Sim g' σ' w' ∧ VR g' σ'.toks w' x v ∧ Ev g σ w g' σ' w') := by
 rcases h with h | ⟨vs', σ', ht, h⟩
 ·exact callK0_sound h hs hp hgl hv
 ·obtain ⟨g1, a1, a2, a3⟩ := thawV_rel hs hv ht
  obtain ⟨r1, r2⟩ := callK0_sound h a1 (a2.later.prog.trans hp) (hgl.later a2.later) a3
  exact ⟨r1, r2.mono (RetV.mono fun v w' ⟨g', x, s, q, b1, b2, b3⟩ => ⟨g', x, s, q, b1, b2, a2.trans b3⟩)⟩

end Go.Dn

/- Instructions and regions in the order of the text. -/
namespace Go.Dn
open Go.Lib
set_option linter.unusedVariables false
set_option linter.unusedSimpArgs false

variable {P : Program} {w : World}

def Ins.simple : Ins → Bool
 | .when .. => false
 | _ => true

theorem compCall_dst {dst : Option Nat} {ty : TypeId} {c : Go.Call} {i : Ins} (h : compCall P dst ty c = some i) : i.simple = true ∧ i.dst = dst := by
 unfold compCall compBuiltin at h
 (repeat' (split at h)) <;> first | (cases h; done) | (cases h; exact ⟨rfl, rfl⟩)

theorem compOp_dst {o : Oper} {i : Ins} (h : compOp P o = some i) : i.simple = true ∧ i.dst = o.dst := by
 obtain ⟨od, oop, oty, opos, oaft, ogd⟩ := o
 cases oop <;> simp only [compOp] at h
 case call c => exact compCall_dst h
 case makeMap t r =>
  cases r with
  | none => cases h; exact ⟨rfl, rfl⟩
  | some x => cases h
 all_goals ((repeat' (split at h)) <;> first | (cases h; done) | (cases h; exact ⟨rfl, rfl⟩))

theorem nextV_mono {it : V} {σ : St} {Q Q' : Post} (hq : ∀ v s, Q v s → Q' v s) (h : nextV it σ Q) : nextV it σ Q' := by
 unfold nextV at *
 cases it with
 | iter r =>
  simp only at *
  cases ho : σ.objs[r]? with
  | none => rw [ho] at h; exact h.elim
  | some o =>
   rw [ho] at h
   cases o with
   | iter m since seen last =>
    cases m with
    | none => exact hq _ _ h
    | some m =>
     simp only at *
     cases ho2 : σ.objs[m]? with
     | none => rw [ho2] at h; exact h.elim
     | some o2 =>
      rw [ho2] at h
      cases o2 with
      | map es clock =>
       obtain ⟨h1, h2, h3, h4, h5⟩ := h
       exact ⟨h1, h2, h3, fun x hx hs => hq _ _ (h4 x hx hs), fun hs => hq _ _ (h5 hs)⟩
      | _ => exact h.elim
   | _ => exact h.elim
 | _ => exact h.elim

theorem callK0_mono {K : CallP} {cx : Cx} {f : Nat} {vs : List V} {σ : St} {Q Q' : Post} (hq : ∀ v s, Q v s → Q' v s) (h : callK0 K cx f vs σ Q) : callK0 K cx f vs σ Q' := by
 obtain ⟨m, h⟩ := h
 refine ⟨m, ?_⟩
 cases m with
 | rnd => exact h.elim
 | raw =>
  obtain ⟨q, h1, h2⟩ := h
  exact ⟨q, h1, fun v s hv => hq _ _ (h2 v s hv)⟩
 | rd =>
  obtain ⟨q, h1, h2⟩ := h
  exact ⟨q, h1, fun v s hv => hq _ _ (h2 v s hv)⟩
 | val =>
  simp only [callM] at *
  split
  ·rename_i ds hds
   rw [hds] at h
   obtain ⟨q, h1, h2⟩ := h
   exact ⟨q, h1, fun v s hv => ⟨(h2 v s hv).1, (h2 v s hv).2.1, hq _ _ (h2 v s hv).2.2⟩⟩
  ·rename_i hds
   rw [hds] at h
   exact h

theorem callK_mono {K : CallP} {cx : Cx} {f : Nat} {vs : List V} {σ : St} {Q Q' : Post} (hq : ∀ v s, Q v s → Q' v s) (h : callK K cx f vs σ Q) : callK K cx f vs σ Q' :=
 h.imp (callK0_mono hq) fun ⟨vs', σ', ht, h⟩ => ⟨vs', σ', ht, callK0_mono hq h⟩

theorem wone_mono_dst {K : CallP} {cx : Cx} {i : Ins} (hi : i.simple = true) {e : Env} {σ : St} {Q Q' : Env → St → Prop} (hq : ∀ v s, Q (putE e i.dst v) s → Q' (putE e i.dst v) s) (h : wone K cx i e σ Q) : wone K cx i e σ Q' := by
 cases i with
 | p dst op =>
  simp only [wone] at *
  split
  ·rename_i ho
   rw [if_pos ho] at h
   split
   ·rename_i v s hf; rw [hf] at h; exact hq _ _ h
   ·rename_i hf; rw [hf] at h; exact h
  rename_i ho
  rw [if_neg ho] at h
  split
  ·rename_i v hv; rw [hv] at h; exact hq _ _ h
  ·rename_i hv; rw [hv] at h
   simp only at h ⊢
   split
   ·rename_i v s hf; rw [hf] at h; exact hq _ _ h
   ·rename_i hf; rw [hf] at h; exact h
 | e dst op =>
  simp only [wone] at *
  refine h.imp (fun h => ?_) (fun h => ?_)
  ·split
   ·rename_i v hv; rw [hv] at h; exact hq _ _ h
   ·rename_i hv; rw [hv] at h; exact h
  ·split
   ·rename_i v hv; rw [hv] at h; exact hq _ _ h
   ·rename_i hv; rw [hv] at h; exact h
 | call dst f args =>
  simp only [wone] at *
  exact callK_mono (fun v s => hq v s) h
 | callv dst f args =>
  simp only [wone] at *
  split
  ·rename_i g first caps hf; rw [hf] at h; exact callK_mono (fun v s => hq v s) h
  ·rename_i r hf
   rw [hf] at h
   obtain ⟨Q1, h1, h2⟩ := h
   exact ⟨Q1, h1, fun v s hv => hq _ _ (h2 v s hv)⟩
  ·rename_i hn hn2
   split at h
   ·rename_i g first caps hf; exact (hn _ _ _ hf).elim
   ·rename_i r hf; exact (hn2 _ hf).elim
   ·exact h
 | next dst it =>
  simp only [wone] at *
  exact nextV_mono (fun v s => hq v s) h
 | «when» s want body => simp [Ins.simple] at hi

def wg (K : CallP) (cx : Cx) : List (Option (Nat × Bool) × Ins) → Env → St → (Env → St → Prop) → Prop
 | [], e, σ, Q => Q e σ
 | (none, i) :: r, e, σ, Q => wone K cx i e σ fun e' σ' => wg K cx r e' σ' Q
 | (some (s, want), i) :: r, e, σ, Q => wone K cx (.when s want [i]) e σ fun e' σ' => wg K cx r e' σ' Q

theorem get_put_ne {e : Env} {dst : Option Nat} {s : Nat} (h : dst ≠ some s) (v : V) : (putE e dst v).get s = e.get s := by
 cases dst with
 | none => rfl
 | some t =>
  simp only [putE]
  rw [Env.get_set, if_neg (fun e => h (by rw [e]))]

theorem goneOne_simple {i : Ins} (hi : i.simple = true) (e : Env) : goneOne i e = putE e i.dst .gone := by
 cases i with
 | «when» => simp [Ins.simple] at hi
 | _ => rfl

theorem wwhen_mono {K : CallP} {cx : Cx} {s : Nat} {want : Bool} {i : Ins} (hi : i.simple = true) {e : Env} {σ : St} {Q Q' : Env → St → Prop} (hq : ∀ e' s', Q e' s' → Q' e' s') (h : wone K cx (.when s want [i]) e σ Q) : wone K cx (.when s want [i]) e σ Q' := by
 simp only [wone, wins] at *
 split
 ·rename_i b hb
  rw [hb] at h
  simp only at h
  split
  ·rename_i hw; rw [if_pos hw] at h; exact wone_mono_dst hi (fun v s => hq _ _) h
  ·rename_i hw; rw [if_neg hw] at h; exact hq _ _ h
 ·rename_i hb; rw [hb] at h; exact hq _ _ h
 ·rename_i hn1 hn2
  split at h
  ·rename_i b hb; exact (hn1 _ hb).elim
  ·rename_i hb; exact (hn2 hb).elim
  ·exact h

theorem group_wg {K : CallP} {cx : Cx} {Q : Env → St → Prop} : ∀ (l : List (Option (Nat × Bool) × Ins)), (∀ p ∈ l, p.2.simple = true) → ∀ (e : Env) (σ : St), wins K cx (group l) e σ Q → wg K cx l e σ Q
 | [], _, e, σ, h => by simpa [group, wins, wg] using h
 | (none, i) :: r, hl, e, σ, h => by
  have hi := hl (none, i) (by simp)
  have ih := group_wg (K := K) (cx := cx) (Q := Q) r (fun p hp => hl p (by simp [hp]))
  simp only [group, wins, wg] at *
  exact wone_mono_dst hi (fun v s => ih _ _) h
 | (some (s, w), i) :: r, hl, e, σ, h => by
  have hi : i.simple = true := hl (some (s, w), i) (by simp)
  have ih := group_wg (K := K) (cx := cx) (Q := Q) r (fun p hp => hl p (by simp [hp]))
  have plain : wins K cx (.when s w [i] :: group r) e σ Q → wg K cx ((some (s, w), i) :: r) e σ Q := fun h => by
   simp only [wins, wg] at h ⊢
   exact wwhen_mono hi (fun _ _ => ih _ _) h
  simp only [group] at h
  split at h
  ·rename_i s' w' body r' hg
   split at h
   ·rename_i hc
    obtain ⟨rfl, rfl, hd⟩ := hc
    simp only [wg, wins, wone] at h ⊢
    split
    ·rename_i b hb
     rw [hb] at h
     simp only at h
     split
     ·rename_i hw
      rw [if_pos hw] at h
      refine wone_mono_dst hi (fun v s1 hq => ih _ _ ?_) h
      rw [hg]
      simp only [wins, wone]
      rw [get_put_ne hd, hb]
      simp only
      rw [if_pos hw]
      exact hq
     ·rename_i hw
      rw [if_neg hw] at h
      simp only [goneAll] at h ⊢
      refine ih _ _ ?_
      rw [hg]
      simp only [wins, wone]
      rw [goneOne_simple hi, get_put_ne hd, hb]
      simp only
      rw [if_neg hw, ← goneOne_simple hi]
      exact h
    ·rename_i hb
     rw [hb] at h
     simp only [goneAll] at h ⊢
     refine ih _ _ ?_
     rw [hg]
     simp only [wins, wone]
     rw [goneOne_simple hi, get_put_ne hd, hb]
     simp only
     rw [← goneOne_simple hi]
     exact h
    ·rename_i hn1 hn2
     split at h
     ·rename_i b hb; exact (hn1 _ hb).elim
     ·rename_i hb; exact (hn2 hb).elim
     ·exact h
   ·rw [← hg] at h
    exact plain h
  ·rename_i hn
   exact plain h

end Go.Dn

/- A step of a walk over a map. -/
namespace Go.Dn
open Go.Lib
set_option linter.unusedVariables false
set_option linter.unusedSimpArgs false

variable {P : Program}

theorem next_rel {g : Gh} {σ : St} {w : World} (hs : Sim g σ w) {it : V} {ci : Value} (hv : VR g σ.toks w it ci) {Q : Post} (h : nextV it σ Q) {ty : TypeId} :
  ∃ cv w' g' x σ', (Instr.next ci false ty).run P w = .ok cv w' ∧ Q x σ' ∧ Sim g' σ' w' ∧ VR g' σ'.toks w' x cv ∧ Ev g σ w g' σ' w' := by
 have v1 : ∀ {g : Gh} {tk : List Nat} {w : World}, VR g tk w (.tup [.d (.bool false)]) (.tuple #[.bool false]) := .tup _ _ rfl (fun i c v hi hv => by
  match i, hi, hv with
  | 0, hi, hv => simp at hi hv; subst hi hv; exact .bool _
  | n + 1, hi, hv => simp at hi)
 unfold nextV at h
 cases it with
 | iter r =>
  simp only at h
  cases hv with
  | iter _ hh =>
   cases ho : σ.objs[r]? with
   | none => rw [ho] at h; exact h.elim
   | some o =>
    rw [ho] at h
    cases o with
    | iter m since seen last =>
     obtain ⟨hob, b1, b2⟩ := hs.oth _ _ ho trivial
     cases hob <;> try exact b2.elim
     rename_i m' since' seen' last'
     obtain ⟨rfl, b3, rfl, b5, rfl⟩ := b2
     cases m with
     | none => exact ⟨_, w, g, _, _, by simp [Instr.next, getObj, Sem.run, b1], h, hs, v1, Ev.refl _ _ _⟩
     | some m =>
      simp only at h
      cases ho2 : σ.objs[m]? with
      | none => rw [ho2] at h; exact h.elim
      | some o2 =>
       rw [ho2] at h
       cases o2 with
       | map es clock =>
        obtain ⟨rfl, rfl, h3, h4, h5⟩ := h
        obtain ⟨hob, c1, c2⟩ := hs.oth _ _ ho2 trivial
        cases hob <;> try exact c2.elim
        rename_i es' clock'
        obtain ⟨rfl, hl, hn, hh2⟩ := c2
        have get : ∀ (i : Nat) (x : MapEntry), es'[i]? = some x → ∃ k v, es[i]? = some (x.born, k, v) ∧ VR g σ.toks w k x.key ∧ VR g σ.toks w v x.val := by
         intro i x hx
         have hi : i < es.length := by rw [hl]; exact (Array.getElem?_eq_some_iff.1 hx).1
         obtain ⟨y, a1, a2, a3, a4, a5⟩ := hh2 i es[i].1 es[i].2.1 es[i].2.2 (by simp [hi])
         rw [hx] at a1
         cases a1
         exact ⟨es[i].2.1, es[i].2.2, by rw [a2]; simp [hi], a3, a4⟩
        have hold : ∀ x ∈ es'.toList, x.born < last' := fun x hx => by
         obtain ⟨i, hi⟩ := List.getElem?_of_mem hx
         obtain ⟨k, v, e1, _⟩ := get i x (by simpa using hi)
         exact h3 _ (List.mem_of_getElem? e1)
        have hguard : (!seen'.isEmpty && !es'.isEmpty && es'.all (fun x => decide (x.born ≥ last'))) = false := by
         cases hz : es'.isEmpty with
         | true => simp
         | false =>
          have : es'.all (fun x => decide (x.born ≥ last')) = false := by
           have hpos : 0 < es'.size := by
            rcases Nat.eq_zero_or_pos es'.size with h0 | h0
            ·simp [Array.isEmpty, h0] at hz
            ·exact h0
           rw [← Array.all_toList]
           rw [List.all_eq_false]
           refine ⟨es'[0], by simp, ?_⟩
           have := hold es'[0] (by simp)
           simp
           omega
          simp [this]
        have hnew : (es'.filter fun e => !seen'.contains e.born).filter (fun x => decide (x.born ≥ last')) = #[] := by
         apply Array.ext'
         rw [Array.toList_filter, Array.toList_filter, List.filter_eq_nil_iff]
         intro x hx
         have := hold x (List.mem_filter.1 hx).1
         simp
         omega
        have hold2 : (es'.filter fun e => !seen'.contains e.born).filter (fun x => decide (x.born < last')) = es'.filter fun e => !seen'.contains e.born := by
         apply Array.ext'
         rw [Array.toList_filter]
         rw [List.filter_eq_self]
         intro x hx
         rw [Array.toList_filter] at hx
         have := hold x (List.mem_filter.1 hx).1
         simpa using this
        have hmem : ∀ x, x ∈ (es'.filter fun e => !seen'.contains e.born) ↔ x ∈ es' ∧ seen.contains x.born = false := by
         intro x
         rw [Array.mem_filter]
         simp [← b5]
        generalize hL : (es'.filter fun e => !seen'.contains e.born) = L at hnew hold2 hmem
        have hrun : ∀ (k : Nat) (w1 : World), (choose (.mapNext ((if L.isEmpty then #[none] else #[]) ++ L.map some).size)).run P w = .ok k w1 →
          (Instr.next (.pointer (some ⟨(g.obj r).1, 0, none⟩)) false ty).run P w = (match ((if L.isEmpty then #[none] else #[]) ++ L.map some)[k]? with
           | some (some e) => ((setObj (g.obj r).1 (.mapIter (some (g.obj m).1) last' (seen'.push e.born) last')).run P w1).andThen fun _ w2 => .ok (.tuple #[.bool true, e.key, e.val]) w2
           | some none => .ok (.tuple #[.bool false]) w1
           | none => (stuck "Next: no such candidate" : Sem Value).run P w1) := by
         intro k w1 hk
         simp only [Instr.next, Sem.run_bind, getObj, Sem.run, b1, Result.andThen_ok, Option.map_some, c1, hguard, hL, hnew, hold2, Array.append_empty]
         simp only [Bool.false_eq_true, if_false, Sem.run_bind, Sem.run_pure, Result.andThen_ok, hk]
         cases hc : ((if L.isEmpty then #[none] else #[]) ++ L.map some)[k]? with
         | none => rfl
         | some c => cases c <;> simp [Sem.run_bind, hk]
        by_cases hz : L.isEmpty = true
        ·have hL0 : L = #[] := by simpa using hz
         subst hL0
         have hk : (choose (.mapNext ((if (#[] : Array MapEntry).isEmpty then #[none] else #[]) ++ (#[] : Array MapEntry).map some).size)).run P w = .ok 0 w := by
          simp [choose, Sem.run, Question.forced]
         refine ⟨_, w, g, _, _, ?_, h5 (fun x hx => ?_), hs, v1, Ev.refl _ _ _⟩
         ·rw [hrun 0 w hk]
          simp
         ·obtain ⟨i, hi⟩ := List.getElem?_of_mem hx
          obtain ⟨y, a1, a2, _⟩ := hh2 i x.1 x.2.1 x.2.2 hi
          cases hcx : seen.contains x.1 with
          | true => rfl
          | false =>
           have := (hmem y).2 ⟨Array.mem_of_getElem? a1, by rw [a2]; exact hcx⟩
           simp at this
        ·have hz' : L.isEmpty = false := by simpa using hz
         have hpos : 0 < L.size := by
          rcases Nat.eq_zero_or_pos L.size with h0 | h0
          ·simp [Array.isEmpty, h0] at hz'
          ·exact h0
         have hk : ∃ (k : Nat) (d : Nat), (choose (.mapNext ((if L.isEmpty then #[none] else #[]) ++ L.map some).size)).run P w = .ok k { w with drawn := d } ∧ k < L.size := by
          simp only [hz', Bool.false_eq_true, if_false, Array.empty_append, Array.size_map]
          by_cases h1 : L.size ≤ 1
          ·exact ⟨0, w.drawn, by simp [choose, Sem.run, Question.forced, h1], hpos⟩
          ·exact ⟨w.tape w.drawn (.mapNext L.size) % L.size, w.drawn + 1, by simp [choose, Sem.run, Question.forced, h1, Question.cut], Nat.mod_lt _ hpos⟩
         obtain ⟨k, d, hk, hlt⟩ := hk
         have hcand : ((if L.isEmpty then #[none] else #[]) ++ L.map some)[k]? = some (some L[k]) := by simp [hz', hlt]
         have hm := (hmem L[k]).1 (Array.getElem_mem hlt)
         obtain ⟨i, hi, hie⟩ := Array.getElem_of_mem hm.1
         obtain ⟨q, v, e1, e2, e3⟩ := get i L[k] (by rw [← hie]; simp [hi])
         obtain ⟨d1, d2⟩ := hs.drawn d
         have ho' : ({ w with drawn := d } : World).heap[(g.obj r).1]? = some (.mapIter (some (g.obj m).1) last' seen' last') := b1
         obtain ⟨s1, s2⟩ := d1.put_oth ho trivial (o' := .iter (some m) last' (seen ++ [L[k].born]) last') (.inl trivial) (x := .mapIter (some (g.obj m).1) last' (seen'.push L[k].born) last')
          (fun _ => ⟨rfl, b3, rfl, by simp [b5], rfl⟩)
         have hv2 : VR g σ.toks w (.tup [.d (.bool true), q, v]) (.tuple #[.bool true, L[k].key, L[k].val]) := by
          refine .tup _ _ rfl (fun i c u hi hu => ?_)
          match i, hi, hu with
          | 0, hi, hu => simp at hi hu; subst hi hu; exact .bool _
          | 1, hi, hu => simp at hi hu; subst hi hu; exact e2
          | 2, hi, hu => simp at hi hu; subst hi hu; exact e3
          | n + 3, hi, hu => simp at hi
         refine ⟨_, _, g, _, _, ?_, h4 _ (List.mem_of_getElem? e1) hm.2, s1, (hv2.later d2.later).later s2.later, d2.trans s2⟩
         rw [hrun k _ hk, hcand]
         simp only
         rw [run_setObj_oth _ ho' (by intro c e f; simp)]
         rfl
       | _ => exact h.elim
    | _ => exact h.elim
 | _ => exact h.elim

end Go.Dn

/- Slices of objects, taken over by a list of slices. -/
namespace Go.Dn
open Go.Lib
set_option linter.unusedVariables false
set_option linter.unusedSimpArgs false

variable {P : Program} {g : Gh} {σ : St} {w : World}

theorem PartsR.later {g g' : Gh} {tk tk' : List Nat} {w w' : World} (hl : Later g tk w g' tk' w') {place : Nat → Option (Nat × Nat)} : ∀ {l : List (Nat × Nat × V)} {l' : List (Nat × Value)}, PartsR g tk w place l l' → PartsR g' tk' w' place l l'
 | [], [], _ => trivial
 | (_, _, _) :: _, (_, _) :: _, h => ⟨h.1, h.2.1.later hl, PartsR.later hl h.2.2⟩
 | [], _ :: _, h => h.elim
 | _ :: _, [], h => h.elim

theorem thaw_rel {place : Nat → Option (Nat × Nat)} : ∀ {l : List (Nat × Nat × V)} {l' : List (Nat × Value)} {g : Gh} {σ σ' : St} {w : World} {pl : List (Nat × Nat × V)}, Sim g σ w → PartsR g σ.toks w place l l' → thaw σ l = some (pl, σ') →
  ∃ g', Sim g' σ' w ∧ Ev g σ w g' σ' w ∧ PartsR g' σ'.toks w place pl l'
 | [], [], g, σ, σ', w, pl, hs, hp, h => by
  simp only [thaw, Option.some.injEq, Prod.mk.injEq] at h
  obtain ⟨rfl, rfl⟩ := h
  exact ⟨g, hs, Ev.refl _ _ _, trivial⟩
 | (o, n, v) :: l, (i, cv) :: l', g, σ, σ', w, pl, hs, hp, h => by
  obtain ⟨h1, h2, h3⟩ := hp
  have plain : (∀ {pl0 : List (Nat × Nat × V)} {s : St}, thaw σ l = some (pl0, s) → pl = (o, n, v) :: pl0 → σ' = s → ∃ g', Sim g' σ' w ∧ Ev g σ w g' σ' w ∧ PartsR g' σ'.toks w place pl ((i, cv) :: l')) := by
   intro pl0 s ht e1 e2
   subst e1 e2
   obtain ⟨g', a1, a2, a3⟩ := thaw_rel hs h3 ht
   exact ⟨g', a1, a2, h1, h2.later a2.later, a3⟩
  cases v with
  | sl r off len sz =>
   simp only [thaw] at h
   split at h
   ·rename_i rows hrows
    split at h
    ·rename_i l0 s ht
     simp only [Option.some.injEq, Prod.mk.injEq] at h
     obtain ⟨rfl, rfl⟩ := h
     obtain ⟨d1, d2, d3⟩ := hs.thaw1 h2 hrows
     obtain ⟨g', a1, a2, a3⟩ := thaw_rel (σ := σ.setObj r .dead) d1 (h3.later d2.later) ht
     exact ⟨g', a1, d2.trans a2, h1, d3.later a2.later, a3⟩
    ·cases h
   ·cases h
  | _ =>
   simp only [thaw] at h
   split at h
   ·rename_i l0 s ht
    simp only [Option.some.injEq, Prod.mk.injEq] at h
    obtain ⟨rfl, rfl⟩ := h
    exact plain ht rfl rfl
   ·cases h
 | [], _ :: _, _, _, _, _, _, _, h, _ => h.elim
 | _ :: _, [], _, _, _, _, _, _, h, _ => h.elim

theorem evalF_rel (hs : Sim g σ w) {n : Nat} {e : Env} {a : Act} (he : EnvR g σ.toks w n e a.tmps) {o : Oper} {dst : Option Nat} {op : POp} (hc : compOp P o = some (.p dst op)) {v : V} {σ' : St} (h : evalF op e σ = some (v, σ')) :
  dst = o.dst ∧ ∃ cv w' g', (execOp a.eval o).run P w = .ok (.value cv) w' ∧ Sim g' σ' w' ∧ VR g' σ'.toks w' v cv ∧ Ev g σ w g' σ' w' := by
 cases op with
 | bslice t0 len0 sz0 zero0 parts0 =>
  obtain ⟨od, oop, oty, opos, oaft, ogd⟩ := o
  cases oop <;> simp only [compOp] at hc
  case buildSlice t len parts =>
   split at hc
   ·rename_i el hu
    split at hc
    ·rename_i z l hz hl
     split at hc
     ·cases hc
     ·rename_i hcnd
      simp only [not_or, Decidable.not_not] at hcnd
      simp only [Option.some.injEq, Ins.p.injEq, POp.bslice.injEq] at hc
      obtain ⟨rfl, rfl, rfl, rfl, rfl, rfl⟩ := hc
      simp only [evalF] at h
      split at h
      ·rename_i pl s hth
       split at h
       ·rename_i cs hcs
        split at h
        ·rename_i ds hds
         simp only [Option.some.injEq, Prod.mk.injEq] at h
         obtain ⟨rfl, rfl⟩ := h
         obtain ⟨g', a1, a2, a3⟩ := thaw_rel hs (parts_rel he _ hl) hth
         obtain ⟨cv, w', g2, b1, b2, b3, b4⟩ := (bslice_relP (P := P) (a := a) a1 hu hz a3 hcnd.1 hcnd.2.1 hcnd.2.2 hcs hds).next
         exact ⟨rfl, cv, w', g2, b1, b2, b3, a2.trans b4⟩
        ·cases h
       ·cases h
      ·cases h
    ·cases hc
   ·cases hc
  case call c =>
   exfalso
   revert hc
   unfold compCall compBuiltin
   (repeat' split) <;> simp
  all_goals (exfalso; (repeat' (split at hc)) <;> first | contradiction | (cases hc; done) | (simp at hc; done) | (rename_i hh _ _ _ _ _ _ _; cases hh; done) | (simp_all; done))
 | _ => simp [evalF] at h

theorem evalB_rel (hs : Sim g σ w) {n : Nat} {e : Env} {a : Act} (he : EnvR g σ.toks w n e a.tmps) {o : Oper} {dst : Option Nat} {op : POp} (hc : compOp P o = some (.p dst op)) {v : V} {σ' : St} (h : evalB op e σ = some (v, σ')) :
  dst = o.dst ∧ ∃ cv w' g', (execOp a.eval o).run P w = .ok (.value cv) w' ∧ Sim g' σ' w' ∧ VR g' σ'.toks w' v cv ∧ Ev g σ w g' σ' w' := by
 cases op with
 | bslice t0 len0 sz0 zero0 parts0 =>
  obtain ⟨od, oop, oty, opos, oaft, ogd⟩ := o
  cases oop <;> simp only [compOp] at hc
  case buildSlice t len parts =>
   split at hc
   ·rename_i el hu
    split at hc
    ·rename_i z l hz hl
     split at hc
     ·cases hc
     ·rename_i hcnd
      simp only [not_or, Decidable.not_not] at hcnd
      simp only [Option.some.injEq, Ins.p.injEq, POp.bslice.injEq] at hc
      obtain ⟨rfl, rfl, rfl, rfl, rfl, rfl⟩ := hc
      simp only [evalB] at h
      split at h
      ·rename_i cs hcs
       obtain ⟨hp, rfl⟩ := newObj_inv h
       obtain ⟨vs', r1, r2, r3, r4⟩ := bslice_run (P := P) (a := a) hs hu hz (parts_rel he _ hl) hcnd.1 hcnd.2.1 hcnd.2.2 hcs
       obtain ⟨s1, s2⟩ := hs.new_obj hp r1 r2 (grown_push w (.cells vs' el))
       have hsz : vs'.size = len * P.cellsOf el := by have := r1.length; simp at this; omega
       have hvr := VR.sl (g := g.add (σ.spot none) w.heap.size cs.length vs'.size) (tk := σ'.toks) (w := { w with heap := w.heap.push (.cells vs' el) }) (σ.spot none) 0 len (P.cellsOf el) len ⟨w.heap.size, 0, none⟩ (.inr rfl) (Nat.le_refl _) (by omega)
        (by simp [Gh.add]; omega) (by simp [Gh.add]; omega) (fun _ => by simp [Gh.add]) rfl (by simp [Gh.add]; omega)
       refine ⟨rfl, _, _, _, ?_, s1, hvr, s2⟩
       simp only [execOp, Sem.run_bind, r4, Result.andThen_ok, Sem.run_pure]
      ·cases h
    ·cases hc
   ·cases hc
  case call c =>
   exfalso
   revert hc
   unfold compCall compBuiltin
   (repeat' split) <;> simp
  all_goals (exfalso; (repeat' (split at hc)) <;> first | contradiction | (cases hc; done) | (simp at hc; done) | (rename_i hh _ _ _ _ _ _ _; cases hh; done) | (simp_all; done))
 | _ => simp [evalB] at h

end Go.Dn

/- Operations and regions are what they compile to. -/
namespace Go.Dn
open Go.Lib
set_option linter.unusedVariables false
set_option linter.unusedSimpArgs false

variable {P : Program}

def FW (ro : Option Nat) : Fence := { Fence.wide with round := ro }
def Marks (g : Gh) (σ : St) (w0 w : World) (ds : List Deferred) : Prop := ∃ rs : List Nat, ds = rs.map (fun r => { target := .collected r, args := #[] }) ∧ rs.Nodup ∧ ∀ r ∈ rs, w0.heap.size ≤ r ∧ w.heap[r]? = some (.deferred (some [])) ∧ ¬ Mine g σ r

theorem Marks.ev {g g' : Gh} {σ σ' : St} {w0 w w' : World} {ds : List Deferred} (h : Marks g σ w0 w ds) (hev : Ev g σ w g' σ' w') : Marks g' σ' w0 w' ds := by
 obtain ⟨rs, h1, hn, h⟩ := h
 refine ⟨rs, h1, hn, fun r hr => ?_⟩
 obtain ⟨h2, h3, h4⟩ := h r hr
 have hlt : r < w.heap.size := (Array.getElem?_eq_some_iff.1 h3).1
 refine ⟨h2, by rw [hev.frame r hlt h4]; exact h3, fun hm => ?_⟩
 rcases hev.mine r hm with h | h
 ·exact h4 h
 ·omega

structure Kx (P : Program) (cx : Cx) (g : Gh) (tk : List Nat) (w : World) : Prop where
 prog : g.prog = P
 globs : GlobR cx.globs g tk w
theorem Kx.later {cx : Cx} {g g' : Gh} {tk tk' : List Nat} {w w' : World} (h : Kx P cx g tk w) (hl : Later g tk w g' tk' w') : Kx P cx g' tk' w' := ⟨hl.prog.trans h.prog, h.globs.later hl⟩

def At (P : Program) (cx : Cx) (n : Nat) (g0 : Gh) (σ0 : St) (w0 : World) (e : Env) (σ : St) (a : Act) (w : World) : Prop :=
 ∃ g, Sim g σ w ∧ EnvR g σ.toks w n e a.tmps ∧ (Marks g σ w0 w a.defers ∧ Kx P cx g σ.toks w) ∧ Ev g0 σ0 w0 g σ w

variable {n : Nat} {g0 : Gh} {σ0 : St} {w0 : World} {ro : Option Nat}

theorem mk_ev {cx : Cx} {g g' : Gh} {σ σ' : St} {w w' : World} {a : Act} {dst : Option Nat} {x : Value} (h : Marks g σ w0 w a.defers ∧ Kx P cx g σ.toks w) (hev : Ev g σ w g' σ' w') : Marks g' σ' w0 w' (a.put dst x).defers ∧ Kx P cx g' σ'.toks w' := by
 cases dst <;> exact ⟨h.1.ev hev, h.2.later hev.later⟩

theorem compOp_defer {o : Oper} {i : Ins} (h : compOp P o = some i) : ∀ c, o.op ≠ .defer c := by
 intro c e
 obtain ⟨od, oop, oty, opos, oaft, ogd⟩ := o
 simp only at e
 subst e
 simp [compOp] at h

theorem EnvR.put {g : Gh} {tk : List Nat} {w : World} {e : Env} {a : Act} (h : EnvR g tk w n e a.tmps) {dst : Option Nat} (hd : dst.all (· < n) = true) {v : V} {x : Value} (hv : VR g tk w v x) :
  EnvR g tk w n (putE e dst v) (a.put dst x).tmps := by
 cases dst with
 | none => exact h
 | some s => exact h.set (by simpa using hd) hv

theorem compCall_call {dst d' : Option Nat} {ty : TypeId} {c : Go.Call} {f : Nat} {l : List Opd} (h : compCall P dst ty c = some (.call d' f l)) :
  c.callee = .value (.func f) ∧ compOpds c.args.toList = some l ∧ d' = dst := by
 unfold compCall compBuiltin at h
 split at h
 case h_1 hc =>
  (repeat' (split at h)) <;> first | (cases h; done) | skip
  cases h
  exact ⟨hc, by assumption, rfl⟩
 all_goals (exfalso; (repeat' (split at h)) <;> first | (cases h; done) | (simp at h; done))

theorem compCall_callv {dst d' : Option Nat} {ty : TypeId} {c : Go.Call} {f : Opd} {l : List Opd} (h : compCall P dst ty c = some (.callv d' f l)) :
  ∃ t, c.callee = .value (.tmp t) ∧ f = .t t ∧ t < GB ∧ compOpds c.args.toList = some l ∧ d' = dst := by
 unfold compCall compBuiltin at h
 split at h
 case h_2 t hc =>
  (repeat' (split at h)) <;> first | (cases h; done) | skip
  cases h
  exact ⟨t, hc, rfl, by assumption, by assumption, rfl⟩
 all_goals (exfalso; (repeat' (split at h)) <;> first | (cases h; done) | (simp at h; done))

theorem compOp_call {o : Oper} {i : Ins} (h : compOp P o = some i) (hi : (∃ d f l, i = .call d f l) ∨ (∃ d f l, i = .callv d f l)) : ∃ c, o.op = .call c ∧ compCall P o.dst o.type c = some i := by
 obtain ⟨od, oop, oty, opos, oaft, ogd⟩ := o
 cases oop <;> simp only [compOp] at h
 case call c => exact ⟨c, rfl, h⟩
 case makeMap t r =>
  exfalso
  cases r with
  | none => cases h; rcases hi with ⟨_, _, _, h⟩ | ⟨_, _, _, h⟩ <;> cases h
  | some x => cases h
 all_goals (exfalso; rcases hi with ⟨_, _, _, rfl⟩ | ⟨_, _, _, rfl⟩ <;> (repeat' (split at h)) <;> first | (cases h; done) | (simp at h; done))

theorem compOp_next {o : Oper} {dst : Option Nat} {it : Opd} (h : compOp P o = some (.next dst it)) : ∃ x, o.op = .next x false ∧ compOpd x = some it ∧ dst = o.dst := by
 obtain ⟨od, oop, oty, opos, oaft, ogd⟩ := o
 cases oop <;> simp only [compOp] at h
 case next x str =>
  split at h
  ·rename_i a ha
   cases str
   ·simp at h
    obtain ⟨rfl, rfl⟩ := h
    exact ⟨x, rfl, ha, rfl⟩
   ·simp at h
  ·cases h
 case makeMap t r =>
  exfalso
  cases r with
  | none => cases h
  | some x => cases h
 case call c =>
  exfalso
  unfold compCall compBuiltin at h
  (repeat' (split at h)) <;> first | (cases h; done) | (simp at h; done)
 all_goals (exfalso; (repeat' (split at h)) <;> first | (cases h; done) | (simp at h; done))

theorem upon_enter_sound {o : Oper} {a : Act} {w1 : World} {f : Nat} {args : Array Value} {K : Act → World → Prop} {R : Exit → Act → World → Prop} {next : Value → World → Prop}
  (hc : Calls P f args w1 (RetV next)) (hn : ∀ v w', next v w' → K (a.put o.dst v) w') : o.uponIn (FW ro) 0 P a K R (.ok (.enter f args) w1) := by
 rw [Oper.uponIn_enter]
 refine ⟨fun h => by simp [FW, Fence.wide] at h, ?_⟩
 have hc' : CallsIn (FW ro) (0 - 1) P f args w1 (RetV next) := callsIn_wide.2 hc
 refine hc'.mono fun e w' h => ?_
 cases e with
 | returned v => exact hn _ _ h
 | panicked c => exact h.elim
 | outgrown => exact h.elim

theorem wone_sound {cx : Cx} {o : Oper} {i : Ins} (hc : compOp P o = some i) (hd : o.dst.all (· < n) = true) {e : Env} {σ : St} {Q : Env → St → Prop} (h : wone (SK P cx) cx i e σ Q) {a : Act} {w : World} (ha : At P cx n g0 σ0 w0 e σ a w)
  {K : Act → World → Prop} {R : Exit → Act → World → Prop} (hK : ∀ e' σ' a' w', Q e' σ' → At P cx n g0 σ0 w0 e' σ' a' w' → K a' w') : o.wpIn (FW ro) 0 P a w K R := by
 obtain ⟨g, hs, he, hdef, hev⟩ := ha
 unfold Oper.wpIn
 refine ⟨fun _ _ => trivial, ?_⟩
 rw [Oper.semAt_eq _ _ _ (compOp_defer hc)]
 cases i with
 | p dst op =>
  simp only [wone] at h
  split at h
  ·split at h
   ·rename_i v s hv
    obtain ⟨rfl, cv, w', g', hrun, hs', hv', hev'⟩ := evalB_rel hs he hc hv
    rw [hrun, Oper.uponIn_value]
    exact hK _ _ _ _ h ⟨g', hs', (he.later hev'.later).put hd hv', mk_ev hdef hev', hev.trans hev'⟩
   ·exact h.elim
  split at h
  ·rename_i v hv
   obtain ⟨rfl, cv, w', g', hrun, hs', hv', hev'⟩ := evalP_rel hs he hc hv
   rw [hrun, Oper.uponIn_value]
   exact hK _ _ _ _ h ⟨g', hs', (he.later hev'.later).put hd hv', mk_ev hdef hev', hev.trans hev'⟩
  ·split at h
   ·rename_i v s hv
    obtain ⟨rfl, cv, w', g', hrun, hs', hv', hev'⟩ := evalF_rel hs he hc hv
    rw [hrun, Oper.uponIn_value]
    exact hK _ _ _ _ h ⟨g', hs', (he.later hev'.later).put hd hv', mk_ev hdef hev', hev.trans hev'⟩
   ·exact h.elim
 | e dst op =>
  simp only [wone] at h
  rcases h with h | h
  ·split at h
   ·rename_i v σ' hv
    obtain ⟨rfl, cv, w', g', hrun, hs', hv', hev'⟩ := evalE_rel hs he hc hv
    rcases hrun with hrun | ⟨hrun, rfl⟩
    ·rw [hrun, Oper.uponIn_value]
     exact hK _ _ _ _ h ⟨g', hs', (he.later hev'.later).put hd hv', mk_ev hdef hev', hev.trans hev'⟩
    ·rw [hrun, Oper.uponIn_skip]
     exact hK _ _ _ _ h ⟨g', hs', (he.later hev'.later).put hd hv', mk_ev hdef hev', hev.trans hev'⟩
   ·exact h.elim
  ·split at h
   ·rename_i v σ' hv
    obtain ⟨rfl, cv, w', g', hrun, hs', hv', hev'⟩ := evalM_rel hs he hc hv
    rcases hrun with hrun | ⟨hrun, rfl⟩
    ·rw [hrun, Oper.uponIn_value]
     exact hK _ _ _ _ h ⟨g', hs', (he.later hev'.later).put hd hv', mk_ev hdef hev', hev.trans hev'⟩
    ·rw [hrun, Oper.uponIn_skip]
     exact hK _ _ _ _ h ⟨g', hs', (he.later hev'.later).put hd hv', mk_ev hdef hev', hev.trans hev'⟩
   ·exact h.elim
 | call dst f args =>
  simp only [wone] at h
  obtain ⟨c, hop, hcc⟩ := compOp_call hc (.inl ⟨_, _, _, rfl⟩)
  obtain ⟨h1, h2, rfl⟩ := compCall_call hcc
  have hv := opds_vrs he h2
  obtain ⟨hg, hcalls⟩ := callK_sound h hs hdef.2.prog hdef.2.globs (args := #[] ++ c.args.map a.eval ++ #[]) (by simpa using hv)
  have hx : execOp a.eval o = callFunc f (#[] ++ c.args.map a.eval ++ #[]) := by
   obtain ⟨od, oop, oty, opos, oaft, ogd⟩ := o
   obtain ⟨cc, ca, ct⟩ := c
   simp only at hop h1
   subst hop h1
   rfl
  rw [hx, hg.run]
  exact upon_enter_sound hcalls fun v w' ⟨g', x, σ', q, hs', hv', hev'⟩ =>
   hK _ _ _ _ q ⟨g', hs', (he.later hev'.later).put hd hv', mk_ev hdef hev', hev.trans hev'⟩
 | callv dst f args =>
  simp only [wone] at h
  obtain ⟨c, hop, hcc⟩ := compOp_call hc (.inr ⟨_, _, _, rfl⟩)
  obtain ⟨t, h1, rfl, htl, h2, rfl⟩ := compCall_callv hcc
  split at h
  ·rename_i f first caps hf
   have hfn := he.at htl
   simp only [Opd.ev] at hf
   rw [hf] at hfn
   generalize htv : a.tmps.getD t undef = tv at hfn
   cases hfn with
   | fn _ _ _ first' caps' hl hl' hh hh' =>
    have hv := opds_vrs he h2
    have v1 : VRs g σ.toks w first first'.toList := VRs.of_get (by simpa using hl) (fun i c v h1 h2 => hh i c v h1 (by simpa using h2))
    have v2 : VRs g σ.toks w caps caps'.toList := VRs.of_get (by simpa using hl') (fun i c v h1 h2 => hh' i c v h1 (by simpa using h2))
    obtain ⟨hg, hcalls⟩ := callK_sound h hs hdef.2.prog hdef.2.globs (args := first' ++ c.args.map a.eval ++ caps') (by simpa using (v1.append (hv.append v2)))
    have hx : execOp a.eval o = callFunc f (first' ++ c.args.map a.eval ++ caps') := by
     obtain ⟨od, oop, oty, opos, oaft, ogd⟩ := o
     obtain ⟨cc, ca, ct⟩ := c
     simp only at hop h1
     subst hop h1
     simp only [execOp, resolve, Act.eval, htv, Deferred.ofValue]
     rfl
    rw [hx, hg.run]
    exact upon_enter_sound hcalls fun v w' ⟨g', x, σ', q, hs', hv', hev'⟩ =>
     hK _ _ _ _ q ⟨g', hs', (he.later hev'.later).put hd hv', mk_ev hdef hev', hev.trans hev'⟩
  ·rename_i r hf
   have hfn := he.at htl
   simp only [Opd.ev] at hf
   rw [hf] at hfn
   generalize htv : a.tmps.getD t undef = tv at hfn
   obtain ⟨Q1, hk, hq⟩ := h
   have hv := opds_vrs he h2
   obtain ⟨l, l1, l2, l3⟩ := hk g w (c.args.map a.eval) hdef.2.prog hdef.2.globs hs (by simpa using hv)
   cases hfn with
   | yld _ hh =>
    have hx : execOp a.eval o = Instr.yield (g.obj r).1 (#[] ++ c.args.map a.eval) := by
     obtain ⟨od, oop, oty, opos, oaft, ogd⟩ := o
     obtain ⟨cc, ca, ct⟩ := c
     simp only at hop h1
     subst hop h1
     simp only [execOp, resolve, Act.eval, htv, Deferred.ofValue]
     rfl
    rw [hx, Array.empty_append, run_yield l1 l2, Oper.uponIn_round]
    refine ⟨fun h => by simp [FW, Fence.wide] at h, ?_⟩
    have l4 : RoundIn (FW ro) (0 - 1) P (g.obj r).1 l.fn ((l.params.zip (c.args.map a.eval)).foldl (fun tmps (t, a) => tmps.setIfInBounds t a) l.tmps) l.assign l.body w _ := l3
    refine l4.mono fun e w' h => ?_
    cases e with
    | returned v =>
     obtain ⟨g', x, σ', q, hs', hv', hev'⟩ := h
     exact hK _ _ _ _ (hq _ _ q) ⟨g', hs', (he.later hev'.later).put hd hv', mk_ev hdef hev', hev.trans hev'⟩
    | panicked c => exact h.elim
    | outgrown => exact h.elim
  ·exact h.elim
 | next dst it =>
  simp only [wone] at h
  obtain ⟨it', hop, hci, rfl⟩ := compOp_next hc
  obtain ⟨cv, w', g', x, σ', hrun, hq, hs', hv', hev'⟩ := next_rel (P := P) (ty := o.type) hs (opd_rel hci he) h
  have hx : execOp a.eval o = (do pure (.value (← Instr.next (a.eval it') false o.type))) := by
   obtain ⟨od, oop, oty, opos, oaft, ogd⟩ := o
   simp only at hop
   subst hop
   rfl
  rw [hx]
  simp only [Sem.run_bind, hrun, Result.andThen_ok, Sem.run_pure]
  rw [Oper.uponIn_value]
  exact hK _ _ _ _ hq ⟨g', hs', (he.later hev'.later).put hd hv', mk_ev hdef hev', hev.trans hev'⟩
 | «when» s want body =>
  have := (compOp_dst hc).1
  simp [Ins.simple] at this

theorem yielded_bool {g : Gh} {tk : List Nat} {w : World} {e : Env} {a : Act} (he : EnvR g tk w n e a.tmps) {ops : Array Oper} {j s : Nat} (hj : (ops[j]?).bind (·.dst) = some s) {b : Bool} (hb : e.get s = .d (.bool b)) :
  yielded ops a.tmps j = some b := by
 have h := he.2 s
 rw [hb] at h
 have h := h.inv_bool
 unfold slotV at h
 split at h
 case isFalse => cases h
 unfold yielded
 rw [hj]
 have : a.tmps[s]? = some (.bool b) := by
  rw [Array.getD_eq_getD_getElem?] at h
  cases ht : a.tmps[s]? with
  | none => rw [ht] at h; simp [undef] at h
  | some x => rw [ht] at h; simpa using h
 simp [this]

theorem yielded_gone {g : Gh} {tk : List Nat} {w : World} {e : Env} {a : Act} (he : EnvR g tk w n e a.tmps) {ops : Array Oper} {j s : Nat} (hj : (ops[j]?).bind (·.dst) = some s) (hb : e.get s = .gone) :
  yielded ops a.tmps j = none := by
 have h := he.2 s
 rw [hb] at h
 unfold slotV at h
 split at h
 case isFalse => cases h
 generalize htv : a.tmps.getD s undef = tv at h
 cases h
 unfold yielded
 rw [hj]
 rw [Array.getD_eq_getD_getElem?] at htv
 cases ht : a.tmps[s]? with
 | none => simp [ht]
 | some x => rw [ht] at htv; simp at htv; simp [ht, htv, undef]

theorem compOne_inv {ops : Array Oper} {o : Oper} {gd : Option (Nat × Bool)} {i : Ins} (h : compOne P n ops o = some (gd, i)) :
  compOp P o = some i ∧ o.dst.all (· < n) = true ∧ ((o.guard = none ∧ gd = none) ∨ ∃ j s w, o.guard = some (j, w) ∧ (ops[j]?).bind (·.dst) = some s ∧ gd = some (s, w)) := by
 unfold compOne at h
 split at h
 ·cases h
 ·rename_i i' hi
  split at h
  ·rename_i hd
   split at h
   ·rename_i hg
    cases h
    exact ⟨hi, hd, .inl ⟨hg, rfl⟩⟩
   ·rename_i j w hg
    split at h
    ·rename_i s hs
     cases h
     exact ⟨hi, hd, .inr ⟨j, s, w, hg, hs, rfl⟩⟩
    ·cases h
  ·cases h

def wgd (K : CallP) (cx : Cx) (gd : Option (Nat × Bool)) (i : Ins) (e : Env) (σ : St) (Q : Env → St → Prop) : Prop :=
 match gd with
 | none => wone K cx i e σ Q
 | some (s, want) => wone K cx (.when s want [i]) e σ Q

theorem wpOp_sound {cx : Cx} {ops : Array Oper} {o : Oper} {gd : Option (Nat × Bool)} {i : Ins} (hc : compOne P n ops o = some (gd, i)) {k : Nat} (hk : ops[k]? = some o) {e : Env} {σ : St} {Q : Env → St → Prop}
  (h : wgd (SK P cx) cx gd i e σ Q) {a : Act} {w : World} (ha : At P cx n g0 σ0 w0 e σ a w)
  {K : Act → World → Prop} {R : Exit → Act → World → Prop} (hK : ∀ e' σ' a' w', Q e' σ' → At P cx n g0 σ0 w0 e' σ' a' w' → K a' w') : wpOpIn (FW ro) 0 P ops R k K a w := by
 obtain ⟨h1, h2, h3⟩ := compOne_inv hc
 obtain ⟨hsim, hdst⟩ := compOp_dst h1
 unfold wpOpIn
 rw [hk]
 simp only
 have skip : ∀ e' : Env, e' = putE e o.dst .gone → Q e' σ → K (a.put o.dst undef) w := fun e' he' hq => by
  obtain ⟨g, hs, he, hdef, hev⟩ := ha
  subst he'
  exact hK _ _ _ _ hq ⟨g, hs, he.put h2 .gone, mk_ev hdef (Ev.refl _ _ _), hev⟩
 rcases h3 with ⟨hg, rfl⟩ | ⟨j, s, want, hg, hj, rfl⟩
 ·have hw : Region.wanted o (yielded ops a.tmps) = true := by simp [Region.wanted, hg]
  rw [if_pos hw]
  exact wone_sound h1 h2 h ha hK
 ·simp only [wgd, wone, wins] at h
  have ha' := ha
  obtain ⟨g, hs, he, hdef, hev⟩ := ha'
  split at h
  ·rename_i b hb
   have hy := yielded_bool he hj hb
   have hw : Region.wanted o (yielded ops a.tmps) = (b == want) := by simp [Region.wanted, hg, hy]
   split at h
   ·rename_i hbw
    rw [hw, hbw, if_pos (by simp)]
    exact wone_sound h1 h2 h ha hK
   ·rename_i hbw
    rw [hw, if_neg (by simpa using hbw)]
    refine ⟨fun _ _ => trivial, skip _ ?_ h⟩
    simp only [goneAll, goneOne_simple hsim, hdst]
  ·rename_i hb
   have hy := yielded_gone he hj hb
   have hw : Region.wanted o (yielded ops a.tmps) = false := by simp [Region.wanted, hg, hy]
   rw [hw, if_neg (by simp)]
   refine ⟨fun _ _ => trivial, skip _ ?_ h⟩
   simp only [goneAll, goneOne_simple hsim, hdst]
  ·exact h.elim

theorem compList_simple {ops : Array Oper} : ∀ {os : List Oper} {l : List (Option (Nat × Bool) × Ins)}, compList P n ops os = some l → ∀ p ∈ l, p.2.simple = true
 | [], l, h => by simp [compList] at h; subst h; simp
 | o :: r, l, h => by
  simp only [compList] at h
  split at h
  ·rename_i x l' hx hl
   cases h
   intro p hp
   rcases List.mem_cons.1 hp with rfl | hp
   ·exact (compOp_dst (compOne_inv (gd := p.1) (i := p.2) hx).1).1
   ·exact compList_simple hl p hp
  ·cases h

theorem wg_sound {cx : Cx} {ops : Array Oper} {Q : Env → St → Prop} {R : Exit → Act → World → Prop} (hQ : ∀ e σ a w, Q e σ → At P cx n g0 σ0 w0 e σ a w → R .normal a w) :
  ∀ (os : List Oper) (k : Nat), ops.toList.drop k = os → ∀ (l : List (Option (Nat × Bool) × Ins)), compList P n ops os = some l → ∀ (e : Env) (σ : St), wg (SK P cx) cx l e σ Q → ∀ (a : Act) (w : World), At P cx n g0 σ0 w0 e σ a w →
   wpOpsIn (FW ro) 0 P ops R (List.range' k os.length) a w
 | [], k, hk, l, hl, e, σ, h, a, w, ha => by
  simp [compList] at hl
  subst hl
  exact hQ _ _ _ _ h ha
 | o :: r, k, hk, l, hl, e, σ, h, a, w, ha => by
  simp only [compList] at hl
  split at hl
  ·rename_i x l' hx hl'
   cases hl
   have ho : ops[k]? = some o := by
    have := congrArg (·[0]?) hk
    simp only [List.getElem?_drop] at this
    simpa using this
   have hr : ops.toList.drop (k + 1) = r := by
    rw [← List.drop_drop, hk]; rfl
   rw [List.length_cons, List.range'_succ, wpOpsIn_cons]
   obtain ⟨gd, i⟩ := x
   refine wpOp_sound (cx := cx) (Q := fun e' σ' => wg (SK P cx) cx l' e' σ' Q) hx ho ?_ ha (fun e' σ' a' w' h' ha' => wg_sound hQ r (k + 1) hr l' hl' e' σ' h' a' w' ha')
   cases gd with
   | none => exact h
   | some p => exact h
  ·cases hl

theorem region_sound {cx : Cx} {id : Nat} {ops : Array Oper} {l : List (Option (Nat × Bool) × Ins)} (hl : compList P n ops ops.toList = some l) {Q : Env → St → Prop} {e : Env} {σ : St} (h : wins (SK P cx) cx (group l) e σ Q) {a : Act} {w : World}
  (ha : At P cx n g0 σ0 w0 e σ a w) {R : Exit → Act → World → Prop} (hQ : ∀ e σ a w, Q e σ → At P cx n g0 σ0 w0 e σ a w → R .normal a w) : (Code.region id ops false).wpIn (FW ro) 0 P R a w := by
 apply wpIn_region
 have := wg_sound (ro := ro) hQ ops.toList 0 rfl l hl e σ (group_wg l (compList_simple hl) e σ h) a w ha
 rw [List.range_eq_range']
 simpa using this

end Go.Dn

/- Regions that draw their order; code. -/
namespace Go.Dn
open Go.Lib
set_option linter.unusedVariables false
set_option linter.unusedSimpArgs false

variable {P : Program} {n : Nat} {g0 : Gh} {σ0 : St} {w0 : World} {ro : Option Nat}

theorem room_get {σ : St} {m r : Nat} {o : Obj} (h : (σ.room m).objs[r]? = some o) : σ.objs[r]? = some o ∨ (σ.objs.length ≤ r ∧ o = .free) := by
 simp only [St.room] at h
 rcases Nat.lt_or_ge r σ.objs.length with hlt | hge
 ·rw [List.getElem?_append_left hlt] at h; exact .inl h
 ·rw [List.getElem?_append_right hge, List.getElem?_replicate] at h
  split at h
  ·cases h; exact .inr ⟨hge, rfl⟩
  ·cases h

theorem room_live {σ : St} {m r : Nat} {o : Obj} (h : (σ.room m).objs[r]? = some o) (hl : o.live) : σ.objs[r]? = some o := by
 rcases room_get h with h | ⟨_, rfl⟩
 ·exact h
 ·exact hl.elim

theorem mine_room {g : Gh} {σ : St} {m b : Nat} (h : Mine g (σ.room m) b) : Mine g σ b := by
 rcases h with ⟨r, o, h1, h2, h3⟩ | h
 ·exact .inl ⟨r, o, room_live h1 h2, h2, h3⟩
 ·exact .inr h

theorem Sim.room {g : Gh} {σ : St} {w : World} (hs : Sim g σ w) (m : Nat) : Sim g (σ.room m) w ∧ Ev g σ w g (σ.room m) w := by
 refine ⟨⟨fun r o h hl => hs.has r o (room_live h hl) hl, fun r h => ?_, fun r h => ?_, fun r cs h => hs.cells r cs (room_live h trivial), fun r o h ho => hs.oth r o (room_live h ho.live) ho, fun r r' o o' h hl h' hl' => hs.dist r r' o o' (room_live h hl) hl (room_live h' hl') hl',
  fun r o h hl => hs.nofrz r o (room_live h hl) hl, hs.tok, hs.tdist, fun t k r o ht h hl => hs.tobj t k r o ht (room_live h hl) hl, hs.frzb, fun r cs h => hs.lims r cs (room_live h trivial)⟩, Later.refl _ _ _, Nat.le_refl _, rfl, rfl, rfl, fun _ _ _ => rfl, fun b h => .inl (mine_room h), fun _ _ h => .inl h⟩
 ·have := hs.bound r h
  simp only [St.room, List.length_append, List.length_replicate]
  omega
 ·intro hh
  rcases room_get h with h | ⟨h, _⟩
  ·exact hs.free r h hh
  ·have := hs.bound r hh
   omega

def gdo (gd : Option (Nat × Bool)) (i : Ins) (e : Env) (σ : St) (go : Prop) (Q : Env → St → Prop) : Prop :=
 match gd with
 | none => go
 | some (s, want) => match e.get s with
  | .d (.bool b) => if b = want then go else Q (goneOne i e) σ
  | .gone => Q (goneOne i e) σ
  | _ => False

def dgo (K : CallP) (cx : Cx) (n0 : Nat) (o : DOp) (e : Env) (σ : St) (Q : Env → St → Prop) : Prop :=
 match o.ins with
 | .e dst op => (match evalE op e σ (some (n0 + o.al)) with
  | some (v, σ') => Q (putE e dst v) σ'
  | none => False) ∨ (match evalM op e σ (some (n0 + o.al)) with
  | some (v, σ') => Q (putE e dst v) σ'
  | none => False)
 | .p dst op => (match evalP op e σ with
  | some v => Q (putE e dst v) σ
  | none => False)
 | i => wone K cx i e σ Q

theorem wdop_eq (K : CallP) (cx : Cx) (n0 : Nat) (o : DOp) (e : Env) (σ : St) (Q : Env → St → Prop) : wdop K cx n0 o e σ Q = gdo o.guard o.ins e σ (dgo K cx n0 o e σ Q) Q := rfl

theorem dgo_sound {cx : Cx} {o : Oper} {d : DOp} {n0 : Nat} (hc : compOp P o = some d.ins) (hd : o.dst.all (· < n) = true) {e : Env} {σ : St} {Q : Env → St → Prop} (h : dgo (SK P cx) cx n0 d e σ Q) {a : Act} {w : World} (ha : At P cx n g0 σ0 w0 e σ a w)
  {K : Act → World → Prop} {R : Exit → Act → World → Prop} (hK : ∀ e' σ' a' w', Q e' σ' → At P cx n g0 σ0 w0 e' σ' a' w' → K a' w') : o.wpIn (FW ro) 0 P a w K R := by
 obtain ⟨gd, i, af, al⟩ := d
 cases i with
 | e dst op =>
  simp only [dgo] at h
  obtain ⟨g, hs, he, hdef, hev⟩ := ha
  unfold Oper.wpIn
  refine ⟨fun _ _ => trivial, ?_⟩
  rw [Oper.semAt_eq _ _ _ (compOp_defer hc)]
  rcases h with h | h
  ·split at h
   ·rename_i v σ' hv
    obtain ⟨rfl, cv, w', g', hrun, hs', hv', hev'⟩ := evalE_rel hs he hc hv
    rcases hrun with hrun | ⟨hrun, rfl⟩
    ·rw [hrun, Oper.uponIn_value]
     exact hK _ _ _ _ h ⟨g', hs', (he.later hev'.later).put hd hv', mk_ev hdef hev', hev.trans hev'⟩
    ·rw [hrun, Oper.uponIn_skip]
     exact hK _ _ _ _ h ⟨g', hs', (he.later hev'.later).put hd hv', mk_ev hdef hev', hev.trans hev'⟩
   ·exact h.elim
  ·split at h
   ·rename_i v σ' hv
    obtain ⟨rfl, cv, w', g', hrun, hs', hv', hev'⟩ := evalM_rel hs he hc hv
    rcases hrun with hrun | ⟨hrun, rfl⟩
    ·rw [hrun, Oper.uponIn_value]
     exact hK _ _ _ _ h ⟨g', hs', (he.later hev'.later).put hd hv', mk_ev hdef hev', hev.trans hev'⟩
    ·rw [hrun, Oper.uponIn_skip]
     exact hK _ _ _ _ h ⟨g', hs', (he.later hev'.later).put hd hv', mk_ev hdef hev', hev.trans hev'⟩
   ·exact h.elim
 | p dst op =>
  obtain ⟨g, hs, he, hdef, hev⟩ := ha
  unfold Oper.wpIn
  refine ⟨fun _ _ => trivial, ?_⟩
  rw [Oper.semAt_eq _ _ _ (compOp_defer hc)]
  simp only [dgo] at h
  split at h
  ·rename_i v hv
   obtain ⟨rfl, cv, w', g', hrun, hs', hv', hev'⟩ := evalP_rel hs he hc hv
   rw [hrun, Oper.uponIn_value]
   exact hK _ _ _ _ h ⟨g', hs', (he.later hev'.later).put hd hv', mk_ev hdef hev', hev.trans hev'⟩
  ·exact h.elim
 | call dst f args => exact wone_sound (cx := cx) hc hd h ha hK
 | callv dst f args => exact wone_sound (cx := cx) hc hd h ha hK
 | next dst it => exact wone_sound (cx := cx) hc hd h ha hK
 | «when» s want body => exact wone_sound (cx := cx) hc hd h ha hK

theorem wdop_sound {cx : Cx} {ops : Array Oper} {o : Oper} {d : DOp} {n0 : Nat} (hc : compOne P n ops o = some (d.guard, d.ins)) {k : Nat} (hk : ops[k]? = some o) {e : Env} {σ : St} {Q : Env → St → Prop}
  (h : wdop (SK P cx) cx n0 d e σ Q) {a : Act} {w : World} (ha : At P cx n g0 σ0 w0 e σ a w)
  {K : Act → World → Prop} {R : Exit → Act → World → Prop} (hK : ∀ e' σ' a' w', Q e' σ' → At P cx n g0 σ0 w0 e' σ' a' w' → K a' w') : wpOpIn (FW ro) 0 P ops R k K a w := by
 obtain ⟨h1, h2, h3⟩ := compOne_inv hc
 obtain ⟨hsim, hdst⟩ := compOp_dst h1
 rw [wdop_eq] at h
 unfold wpOpIn
 rw [hk]
 simp only
 have skip : ∀ e' : Env, e' = putE e o.dst .gone → Q e' σ → K (a.put o.dst undef) w := fun e' he' hq => by
  obtain ⟨g, hs, he, hdef, hev⟩ := ha
  subst he'
  exact hK _ _ _ _ hq ⟨g, hs, he.put h2 .gone, mk_ev hdef (Ev.refl _ _ _), hev⟩
 rcases h3 with ⟨hg, hgd⟩ | ⟨j, s, want, hg, hj, hgd⟩
 ·rw [hgd] at h
  have hw : Region.wanted o (yielded ops a.tmps) = true := by simp [Region.wanted, hg]
  rw [if_pos hw]
  exact dgo_sound (cx := cx) h1 h2 h ha hK
 ·rw [hgd] at h
  simp only [gdo] at h
  have ha' := ha
  obtain ⟨g, hs, he, hdef, hev⟩ := ha'
  split at h
  ·rename_i b hb
   have hy := yielded_bool he hj hb
   have hw : Region.wanted o (yielded ops a.tmps) = (b == want) := by simp [Region.wanted, hg, hy]
   split at h
   ·rename_i hbw
    rw [hw, hbw, if_pos (by simp)]
    exact dgo_sound (cx := cx) h1 h2 h ha hK
   ·rename_i hbw
    rw [hw, if_neg (by simpa using hbw)]
    refine ⟨fun _ _ => trivial, skip _ ?_ h⟩
    rw [goneOne_simple hsim, hdst]
  ·rename_i hb
   have hy := yielded_gone he hj hb
   have hw : Region.wanted o (yielded ops a.tmps) = false := by simp [Region.wanted, hg, hy]
   rw [hw, if_neg (by simp)]
   refine ⟨fun _ _ => trivial, skip _ ?_ h⟩
   rw [goneOne_simple hsim, hdst]
  ·exact h.elim

theorem compDraw_get {ops : Array Oper} : ∀ {os : List Oper} {k : Nat} {l : List DOp} {m : Nat}, compDraw P n ops k os = some (l, m) → l.length = os.length ∧
  ∀ (i : Nat) (o : Oper), os[i]? = some o → ∃ d, l[i]? = some d ∧ compOne P n ops o = some (d.guard, d.ins) ∧ d.after = afterOf o
 | [], k, l, m, h => by simp [compDraw] at h; obtain ⟨rfl, rfl⟩ := h; exact ⟨rfl, fun i o h => by simp at h⟩
 | o :: r, k, l, m, h => by
  simp only [compDraw] at h
  split at h
  ·rename_i gd i hc
   split at h
   ·rename_i l' m' hr
    cases h
    obtain ⟨a1, a2⟩ := compDraw_get hr
    refine ⟨by simp [a1], fun j o' hj => ?_⟩
    cases j with
    | zero => simp at hj; subst hj; exact ⟨_, rfl, hc, rfl⟩
    | succ j => simp at hj; simpa using a2 j o' hj
   ·cases h
  ·cases h

theorem ready_eq {ops : Array Oper} {l : List DOp} {m : Nat} (hl : compDraw P n ops 0 ops.toList = some (l, m)) {listedA : Array Bool} {listed : List Nat} (hsz : listedA.size = ops.size) (hrel : ∀ j, listedA.getD j false = listed.contains j) :
  Region.ready .any ops listedA = readyD l listed := by
 obtain ⟨h1, h2⟩ := compDraw_get hl
 unfold Region.ready readyD
 rw [h1]
 simp only [Array.length_toList]
 apply List.filter_congr
 intro i hi
 rw [List.mem_range] at hi
 have ho : ops[i]? = some ops[i] := by simp [hi]
 obtain ⟨d, d1, d2, d3⟩ := h2 i ops[i] (by simp [hi])
 rw [ho, d1]
 simp only [Option.map_some, Option.getD_some, d3]
 have e1 : listedA.getD i true = listed.contains i := by
  rw [← hrel i]
  have : i < listedA.size := by omega
  simp [Array.getD_eq_getD_getElem?, this]
 rw [e1]
 congr 1
 unfold afterOf
 rw [List.all_map, List.all_filter, ← Array.all_toList]
 apply List.all_congr rfl
 intro e
 simp only [Function.comp, hrel]

theorem wany_sound {cx : Cx} {ops : Array Oper} {l : List DOp} {m n0 : Nat} (hl : compDraw P n ops 0 ops.toList = some (l, m)) {Q : Env → St → Prop} {R : Exit → Act → World → Prop} (hQ : ∀ e σ a w, Q e σ → At P cx n g0 σ0 w0 e σ a w → R .normal a w) :
  ∀ (fuel : Nat) (listedA : Array Bool) (listed : List Nat), listedA.size = ops.size → (∀ j, listedA.getD j false = listed.contains j) → ∀ (e : Env) (σ : St), wany (SK P cx) cx n0 l fuel listed e σ Q → ∀ (a : Act) (w : World), At P cx n g0 σ0 w0 e σ a w →
   wpAnyIn (FW ro) 0 P .any ops R fuel listedA a w
 | 0, listedA, listed, hsz, hrel, e, σ, h, a, w, ha => by
  obtain ⟨h1, h2⟩ := h
  exact ⟨by rw [ready_eq hl hsz hrel]; exact h1, hQ _ _ _ _ h2 ha⟩
 | fuel + 1, listedA, listed, hsz, hrel, e, σ, h, a, w, ha => by
  obtain ⟨h1, h2⟩ := h
  refine ⟨fun hr => hQ _ _ _ _ (h1 (by rw [← ready_eq hl hsz hrel]; exact hr)) ha, fun i hi => ?_⟩
  rw [ready_eq hl hsz hrel] at hi
  obtain ⟨d, hd, hw⟩ := h2 i hi
  obtain ⟨c1, c2⟩ := compDraw_get hl
  have hlt : i < ops.size := by
   have := (List.getElem?_eq_some_iff.1 hd).1
   simpa [c1] using this
  obtain ⟨d', d1, d2, d3⟩ := c2 i ops[i] (by simp [hlt])
  rw [hd] at d1
  cases d1
  refine wdop_sound (cx := cx) (k := i) d2 (by simp [hlt]) hw ha (fun e' σ' a' w' h' ha' => ?_)
  refine wany_sound (cx := cx) hl hQ fuel _ (i :: listed) (by simpa using hsz) (fun j => ?_) e' σ' h' a' w' ha'
  by_cases hij : i = j
  ·subst hij
   simp [Array.getD_eq_getD_getElem?, hsz, hlt]
  ·rw [getD_set_ne false hij, hrel j]
   have : ¬ j = i := fun e => hij e.symm
   simp [this]

theorem draw_sound {cx : Cx} (hm : P.follows .mixedOrders = true) {id : Nat} {ops : Array Oper} {l : List DOp} {m : Nat} (hl : compDraw P n ops 0 ops.toList = some (l, m)) {Q : Env → St → Prop} {e : Env} {σ : St}
  (h : Okay e σ → wany (SK P cx) cx σ.objs.length l l.length [] e (σ.room m) Q) {a : Act} {w : World}
  (ha : At P cx n g0 σ0 w0 e σ a w) {R : Exit → Act → World → Prop} (hQ : ∀ e σ a w, Q e σ → At P cx n g0 σ0 w0 e σ a w → R .normal a w) : (Code.region id ops true).wpIn (FW ro) 0 P R a w := by
 apply wpIn_region_any hm
 obtain ⟨g, hs, he, hdef, hev⟩ := ha
 have h := h (fun s r hr => by
  have hv := he.2 s
  generalize slotV a.tmps s = cv at hv
  generalize e.get s = ev at hv hr
  cases hv <;> simp only [dref, List.not_mem_nil, List.mem_singleton] at hr <;> (subst hr; exact hs.bound _ (by assumption)))
 obtain ⟨r1, r2⟩ := hs.room m
 obtain ⟨r3, r4⟩ := r1.drawn (w.drawn + 1)
 rw [(compDraw_get hl).1, Array.length_toList] at h
 refine wany_sound (cx := cx) hl hQ ops.size _ [] (by simp) (fun j => ?_) e _ h a _ ⟨g, r3, (he.later r2.later).later r4.later, ⟨(hdef.1.ev r2).ev r4, (hdef.2.later r2.later).later r4.later⟩, (hev.trans r2).trans r4⟩
 simp only [Array.getD_eq_getD_getElem?, Array.getElem?_replicate, List.contains_nil]
 split <;> rfl

def exOf : Ex → Exit
 | .normal => .normal
 | .exit id => .exit id
 | .ret => .ret

theorem At.pick {cx : Cx} {e : Env} {σ : St} {a : Act} {w : World} (h : At P cx n g0 σ0 w0 e σ a w) (ks : List Nat) : At P cx n g0 σ0 w0 (e.pick ks) σ a w := by
 obtain ⟨g, hs, he, hd, hev⟩ := h
 exact ⟨g, hs, he.pick ks, hd, hev⟩

theorem rangeF_sound {cx : Cx} {ks : List Nat} {f : Operand} {f' : Opd} {ps : Array Tmp} {ac bc : Code} {a0 b0 : C} (hf : compOpd f = some f') (hca : comp P n ac = some (erase a0)) (hcb : comp P n bc = some (erase b0)) (hpa : a0.plain = true) (hpb : b0.plain = true) (hps : ∀ p ∈ ps.toList, p < n)
  {e : Env} {σ : St} {Q : PostC} (h : wcode (SK P cx) cx (.rangeF ks f' ps.toList a0 b0) e σ Q) {a : Act} {w : World} (ha : At P cx n g0 σ0 w0 e σ a w) {R : Exit → Act → World → Prop}
  (hR : ∀ ex e' σ' a' w', Q ex e' σ' → At P cx n g0 σ0 w0 e' σ' a' w' → R (exOf ex) a' w') : (Code.rangeFunc f ps ac bc).wpIn (FW none) 0 P R a w := by
 obtain ⟨g, hs, he, hdef, hev⟩ := ha
 simp only [wcode] at h
 split at h
 case h_2 => exact h.elim
 rename_i fg first caps hfe
 refine wpIn_rangeFunc fun fn _ => ?_
 -- the two blocks
 have w1h : Grown1 w (.deferred (some [])) (w.alloc (.deferred (some []))) := ⟨rfl, rfl, rfl, rfl⟩
 obtain ⟨d1, d2⟩ := hs.away (w' := w.alloc (.deferred (some []))) (f' := g.frz) (fun b hb => w1h.old hb) (by rw [w1h.size]; omega) (fun _ _ h => h) (fun _ _ h => .inl h) (fun b q h => by
  obtain ⟨v, hv⟩ := hs.frzb b q h
  exact ⟨v, by rw [w1h.cell (cell_lt hv)]; exact hv⟩) w1h.os w1h.tape w1h.output
 have hg0 : ({ g with frz := g.frz } : Gh) = g := rfl
 rw [hg0] at d1 d2
 let lp : Loop := { state := .ready, pending := none, fn := fn, tmps := a.tmps, params := ps, assign := ac, body := bc, defers := w.heap.size }
 have w2h : Grown1 (w.alloc (.deferred (some []))) (.loop lp) ((w.alloc (.deferred (some []))).alloc (.loop lp)) := ⟨rfl, rfl, rfl, rfl⟩
 have he1 := he.later d2.later
 have hoth : OthR g σ.toks (w.alloc (.deferred (some []))) (.loop (e.pick ks) ps.toList a0 b0 .ready) (.loop lp) := by
  refine ⟨rfl, ⟨rfl, rfl⟩, hpa, hpb, n, hps, ?_, ?_, he1.pick ks⟩
  ·rw [hdef.2.prog]; exact hca
  ·rw [hdef.2.prog]; exact hcb
 obtain ⟨s1, s2⟩ := d1.new_oth (tg := none) (o := .loop (e.pick ks) ps.toList a0 b0 .ready) trivial rfl hoth w2h
 have hsz : (w.alloc (.deferred (some []))).heap.size = w.heap.size + 1 := w1h.size
 rw [hsz] at s1 s2
 have hspot : σ.spot none = σ.objs.length := rfl
 rw [hspot] at s1 s2
 have hσ : St.push σ (.loop (e.pick ks) ps.toList a0 b0 .ready) = σ.push (.loop (e.pick ks) ps.toList a0 b0 .ready) := rfl
 generalize hg1 : g.add σ.objs.length (w.heap.size + 1) 0 0 = g1 at s1 s2
 have hob : g1.obj σ.objs.length = (w.heap.size + 1, 0) := by rw [← hg1]; exact Gh.add_obj _ _ _ _ _
 have hhas : g1.has σ.objs.length := by rw [← hg1]; exact .inr rfl
 generalize hw2 : (w.alloc (.deferred (some []))).alloc (.loop lp) = w2 at s1 s2
 have hmark : Marks g1 (σ.push (.loop (e.pick ks) ps.toList a0 b0 .ready)) w0 w2 ({ target := .collected w.heap.size, args := #[] } :: a.defers) := by
  obtain ⟨rs, m1, m2, m3⟩ := hdef.1.ev (d2.trans s2)
  obtain ⟨rs', m1', m2', m3'⟩ := hdef.1
  have hrs : rs = rs' := by
   exact (List.map_inj_right (fun x y h => by simpa using h)).1 (m1.symm.trans m1')
  subst hrs
  refine ⟨w.heap.size :: rs, by rw [m1]; rfl, ?_, fun d hd => ?_⟩
  ·rw [List.nodup_cons]
   refine ⟨fun h => ?_, m2⟩
   have := (Array.getElem?_eq_some_iff.1 (m3' _ h).2.1).1
   omega
  rcases List.mem_cons.1 hd with rfl | hd
  ·refine ⟨hev.size, ?_, fun hm => ?_⟩
   ·rw [← hw2, w2h.old (by rw [hsz]; omega)]
    exact w1h.new
   ·rcases s2.mine _ hm with h | h
    ·have := mine_lt hs h
     omega
    ·rw [hsz] at h
     omega
  ·exact m3 d hd
 have hkx := hdef.2.later (d2.trans s2).later
 have hfv := (opd_rel hf he).later (d2.trans s2).later
 rw [hfe] at hfv
 generalize hfx : a.eval f = fx at hfv
 cases hfv with
 | fn _ _ _ first' caps' hl hl' hh hh' =>
  obtain ⟨Q1, hk, hq⟩ := h
  have v1 : VRs g1 (σ.push (.loop (e.pick ks) ps.toList a0 b0 .ready)).toks w2 first first'.toList := VRs.of_get (by simpa using hl) (fun i c v h1 h2 => hh i c v h1 (by simpa using h2))
  have v2 : VRs g1 (σ.push (.loop (e.pick ks) ps.toList a0 b0 .ready)).toks w2 caps caps'.toList := VRs.of_get (by simpa using hl') (fun i c v h1 h2 => hh' i c v h1 (by simpa using h2))
  have vy : VR g1 (σ.push (.loop (e.pick ks) ps.toList a0 b0 .ready)).toks w2 (.yld σ.objs.length) (.func (.yield (w.heap.size + 1)) #[] #[]) := by
   have := VR.yld (tk := (σ.push (.loop (e.pick ks) ps.toList a0 b0 .ready)).toks) (w := w2) σ.objs.length hhas
   rwa [hob] at this
  have v3 : VRs g1 (σ.push (.loop (e.pick ks) ps.toList a0 b0 .ready)).toks w2 [.yld σ.objs.length] [.func (.yield (w.heap.size + 1)) #[] #[]] := ⟨vy, trivial⟩
  obtain ⟨hgood, hcall⟩ := hk
  have hcalls := hcall g1 w2 (first' ++ #[.func (.yield (w.heap.size + 1)) #[] #[]] ++ caps') hkx.prog hkx.globs s1 (by
   simpa using v1.append (v3.append v2))
  refine ⟨w.heap.size + 1, [{ target := .collected w.heap.size, args := #[] }], w2, { target := .fn (.func fg) caps', args := first' ++ #[.func (.yield (w.heap.size + 1)) #[] #[]] }, w2, fg, first' ++ #[.func (.yield (w.heap.size + 1)) #[] #[]] ++ caps', w2, ?_, ?_, fun _ _ => trivial, ?_, fun h => by simp [FW, Fence.wide] at h, ?_⟩
  ·show (Instr.enterLoop fn a.tmps ps ac bc none).run P w = _
   rw [run_enterLoop_outer]
   rw [← hw2]
  ·simp only [resolve, hfx, Deferred.ofValue]
   simp [Act.eval]
  ·simp only [invoke]
   exact hgood.run _ _
  ·have hc' : CallsIn (FW none) (0 - 1) P fg (first' ++ #[.func (.yield (w.heap.size + 1)) #[] #[]] ++ caps') w2 _ := callsIn_wide.2 hcalls
   refine hc'.mono fun ex w3 hret => ?_
   cases ex with
   | panicked c => exact hret.elim
   | outgrown => exact hret.elim
   | returned v =>
    obtain ⟨g3, x, σ3, hQ1, hs3, _, hev3⟩ := hret
    have hq3 := hq _ _ hQ1
    simp only at hq3
    have hob3 : g3.obj σ.objs.length = (w.heap.size + 1, 0) := by rw [(hev3.later.has _ hhas).2.1, hob]
    have fin : ∀ (e' : Env) (ps' : List Nat) (a' b' : C) (st : LSt) (y : Ex), σ3.objs[σ.objs.length]? = some (.loop e' ps' a' b' st) → ((st = .ready ∧ y = .normal) ∨ st = .done y) → Q y (e.pick ks) (σ3.setObj σ.objs.length .dead) →
      rangePost (FW none) 0 P (w.heap.size + 1) R { a with defers := [{ target := .collected w.heap.size, args := #[] }] ++ a.defers } (.returned v) w3 := by
     intro e' ps' a' b' st y hob4 hst hqy
     obtain ⟨ho, o1, o2⟩ := hs3.oth _ _ hob4 trivial
     cases ho <;> try exact o2.elim
     rename_i l3
     rw [hob3] at o1
     obtain ⟨_, hstl, _⟩ := o2
     have hnb : l3.state ≠ .busy := by
      rcases hst with ⟨rfl, _⟩ | rfl
      ·rw [hstl.1]; simp
      ·rw [hstl.2.1]; simp
     have hpend : l3.pending = exCode y := by
      rcases hst with ⟨rfl, rfl⟩ | rfl
      ·exact hstl.2
      ·exact hstl.2.2
     have hrun := run_endLoop (P := P) o1 hnb
     obtain ⟨p1, p2⟩ := hs3.put_oth hob4 trivial (o' := .dead) (.inr rfl) (x := .loop { l3 with state := .exhausted }) (fun h => h.elim)
     rw [hob3] at p1 p2
     have hat : At P cx n g0 σ0 w0 (e.pick ks) (σ3.setObj σ.objs.length .dead) { a with defers := [{ target := .collected w.heap.size, args := #[] }] ++ a.defers } (putB w3 (w.heap.size + 1) (.loop { l3 with state := .exhausted })) :=
      ⟨g3, p1, (((he.later (d2.trans s2).later).later hev3.later).later p2.later).pick ks, ⟨(hmark.ev hev3).ev p2, (hkx.later hev3.later).later p2.later⟩, (hev.trans (d2.trans s2)).trans (hev3.trans p2)⟩
     refine ⟨_, _, hrun, ?_⟩
     have hRy := hR y _ _ _ _ hqy hat
     rw [hpend] at hRy ⊢
     cases y with
     | normal => exact hRy
     | exit id => exact wpIn_exit hRy
     | ret => exact wpIn_ret hRy
    cases hob4 : σ3.objs[σ.objs.length]? with
    | none => rw [hob4] at hq3; exact hq3.elim
    | some o4 =>
     rw [hob4] at hq3
     cases o4 with
     | loop e' ps' a' b' st =>
      cases st with
      | ready => exact fin _ _ _ _ _ .normal hob4 (.inl ⟨rfl, rfl⟩) hq3
      | busy => exact hq3.elim
      | done y => exact fin _ _ _ _ _ y hob4 (.inr rfl) hq3
     | _ => exact hq3.elim

theorem wcode_sound {cx : Cx} (hm : P.follows .mixedOrders = true) : ∀ (c : Code) (x : C), comp P n c = some (erase x) → (ro = none ∨ x.plain = true) → ∀ (e : Env) (σ : St) (Q : PostC), wcode (SK P cx) cx x e σ Q → ∀ (a : Act) (w : World), At P cx n g0 σ0 w0 e σ a w →
  ∀ (R : Exit → Act → World → Prop), (∀ ex e' σ' a' w', Q ex e' σ' → At P cx n g0 σ0 w0 e' σ' a' w' → R (exOf ex) a' w') → c.wpIn (FW ro) 0 P R a w := by
 intro c
 induction c with
 | skip =>
  intro x hx hpl e σ Q h a w ha R hR
  simp only [comp, Option.some.injEq] at hx
  cases x <;> simp only [erase, reduceCtorEq] at hx
  simp only [wcode] at h
  exact wpIn_skip (hR .normal _ _ _ _ h ha)
 | exit id =>
  intro x hx hpl e σ Q h a w ha R hR
  simp only [comp, Option.some.injEq] at hx
  cases x <;> simp only [erase, reduceCtorEq, C.exit.injEq] at hx
  subst hx
  simp only [wcode] at h
  exact wpIn_exit (hR (.exit _) _ _ _ _ h ha)
 | ret =>
  intro x hx hpl e σ Q h a w ha R hR
  simp only [comp, Option.some.injEq] at hx
  cases x <;> simp only [erase, reduceCtorEq] at hx
  simp only [wcode] at h
  exact wpIn_ret (hR .ret _ _ _ _ h ha)
 | seq c1 c2 ih1 ih2 =>
  intro x hx hpl e σ Q h a w ha R hR
  simp only [comp] at hx
  split at hx
  ·rename_i x1 x2 h1 h2
   simp only [Option.some.injEq] at hx
   cases x <;> simp only [erase, reduceCtorEq, C.seq.injEq] at hx
   obtain ⟨rfl, rfl⟩ := hx
   simp only [wcode] at h
   refine wpIn_seq (ih1 _ h1 (hpl.imp (fun h => h) fun h => (by simp only [C.plain, Bool.and_eq_true] at h; exact h.1)) _ _ _ h _ _ ha _ fun ex e' σ' a' w' h' ha' => ?_)
   cases ex with
   | normal => exact ih2 _ h2 (hpl.imp (fun h => h) fun h => (by simp only [C.plain, Bool.and_eq_true] at h; exact h.2)) _ _ _ h' _ _ ha' _ hR
   | exit id => exact hR (.exit id) _ _ _ _ h' ha'
   | ret => exact hR .ret _ _ _ _ h' ha'
  ·cases hx
 | cond c t f ih1 ih2 =>
  intro x hx hpl e σ Q h a w ha R hR
  simp only [comp] at hx
  split at hx
  ·rename_i c' x1 x2 hc h1 h2
   simp only [Option.some.injEq] at hx
   cases x <;> simp only [erase, reduceCtorEq, C.cond.injEq] at hx
   obtain ⟨rfl, rfl, rfl⟩ := hx
   simp only [wcode] at h
   split at h
   ·rename_i b hb
    have ha' := ha
    obtain ⟨g, hs, he, hd, hev⟩ := ha'
    have hv := opd_rel hc he
    rw [hb] at hv
    refine wpIn_cond_split hv.inv_bool (fun ht => ?_) (fun ht => ?_)
    ·rw [if_pos ht] at h
     exact ih1 _ h1 (hpl.imp (fun h => h) fun h => (by simp only [C.plain, Bool.and_eq_true] at h; exact h.1)) _ _ _ h _ _ ha _ hR
    ·rw [if_neg (by simp [ht])] at h
     exact ih2 _ h2 (hpl.imp (fun h => h) fun h => (by simp only [C.plain, Bool.and_eq_true] at h; exact h.2)) _ _ _ h _ _ ha _ hR
   ·exact h.elim
  ·cases hx
 | block id c ih =>
  intro x hx hpl e σ Q h a w ha R hR
  simp only [comp] at hx
  split at hx
  ·rename_i x1 h1
   simp only [Option.some.injEq] at hx
   cases x <;> simp only [erase, reduceCtorEq, C.block.injEq] at hx
   obtain ⟨rfl, rfl⟩ := hx
   simp only [wcode] at h
   refine wpIn_block (ih _ h1 (hpl.imp (fun h => h) fun h => h) _ _ _ h _ _ ha _ fun ex e' σ' a' w' h' ha' => ?_)
   cases ex with
   | normal => exact hR .normal _ _ _ _ h' ha'
   | exit j =>
    simp only at h'
    show Exit.inBlock id R (.exit j) a' w'
    simp only [Exit.inBlock]
    split
    ·rename_i hj; rw [if_pos hj] at h'; exact hR .normal _ _ _ _ h' ha'
    ·rename_i hj; rw [if_neg hj] at h'; exact hR (.exit j) _ _ _ _ h' ha'
   | ret => exact hR .ret _ _ _ _ h' ha'
  ·cases hx
 | loop c ih =>
  intro x hx hpl e σ Q h a w ha R hR
  simp only [comp] at hx
  split at hx
  ·rename_i x1 h1
   simp only [Option.some.injEq] at hx
   cases x <;> simp only [erase, reduceCtorEq, C.loop.injEq] at hx
   rename_i ks y
   obtain ⟨_, rfl⟩ := hx
   simp only [wcode] at h
   intro b k cs hro hb hr
   have key := h (fun e σ => ∀ (a : Act) (w : World), At P cx n g0 σ0 w0 e σ a w → ∃ ex a' w', R ex a' w' ∧ ArrivesIn (Machine.fenced P (FW ro)) P (lone (b.atR a (.code c :: .inLoop c :: k)) cs w) b k cs ex a' w') (fun e σ hb' a w ha => by
    obtain ⟨ex, a1, w1, hq, harr⟩ := ih y h1 (hpl.imp (fun h => h) fun h => h) e σ _ hb' a w ha (Exit.then (fun a1 w1 => ∃ ex a' w', R ex a' w' ∧ ArrivesIn (Machine.fenced P (FW ro)) P (lone (b.atR a1 (.code c :: .inLoop c :: k)) cs w1) b k cs ex a' w') R) (fun ex e' σ' a' w' h' ha' => by
     cases ex with
     | normal => exact h' _ _ (ha'.pick ks)
     | exit id => exact hR (.exit id) _ _ _ _ h' ha'
     | ret => exact hR .ret _ _ _ _ h' ha') b (.inLoop c :: k) cs hro hb hr
    cases ex with
    | normal =>
     obtain ⟨ex2, a2, w2, hq2, harr2⟩ := hq
     exact ⟨ex2, a2, w2, hq2, .of_steps (StepsIn.trans harr (.one (fenced_calm hb hr rfl) stepR_inLoop)) harr2⟩
    | exit id => exact ⟨_, a1, w1, hq, .pass (x := .inLoop c) rfl (fun _ _ => .inl (by simp)) harr⟩
    | goto l => exact ⟨_, a1, w1, hq, .pass (x := .inLoop c) rfl (fun _ _ => .inl (by simp)) harr⟩
    | ret => exact ⟨_, a1, w1, hq, .pass (x := .inLoop c) rfl (fun _ _ => .inl (by simp)) harr⟩
    | panic ch => exact ⟨_, a1, w1, hq, .pass (x := .inLoop c) rfl (fun _ _ => .inl (by simp)) harr⟩
    | outgrown => exact ⟨_, a1, w1, hq, .pass (x := .inLoop c) rfl (fun _ _ => .inl (by simp)) harr⟩)
   obtain ⟨ex, a', w', hq, harr⟩ := key a w (ha.pick ks)
   exact ⟨ex, a', w', hq, .of_steps (.one (fenced_calm hb hr rfl) stepR_loop) harr⟩
  ·cases hx
 | region id ops draw =>
  intro x hx hpl e σ Q h a w ha R hR
  cases draw with
  | false =>
   simp only [comp] at hx
   split at hx
   ·rename_i l hl
    simp only [Option.some.injEq] at hx
    cases x <;> simp only [erase, reduceCtorEq, C.ops.injEq] at hx
    rename_i ks y
    obtain ⟨_, rfl⟩ := hx
    simp only [wcode] at h
    exact region_sound (Q := fun e' σ' => Q .normal (e'.pick ks) σ') hl h ha (fun e' σ' a' w' h' ha' => hR .normal _ _ _ _ h' (ha'.pick ks))
   ·cases hx
  | true =>
   simp only [comp] at hx
   split at hx
   ·rename_i l m hl
    simp only [Option.some.injEq] at hx
    cases x <;> simp only [erase, reduceCtorEq, C.drw.injEq] at hx
    rename_i ks m' y
    obtain ⟨_, rfl, rfl⟩ := hx
    simp only [wcode] at h
    exact draw_sound (Q := fun e' σ' => Q .normal (e'.pick ks) σ') hm hl h ha (fun e' σ' a' w' h' ha' => hR .normal _ _ _ _ h' (ha'.pick ks))
   ·cases hx
 | rangeFunc f ps ac bc iha ihb =>
  intro x hx hpl e σ Q h a w ha R hR
  simp only [comp] at hx
  split at hx
  ·rename_i f' xa xb hf hca hcb
   split at hx
   ·rename_i hc
    simp only [Option.some.injEq] at hx
    cases x <;> simp only [erase, reduceCtorEq, C.rangeF.injEq] at hx
    rename_i ks f2 ps2 a0 b0
    obtain ⟨_, rfl, rfl, rfl, rfl⟩ := hx
    simp only [Bool.and_eq_true, erase_plain, List.all_eq_true, decide_eq_true_eq] at hc
    rcases hpl with rfl | hp
    ·exact rangeF_sound hf hca hcb hc.1.1 hc.1.2 hc.2 h ha hR
    ·simp [C.plain] at hp
   ·cases hx
  ·cases hx
 | scope => intro x hx; simp [comp] at hx
 | label => intro x hx; simp [comp] at hx
 | goto => intro x hx; simp [comp] at hx
 | refuse => intro x hx; simp [comp] at hx

end Go.Dn
