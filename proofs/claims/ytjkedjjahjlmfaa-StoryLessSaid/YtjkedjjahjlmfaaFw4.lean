/- What abstract values mean in the model's world. -/
import Derived.Test.YtjkedjjahjlmfaaFw3
import Derived.WalkKit
namespace Go.Dn
set_option linter.unusedVariables false
set_option linter.unusedSimpArgs false

/-- Where a list that may grow lies: row `s0` at cell `o` of block `b`; rows below `lim` have room. -/
structure Tok where
  b : Nat
  o : Nat
  s0 : Nat
  sz : Nat
  lim : Nat

structure Gh where
  has : Nat → Prop
  obj : Nat → Nat × Nat
  len : Nat → Nat
  tok : Nat → Tok
  frz : Nat → Nat → Prop

def oneC : Value → Bool
  | .agg _ | .tuple _ => false
  | _ => true

/-- Pure data and the value that reads as it; `frz`: the cells that stay as they are. -/
inductive DR (frz : Nat → Nat → Prop) (w : World) : D → Value → Prop
  | int (k : IntKind) (n : Int) : DR frz w (.int k n) (.int k n)
  | bool (b : Bool) : DR frz w (.bool b) (.bool b)
  | str (l : List UInt8) : DR frz w (.str l) (.string ⟨l.toArray⟩)
  | nilp : DR frz w .nilp (.pointer none)
  | nils : DR frz w .nils (.slice none 0 0)
  | nilm : DR frz w .nilm (.map none)
  | nilf : DR frz w .nilf .nilFunc
  | nili : DR frz w .nili .nilIface
  | iface (t : Nat) (d : D) (v : Value) (h : DR frz w d v) : DR frz w (.iface t d) (.iface t v)
  | list (rows : List (List D)) (b o cap sz : Nat) (cv : Nat → Value) (hcap : rows.length ≤ cap)
      (hsz : ∀ (i : Nat) (row : List D), rows[i]? = some row → row.length = sz)
      (hf : ∀ k, k < rows.length * sz → frz b (o + k))
      (hc : ∀ k, k < rows.length * sz → w.cell? ⟨b, o + k, none⟩ = some (cv k))
      (h1 : ∀ k, k < rows.length * sz → oneC (cv k) = true)
      (hd : ∀ (i : Nat) (row : List D) (j : Nat) (d : D), rows[i]? = some row → row[j]? = some d → DR frz w d (cv (i * sz + j))) :
      DR frz w (.list rows) (.slice (some ⟨b, o, none⟩) rows.length cap)
  | list0 (a : Addr) (cap : Nat) : DR frz w (.list []) (.slice (some a) 0 cap)
  | agg (cs : List D) (vs : Array Value) (hl : cs.length = vs.size) (h1 : ∀ (i : Nat) (v : Value), vs[i]? = some v → oneC v = true) (h : ∀ (i : Nat) (d : D) (v : Value), cs[i]? = some d → vs[i]? = some v → DR frz w d v) : DR frz w (.agg cs) (.agg vs)

theorem DR.asList {f : Nat → Nat → Prop} {w : World} {rows : List (List D)} {b o n cap : Nat} (h : DR f w (.list rows) (.slice (some ⟨b, o, none⟩) n cap)) : n = rows.length ∧ ∃ (sz : Nat) (cv : Nat → Value), rows.length ≤ cap ∧
    (∀ (i : Nat) (row : List D), rows[i]? = some row → row.length = sz) ∧ (∀ k, k < rows.length * sz → f b (o + k)) ∧ (∀ k, k < rows.length * sz → w.cell? ⟨b, o + k, none⟩ = some (cv k)) ∧
    (∀ k, k < rows.length * sz → oneC (cv k) = true) ∧ (∀ (i : Nat) (row : List D) (j : Nat) (d : D), rows[i]? = some row → row[j]? = some d → DR f w d (cv (i * sz + j))) := by
  cases h with
  | list _ _ _ _ sz cv hcap hsz hf hc h1 hd => exact ⟨rfl, sz, cv, hcap, hsz, hf, hc, h1, hd⟩
  | list0 _ _ => exact ⟨rfl, 0, fun _ => undef, Nat.zero_le _, fun i row h => by simp at h, fun k hk => by simp at hk, fun k hk => by simp at hk, fun k hk => by simp at hk, fun i row j d h => by simp at h⟩

/-- Frozen cells stay frozen and stay as they are. -/
structure Stay (f f' : Nat → Nat → Prop) (w w' : World) : Prop where
  frz : ∀ b o, f b o → f' b o
  cell : ∀ b o, f b o → w'.cell? ⟨b, o, none⟩ = w.cell? ⟨b, o, none⟩

theorem DR.mono {f f' : Nat → Nat → Prop} {w w' : World} (hs : Stay f f' w w') {d : D} {v : Value} (h : DR f w d v) : DR f' w' d v := by
  induction h with
  | int k n => exact .int k n
  | bool b => exact .bool b
  | str l => exact .str l
  | nilp => exact .nilp
  | nils => exact .nils
  | nilm => exact .nilm
  | nilf => exact .nilf
  | nili => exact .nili
  | iface t d v _ ih => exact .iface t d v ih
  | list rows b o cap sz cv hcap hsz hf hc h1 _ ih =>
    exact .list rows b o cap sz cv hcap hsz (fun k hk => hs.frz _ _ (hf k hk)) (fun k hk => by rw [hs.cell _ _ (hf k hk)]; exact hc k hk) h1 ih
  | list0 a cap => exact .list0 a cap
  | agg cs vs hl h1 _ ih => exact .agg cs vs hl h1 ih

theorem Stay.refl (f : Nat → Nat → Prop) (w : World) : Stay f f w w := ⟨fun _ _ h => h, fun _ _ _ => rfl⟩
theorem Stay.trans {f f' f'' : Nat → Nat → Prop} {w w' w'' : World} (h : Stay f f' w w') (h' : Stay f' f'' w' w'') : Stay f f'' w w'' :=
  ⟨fun b o x => h'.frz b o (h.frz b o x), fun b o x => (h'.cell b o (h.frz b o x)).trans (h.cell b o x)⟩

/-- Abstract values and the values that they stand for. -/
inductive VR (g : Gh) (tk : List Nat) (w : World) : V → Value → Prop
  | d (x : D) (v : Value) (h : DR g.frz w x v) (h1 : oneC v = true) : VR g tk w (.d x) v
  | da (cs : List D) (vs : Array Value) (h : DR g.frz w (.agg cs) (.agg vs)) : VR g tk w (.da cs) (.agg vs)
  | agg (cs : List V) (vs : Array Value) (hl : cs.length = vs.size) (h1 : ∀ (i : Nat) (v : Value), vs[i]? = some v → oneC v = true) (h : ∀ (i : Nat) (c : V) (v : Value), cs[i]? = some c → vs[i]? = some v → VR g tk w c v) : VR g tk w (.agg cs) (.agg vs)
  | tup (cs : List V) (vs : Array Value) (hl : cs.length = vs.size) (h : ∀ (i : Nat) (c : V) (v : Value), cs[i]? = some c → vs[i]? = some v → VR g tk w c v) : VR g tk w (.tup cs) (.tuple vs)
  | ref (r off : Nat) (h : g.has r) : VR g tk w (.ref r off) (.pointer (some ⟨(g.obj r).1, (g.obj r).2 + off, none⟩))
  | ro (cs : List D) (b o : Nat) (cv : Nat → Value)
      (hf : ∀ k, k < cs.length → g.frz b (o + k)) (hc : ∀ k, k < cs.length → w.cell? ⟨b, o + k, none⟩ = some (cv k)) (h1 : ∀ k, k < cs.length → oneC (cv k) = true)
      (hd : ∀ (k : Nat) (d : D), cs[k]? = some d → DR g.frz w d (cv k)) : VR g tk w (.ro cs) (.pointer (some ⟨b, o, none⟩))
  | sl (r off len sz cap : Nat) (a : Addr) (h : g.has r) (hcap : len ≤ cap) (hsz : 0 < sz) (hin : off + len * sz ≤ g.len r) (hout : g.len r ≤ off + cap * sz)
      (ha : off < g.len r → a = ⟨(g.obj r).1, (g.obj r).2 + off, none⟩) (hsp : a.spot = none) : VR g tk w (.sl r off len sz) (.slice (some a) len cap)
  | fl (rows : List (List D)) (a : Addr) (h : DR g.frz w (.list rows) (.slice (some a) rows.length rows.length)) : VR g tk w (.fl rows) (.slice (some a) rows.length rows.length)
  | tl (rows : List (List D)) (t st sz k : Nat) (a : Addr) (cap : Nat) (hd : DR g.frz w (.list rows) (.slice (some a) rows.length cap)) (ht : tk[t]? = some k) (hle : st + rows.length ≤ k)
      (hh : ∀ row ∈ rows, row.length = sz) (hsz : (g.tok t).sz = sz)
      (ha : st + rows.length = k → rows.length < cap → (g.tok t).s0 ≤ st ∧ a = ⟨(g.tok t).b, (g.tok t).o + (st - (g.tok t).s0) * (g.tok t).sz, none⟩ ∧ st + cap ≤ (g.tok t).lim) : VR g tk w (.tl rows t st sz) (.slice (some a) rows.length cap)
  | map (r : Nat) (h : g.has r) : VR g tk w (.map r) (.map (some (g.obj r).1))
  | fn (f : Fn) (first caps : List V) (first' caps' : Array Value) (hl : first.length = first'.size) (hl' : caps.length = caps'.size)
      (h : ∀ (i : Nat) (c : V) (v : Value), first[i]? = some c → first'[i]? = some v → VR g tk w c v) (h' : ∀ (i : Nat) (c : V) (v : Value), caps[i]? = some c → caps'[i]? = some v → VR g tk w c v) :
      VR g tk w (.fn f first caps) (.func f first' caps')
  | ifc (t : Nat) (v : V) (x : Value) (h : VR g tk w v x) : VR g tk w (.ifc t v) (.iface t x)
  | gone : VR g tk w .gone undef
  | any (v : Value) : VR g tk w .any v

/-- From one state of ghosts, tokens and world to a later one: what was meant still is. -/
structure Later (g : Gh) (tk : List Nat) (w : World) (g' : Gh) (tk' : List Nat) (w' : World) : Prop where
  stay : Stay g.frz g'.frz w w'
  has : ∀ r, g.has r → g'.has r ∧ g'.obj r = g.obj r ∧ g'.len r = g.len r
  tok : ∀ t k, tk[t]? = some k → ∃ k', tk'[t]? = some k' ∧ k ≤ k' ∧ (k = k' → g'.tok t = g.tok t) ∧ (g'.tok t).sz = (g.tok t).sz

theorem VR.later {g g' : Gh} {tk tk' : List Nat} {w w' : World} (hl : Later g tk w g' tk' w') {v : V} {x : Value} (h : VR g tk w v x) : VR g' tk' w' v x := by
  induction h with
  | d x v h h1 => exact .d x v (h.mono hl.stay) h1
  | da cs vs h => exact .da cs vs (h.mono hl.stay)
  | agg cs vs hs h1 _ ih => exact .agg cs vs hs h1 ih
  | tup cs vs hs _ ih => exact .tup cs vs hs ih
  | ref r off h => obtain ⟨h1, h2, h3⟩ := hl.has r h; rw [← h2]; exact .ref r off h1
  | ro cs b o cv hf hc h1 hd =>
    exact .ro cs b o cv (fun k hk => hl.stay.frz _ _ (hf k hk)) (fun k hk => by rw [hl.stay.cell _ _ (hf k hk)]; exact hc k hk) h1 (fun k d hk => (hd k d hk).mono hl.stay)
  | sl r off len sz cap a h hcap hsz hin hout ha hsp =>
    obtain ⟨h1, h2, h3⟩ := hl.has r h
    exact .sl r off len sz cap a h1 hcap hsz (by rw [h3]; exact hin) (by rw [h3]; exact hout) (by rw [h3, h2]; exact ha) hsp
  | fl rows a h => exact .fl rows a (h.mono hl.stay)
  | tl rows t st sz k a cap hd ht hle hh hsz ha =>
    obtain ⟨k', h1, h2, h3, h4⟩ := hl.tok t k ht
    refine .tl rows t st sz k' a cap (hd.mono hl.stay) h1 (Nat.le_trans hle h2) hh (by rw [h4]; exact hsz) (fun e hc => ?_)
    have hk : k = k' := by omega
    rw [h3 hk]
    exact ha (by omega) hc
  | map r h => obtain ⟨h1, h2, h3⟩ := hl.has r h; rw [← h2]; exact .map r h1
  | fn f first caps first' caps' h1 h2 _ _ ih ih' => exact .fn f first caps first' caps' h1 h2 ih ih'
  | ifc t v x _ ih => exact .ifc t v x ih
  | gone => exact .gone
  | any v => exact .any v

theorem Later.refl (g : Gh) (tk : List Nat) (w : World) : Later g tk w g tk w :=
  ⟨Stay.refl _ _, fun r h => ⟨h, rfl, rfl⟩, fun t k h => ⟨k, h, Nat.le_refl _, fun _ => rfl, rfl⟩⟩
theorem Later.trans {g g' g'' : Gh} {tk tk' tk'' : List Nat} {w w' w'' : World} (h : Later g tk w g' tk' w') (h' : Later g' tk' w' g'' tk'' w'') : Later g tk w g'' tk'' w'' := by
  refine ⟨h.stay.trans h'.stay, fun r hr => ?_, fun t k ht => ?_⟩
  · obtain ⟨a, b, c⟩ := h.has r hr
    obtain ⟨a', b', c'⟩ := h'.has r a
    exact ⟨a', b'.trans b, c'.trans c⟩
  · obtain ⟨k', a, b, c, d⟩ := h.tok t k ht
    obtain ⟨k'', a', b', c', d'⟩ := h'.tok t k' a
    refine ⟨k'', a', Nat.le_trans b b', fun e => ?_, d'.trans d⟩
    have e1 : k = k' := by omega
    have e2 : k' = k'' := by omega
    exact (c' e2).trans (c e1)

def NoFz (c : Array Value) (fz : Nat × Nat) : Prop := ∀ o, o < c.size → ¬ (fz.1 ≤ o ∧ o < fz.2)

def Obj.live : Obj → Prop
  | .dead => False
  | .free => False
  | _ => True

/-- Blocks that the abstract store owns. -/
def Mine (g : Gh) (σ : St) (b : Nat) : Prop :=
  (∃ (r : Nat) (o : Obj), σ.objs[r]? = some o ∧ o.live ∧ (g.obj r).1 = b) ∨ (∃ (t k : Nat), σ.toks[t]? = some k ∧ (g.tok t).b = b)

/-- The store and the world that it stands for. -/
structure Sim (g : Gh) (σ : St) (w : World) : Prop where
  has : ∀ (r : Nat) (o : Obj), σ.objs[r]? = some o → o.live → g.has r
  bound : ∀ r, g.has r → r < σ.objs.length
  free : ∀ r, σ.objs[r]? = some .free → ¬ g.has r
  cells : ∀ (r : Nat) (cs : List V), σ.objs[r]? = some (.cells cs) → cs.length = g.len r ∧
    ∃ c e fz, w.heap[(g.obj r).1]? = some (.cells c e fz) ∧ NoFz c fz ∧ ∀ (j : Nat) (v : V), cs[j]? = some v → ∃ cv, c[(g.obj r).2 + j]? = some cv ∧ oneC cv = true ∧ VR g σ.toks w v cv
  maps : ∀ (r : Nat) (es : List (D × V)), σ.objs[r]? = some (.map es) → False
  dist : ∀ (r r' : Nat) (o o' : Obj), σ.objs[r]? = some o → o.live → σ.objs[r']? = some o' → o'.live → r ≠ r' → (g.obj r).1 ≠ (g.obj r').1
  nofrz : ∀ (r : Nat) (o : Obj), σ.objs[r]? = some o → o.live → ∀ q, ¬ g.frz (g.obj r).1 q
  tok : ∀ (t k : Nat), σ.toks[t]? = some k → (0 < (g.tok t).sz ∧ (g.tok t).s0 ≤ k) ∧ ∃ c e fz, w.heap[(g.tok t).b]? = some (.cells c e fz) ∧ NoFz c fz ∧
    (g.tok t).o + ((g.tok t).lim - (g.tok t).s0) * (g.tok t).sz ≤ c.size ∧ ∀ q, (g.tok t).o + (k - (g.tok t).s0) * (g.tok t).sz ≤ q → ¬ g.frz (g.tok t).b q
  tdist : ∀ (t t' k k' : Nat), σ.toks[t]? = some k → σ.toks[t']? = some k' → t ≠ t' → (g.tok t).b ≠ (g.tok t').b
  tobj : ∀ (t k r : Nat) (o : Obj), σ.toks[t]? = some k → σ.objs[r]? = some o → o.live → (g.tok t).b ≠ (g.obj r).1
  frzb : ∀ b q, g.frz b q → ∃ v, w.cell? ⟨b, q, none⟩ = some v

/-- A stretch of the run: what it leaves alone. -/
structure Ev (g : Gh) (σ : St) (w : World) (g' : Gh) (σ' : St) (w' : World) : Prop where
  later : Later g σ.toks w g' σ'.toks w'
  size : w.heap.size ≤ w'.heap.size
  os : w'.os = w.os
  tape : w'.tape = w.tape
  output : w'.output = w.output
  frame : ∀ b, b < w.heap.size → ¬ Mine g σ b → w'.heap[b]? = w.heap[b]?
  mine : ∀ b, Mine g' σ' b → Mine g σ b ∨ w.heap.size ≤ b
  newf : ∀ b q, g'.frz b q → g.frz b q ∨ Mine g σ b ∨ w.heap.size ≤ b

theorem Ev.refl (g : Gh) (σ : St) (w : World) : Ev g σ w g σ w :=
  ⟨Later.refl _ _ _, Nat.le_refl _, rfl, rfl, rfl, fun _ _ _ => rfl, fun _ h => .inl h, fun _ _ h => .inl h⟩

theorem Ev.trans {g g' g'' : Gh} {σ σ' σ'' : St} {w w' w'' : World} (h : Ev g σ w g' σ' w') (h' : Ev g' σ' w' g'' σ'' w'') : Ev g σ w g'' σ'' w'' := by
  refine ⟨h.later.trans h'.later, Nat.le_trans h.size h'.size, h'.os.trans h.os, h'.tape.trans h.tape, h'.output.trans h.output, fun b hb hm => ?_, fun b hb => ?_, fun b q hq => ?_⟩
  · rw [h'.frame b (Nat.lt_of_lt_of_le hb h.size) (fun hm' => ?_), h.frame b hb hm]
    rcases h.mine b hm' with h1 | h1
    · exact hm h1
    · omega
  · rcases h'.mine b hb with h1 | h1
    · exact h.mine b h1
    · exact .inr (Nat.le_trans h.size h1)
  · rcases h'.newf b q hq with h1 | h1 | h1
    · exact h.newf b q h1
    · rcases h.mine b h1 with h2 | h2
      · exact .inr (.inl h2)
      · exact .inr (.inr h2)
    · exact .inr (.inr (Nat.le_trans h.size h1))

/-- The slots of a frame. -/
def EnvR (g : Gh) (tk : List Nat) (w : World) (n : Nat) (e : Env) (tmps : Array Value) : Prop :=
  tmps.size = n ∧ ∀ s, VR g tk w (e.get s) (tmps.getD s undef)

theorem EnvR.later {g g' : Gh} {tk tk' : List Nat} {w w' : World} {n : Nat} {e : Env} {tmps : Array Value} (hl : Later g tk w g' tk' w') (h : EnvR g tk w n e tmps) : EnvR g' tk' w' n e tmps :=
  ⟨h.1, fun s => (h.2 s).later hl⟩

theorem Env.get_set (e : Env) (s t : Nat) (v : V) : (e.set s v).get t = if s = t then v else e.get t := by
  induction e with
  | nil => simp [Env.set, Env.get]
  | cons p r ih =>
    obtain ⟨q, u⟩ := p
    by_cases h : q = s
    · subst h
      by_cases h2 : q = t <;> simp [Env.set, Env.get, h2]
    · by_cases h2 : q = t
      · subst h2
        have hn : ¬ s = q := fun e => h e.symm
        simp [Env.set, Env.get, h, hn]
      · simp only [Env.set, h, if_false, Env.get, h2]
        exact ih

theorem Env.get_pick (e : Env) (ks : List Nat) (t : Nat) : (e.pick ks).get t = if t ∈ ks then e.get t else .any := by
  induction ks with
  | nil => simp [Env.pick, Env.get]
  | cons k ks ih =>
    simp only [Env.pick, List.map_cons, Env.get] at ih ⊢
    by_cases h : k = t
    · subst h; simp
    · have hn : ¬ t = k := fun e => h e.symm
      simp [h, hn, ih]

theorem EnvR.set {g : Gh} {tk : List Nat} {w : World} {n : Nat} {e : Env} {tmps : Array Value} (h : EnvR g tk w n e tmps) {s : Nat} (hs : s < n) {v : V} {x : Value} (hv : VR g tk w v x) :
    EnvR g tk w n (e.set s v) (tmps.setIfInBounds s x) := by
  refine ⟨by simp [h.1], fun t => ?_⟩
  rw [Env.get_set]
  by_cases hst : s = t
  · subst hst
    have : s < tmps.size := by rw [h.1]; exact hs
    simpa [Array.getD_eq_getD_getElem?, this] using hv
  · simp only [hst, if_false]
    have := h.2 t
    rw [Array.getD_eq_getD_getElem?, Array.getElem?_setIfInBounds_ne hst, ← Array.getD_eq_getD_getElem?]
    exact this

theorem EnvR.pick {g : Gh} {tk : List Nat} {w : World} {n : Nat} {e : Env} {tmps : Array Value} (h : EnvR g tk w n e tmps) (ks : List Nat) : EnvR g tk w n (e.pick ks) tmps := by
  refine ⟨h.1, fun t => ?_⟩
  rw [Env.get_pick]
  split
  · exact h.2 t
  · exact .any _

end Go.Dn
