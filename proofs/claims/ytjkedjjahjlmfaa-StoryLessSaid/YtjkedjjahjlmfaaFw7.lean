/- Loads, fields, elements. -/
import Derived.Test.YtjkedjjahjlmfaaFw6
namespace Go.Dn
set_option linter.unusedVariables false
set_option linter.unusedSimpArgs false

variable {P : Program} {g : Gh} {σ : St} {tk : List Nat} {w : World}

theorem ofD_some : ∀ {cs : List V} {l : List D}, ofD cs = some l → cs = l.map .d
  | [], l, h => by simp [ofD] at h; subst h; rfl
  | c :: r, l, h => by
    cases c <;> simp only [ofD] at h <;> try (cases h; done)
    split at h
    · rename_i x m hm
      cases h
      simp [ofD_some hm]
    · cases h

theorem ofD_map (l : List D) : ofD (l.map .d) = some l := by
  induction l with
  | nil => rfl
  | cons a r ih => simp [ofD, ih]

/-- Cells and values, side by side. -/
def VRs (g : Gh) (tk : List Nat) (w : World) : List V → List Value → Prop
  | [], [] => True
  | c :: cs, v :: vs => VR g tk w c v ∧ VRs g tk w cs vs
  | _, _ => False

theorem VRs.length : ∀ {cs : List V} {vs : List Value}, VRs g tk w cs vs → cs.length = vs.length
  | [], [], _ => rfl
  | _ :: _, _ :: _, h => by simp [VRs.length h.2]
  | [], _ :: _, h => h.elim
  | _ :: _, [], h => h.elim

theorem VRs.of_get : ∀ {cs : List V} {vs : List Value}, cs.length = vs.length → (∀ (i : Nat) (c : V) (v : Value), cs[i]? = some c → vs[i]? = some v → VR g tk w c v) → VRs g tk w cs vs
  | [], [], _, _ => trivial
  | d :: ds, v :: vs, hl, h => ⟨h 0 d v rfl rfl, VRs.of_get (by simpa using hl) (fun i d' v' h1 h2 => h (i + 1) d' v' (by simpa using h1) (by simpa using h2))⟩
  | [], _ :: _, hl, _ => by simp at hl
  | _ :: _, [], hl, _ => by simp at hl

theorem VRs.get : ∀ {cs : List V} {vs : List Value}, VRs g tk w cs vs → ∀ (i : Nat) (c : V) (v : Value), cs[i]? = some c → vs[i]? = some v → VR g tk w c v
  | [], [], _, i, d, v, h, _ => by simp at h
  | d :: ds, v :: vs, h, i, d', v', h1, h2 => by
    cases i with
    | zero => simp at h1 h2; subst h1 h2; exact h.1
    | succ i => exact VRs.get h.2 i d' v' (by simpa using h1) (by simpa using h2)
  | [], _ :: _, h, _, _, _, _, _ => h.elim
  | _ :: _, [], h, _, _, _, _, _ => h.elim

theorem VRs.later {g' : Gh} {tk' : List Nat} {w' : World} (hl : Later g tk w g' tk' w') : ∀ {cs : List V} {vs : List Value}, VRs g tk w cs vs → VRs g' tk' w' cs vs
  | [], [], _ => trivial
  | _ :: _, _ :: _, h => ⟨h.1.later hl, VRs.later hl h.2⟩
  | [], _ :: _, h => h.elim
  | _ :: _, [], h => h.elim

theorem VRs.append : ∀ {as bs : List V} {xs ys : List Value}, VRs g tk w as xs → VRs g tk w bs ys → VRs g tk w (as ++ bs) (xs ++ ys)
  | [], _, [], _, _, h => h
  | _ :: _, _, _ :: _, _, h, h' => ⟨h.1, VRs.append h.2 h'⟩
  | [], _, _ :: _, _, h, _ => h.elim
  | _ :: _, _, [], _, h, _ => h.elim

theorem VRs.take : ∀ {cs : List V} {vs : List Value} (n : Nat), VRs g tk w cs vs → VRs g tk w (cs.take n) (vs.take n)
  | [], [], n, _ => by simp [VRs]
  | c :: cs, v :: vs, 0, _ => by simp [VRs]
  | c :: cs, v :: vs, n + 1, h => ⟨h.1, VRs.take n h.2⟩
  | [], _ :: _, _, h => h.elim
  | _ :: _, [], _, h => h.elim

theorem VRs.drop : ∀ {cs : List V} {vs : List Value} (n : Nat), VRs g tk w cs vs → VRs g tk w (cs.drop n) (vs.drop n)
  | [], [], n, _ => by simp [VRs]
  | c :: cs, v :: vs, 0, h => h
  | c :: cs, v :: vs, n + 1, h => by simpa using VRs.drop n h.2
  | [], _ :: _, _, h => h.elim
  | _ :: _, [], _, h => h.elim

theorem VRs.of_d : ∀ {ds : List D} {vs : List Value}, VRs g tk w (ds.map .d) vs → DRs g.frz w ds vs
  | [], [], _ => trivial
  | _ :: _, _ :: _, h => ⟨h.1.inv_d, VRs.of_d h.2⟩
  | [], _ :: _, h => h.elim
  | _ :: _, [], h => h.elim

theorem VR.agg_of {cs : List V} {vs : Array Value} (h1 : ∀ v ∈ vs.toList, oneC v = true) (h : VRs g tk w cs vs.toList) : VR g tk w (.agg cs) (.agg vs) :=
  .agg cs vs (by simpa using h.length) (fun i v hv => h1 v (List.mem_of_getElem? (by simpa using hv))) (fun i c v hc hv => h.get i c v hc (by simpa using hv))

theorem DR.agg_of {f : Nat → Nat → Prop} {ds : List D} {vs : Array Value} (h1 : ∀ v ∈ vs.toList, oneC v = true) (h : DRs f w ds vs.toList) : DR f w (.agg ds) (.agg vs) :=
  .agg ds vs (by simpa using h.length) (fun i v hv => h1 v (List.mem_of_getElem? (by simpa using hv))) (fun i c v hc hv => h.get i c v hc (by simpa using hv))

theorem VR.mkAgg_of {cs : List V} {vs : Array Value} (h1 : ∀ v ∈ vs.toList, oneC v = true) (h : VRs g tk w cs vs.toList) : VR g tk w (mkAgg cs) (.agg vs) := by
  unfold mkAgg
  split
  · rename_i l hl
    have := ofD_some hl
    subst this
    exact .da _ _ (DR.agg_of h1 h.of_d)
  · exact VR.agg_of h1 h

theorem VR.inv_agg {cs : List V} {v : Value} (h : VR g tk w (.agg cs) v) : ∃ vs, v = .agg vs ∧ (∀ v ∈ vs.toList, oneC v = true) ∧ VRs g tk w cs vs.toList := by
  cases h with
  | agg _ vs hl h1 h =>
    refine ⟨vs, rfl, fun v hv => ?_, VRs.of_get (by simpa using hl) (fun i c v hc hv => h i c v hc (by simpa using hv))⟩
    obtain ⟨i, hi⟩ := List.getElem?_of_mem hv
    exact h1 i v (by simpa using hi)

theorem DR.inv_agg {f : Nat → Nat → Prop} {ds : List D} {vs : Array Value} (h : DR f w (.agg ds) (.agg vs)) : (∀ v ∈ vs.toList, oneC v = true) ∧ DRs f w ds vs.toList := by
  cases h with
  | agg _ _ hl h1 h' =>
    refine ⟨fun v hv => ?_, DRs.of_get (by simpa using hl) (fun i c v hc hv => h' i c v hc (by simpa using hv))⟩
    obtain ⟨i, hi⟩ := List.getElem?_of_mem hv
    exact h1 i v (by simpa using hi)

theorem VR.inv_da {ds : List D} {v : Value} (h : VR g tk w (.da ds) v) : ∃ vs, v = .agg vs ∧ (∀ v ∈ vs.toList, oneC v = true) ∧ DRs g.frz w ds vs.toList := by
  cases h with
  | da _ vs h => exact ⟨vs, rfl, h.inv_agg⟩

/-- Data's cells, each a cell's own value. -/
theorem DRs.to_v : ∀ {ds : List D} {vs : List Value}, (∀ v ∈ vs, oneC v = true) → DRs g.frz w ds vs → VRs g tk w (ds.map .d) vs
  | [], [], _, _ => trivial
  | _ :: _, _ :: _, h1, h => ⟨.d _ _ h.1 (h1 _ (by simp)), DRs.to_v (fun v hv => h1 v (by simp [hv])) h.2⟩
  | [], _ :: _, _, h => h.elim
  | _ :: _, [], _, h => h.elim

/-- A value's cells. -/
theorem VR.cells {v : V} {x : Value} {l : List V} (h : VR g tk w v x) (hl : v.cells = some l) : VRs g tk w l x.cells.toList ∧ (∀ u ∈ x.cells.toList, oneC u = true) := by
  have one : ∀ {v : V} {x : Value}, VR g tk w v x → VRs g tk w [v] [x] := fun h => ⟨h, trivial⟩
  cases h with
  | d y _ h h1 =>
    simp only [V.cells] at hl
    cases hl
    have : x.cells = #[x] := by cases x <;> simp [oneC] at h1 <;> rfl
    rw [this]
    exact ⟨one (.d _ _ h h1), by simpa using h1⟩
  | da cs vs h =>
    simp only [V.cells] at hl
    cases hl
    obtain ⟨h1, h2⟩ := h.inv_agg
    exact ⟨DRs.to_v h1 h2, h1⟩
  | agg cs vs hl' h1 h =>
    simp only [V.cells] at hl
    cases hl
    obtain ⟨vs', e, h2, h3⟩ := (VR.agg _ vs hl' h1 h : VR g tk w _ _).inv_agg
    cases e
    exact ⟨h3, h2⟩
  | any v => simp [V.cells] at hl
  | gone => simp [V.cells] at hl
  | tup cs vs hl' h => simp [V.cells] at hl
  | ref r off h => simp only [V.cells] at hl; cases hl; exact ⟨one (.ref _ _ h), by simp [Value.cells, oneC]⟩
  | ro cs b o cv hf hc h1 hd => simp only [V.cells] at hl; cases hl; exact ⟨one (.ro _ _ _ _ hf hc h1 hd), by simp [Value.cells, oneC]⟩
  | sl r off len sz cap a h hcap hsz hin hout ha hsp => simp only [V.cells] at hl; cases hl; exact ⟨one (.sl _ _ _ _ _ _ h hcap hsz hin hout ha hsp), by simp [Value.cells, oneC]⟩
  | fl rows a h => simp only [V.cells] at hl; cases hl; exact ⟨one (.fl _ _ h), by simp [Value.cells, oneC]⟩
  | tl rows t st sz k a cap hd ht hle hh hsz ha => simp only [V.cells] at hl; cases hl; exact ⟨one (.tl _ _ _ _ _ _ _ hd ht hle hh hsz ha), by simp [Value.cells, oneC]⟩
  | map r h => simp only [V.cells] at hl; cases hl; exact ⟨one (.map _ h), by simp [Value.cells, oneC]⟩
  | fn f a b a' b' h1 h2 h3 h4 => simp only [V.cells] at hl; cases hl; exact ⟨one (.fn _ _ _ _ _ h1 h2 h3 h4), by simp [Value.cells, oneC]⟩
  | ifc t v x h => simp only [V.cells] at hl; cases hl; exact ⟨one (.ifc _ _ _ h), by simp [Value.cells, oneC]⟩

/-! ### memory -/

theorem cell_of_block {b : Nat} {c : Array Value} {e : TypeId} {fz : Nat × Nat} (h : w.heap[b]? = some (.cells c e fz)) (o : Nat) : w.cell? ⟨b, o, none⟩ = c[o]? := by
  simp [World.cell?, h]

theorem addr_add (b o n : Nat) : (⟨b, o, none⟩ : Addr).add n = ⟨b, o + n, none⟩ := by
  unfold Addr.add
  split <;> simp_all

theorem okT_some {t : TypeId} (h : okT P t = true) : ∃ d, P.underlying t = some d := Option.isSome_iff_exists.1 h

theorem run_isAgg {t : TypeId} (h : okT P t = true) : (isAgg t).run P w = .ok (aggT P t) w := by
  obtain ⟨d, hd⟩ := okT_some h
  unfold isAgg aggT
  simp only [Sem.run_bind, run_underlying hd, Result.andThen_ok, hd]
  cases d <;> rfl

theorem run_sizeOf' {t : TypeId} (h : okT P t = true) : (sizeOf t).run P w = .ok (P.cellsOf t) w := by
  obtain ⟨d, hd⟩ := okT_some h
  obtain ⟨i, hi⟩ := info_of_underlying hd
  exact run_sizeOf w hi

theorem aggT_ok {t : TypeId} (h : aggT P t = true) : okT P t = true := by
  unfold aggT at h
  unfold okT
  split at h <;> simp_all

/-- The cells behind an address. -/
theorem run_loadVar_agg {t : TypeId} (ha : aggT P t = true) {b o : Nat} {vs : List Value} (hl : vs.length = P.cellsOf t) (hc : ∀ k, k < vs.length → w.cell? ⟨b, o + k, none⟩ = vs[k]?) :
    (loadVar t ⟨b, o, none⟩).run P w = .ok (.agg vs.toArray) w := by
  have hok := aggT_ok ha
  unfold loadVar
  simp only [Sem.run_bind, run_isAgg hok, Result.andThen_ok, ha, if_true, run_sizeOf' hok]
  rw [← hl, run_loadCells_list w ⟨b, o, none⟩ vs (fun j v hv => by
    have hj : j < vs.length := by
      rcases Nat.lt_or_ge j vs.length with h | h
      · exact h
      · simp [List.getElem?_eq_none h] at hv
    rw [addr_add, hc j hj]; exact hv)]
  rfl

theorem run_loadVar_one {t : TypeId} (hok : okT P t = true) (ha : aggT P t = false) {a : Addr} {v : Value} (hc : w.cell? a = some v) : (loadVar t a).run P w = .ok v w := by
  unfold loadVar
  simp only [Sem.run_bind, run_isAgg hok, Result.andThen_ok, ha, Bool.false_eq_true, if_false]
  simp [load, Sem.run, hc]

theorem Sim.cell (hs : Sim g σ w) {r : Nat} {cs : List V} (h : σ.objs[r]? = some (.cells cs)) {j : Nat} {v : V} (hj : cs[j]? = some v) :
    ∃ cv, w.cell? ⟨(g.obj r).1, (g.obj r).2 + j, none⟩ = some cv ∧ oneC cv = true ∧ VR g σ.toks w v cv := by
  obtain ⟨_, c, e, fz, hb, _, hc⟩ := hs.cells r cs h
  obtain ⟨cv, h1, h2, h3⟩ := hc j v hj
  exact ⟨cv, by rw [cell_of_block hb, h1], h2, h3⟩

/-- A stretch of an object's cells. -/
theorem Sim.stretch (hs : Sim g σ w) {r : Nat} {cs : List V} (h : σ.objs[r]? = some (.cells cs)) (off n : Nat) (hn : off + n ≤ cs.length) :
    ∃ vs : List Value, vs.length = n ∧ (∀ k, k < n → w.cell? ⟨(g.obj r).1, (g.obj r).2 + off + k, none⟩ = vs[k]?) ∧ (∀ v ∈ vs, oneC v = true) ∧ VRs g σ.toks w ((cs.drop off).take n) vs := by
  induction n with
  | zero => exact ⟨[], rfl, fun k hk => by omega, by simp, by simp [VRs]⟩
  | succ n ih =>
    obtain ⟨vs, h1, h2, h4, h3⟩ := ih (by omega)
    obtain ⟨v, hv⟩ : ∃ v, cs[off + n]? = some v := ⟨cs[off + n], by simp [List.getElem?_eq_getElem (show off + n < cs.length by omega)]⟩
    obtain ⟨cv, hc, ho, hr⟩ := hs.cell h hv
    refine ⟨vs ++ [cv], by simp [h1], fun k hk => ?_, fun v hv => ?_, ?_⟩
    · by_cases hkn : k < n
      · rw [h2 k hkn, List.getElem?_append_left (by omega)]
      · have : k = n := by omega
        subst this
        rw [show (g.obj r).2 + off + k = (g.obj r).2 + (off + k) by omega, hc, List.getElem?_append_right (by omega), h1]
        simp
    · rcases List.mem_append.1 hv with h | h
      · exact h4 v h
      · simp at h; subst h; exact ho
    · have e : (cs.drop off).take (n + 1) = (cs.drop off).take n ++ [v] := by
        rw [List.take_add_one, List.getElem?_drop, hv]
        rfl
      rw [e]
      exact h3.append ⟨hr, trivial⟩

theorem loadAt_rel (hs : Sim g σ w) {t : TypeId} (hok : okT P t = true) {x v : V} {cx : Value} (hx : VR g σ.toks w x cx) (h : loadAt σ (aggT P t) (P.cellsOf t) x = some v) :
    ∃ cv, (Instr.loadAt t cx).run P w = .ok cv w ∧ VR g σ.toks w v cv := by
  unfold loadAt at h
  split at h
  · rename_i r off
    split at h
    · rename_i cs hr
      cases hx with
      | ref _ _ hh =>
        split at h
        · rename_i ha
          split at h
          · rename_i hn
            cases h
            obtain ⟨vs, h1, h2, h4, h3⟩ := hs.stretch hr off (P.cellsOf t) hn
            exact ⟨.agg vs.toArray, by
              simp only [Instr.loadAt, Instr.sureAddr, Sem.run_bind, Sem.run_pure, Result.andThen_ok]
              exact run_loadVar_agg ha h1 (fun k hk => h2 k (by omega)), VR.mkAgg_of (by simpa using h4) (by simpa using h3)⟩
          · cases h
        · rename_i ha
          obtain ⟨cv, hc, _, hv⟩ := hs.cell hr h
          exact ⟨cv, by
            simp only [Instr.loadAt, Instr.sureAddr, Sem.run_bind, Sem.run_pure, Result.andThen_ok]
            exact run_loadVar_one hok (by simpa using ha) hc, hv⟩
    · cases h
  · rename_i cs
    cases hx with
    | ro _ b o cv hf hc h1 hd =>
      split at h
      · rename_i ha
        split at h
        · rename_i hn
          cases h
          refine ⟨.agg ((List.range (P.cellsOf t)).map cv).toArray, ?_, .da _ _ (DR.agg_of (fun v hv => ?_) ?_)⟩
          · simp only [Instr.loadAt, Instr.sureAddr, Sem.run_bind, Sem.run_pure, Result.andThen_ok]
            refine run_loadVar_agg ha (by simp) (fun k hk => ?_)
            simp at hk
            rw [hc k (by omega)]
            simp [hk]
          · simp at hv
            obtain ⟨k, hk, rfl⟩ := hv
            exact h1 k (by omega)
          · refine DRs.of_get (by simp; omega) (fun i d v hi hv => ?_)
            rw [List.getElem?_take] at hi
            split at hi
            · rename_i hlt
              simp [hlt] at hv
              subst hv
              exact hd i d hi
            · cases hi
        · cases h
      · rename_i ha
        split at h
        · rename_i c r
          cases h
          refine ⟨cv 0, ?_, .d _ _ (hd 0 c rfl) (h1 0 (by simp))⟩
          simp only [Instr.loadAt, Instr.sureAddr, Sem.run_bind, Sem.run_pure, Result.andThen_ok]
          exact run_loadVar_one hok (by simpa using ha) (by simpa using hc 0 (by simp))
        · cases h
  · cases h

theorem run_part_agg {t : TypeId} (ha : aggT P t = true) {cs : Array Value} (off : Nat) : (part t cs off).run P w = .ok (.agg (cs.extract off (off + P.cellsOf t))) w := by
  have hok := aggT_ok ha
  unfold part
  simp only [Sem.run_bind, run_isAgg hok, Result.andThen_ok, ha, if_true, run_sizeOf' hok, Sem.run_pure]

theorem run_part_one {t : TypeId} (hok : okT P t = true) (ha : aggT P t = false) {cs : Array Value} {off : Nat} {v : Value} (h : cs[off]? = some v) : (part t cs off).run P w = .ok v w := by
  unfold part
  simp only [Sem.run_bind, run_isAgg hok, Result.andThen_ok, ha, Bool.false_eq_true, if_false, h, Sem.run_pure]

theorem one_extract {vs : Array Value} (h : ∀ v ∈ vs.toList, oneC v = true) (a b : Nat) : ∀ v ∈ (vs.extract a b).toList, oneC v = true := fun v hv => by
  rw [Array.toList_extract] at hv
  simp only [List.extract] at hv
  exact h v (List.mem_of_mem_drop (List.mem_of_mem_take hv))

theorem partOf_rel {t : TypeId} (hok : okT P t = true) {off : Nat} {x v : V} {cx : Value} (hx : VR g tk w x cx) (h : partOf (aggT P t) off (P.cellsOf t) x = some v) :
    ∃ cs cv, cx = .agg cs ∧ (part t cs off).run P w = .ok cv w ∧ VR g tk w v cv := by
  unfold partOf at h
  split at h
  · rename_i l
    obtain ⟨vs, rfl, h1, hd⟩ := hx.inv_da
    split at h
    · rename_i ha
      split at h
      · cases h
        refine ⟨vs, _, rfl, run_part_agg ha off, .da _ _ (DR.agg_of (one_extract h1 _ _) ?_)⟩
        have := VRs.of_d (g := g) (tk := tk) (w := w) (ds := (l.drop off).take (P.cellsOf t)) (vs := (vs.toList.drop off).take (P.cellsOf t)) (by
          rw [List.map_take, List.map_drop]
          exact (VRs.drop off (DRs.to_v h1 hd)).take _)
        rw [Array.toList_extract]
        simpa [List.extract] using this
      · cases h
    · rename_i ha
      split at h
      · rename_i c hc
        cases h
        obtain ⟨u, hu⟩ : ∃ u, vs[off]? = some u := by
          have hlt : off < l.length := by
            rcases Nat.lt_or_ge off l.length with h | h
            · exact h
            · simp [List.getElem?_eq_none h] at hc
          have : off < vs.size := by have := hd.length; simp at this; omega
          exact ⟨vs[off], by simp [this]⟩
        exact ⟨vs, u, rfl, run_part_one hok (by simpa using ha) hu, .d _ _ (hd.get off c u hc (by simpa using hu)) (h1 u (List.mem_of_getElem? (by simpa using hu)))⟩
      · cases h
  · rename_i l
    obtain ⟨vs, rfl, h1, hd⟩ := hx.inv_agg
    split at h
    · rename_i ha
      split at h
      · cases h
        refine ⟨vs, _, rfl, run_part_agg ha off, VR.mkAgg_of (one_extract h1 _ _) ?_⟩
        rw [Array.toList_extract]
        simpa [List.extract] using (hd.drop off).take (P.cellsOf t)
      · cases h
    · rename_i ha
      obtain ⟨u, hu⟩ : ∃ u, vs[off]? = some u := by
        have hlt : off < l.length := by
          rcases Nat.lt_or_ge off l.length with h' | h'
          · exact h'
          · simp [List.getElem?_eq_none h'] at h
        have : off < vs.size := by have := hd.length; simp at this; omega
        exact ⟨vs[off], by simp [this]⟩
      exact ⟨vs, u, rfl, run_part_one hok (by simpa using ha) hu, hd.get off v u h (by simpa using hu)⟩
  · cases h

end Go.Dn
