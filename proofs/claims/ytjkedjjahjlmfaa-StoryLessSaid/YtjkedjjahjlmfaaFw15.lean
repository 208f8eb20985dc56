/- Every operation that leaves the store alone does in the world what it does in the abstract: one theorem. -/
import Derived.Test.YtjkedjjahjlmfaaFw14
namespace Go.Dn
open Go.Lib
set_option linter.unusedVariables false
set_option linter.unusedSimpArgs false

variable {P : Program} {g : Gh} {σ : St} {tk : List Nat} {w : World}

theorem assert_rel (hs : Sim g σ w) {t xt : TypeId} {z : Opd} (hz : zeroX P t = some z) (hc : concT P t = true) {ok : Bool} {x v : V} {cx : Value} (hx : VR g σ.toks w x cx) (h : assertV t (z.ev []) ok x = some v) :
    PStep P g σ w (Instr.typeAssert cx xt t ok) v := by
  have hu : ∃ d, P.underlying t = some d ∧ ∀ ms, d ≠ .interface ms := by
    unfold concT at hc
    split at hc
    · cases hc
    · cases hc
    · rename_i h1 h2
      cases hd : P.underlying t with
      | none => exact absurd hd h2
      | some d => exact ⟨d, rfl, fun ms e => h1 ms (by rw [hd, e])⟩
  obtain ⟨d, hu, hni⟩ := hu
  have hzero : ∃ zv, (zeroValue t).run P w = .ok zv w ∧ VR g σ.toks w (z.ev []) zv := by
    unfold zeroX at hz
    split at hz
    · rename_i i hi
      split at hz
      · rename_i zv hzv
        exact ⟨zv, run_zeroValue hi hzv, constO_rel hz []⟩
      · cases hz
    · cases hz
  obtain ⟨zv, hzr, hzv⟩ := hzero
  have two : ∀ {a b : V} {ca cb : Value}, VR g σ.toks w a ca → VR g σ.toks w b cb → VR g σ.toks w (.tup [a, b]) (.tuple #[ca, cb]) := by
    intro a b ca cb ha hb
    refine .tup _ _ rfl (fun i c v hi hv => ?_)
    match i, hi, hv with
    | 0, hi, hv => simp at hi hv; subst hi hv; exact ha
    | 1, hi, hv => simp at hi hv; subst hi hv; exact hb
    | n + 2, hi, hv => simp at hi
  have runNil : ok = true → (Instr.typeAssert .nilIface xt t ok).run P w = .ok (.tuple #[zv, .bool false]) w := by
    rintro rfl
    unfold Instr.typeAssert
    simp only [Sem.run_bind, run_underlying hu, Result.andThen_ok]
    cases d <;> first | (exact absurd rfl (hni _)) | simp [hzr]
  have runHit : ∀ y, (Instr.typeAssert (.iface t y) xt t ok).run P w = .ok (if ok then .tuple #[y, .bool true] else y) w := by
    intro y
    unfold Instr.typeAssert
    simp only [Sem.run_bind, run_underlying hu, Result.andThen_ok]
    cases d <;> first | (exact absurd rfl (hni _)) | simp
  have runMiss : ∀ t' y, ¬ t' = t → ok = true → (Instr.typeAssert (.iface t' y) xt t ok).run P w = .ok (.tuple #[zv, .bool false]) w := by
    rintro t' y hne rfl
    unfold Instr.typeAssert
    simp only [Sem.run_bind, run_underlying hu, Result.andThen_ok]
    cases d <;> first | (exact absurd rfl (hni _)) | simp [hzr, hne]
  unfold assertV at h
  split at h
  · rename_i t' y
    have hd := hx.inv_d
    cases hd with
    | iface _ _ cy hy =>
      split at h
      · rename_i ht
        subst ht
        cases h
        refine PStep.still hs (runHit cy) ?_
        cases ok
        · simpa using unwrap_rel hy
        · simpa using two (unwrap_rel hy) (.bool true)
      · rename_i hne
        split at h
        · rename_i hok
          cases h
          exact PStep.still hs (runMiss t' cy hne hok) (two hzv (.bool false))
        · cases h
  · have hd := hx.inv_d
    cases hd
    split at h
    · rename_i hok
      cases h
      exact PStep.still hs (runNil hok) (two hzv (.bool false))
    · cases h
  · cases h

theorem repl_length (n : Nat) (z : List D) : (repl n z).length = n * z.length := by
  induction n with
  | zero => simp [repl]
  | succ n ih => simp [repl, ih, Nat.add_mul]; omega

theorem repl_get (z : List D) (hz : 0 < z.length) : ∀ (n k : Nat), k < n * z.length → (repl n z)[k]? = (z.map V.d)[k % z.length]?
  | 0, k, h => by simp at h
  | n + 1, k, h => by
    rw [Nat.add_mul, Nat.one_mul] at h
    unfold repl
    by_cases hk : k < z.length
    · rw [List.getElem?_append_left (by simpa using hk), Nat.mod_eq_of_lt hk]
    · rw [List.getElem?_append_right (by simp; omega)]
      simp only [List.length_map]
      rw [repl_get z hz n (k - z.length) (by omega), ← Nat.mod_eq_sub_mod (by omega)]

theorem repl_rel {z : List D} {zs : Array Value} (hz : VRs g tk w (z.map .d) zs.toList) (ho : ∀ v ∈ zs.toList, oneC v = true) (hpos : 0 < z.length) (n : Nat) :
    VRs g tk w (repl n z) ((Array.range (n * z.length)).map (zs[· % zs.size]!)).toList ∧ (∀ v ∈ ((Array.range (n * z.length)).map (zs[· % zs.size]!)).toList, oneC v = true) := by
  have hsz : zs.size = z.length := by have := hz.length; simp at this; exact this.symm
  have get : ∀ k, k < n * z.length → ∃ u, zs[k % z.length]? = some u ∧ ((Array.range (n * z.length)).map (zs[· % zs.size]!)).toList[k]? = some u := by
    intro k hk
    have hm : k % z.length < zs.size := by rw [hsz]; exact Nat.mod_lt _ hpos
    refine ⟨zs[k % z.length], by simp [hm], ?_⟩
    simp only [Array.toList_map, Array.toList_range, List.getElem?_map, List.getElem?_range hk, Option.map_some, hsz]
    rw [getElem!_pos zs _ hm]
  refine ⟨VRs.of_get (by rw [repl_length]; simp) (fun i c v hc hv => ?_), fun v hv => ?_⟩
  · have hi : i < n * z.length := by
      rcases Nat.lt_or_ge i (n * z.length) with h | h
      · exact h
      · rw [List.getElem?_eq_none (by rw [repl_length]; exact h)] at hc; cases hc
    obtain ⟨u, h1, h2⟩ := get i hi
    rw [h2] at hv
    cases hv
    rw [repl_get z hpos n i hi] at hc
    exact hz.get _ c v hc (by simpa using h1)
  · obtain ⟨i, hi⟩ := List.getElem?_of_mem hv
    have hlt : i < n * z.length := by
      rcases Nat.lt_or_ge i (n * z.length) with h | h
      · exact h
      · rw [List.getElem?_eq_none (by simp; exact h)] at hi; cases hi
    obtain ⟨u, h1, h2⟩ := get i hlt
    rw [h2] at hi
    cases hi
    exact ho v (List.mem_of_getElem? (by simpa using h1))

theorem parts_rel {n : Nat} {e : Env} {a : Act} (he : EnvR g tk w n e a.tmps) (sz : Nat) : ∀ {ps : List (Nat × Operand)} {l : List (Nat × Opd)}, partsOf ps = some l →
    PartsR g tk w (fun i => some (i * sz, sz)) (l.map fun x => (x.1 * sz, sz, x.2.ev e)) (ps.map fun x => (x.1, a.eval x.2))
  | [], l, h => by simp [partsOf] at h; subst h; trivial
  | (i, x) :: r, l, h => by
    unfold partsOf at h
    split at h
    · rename_i a' l' hx hr
      cases h
      exact ⟨rfl, opd_rel hx he, parts_rel he sz hr⟩
    · cases h

/-- A new row of pure cells, read as a list whose capacity is its length. -/
theorem newRow_rel (hs : Sim g σ w) {e : TypeId} {sz len : Nat} {l : List D} {c : Array Value} (hl : l.length = len * sz) (hd : DRs g.frz w l c.toList) (ho : ∀ v ∈ c.toList, oneC v = true) {w' : World} (hw : Grown1 w (.cells c e) w') :
    ∃ g', Sim g' σ w' ∧ VR g' σ.toks w' (.fl (rowsOf sz len l)) (.slice (some ⟨w.heap.size, 0, none⟩) len len) ∧ Ev g σ w g' σ w' := by
  obtain ⟨h1, h2⟩ := hs.push_frz hw
  refine ⟨_, h1, ?_, h2⟩
  have hcs : c.size = len * sz := by rw [← hl, hd.length]; simp
  have hln : (rowsOf sz len l).length = len := rowsOf_length _ _ _
  have cell : ∀ k, k < len * sz → ∃ u, c[k]? = some u ∧ c.getD k undef = u ∧ oneC u = true := by
    intro k hk
    have : k < c.size := by omega
    exact ⟨c[k], by simp [this], by simp [Array.getD_eq_getD_getElem?, this], ho _ (by simp)⟩
  have := list_new (f := (g.freeze w.heap.size c.size).frz) (rows := rowsOf sz len l) (sz := sz) (cap := len) hw.new (by rw [hln]; exact Nat.le_refl _)
    (fun i row hr => by
      rw [rowsOf_get] at hr
      split at hr
      · rename_i hi
        cases hr
        have := Nat.mul_le_mul_right sz (show i + 1 ≤ len from hi)
        rw [Nat.add_mul] at this
        simp [hl]; omega
      · cases hr)
    (fun k hk => by rw [hln] at hk; exact .inr ⟨rfl, by omega⟩) (by rw [hln]; omega)
    (fun k hk => by
      rw [hln] at hk
      obtain ⟨u, _, h2, h3⟩ := cell k hk
      rw [h2]; exact h3)
    (fun i row j d hr hj => by
      rw [rowsOf_get] at hr
      split at hr
      · rename_i hi
        cases hr
        rw [List.getElem?_take] at hj
        split at hj
        · rename_i hjs
          rw [List.getElem?_drop] at hj
          have hlt : i * sz + j < len * sz := by
            have := Nat.mul_le_mul_right sz (show i + 1 ≤ len from hi)
            rw [Nat.add_mul] at this
            omega
          obtain ⟨u, h1', h2', _⟩ := cell _ hlt
          rw [h2']
          exact (hd.get _ d u hj (by simpa using h1')).mono h2.later.stay
        · cases hj
      · cases hr)
  rw [hln] at this
  have r := VR.fl (g := g.freeze w.heap.size c.size) (tk := σ.toks) (w := w') (rowsOf sz len l) ⟨w.heap.size, 0, none⟩ (by rw [hln]; exact this)
  rw [hln] at r
  exact r

theorem frzV_rel {v : V} {c : Value} (h : VR g tk w v c) : VR g tk w (frzV v) c := by
  cases h with
  | fl rows a h => exact .d _ _ h rfl
  | tl rows t st sz k a cap hd => exact .d _ _ hd rfl
  | _ => constructor <;> assumption

theorem frzVs_rel : ∀ {vs : List V} {cs : List Value}, VRs g tk w vs cs → VRs g tk w (vs.map frzV) cs
  | [], [], _ => trivial
  | v :: vs, c :: cs, h => ⟨frzV_rel h.1, frzVs_rel h.2⟩
  | [], _ :: _, h => h.elim
  | _ :: _, [], h => h.elim

theorem bslice_rel (hs : Sim g σ w) {n : Nat} {e : Env} {a : Act} (he : EnvR g σ.toks w n e a.tmps) {t el : TypeId} (hu : P.underlying t = some (.slice el)) {z : List D} {len : Nat} {ps : Array (Nat × Operand)} {l : List (Nat × Opd)} (hz : zeroOf P el = some z)
    (hl : partsOf ps.toList = some l) (hc : P.cellsOf el ≠ 0) (hbig : ¬ len * P.cellsOf el > 2 ^ 24) (hzl : z.length = P.cellsOf el) {cs : List V} (h : fillV (repl len z) (l.map fun x => (x.1 * P.cellsOf el, P.cellsOf el, x.2.ev e)) = some cs) {ds : List D} (hds : ofD (cs.map frzV) = some ds) :
    PStep P g σ w (Instr.buildSlice t len (ps.map fun x => (x.1, a.eval x.2))) (.fl (rowsOf (P.cellsOf el) len ds)) := by
  obtain ⟨i, zv, hi, hzv, hleaf⟩ := zeroOf_inv hz
  obtain ⟨z1, z2⟩ := leafsD_vrs (g := g) (tk := σ.toks) (w := w) hleaf
  have hpr := parts_rel (g := g) (tk := σ.toks) (w := w) he (P.cellsOf el) hl
  have hps : (ps.map fun x => (x.1, a.eval x.2)).toList = ps.toList.map fun x => (x.1, a.eval x.2) := by simp
  have hzs : zv.cells.size = P.cellsOf el := by rw [← hzl]; have := z1.length; simp at this; exact this.symm
  -- the zero cells
  have hrep : VRs g σ.toks w (repl len z) ((Array.range (len * P.cellsOf el)).map ((if len * P.cellsOf el = 0 then (#[] : Array Value) else zv.cells)[· % (if len * P.cellsOf el = 0 then (#[] : Array Value) else zv.cells).size]!)).toList ∧
      (∀ v ∈ ((Array.range (len * P.cellsOf el)).map ((if len * P.cellsOf el = 0 then (#[] : Array Value) else zv.cells)[· % (if len * P.cellsOf el = 0 then (#[] : Array Value) else zv.cells).size]!)).toList, oneC v = true) := by
    by_cases h0 : len * P.cellsOf el = 0
    · have hl0 : len = 0 := by
        rcases Nat.mul_eq_zero.1 h0 with h | h
        · exact h
        · exact absurd h hc
      subst hl0
      simp [repl, VRs]
    · rw [if_neg h0]
      have := repl_rel z1 z2 (by omega) len
      rw [hzl] at this
      exact this
  obtain ⟨vs', r1, r2, r3⟩ := fill_rel hpr hrep.1 hrep.2 h
  have hcl : cs.length = len * P.cellsOf el := by
    have : ∀ (l : List (Nat × Nat × V)) (cs cs' : List V), fillV cs l = some cs' → cs'.length = cs.length := by
      intro l
      induction l with
      | nil => intro cs cs' h; simp [fillV] at h; rw [h]
      | cons p l ih =>
        intro cs cs' h
        obtain ⟨off, sz, v⟩ := p
        unfold fillV at h
        split at h
        · split at h
          · rename_i hcnd
            rw [ih _ _ h, splice_length _ _ _ (by omega)]
          · cases h
        · cases h
    rw [this _ _ _ h, repl_length, hzl]
  replace r2 := frzVs_rel r2
  rw [ofD_some hds] at r2
  have hdl : ds.length = len * P.cellsOf el := by rw [← hcl]; have := congrArg List.length (ofD_some hds); simp at this; omega
  have hgr : Grown1 w (.cells vs' el) { w with heap := w.heap.push (.cells vs' el) } := ⟨rfl, rfl, rfl, rfl⟩
  obtain ⟨g', s1, s2, s3⟩ := newRow_rel hs hdl r2.of_d r3 hgr
  refine ⟨_, _, g', ?_, s1, s2, s3⟩
  unfold Instr.buildSlice
  simp only [Sem.run_bind, run_underlying hu, Result.andThen_ok, run_sizeOf_cells hc, hbig, if_false]
  by_cases h0 : len * P.cellsOf el = 0
  · simp only [h0, if_true] at r1 ⊢
    rw [Sem.run_bind]
    simp only [Sem.run_pure, Result.andThen_ok, hps]
    rw [r1]
    simp [newRow, newObj, Sem.run]
  · simp only [h0, if_false, Sem.run_bind, run_zeroValue hi hzv, Result.andThen_ok, Sem.run_pure] at r1 ⊢
    simp only [hps]
    rw [r1]
    simp [newRow, newObj, Sem.run]

end Go.Dn
