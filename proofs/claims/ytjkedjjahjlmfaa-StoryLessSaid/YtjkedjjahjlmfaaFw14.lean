/- Slices of texts and arrays; composite literals; lengths; least and greatest; interface values. -/
import Derived.Test.YtjkedjjahjlmfaaFw13
import Derived.Lib.Strings
namespace Go.Dn
open Go.Lib
set_option linter.unusedVariables false
set_option linter.unusedSimpArgs false

variable {P : Program} {g : Gh} {σ : St} {tk : List Nat} {w : World}

theorem extract_list (l : List UInt8) (a b : Nat) : (⟨l.toArray⟩ : ByteArray).extract a b = ⟨((l.drop a).take (b - a)).toArray⟩ := by
  apply ByteArray.ext
  apply Array.toList_inj.1
  rw [Lib.extract_data]

theorem sliceStr_rel (hs : Sim g σ w) {t : TypeId} (hu : P.underlying t = some .string) {x v : V} {cx : Value} (hx : VR g σ.toks w x cx) {lo hi : Option V} {clo chi : Option Value}
    (hlo : OptR g σ.toks w lo clo) (hhi : OptR g σ.toks w hi chi) (h : sliceStrV x lo hi = some v) : PStep P g σ w (Instr.sliceAt t cx clo chi none) v := by
  unfold sliceStrV at h
  split at h
  · rename_i s
    have := hx.inv_str
    subst this
    split at h
    · rename_i l hh hl hh'
      split at h
      · rename_i hb
        obtain ⟨h0, h1, h2⟩ := hb
        cases h
        have hr := run_sliceBounds (P := P) hlo hhi (len := s.length) (cap := s.length) false hl hh' h0 h1 h2
        refine PStep.still hs ?_ (.str _)
        simp [Instr.sliceAt, run_underlying hu, Instr.slice, bytes_size, hr, extract_list]
      · cases h
    · cases h
  · cases h

theorem sliceArr_rel (hs : Sim g σ w) {t e : TypeId} {n : Nat} (hu : P.underlying t = some (.array n e)) (hc : P.cellsOf e ≠ 0) {x v : V} {cx : Value} (hx : VR g σ.toks w x cx) {lo hi : Option V} {clo chi : Option Value}
    (hlo : OptR g σ.toks w lo clo) (hhi : OptR g σ.toks w hi chi) (h : sliceArrV σ n (P.cellsOf e) x lo hi = some v) : PStep P g σ w (Instr.sliceAt t cx clo chi none) v := by
  unfold sliceArrV at h
  split at h
  · rename_i l hh hl hh'
    split at h
    · rename_i hb
      obtain ⟨h0, h1, h2⟩ := hb
      have hr := run_sliceBounds (P := P) hlo hhi (len := n) (cap := n) false hl hh' h0 h1 h2
      have run : ∀ a : Addr, (Instr.sliceAt t (.pointer (some a)) clo chi none).run P w = .ok (.slice (some (if n = l.toNat then a else a.add (l.toNat * P.cellsOf e))) (hh.toNat - l.toNat) (n - l.toNat)) w := by
        intro a
        simp [Instr.sliceAt, run_underlying hu, Instr.sureAddr, hr, run_sizeOf_cells hc]
      have m1 := Nat.mul_le_mul_right (P.cellsOf e) (show hh.toNat ≤ n by omega)
      have m2 : l.toNat * P.cellsOf e + (hh.toNat - l.toNat) * P.cellsOf e = hh.toNat * P.cellsOf e := by rw [← Nat.add_mul]; congr 1; omega
      have m3 : l.toNat * P.cellsOf e + (n - l.toNat) * P.cellsOf e = n * P.cellsOf e := by rw [← Nat.add_mul]; congr 1; omega
      split at h
      · rename_i r o
        split at h
        · rename_i cs hobj
          split at h
          · rename_i hend
            cases h
            have hlen := (hs.cells r cs hobj).1
            cases hx with
            | ref _ _ hh2 =>
              refine PStep.still hs (run _) ?_
              refine .sl r _ _ _ _ _ hh2 (by omega) (by omega) (by omega) (by omega) (fun hlt => ?_) (by split <;> first | rfl | rw [addr_add])
              split
              · rename_i e1
                rw [e1] at hend
                omega
              · rw [addr_add, Nat.add_assoc]
          · cases h
        · cases h
      · rename_i cs
        split at h
        · rename_i hcs
          cases h
          cases hx with
          | ro _ b o cv hf hc' h1' hd =>
            refine PStep.still hs (run _) (.d _ _ ?_ (by simp [oneC]))
            have hln : (rowsOf (P.cellsOf e) (hh.toNat - l.toNat) (cs.drop (l.toNat * P.cellsOf e))).length = hh.toNat - l.toNat := rowsOf_length _ _ _
            by_cases he : n = l.toNat
            · have : hh.toNat - l.toNat = 0 := by omega
              rw [if_pos he, this]
              exact DR.list_empty _ _ rfl
            · rw [if_neg he, addr_add]
              have := DR.list (frz := g.frz) (w := w) (rowsOf (P.cellsOf e) (hh.toNat - l.toNat) (cs.drop (l.toNat * P.cellsOf e))) b (o + l.toNat * P.cellsOf e) (n - l.toNat) (P.cellsOf e) (fun k => cv (l.toNat * P.cellsOf e + k)) (by rw [hln]; omega)
                (fun i row hr => by
                  rw [rowsOf_get] at hr
                  split at hr
                  · rename_i hi
                    cases hr
                    have := Nat.mul_le_mul_right (P.cellsOf e) (show i + 1 ≤ hh.toNat - l.toNat from hi)
                    rw [Nat.add_mul] at this
                    simp
                    omega
                  · cases hr)
                (fun k hk => by rw [hln] at hk; rw [Nat.add_assoc]; exact hf _ (by omega)) (fun k hk => by rw [hln] at hk; rw [Nat.add_assoc]; exact hc' _ (by omega)) (fun k hk => by rw [hln] at hk; exact h1' _ (by omega))
                (fun i row j d hr hj => by
                  rw [rowsOf_get] at hr
                  split at hr
                  · cases hr
                    rw [List.getElem?_take] at hj
                    split at hj
                    · rw [List.getElem?_drop, List.getElem?_drop] at hj
                      exact hd _ d hj
                    · cases hj
                  · cases hr)
              rw [hln] at this
              exact this
        · cases h
      · cases h
    · cases h
  · cases h

/-! ### composite literals -/

/-- Parts with their places, and the values that they are. -/
def PartsR (g : Gh) (tk : List Nat) (w : World) (place : Nat → Option (Nat × Nat)) : List (Nat × Nat × V) → List (Nat × Value) → Prop
  | [], [] => True
  | (off, n, v) :: l, (i, cv) :: l' => place i = some (off, n) ∧ VR g tk w v cv ∧ PartsR g tk w place l l'
  | _, _ => False

theorem fill_rel {place : Nat → Option (Nat × Nat)} : ∀ {l : List (Nat × Nat × V)} {l' : List (Nat × Value)} {cs cs' : List V} {vs : Array Value}, PartsR g tk w place l l' → VRs g tk w cs vs.toList → (∀ v ∈ vs.toList, oneC v = true) → fillV cs l = some cs' →
    ∃ vs', Instr.fill place vs l' = some vs' ∧ VRs g tk w cs' vs'.toList ∧ (∀ v ∈ vs'.toList, oneC v = true)
  | [], [], cs, cs', vs, _, h1, h2, h => by simp [fillV] at h; subst h; exact ⟨vs, rfl, h1, h2⟩
  | (off, n, v) :: l, (i, cv) :: l', cs, cs', vs, hp, h1, h2, h => by
    obtain ⟨hpl, hv, hrest⟩ := hp
    unfold fillV at h
    split at h
    · rename_i us hus
      split at h
      · rename_i hc
        obtain ⟨hul, hoff⟩ := hc
        obtain ⟨hvc, hvo⟩ := hv.cells hus
        have hcl : cv.cells.size = n := by rw [← Array.length_toList, ← hvc.length, hul]
        have hvl : vs.size = cs.length := by rw [← Array.length_toList, ← h1.length]
        have hfold := foldl_set cv.cells.toList off 0 vs (by simp [hcl]; omega)
        have e : (cv.cells.zipIdx.foldl (fun cs (x : Value × Nat) => cs.setIfInBounds (off + x.2) x.1) vs).toList = splice vs.toList off cv.cells.toList := by
          rw [← Array.foldl_toList, Array.toList_zipIdx]
          simpa using hfold
        have ho : ∀ u ∈ splice vs.toList off cv.cells.toList, oneC u = true := by
          intro u hu
          unfold splice at hu
          rcases List.mem_append.1 hu with hu | hu
          · rcases List.mem_append.1 hu with hu | hu
            · exact h2 u (List.mem_of_mem_take hu)
            · exact hvo u hu
          · exact h2 u (List.mem_of_mem_drop hu)
        obtain ⟨vs', r1, r2, r3⟩ := fill_rel (vs := cv.cells.zipIdx.foldl (fun cs (x : Value × Nat) => cs.setIfInBounds (off + x.2) x.1) vs) hrest (by rw [e]; exact h1.splice off hvc) (by rw [e]; exact ho) h
        refine ⟨vs', ?_, r2, r3⟩
        unfold Instr.fill
        rw [hpl]
        simp only
        rw [if_neg (by simp [hcl]; omega)]
        exact r1
      · cases h
    · cases h
  | [], _ :: _, _, _, _, hp, _, _, _ => hp.elim
  | _ :: _, [], _, _, _, hp, _, _, _ => hp.elim

theorem zeroOf_inv {t : TypeId} {z : List D} (h : zeroOf P t = some z) : ∃ i zv, P.info? t = some i ∧ i.zero = some zv ∧ leafsD zv.cells.toList = some z := by
  unfold zeroOf at h
  split at h
  · rename_i i hi
    split at h
    · rename_i zv hz
      exact ⟨i, zv, hi, hz, h⟩
    · cases h
  · cases h

theorem leafsD_vrs {vs : List Value} {ds : List D} (h : leafsD vs = some ds) : VRs g tk w (ds.map .d) vs ∧ (∀ v ∈ vs, oneC v = true) := by
  obtain ⟨h1, h2⟩ := leafsD_rel h
  have ho : ∀ v ∈ vs, oneC v = true := fun v hv => by
    obtain ⟨i, hi⟩ := List.getElem?_of_mem hv
    exact leafsD_one h i v hi
  exact ⟨DRs.to_v ho (DRs.of_get h1 (fun i d v hd hv => h2 g.frz w i d v hd hv)), ho⟩

theorem run_mapM_list {α β : Type} (f : α → Sem β) (h : α → β) : ∀ (l : List α), (∀ x ∈ l, (f x).run P w = .ok (h x) w) → (l.mapM f).run P w = .ok (l.map h) w
  | [], _ => by simp
  | x :: r, hx => by
    have ih := run_mapM_list f h r (fun y hy => hx y (by simp [hy]))
    simp [List.mapM_cons, hx x (by simp), ih]

theorem run_mapM {α β : Type} (f : α → Sem β) (h : α → β) (xs : Array α) (hx : ∀ x ∈ xs.toList, (f x).run P w = .ok (h x) w) : (xs.mapM f).run P w = .ok (xs.map h) w := by
  rw [Array.mapM_eq_mapM_toList]
  have : (xs.toList.map h).toArray = xs.map h := by apply Array.ext'; simp
  simp [run_mapM_list f h xs.toList hx, this]

theorem hasInfo_size {t : TypeId} (h : hasInfo P t = true) : (sizeOf t).run P w = .ok (P.cellsOf t) w := by
  obtain ⟨i, hi⟩ := Option.isSome_iff_exists.1 h
  exact run_sizeOf w hi

theorem run_zeroValue {t : TypeId} {i : TypeInfo} {z : Value} (hi : P.info? t = some i) (hz : i.zero = some z) : (zeroValue t).run P w = .ok z w := by
  simp [zeroValue, typeInfo, hi, hz]

theorem places_rel {n : Nat} {e : Env} {a : Act} (he : EnvR g tk w n e a.tmps) {t : TypeId} : ∀ {ps : List (Nat × Operand)} {l : List (Nat × Nat × Opd)}, placesOf P t ps = some l →
    PartsR g tk w (placeOf P t) (l.map fun x => (x.1, x.2.1, x.2.2.ev e)) (ps.map fun x => (x.1, a.eval x.2))
  | [], l, h => by simp [placesOf] at h; subst h; trivial
  | (i, x) :: r, l, h => by
    unfold placesOf at h
    split at h
    · rename_i o n' a' l' hp hx hr
      cases h
      exact ⟨hp, opd_rel hx he, places_rel he hr⟩
    · cases h

theorem PartsR.mono {place place' : Nat → Option (Nat × Nat)} (hp : ∀ i x, place i = some x → place' i = some x) : ∀ {l : List (Nat × Nat × V)} {l' : List (Nat × Value)}, PartsR g tk w place l l' → PartsR g tk w place' l l'
  | [], [], _ => trivial
  | _ :: _, _ :: _, h => ⟨hp _ _ h.1, h.2.1, PartsR.mono hp h.2.2⟩
  | [], _ :: _, h => h.elim
  | _ :: _, [], h => h.elim

theorem build_rel (hs : Sim g σ w) {n : Nat} {e : Env} {a : Act} (he : EnvR g σ.toks w n e a.tmps) {t : TypeId} {z : List D} {ps : Array (Nat × Operand)} {l : List (Nat × Nat × Opd)} (hz : zeroOf P t = some z) (hl : placesOf P t ps.toList = some l)
    (hok : (match P.underlying t with | some (.struct fs) => fs.toList.all (fun f => hasInfo P f.type) | some (.array _ e) => hasInfo P e | _ => false) = true) {cs : List V}
    (h : fillV (z.map .d) (l.map fun x => (x.1, x.2.1, x.2.2.ev e)) = some cs) : PStep P g σ w (Instr.build t (ps.map fun x => (x.1, a.eval x.2))) (mkAgg cs) := by
  obtain ⟨i, zv, hi, hzv, hleaf⟩ := zeroOf_inv hz
  obtain ⟨z1, z2⟩ := leafsD_vrs (g := g) (tk := σ.toks) (w := w) hleaf
  have hpr := places_rel (g := g) (tk := σ.toks) (w := w) he hl
  have hps : (ps.map fun x => (x.1, a.eval x.2)).toList = ps.toList.map fun x => (x.1, a.eval x.2) := by simp
  split at hok
  · rename_i fs hu
    have hall : ∀ f ∈ fs.toList, hasInfo P f.type = true := List.all_eq_true.1 hok
    have hpl : ∀ i x, placeOf P t i = some x → (fs.map fun f => (f.offset, P.cellsOf f.type))[i]? = some x := by
      intro i x hx
      unfold placeOf at hx
      simp only [hu, hok, if_true] at hx
      split at hx
      · rename_i f hf
        cases hx
        simp [hf]
      · cases hx
    obtain ⟨vs', r1, r2, r3⟩ := fill_rel (hpr.mono hpl) z1 z2 h
    refine PStep.still hs ?_ (VR.mkAgg_of r3 r2)
    have hm := run_mapM (P := P) (w := w) (fun f : Field => (do pure (f.offset, ← sizeOf f.type) : Sem (Nat × Nat))) (fun f => (f.offset, P.cellsOf f.type)) fs (fun f hf => by simp [hasInfo_size (hall f hf)])
    unfold Instr.build
    simp only [Sem.run_bind, run_zeroValue hi hzv, Result.andThen_ok, run_underlying hu, hm, hps]
    rw [r1]
    rfl
  · rename_i n' el hu
    have hpl : ∀ i x, placeOf P t i = some x → (fun i => some (i * P.cellsOf el, P.cellsOf el)) i = some x := by
      intro i x hx
      unfold placeOf at hx
      simp only [hu, hok, if_true] at hx
      exact hx
    obtain ⟨vs', r1, r2, r3⟩ := fill_rel (hpr.mono hpl) z1 z2 h
    refine PStep.still hs ?_ (VR.mkAgg_of r3 r2)
    unfold Instr.build
    simp only [Sem.run_bind, run_zeroValue hi hzv, Result.andThen_ok, run_underlying hu, hasInfo_size hok, hps]
    rw [r1]
    rfl
  · cases hok

/-! ### lengths, least, greatest -/

theorem len_rel (hs : Sim g σ w) {t : TypeId} {ty : Ty} (ht : (ty = .str ∧ P.underlying t = some .string) ∨ (ty = .slice ∧ ∃ e, P.underlying t = some (.slice e)) ∨ (ty = .map ∧ ∃ k e, P.underlying t = some (.map k e))) {x : V} {cx : Value} (hx : VR g σ.toks w x cx) {n : Nat} (h : lenT σ ty x = some n) (o : TypeId) :
    PStep P g σ w (Builtin.len_ #[t] o #[cx]) (.d (.int .i64 n)) := by
  rcases ht with ⟨rfl, hu⟩ | ⟨rfl, e, hu⟩ | ⟨rfl, k, e, hu⟩
  · simp only [lenT] at h
    split at h
    · cases h
      have := hx.inv_str
      subst this
      exact PStep.still hs (by simp [Builtin.len_, run_underlying hu, goInt, bytes_size]) (.int _ _)
    · cases h
  · obtain ⟨a, c, rfl, hc⟩ := slice_len hs hx h
    exact PStep.still hs (by simp [Builtin.len_, run_underlying hu, goInt]) (.int _ _)
  · simp only [lenT] at h
    split at h
    · cases h
      have := hx.inv_d
      cases this
      exact PStep.still hs (by simp [Builtin.len_, run_underlying hu, goInt]) (.int _ _)
    · split at h
      · rename_i es he
        exact (hs.maps _ es he).elim
      · cases h
    · cases h

theorem minInts_rel : ∀ {r : List V} {cs : List Value} {m m' : Int} {k : IntKind}, VRs g tk w r cs → minInts m r k = some m' → (cs.foldlM Builtin.min2 (.int k m)).run P w = .ok (.int k m') w
  | [], [], m, m', k, _, h => by simp [minInts] at h; subst h; simp
  | v :: r, c :: cs, m, m', k, hr, h => by
    unfold minInts at h
    split at h
    · rename_i hv; cases hv
    · rename_i k' n r' k0 hv
      cases hv
      split at h
      · rename_i hk
        subst hk
        have := hr.1.inv_int
        subst this
        simp only [List.foldlM_cons, Builtin.min2, Sem.run_bind, Sem.run_pure, Result.andThen_ok]
        exact minInts_rel hr.2 h
      · cases h
    · cases h
  | [], _ :: _, _, _, _, hr, _ => hr.elim
  | _ :: _, [], _, _, _, hr, _ => hr.elim

theorem maxInts_rel : ∀ {r : List V} {cs : List Value} {m m' : Int} {k : IntKind}, VRs g tk w r cs → maxInts m r k = some m' → (cs.foldlM Builtin.max2 (.int k m)).run P w = .ok (.int k m') w
  | [], [], m, m', k, _, h => by simp [maxInts] at h; subst h; simp
  | v :: r, c :: cs, m, m', k, hr, h => by
    unfold maxInts at h
    split at h
    · rename_i hv; cases hv
    · rename_i k' n r' k0 hv
      cases hv
      split at h
      · rename_i hk
        subst hk
        have := hr.1.inv_int
        subst this
        simp only [List.foldlM_cons, Builtin.max2, Sem.run_bind, Sem.run_pure, Result.andThen_ok]
        exact maxInts_rel hr.2 h
      · cases h
    · cases h
  | [], _ :: _, _, _, _, hr, _ => hr.elim
  | _ :: _, [], _, _, _, hr, _ => hr.elim

theorem min_rel (hs : Sim g σ w) {xs : List V} {cs : Array Value} (hr : VRs g σ.toks w xs cs.toList) {v : V} (h : minAll xs = some v) (a : Array TypeId) (t : TypeId) : PStep P g σ w (Builtin.min_ a t cs) v := by
  unfold minAll at h
  split at h
  · rename_i k n r
    split at h
    · rename_i m hm
      cases h
      unfold Builtin.min_
      cases hc : cs.toList with
      | nil => rw [hc] at hr; exact hr.elim
      | cons c cl =>
        rw [hc] at hr
        have := hr.1.inv_int
        subst this
        exact PStep.still hs (minInts_rel hr.2 hm) (.int _ _)
    · cases h
  · cases h

theorem max_rel (hs : Sim g σ w) {xs : List V} {cs : Array Value} (hr : VRs g σ.toks w xs cs.toList) {v : V} (h : maxAll xs = some v) (a : Array TypeId) (t : TypeId) : PStep P g σ w (Builtin.max_ a t cs) v := by
  unfold maxAll at h
  split at h
  · rename_i k n r
    split at h
    · rename_i m hm
      cases h
      unfold Builtin.max_
      cases hc : cs.toList with
      | nil => rw [hc] at hr; exact hr.elim
      | cons c cl =>
        rw [hc] at hr
        have := hr.1.inv_int
        subst this
        exact PStep.still hs (maxInts_rel hr.2 hm) (.int _ _)
    · cases h
  · cases h

/-! ### interface values -/

theorem concT_ok {t : TypeId} (h : concT P t = true) : P.concrete t = true := by
  unfold concT at h
  unfold Program.concrete
  split at h <;> simp_all

theorem mkif_rel (hs : Sim g σ w) {t : TypeId} (hc : concT P t = true) {x v : V} {cx : Value} (hx : VR g σ.toks w x cx) (h : mkifV t x = some v) : PStep P g σ w (Instr.makeInterface t cx) v := by
  have hr := run_makeInterface (P := P) w t cx (concT_ok hc)
  unfold mkifV at h
  split at h
  · cases h; exact PStep.still hs hr (.d _ _ (.iface t _ _ hx.inv_d) rfl)
  · cases h
    obtain ⟨vs, rfl, h1, h2⟩ := hx.inv_da
    exact PStep.still hs hr (.d _ _ (.iface t _ _ (DR.agg_of h1 h2)) rfl)
  · cases h
  · cases h
  · cases h
  · cases h; exact PStep.still hs hr (.ifc t _ _ hx)

theorem unwrap_rel {d : D} {v : Value} (h : DR g.frz w d v) : VR g tk w (unwrapD d) v := by
  cases h with
  | agg cs vs hl h1 h => exact .da _ _ (.agg cs vs hl h1 h)
  | int k n => exact .d _ _ (.int k n) rfl
  | bool b => exact .d _ _ (.bool b) rfl
  | str l => exact .d _ _ (.str l) rfl
  | nilp => exact .d _ _ .nilp rfl
  | nils => exact .d _ _ .nils rfl
  | nilm => exact .d _ _ .nilm rfl
  | nilf => exact .d _ _ .nilf rfl
  | nili => exact .d _ _ .nili rfl
  | iface t d v h => exact .d _ _ (.iface t d v h) rfl
  | list rows b o cap sz cv hcap hsz hf hc h1 hd => exact .d _ _ (.list rows b o cap sz cv hcap hsz hf hc h1 hd) rfl
  | list0 a cap => exact .d _ _ (.list0 a cap) rfl

theorem extract_rel (hs : Sim g σ w) {x v : V} {cx : Value} (hx : VR g σ.toks w x cx) {i : Nat} (h : extractV x i = some v) : PStep P g σ w (Instr.extract cx i) v := by
  unfold extractV at h
  split at h
  · rename_i vs
    cases hx with
    | tup _ cs hl hh =>
      have hi : i < vs.length := by
        rcases Nat.lt_or_ge i vs.length with h' | h'
        · exact h'
        · simp [List.getElem?_eq_none h'] at h
      have hci : cs[i]? = some (cs[i]'(by omega)) := by simp [show i < cs.size by omega]
      exact PStep.still hs (by simp [Instr.extract, hci]) (hh i v _ h hci)
  · cases h

end Go.Dn
