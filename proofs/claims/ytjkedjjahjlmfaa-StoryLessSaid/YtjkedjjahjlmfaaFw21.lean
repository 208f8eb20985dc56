/- append as the abstract machine has it. -/
import Derived.Test.YtjkedjjahjlmfaaFw20
namespace Go.Dn
open Go.Lib
set_option linter.unusedVariables false
set_option linter.unusedSimpArgs false

variable {P : Program} {g : Gh} {σ : St} {tk : List Nat} {w : World}

theorem growOk_inv {e : TypeId} (h : growOk P e = true) : ∃ i z, P.info? e = some i ∧ i.zero = some z ∧ i.size = P.cellsOf e ∧ i.bytes = P.bytesOf e ∧ P.cellsOf e ≠ 0 ∧ z.cells.size = P.cellsOf e ∧ (∀ v ∈ z.cells.toList, oneC v = true) := by
  unfold growOk at h
  split at h
  · rename_i zl hz
    simp only [Bool.and_eq_true, bne_iff_ne, ne_eq, beq_iff_eq] at h
    obtain ⟨i, z, hi, hzv, hleaf⟩ := zeroOf_inv hz
    obtain ⟨z1, _⟩ := leafsD_rel hleaf
    refine ⟨i, z, hi, hzv, by simp [Program.cellsOf, hi], by simp [Program.bytesOf, hi], h.1, by rw [← h.2, z1]; simp, fun v hv => ?_⟩
    obtain ⟨k, hk⟩ := List.getElem?_of_mem hv
    exact leafsD_one hleaf k v hk
  · cases h

/-- A grown row: what it reads as. -/
theorem grown_list {f : Nat → Nat → Prop} {b sz cap : Nat} {rows : List (List D)} {c : Array Value} {e : TypeId} {fz : Nat × Nat} {w' : World} (hb : w'.heap[b]? = some (.cells c e fz)) (hpos : 0 < sz) (hfit : ∀ (i : Nat) (row : List D), rows[i]? = some row → row.length = sz)
    {l : List Value} (hd : DRs f w' rows.flatten l) (h1 : ∀ v ∈ l, oneC v = true) (hc : ∀ (j : Nat) (v : Value), l[j]? = some v → c[j]? = some v) (hf : ∀ j, j < l.length → f b j) (hcap : rows.length ≤ cap) :
    DR f w' (.list rows) (.slice (some ⟨b, 0, none⟩) rows.length cap) := by
  have := list_append (f := f) (w := w') (rows := []) (ys := rows) (b := b) (o := 0) (cap := cap) (sz := sz) (fun i row h => by simp at h) hfit hpos (DR.list_empty _ _ rfl) hd h1
    (fun j hj => by simpa using hf j hj) (fun j v hj => by rw [cell_of_block hb]; simpa using hc j v hj) (by simpa using hcap)
  simpa using this

theorem DRs.append {f : Nat → Nat → Prop} : ∀ {as bs : List D} {xs ys : List Value}, DRs f w as xs → DRs f w bs ys → DRs f w (as ++ bs) (xs ++ ys)
  | [], _, [], _, _, h => h
  | _ :: _, _, _ :: _, _, h, h' => ⟨h.1, DRs.append h.2 h'⟩
  | [], _, _ :: _, _, h, _ => h.elim
  | _ :: _, _, [], _, h, _ => h.elim

theorem DRs.mono {f f' : Nat → Nat → Prop} {w w' : World} (hs : Stay f f' w w') : ∀ {ds : List D} {vs : List Value}, DRs f w ds vs → DRs f' w' ds vs
  | [], [], _ => trivial
  | _ :: _, _ :: _, h => ⟨h.1.mono hs, DRs.mono hs h.2⟩
  | [], _ :: _, h => h.elim
  | _ :: _, [], h => h.elim

theorem fit_append {sz : Nat} {rows ys : List (List D)} (h : fitR sz rows = true) (h' : fitR sz ys = true) : ∀ (i : Nat) (row : List D), (rows ++ ys)[i]? = some row → row.length = sz := fun i row hr => by
  have : fitR sz (rows ++ ys) = true := by
    unfold fitR at *
    rw [List.all_append, h, h']
    rfl
  exact fitR_get this hr

theorem append_rel (hs : Sim g σ w) {t xT e ty : TypeId} (ht : P.underlying t = some (.slice e)) (hg : growOk P e = true) {dx : TypeDesc} (hx : P.underlying xT = some dx) (hni : ∀ k, dx ≠ .int k) {s v : V} {cs cx : Value} (hsv : VR g σ.toks w s cs)
    {ys : List (List D)} {news : Array Value} (hsrc : fitR (P.cellsOf e) ys = true → Src P g.frz w (P.cellsOf e) ys cx news) {tg : Option Nat} {σ' : St} (h : appendV σ tg (P.cellsOf e) (P.bytesOf e) s ys = some (v, σ')) :
    EStep P g σ w (Builtin.append_ #[t, xT] ty #[cs, cx]) v σ' := by
  obtain ⟨i, z, hi, hzv, hisz, hiby, hc0, hzs, hz1⟩ := growOk_inv hg
  have hpos : 0 < P.cellsOf e := by omega
  unfold appendV at h
  split at h
  · cases h
  · rename_i hfit0
    simp only [Bool.not_eq_false] at hfit0
    have hsrc := hsrc hfit0
    have hys : ∀ (i : Nat) (row : List D), ys[i]? = some row → row.length = P.cellsOf e := fun i row hr => fitR_get hfit0 hr
    have hnl : news.toList.length = ys.length * P.cellsOf e := by rw [← hsrc.rel.length, flatten_len ys hys]
    have runFit : ∀ {a : Addr} {sLen sCap : Nat}, sLen + ys.length ≤ sCap → (Builtin.append_ #[t, xT] ty #[.slice (some a) sLen sCap, cx]).run P w = ((storeCells (a.add (sLen * P.cellsOf e)) news.toList).run P w).andThen fun _ w' => .ok (.slice (some a) (sLen + ys.length) sCap) w' := by
      intro a sLen sCap hf
      have := run_append_fit' (w := w) (ty := ty) ht hi hx hni (a := a) (sLen := sLen) (sCap := sCap) (n := ys.length) (cx := cx) (news := news) hsrc.len (by rw [hisz]; exact hsrc.first w rfl) hf
      rw [hisz] at this
      exact this
    have runGrow : ∀ {base : Option Addr} {sLen sCap : Nat} {olds : Array Value}, (∀ w' : World, w'.heap = w.heap → (Builtin.firstCells (P.cellsOf e) sLen (.slice base sLen sCap)).run P w' = .ok olds w') → sCap < sLen + ys.length → sLen + ys.length ≤ 9223372036854775807 → (sLen + ys.length) * P.bytesOf e ≤ 140737488355328 →
        (Builtin.append_ #[t, xT] ty #[.slice base sLen sCap, cx]).run P w = .ok (.slice (some ⟨w.heap.size, 0, none⟩) (sLen + ys.length) (grownCap w (sLen + ys.length) sCap e))
          (w.drew.alloc (.cells (olds ++ news ++ Builtin.zeroCells z.cells (grownCap w (sLen + ys.length) sCap e - (sLen + ys.length))) e)) := by
      intro base sLen sCap olds ho hgt h63 h48
      exact run_append_grow' (w := w) (ty := ty) ht hi hzv hx hni (base := base) (sLen := sLen) (sCap := sCap) (n := ys.length) (cx := cx) (news := news) (olds := olds) hsrc.len (by rw [hisz]; exact hsrc.first) (by rw [hisz]; exact ho) hgt h63 (by rw [hiby]; exact h48)
    have hgr : ∀ c : Array Value, Grown1 w (.cells c e (0, 0)) (w.drew.alloc (.cells c e)) := fun c => ⟨by simp [World.alloc, World.drew, -World.alloc_eq, -World.drew_eq], by simp [World.alloc, World.drew, -World.alloc_eq, -World.drew_eq], by simp [World.alloc, World.drew, -World.alloc_eq, -World.drew_eq], by simp [World.alloc, World.drew, -World.alloc_eq, -World.drew_eq]⟩
    -- a new block, with a token of its own or the old one's
    have grow : ∀ {sLen sCap tid k st : Nat} {base : Option Addr} {rows : List (List D)} {olds : Array Value} {σ2 : St}, rows.length = sLen → fitR (P.cellsOf e) rows = true → (∀ w' : World, w'.heap = w.heap → (Builtin.firstCells (P.cellsOf e) sLen (.slice base sLen sCap)).run P w' = .ok olds w') →
        DRs g.frz w rows.flatten olds.toList → (∀ v ∈ olds.toList, oneC v = true) → sCap < sLen + ys.length → sLen + ys.length ≤ 9223372036854775807 → (sLen + ys.length) * P.bytesOf e ≤ 140737488355328 →
        σ2.objs = σ.objs → σ2.toks[tid]? = some k → (∀ t, t ≠ tid → σ2.toks[t]? = σ.toks[t]?) → (∀ k0, σ.toks[tid]? = some k0 → k0 < k ∧ (g.tok tid).sz = P.cellsOf e) → k = st + (sLen + ys.length) →
        EStep P g σ w (Builtin.append_ #[t, xT] ty #[.slice base sLen sCap, cx]) (.tl (rows ++ ys) tid st (P.cellsOf e)) σ2 := by
      intro sLen sCap tid k st base rows olds σ2 hrl hfit ho hor ho1 hgt h63 h48 hobjs htk hother hgrow hk
      have hrows : ∀ (i : Nat) (row : List D), rows[i]? = some row → row.length = P.cellsOf e := fun i row hr => fitR_get hfit hr
      have hol : olds.toList.length = sLen * P.cellsOf e := by rw [← hor.length, flatten_len rows hrows, hrl]
      have hcge := grownCap_ge w (sLen + ys.length) sCap e
      generalize hcap : grownCap w (sLen + ys.length) sCap e = newCap at *
      have hrun := runGrow ho hgt h63 h48
      rw [hcap] at hrun
      generalize hce : olds ++ news ++ Builtin.zeroCells z.cells (newCap - (sLen + ys.length)) = c at *
      have hcs : c.size = newCap * P.cellsOf e := by
        rw [← hce]
        simp only [Array.size_append, size_zeroCells, hzs]
        have a1 : olds.size = sLen * P.cellsOf e := by simpa using hol
        have a2 : news.size = ys.length * P.cellsOf e := by simpa using hnl
        rw [a1, a2, ← Nat.add_mul, ← Nat.add_mul]
        congr 1
        omega
      have m1 := Nat.mul_le_mul_right (P.cellsOf e) hcge
      obtain ⟨s1, s2⟩ := hs.tok_new (lim := st + newCap) (s0 := st) hobjs htk hother hgrow (by omega) hpos (c := c) (e := e) (by rw [Nat.add_sub_cancel_left, hcs]; exact Nat.le_refl _) (by rw [hk, Nat.add_sub_cancel_left, hcs]; exact m1) (hgr c)
      have hlen : (rows ++ ys).length = sLen + ys.length := by simp [hrl]
      refine ⟨_, _, _, hrun, s1, ?_, s2⟩
      have hd : DRs (g.tokNew tid w.heap.size st (P.cellsOf e) (st + newCap) ((k - st) * P.cellsOf e)).frz (w.drew.alloc (.cells c e)) (rows ++ ys).flatten (olds.toList ++ news.toList) := by
        rw [List.flatten_append]
        exact (hor.append hsrc.rel).mono s2.later.stay
      have hlst := grown_list (cap := newCap) (hgr c).new hpos (fit_append hfit hfit0) hd (fun v hv => by
          rcases List.mem_append.1 hv with h | h
          · exact ho1 v h
          · exact hsrc.one v h)
        (fun j v hj => by
          rw [← hce]
          have hj2 : (olds ++ news).toList[j]? = some v := by simpa using hj
          have hlt : j < (olds ++ news).size := by
            rcases Nat.lt_or_ge j (olds ++ news).size with h | h
            · exact h
            · rw [List.getElem?_eq_none (by simpa using h)] at hj2; cases hj2
          rw [Array.getElem?_append_left hlt]
          rw [← Array.getElem?_toList]; exact hj2)
        (fun j hj => .inr ⟨rfl, by
          rw [List.length_append, hol, hnl, ← Nat.add_mul] at hj
          rw [hk, Nat.add_sub_cancel_left]
          exact hj⟩) (by rw [hlen]; exact hcge)
      rw [← hlen]
      refine .tl (rows ++ ys) tid st (P.cellsOf e) k _ newCap hlst htk (by rw [hlen, hk]; exact Nat.le_refl _) (fun row hr => ?_) (by simp [Gh.tokNew]) (fun _ _ => ⟨by simp [Gh.tokNew], by simp [Gh.tokNew], by simp [Gh.tokNew]⟩)
      obtain ⟨i, hi'⟩ := List.getElem?_of_mem hr
      exact fit_append hfit hfit0 i row hi'
    split at h
    · -- into a mutable array's own room
      rename_i r off len s'
      split at h
      · rename_i hcnd
        obtain ⟨rfl, _⟩ := hcnd
        split at h
        · rename_i ocs hobj
          split at h
          · rename_i hroom
            cases h
            cases hsv with
            | sl _ _ _ _ cap a hh hcap hsz hin hout ha hsp =>
              have hln : ocs.length = g.len r := (hs.cells r ocs hobj).1
              have hcap2 : len + ys.length ≤ cap := by
                rw [Nat.add_mul] at hroom
                have : (len + ys.length) * P.cellsOf e ≤ cap * P.cellsOf e := by rw [Nat.add_mul]; omega
                exact Nat.le_of_mul_le_mul_right this hpos
              have hxl : ((ys.flatten).map V.d).length = ys.length * P.cellsOf e := by rw [List.length_map, flatten_len ys hys]
              rw [Nat.add_mul] at hroom
              obtain ⟨w', r1, r2, r3⟩ := hs.splice (P := P) hobj (off := off + len * P.cellsOf e) (DRs.to_v hsrc.one hsrc.rel) hsrc.one (by rw [hxl]; omega)
              by_cases hlt : off < g.len r
              · have haa := ha hlt
                subst haa
                refine ⟨_, w', g, ?_, r2, .sl r off (len + ys.length) (P.cellsOf e) cap _ hh hcap2 hpos (by rw [Nat.add_mul]; omega) hout (fun _ => rfl) rfl, r3⟩
                rw [runFit hcap2, addr_add, Nat.add_assoc, r1]
                rfl
              · have hz1 : len * P.cellsOf e = 0 := by omega
                have hz2 : ys.length * P.cellsOf e = 0 := by omega
                have hn0 : news.toList = [] := List.eq_nil_of_length_eq_zero (by rw [hnl]; exact hz2)
                rw [hn0] at r1
                have hw : w' = w := by simp [storeCells] at r1; exact r1.symm
                subst hw
                refine ⟨_, w', g, ?_, r2, .sl r off (len + ys.length) (P.cellsOf e) cap a hh hcap2 hpos (by rw [Nat.add_mul]; omega) hout (fun h => absurd h hlt) hsp, r3⟩
                rw [runFit hcap2, hn0]
                simp [storeCells]
          · cases h
        · cases h
      · cases h
    · split at h
      · -- nothing is appended
        rename_i hnil
        subst hnil
        split at h
        · rename_i hrows
          cases h
          obtain ⟨rows, hr⟩ := Option.isSome_iff_exists.1 hrows
          have hn0 : news.toList = [] := List.eq_nil_of_length_eq_zero (by rw [hnl]; simp)
          rcases rows_rel hs hsv hr with ⟨rfl, rfl⟩ | ⟨a, cap, sz, cv, rfl, hcap, _⟩
          · refine ⟨_, w, g, ?_, hs, hsv, Ev.refl _ _ _⟩
            have hz : (match dx with | .int _ => true | _ => false) = false := by cases dx <;> first | rfl | exact absurd rfl (hni _)
            have hl := hsrc.len
            have hf := hsrc.first w rfl
            simp at hl hf
            simp [Builtin.append_, run_underlying ht, run_underlying hx, sizeOf, typeInfo, hi, hz, hl, hisz, hf]
          · refine ⟨_, w, g, ?_, hs, hsv, Ev.refl _ _ _⟩
            rw [runFit (by simpa using hcap), hn0]
            simp [storeCells]
        · cases h
      · rename_i hne
        have hn : 0 < ys.length := List.length_pos_iff.2 hne
        split at h
        · -- onto nil
          split at h
          · rename_i hcnd
            obtain ⟨_, h48, h63⟩ := hcnd
            cases h
            have := hsv.inv_d
            cases this
            have := grow (sLen := 0) (sCap := 0) (tid := σ.toks.length) (k := ys.length) (st := 0) (base := none) (rows := []) (olds := #[]) (σ2 := σ.pushTok ys.length) rfl rfl (fun w' _ => by simp [Builtin.firstCells]) trivial (by simp) (by omega) (by omega) (by rw [Nat.zero_add]; exact h48) rfl
              (by simp [St.pushTok]) (fun t' ht' => by
                simp only [St.pushTok]
                rcases Nat.lt_or_ge t' σ.toks.length with h | h
                · rw [List.getElem?_append_left h]
                · rw [List.getElem?_eq_none (by simp; omega), List.getElem?_eq_none h]) (fun k0 hk0 => by simp at hk0) (by omega)
            simpa using this
          · cases h
        · -- onto a full slice
          rename_i rows _
          split at h
          · rename_i hcnd
            obtain ⟨_, hfit, h48, h63⟩ := hcnd
            cases h
            have hd := fl_dr hsv
            cases hsv with
            | fl _ a hd' =>
              have hro : RowsR g.frz w rows (.slice (some a) rows.length rows.length) := .inr hd.rows
              obtain ⟨olds, ho⟩ := src_rows (P := P) hro hpos hfit
              exact grow (sLen := rows.length) (sCap := rows.length) (tid := σ.toks.length) (k := rows.length + ys.length) (st := 0) (base := some a) (rows := rows) (olds := olds) (σ2 := σ.pushTok (rows.length + ys.length)) rfl hfit ho.first ho.rel ho.one (by omega) h63 h48 rfl
                (by simp [St.pushTok]) (fun t' ht' => by
                  simp only [St.pushTok]
                  rcases Nat.lt_or_ge t' σ.toks.length with h | h
                  · rw [List.getElem?_append_left h]
                  · rw [List.getElem?_eq_none (by simp; omega), List.getElem?_eq_none h]) (fun k0 hk0 => by simp at hk0) (by omega)
          · cases h
        · -- onto a list that may grow
          rename_i rows tid st s' _
          split at h
          · rename_i hcnd
            obtain ⟨rfl, hfit, htk, h48, h63⟩ := hcnd
            cases h
            have hd := tl_dr hsv
            cases hsv with
            | tl _ _ _ _ k a cap hd' ht' hle hh hsz ha =>
              rw [htk] at ht'
              cases ht'
              have htl : tid < σ.toks.length := by
                rcases Nat.lt_or_ge tid σ.toks.length with h | h
                · exact h
                · rw [List.getElem?_eq_none h] at htk; cases htk
              by_cases hroom : rows.length + ys.length ≤ cap
              · obtain ⟨a0, rfl, a2⟩ := ha rfl (by omega)
                obtain ⟨w', r1, r2, r3, r4⟩ := hs.tok_fit (P := P) htk hn (by omega) (news := news.toList) (by rw [hsz]; exact hnl) hsrc.one
                have hL : (g.tok tid).o + (st - (g.tok tid).s0) * (g.tok tid).sz + rows.length * P.cellsOf e = (g.tok tid).o + (st + rows.length - (g.tok tid).s0) * (g.tok tid).sz := by
                  rw [show st + rows.length - (g.tok tid).s0 = (st - (g.tok tid).s0) + rows.length by omega, Nat.add_mul, hsz]
                  omega
                have hlen : (rows ++ ys).length = rows.length + ys.length := by simp
                refine ⟨.slice (some ⟨(g.tok tid).b, (g.tok tid).o + (st - (g.tok tid).s0) * (g.tok tid).sz, none⟩) (rows.length + ys.length) cap, w', _, ?_, r2, ?_, r3⟩
                · rw [runFit hroom, addr_add, hL, r1]
                  rfl
                · rw [← hlen]
                  have hla := list_append (w := w') (f := (g.tokFit (g.tok tid).b ((g.tok tid).o + (st + rows.length - (g.tok tid).s0) * (g.tok tid).sz) ((g.tok tid).o + (st + rows.length - (g.tok tid).s0) * (g.tok tid).sz + news.toList.length)).frz)
                    (fun i row hr => fitR_get hfit hr) hys hpos (hd.mono r3.later.stay) (hsrc.rel.mono r3.later.stay) hsrc.one (fun j hj => .inr ⟨rfl, by rw [hL]; omega, by rw [hL]; omega⟩) (fun j v hj => by rw [hL]; exact r4 j v hj) (by simpa using hroom)
                  refine .tl (rows ++ ys) tid st (P.cellsOf e) (st + rows.length + ys.length) _ cap hla ?_ (by rw [hlen]; omega) (fun row hr => ?_) hsz (fun _ _ => ⟨a0, rfl, a2⟩)
                  · simp [St.setTok, htl]
                  · obtain ⟨i, hi'⟩ := List.getElem?_of_mem hr
                    exact fit_append hfit hfit0 i row hi'
              · have hro : RowsR g.frz w rows (.slice (some a) rows.length cap) := .inr hd.rows
                obtain ⟨olds, ho⟩ := src_rows (P := P) hro hpos hfit
                refine grow (sLen := rows.length) (sCap := cap) (tid := tid) (k := st + rows.length + ys.length) (st := st) (base := some a) (rows := rows) (olds := olds) (σ2 := σ.setTok tid (st + rows.length + ys.length)) rfl hfit ?_ ho.rel ho.one (by omega) h63 h48 rfl
                  (by simp [St.setTok, htl]) (fun t' ht' => by simp only [St.setTok]; rw [List.getElem?_set_ne (fun e => ht' e.symm)]) (fun k0 hk0 => by rw [htk] at hk0; cases hk0; exact ⟨by omega, hsz⟩) (by omega)
                exact ho.first
          · cases h
        · cases h

end Go.Dn
