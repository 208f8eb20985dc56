import Derived.Test.YtmlkdfjojoophaaFw20
import Derived.Laws.Externs
import Derived.KernelRfl
/- append as the abstract machine has it. -/
namespace Go.Dn
open Go.Lib
set_option linter.unusedVariables false
set_option linter.unusedSimpArgs false

variable {P : Program} {g : Gh} {σ : St} {tk : List Nat} {w : World}

theorem growOk_inv {e : TypeId} (h : growOk P e = true) : ∃ i z, P.info? e = some i ∧ i.zero = some z ∧ i.size = P.cellsOf e ∧ i.bytes = P.bytesOf e ∧ P.cellsOf e ≠ 0 ∧ z.cells.size = P.cellsOf e ∧ (∀ v ∈ z.cells.toList, oneC v = true) := by
 unfold growOk at h
 split at h
 ·rename_i zl hz
  simp only [Bool.and_eq_true, bne_iff_ne, ne_eq, beq_iff_eq] at h
  obtain ⟨i, z, hi, hzv, hleaf⟩ := zeroOf_inv hz
  obtain ⟨z1, _⟩ := leafsD_rel hleaf
  refine ⟨i, z, hi, hzv, by simp [Program.cellsOf, hi], by simp [Program.bytesOf, hi], h.1, by rw [← h.2, z1]; simp, fun v hv => ?_⟩
  obtain ⟨k, hk⟩ := List.getElem?_of_mem hv
  exact leafsD_one hleaf k v hk
 ·cases h

theorem grown_list {f : Nat → Nat → Prop} {b sz cap : Nat} {rows : List (List D)} {c : Array Value} {e : TypeId} {fz : Nat × Nat} {w' : World} (hb : w'.heap[b]? = some (.cells c e fz)) (hpos : 0 < sz) (hfit : ∀ (i : Nat) (row : List D), rows[i]? = some row → row.length = sz)
  {l : List Value} (hd : DRs f w' rows.flatten l) (h1 : ∀ v ∈ l, oneC v = true) (hc : ∀ (j : Nat) (v : Value), l[j]? = some v → c[j]? = some v) (hf : ∀ j, j < l.length → f b j) (hcap : rows.length ≤ cap) :
  DR f w' (.list rows) (.slice (some ⟨b, 0, none⟩) rows.length cap) := by
 have := list_append (f := f) (w := w') (rows := []) (ys := rows) (b := b) (o := 0) (cap := cap) (sz := sz) (fun i row h => by simp at h) hfit hpos (DR.list_empty _ _ rfl) hd h1
  (fun j hj => by simpa using hf j hj) (fun j v hj => by rw [cell_of_block hb]; simpa using hc j v hj) (by simpa using hcap)
 simpa using this

theorem DRs.append {f : Nat → Nat → Prop} : ∀ {as bs : List D} {xs ys : List Value}, DRs f w as xs → DRs f w bs ys → DRs f w (as ++ bs) (xs ++ ys)
 | [], _, [], _, _, h => h
 | _ :: _, _, _ :: _, _, h, h' => ⟨h.1, DRs.append h.2 h'⟩
 | [], _, _ :: _, _, h, _ => h.elim
 | _ :: _, _, [], _, h, _ => h.elim

theorem DRs.mono {f f' : Nat → Nat → Prop} {w w' : World} (hs : Stay f f' w w') : ∀ {ds : List D} {vs : List Value}, DRs f w ds vs → DRs f' w' ds vs
 | [], [], _ => trivial
 | _ :: _, _ :: _, h => ⟨h.1.mono hs, DRs.mono hs h.2⟩
 | [], _ :: _, h => h.elim
 | _ :: _, [], h => h.elim

theorem fit_append {sz : Nat} {rows ys : List (List D)} (h : fitR sz rows = true) (h' : fitR sz ys = true) : ∀ (i : Nat) (row : List D), (rows ++ ys)[i]? = some row → row.length = sz := fun i row hr => by
 have : fitR sz (rows ++ ys) = true := by
  unfold fitR at *
  rw [List.all_append, h, h']
  rfl
 exact fitR_get this hr

theorem append_rel (hs : Sim g σ w) {t xT e ty : TypeId} (ht : P.underlying t = some (.slice e)) (hg : growOk P e = true) {dx : TypeDesc} (hx : P.underlying xT = some dx) (hni : ∀ k, dx ≠ .int k) {s v : V} {cs cx : Value} (hsv : VR g σ.toks w s cs)
  {ys : List (List D)} {news : Array Value} (hsrc : fitR (P.cellsOf e) ys = true → Src P g.frz w (P.cellsOf e) ys cx news) {tg : Option Nat} {σ' : St} (h : appendV σ tg (P.cellsOf e) (P.bytesOf e) s ys = some (v, σ')) :
  EStep P g σ w (Builtin.append_ #[t, xT] ty #[cs, cx]) v σ' := by
 obtain ⟨i, z, hi, hzv, hisz, hiby, hc0, hzs, hz1⟩ := growOk_inv hg
 have hpos : 0 < P.cellsOf e := by omega
 unfold appendV at h
 split at h
 ·cases h
 ·rename_i hfit0
  simp only [Bool.not_eq_false] at hfit0
  have hsrc := hsrc hfit0
  have hys : ∀ (i : Nat) (row : List D), ys[i]? = some row → row.length = P.cellsOf e := fun i row hr => fitR_get hfit0 hr
  have hnl : news.toList.length = ys.length * P.cellsOf e := by rw [← hsrc.rel.length, flatten_len ys hys]
  have runFit : ∀ {a : Addr} {sLen sCap : Nat}, sLen + ys.length ≤ sCap → (Builtin.append_ #[t, xT] ty #[.slice (some a) sLen sCap, cx]).run P w = ((storeCells (a.add (sLen * P.cellsOf e)) news.toList).run P w).andThen fun _ w' => .ok (.slice (some a) (sLen + ys.length) sCap) w' := by
   intro a sLen sCap hf
   have := run_append_fit' (w := w) (ty := ty) ht hi hx hni (a := a) (sLen := sLen) (sCap := sCap) (n := ys.length) (cx := cx) (news := news) hsrc.len (by rw [hisz]; exact hsrc.first w rfl) hf
   rw [hisz] at this
   exact this
  have runGrow : ∀ {base : Option Addr} {sLen sCap : Nat} {olds : Array Value}, (∀ w' : World, w'.heap = w.heap → (Builtin.firstCells (P.cellsOf e) sLen (.slice base sLen sCap)).run P w' = .ok olds w') → sCap < sLen + ys.length → sLen + ys.length ≤ 9223372036854775807 → (sLen + ys.length) * P.bytesOf e ≤ 140737488355328 →
    (Builtin.append_ #[t, xT] ty #[.slice base sLen sCap, cx]).run P w = .ok (.slice (some ⟨w.heap.size, 0, none⟩) (sLen + ys.length) (grownCap w (sLen + ys.length) sCap e))
     (w.drew.alloc (.cells (olds ++ news ++ Builtin.zeroCells z.cells (grownCap w (sLen + ys.length) sCap e - (sLen + ys.length))) e)) := by
   intro base sLen sCap olds ho hgt h63 h48
   exact run_append_grow' (w := w) (ty := ty) ht hi hzv hx hni (base := base) (sLen := sLen) (sCap := sCap) (n := ys.length) (cx := cx) (news := news) (olds := olds) hsrc.len (by rw [hisz]; exact hsrc.first) (by rw [hisz]; exact ho) hgt h63 (by rw [hiby]; exact h48)
  have hgr : ∀ c : Array Value, Grown1 w (.cells c e (0, 0)) (w.drew.alloc (.cells c e)) := fun c => ⟨by simp [World.alloc, World.drew, -World.alloc_eq, -World.drew_eq], by simp [World.alloc, World.drew, -World.alloc_eq, -World.drew_eq], by simp [World.alloc, World.drew, -World.alloc_eq, -World.drew_eq], by simp [World.alloc, World.drew, -World.alloc_eq, -World.drew_eq]⟩
  -- a new block, with a token of its own or the old one's
  have grow : ∀ {sLen sCap tid k st : Nat} {base : Option Addr} {rows : List (List D)} {olds : Array Value} {σ2 : St}, rows.length = sLen → fitR (P.cellsOf e) rows = true → (∀ w' : World, w'.heap = w.heap → (Builtin.firstCells (P.cellsOf e) sLen (.slice base sLen sCap)).run P w' = .ok olds w') →
    DRs g.frz w rows.flatten olds.toList → (∀ v ∈ olds.toList, oneC v = true) → sCap < sLen + ys.length → sLen + ys.length ≤ 9223372036854775807 → (sLen + ys.length) * P.bytesOf e ≤ 140737488355328 →
    σ2.objs = σ.objs → σ2.toks[tid]? = some k → (∀ t, t ≠ tid → σ2.toks[t]? = σ.toks[t]?) → (∀ k0, σ.toks[tid]? = some k0 → k0 < k ∧ (g.tok tid).sz = P.cellsOf e) → k = st + (sLen + ys.length) →
    EStep P g σ w (Builtin.append_ #[t, xT] ty #[.slice base sLen sCap, cx]) (.tl (rows ++ ys) tid st (P.cellsOf e)) σ2 := by
   intro sLen sCap tid k st base rows olds σ2 hrl hfit ho hor ho1 hgt h63 h48 hobjs htk hother hgrow hk
   have hrows : ∀ (i : Nat) (row : List D), rows[i]? = some row → row.length = P.cellsOf e := fun i row hr => fitR_get hfit hr
   have hol : olds.toList.length = sLen * P.cellsOf e := by rw [← hor.length, flatten_len rows hrows, hrl]
   have hcge := grownCap_ge w (sLen + ys.length) sCap e
   generalize hcap : grownCap w (sLen + ys.length) sCap e = newCap at *
   have hrun := runGrow ho hgt h63 h48
   rw [hcap] at hrun
   generalize hce : olds ++ news ++ Builtin.zeroCells z.cells (newCap - (sLen + ys.length)) = c at *
   have hcs : c.size = newCap * P.cellsOf e := by
    rw [← hce]
    simp only [Array.size_append, size_zeroCells, hzs]
    have a1 : olds.size = sLen * P.cellsOf e := by simpa using hol
    have a2 : news.size = ys.length * P.cellsOf e := by simpa using hnl
    rw [a1, a2, ← Nat.add_mul, ← Nat.add_mul]
    congr 1
    omega
   have m1 := Nat.mul_le_mul_right (P.cellsOf e) hcge
   obtain ⟨s1, s2⟩ := hs.tok_new (lim := st + newCap) (s0 := st) hobjs htk hother hgrow (by omega) hpos (c := c) (e := e) (by rw [Nat.add_sub_cancel_left, hcs]; exact Nat.le_refl _) (by rw [hk, Nat.add_sub_cancel_left, hcs]; exact m1) (hgr c)
   have hlen : (rows ++ ys).length = sLen + ys.length := by simp [hrl]
   refine ⟨_, _, _, hrun, s1, ?_, s2⟩
   have hd : DRs (g.tokNew tid w.heap.size st (P.cellsOf e) (st + newCap) ((k - st) * P.cellsOf e)).frz (w.drew.alloc (.cells c e)) (rows ++ ys).flatten (olds.toList ++ news.toList) := by
    rw [List.flatten_append]
    exact (hor.append hsrc.rel).mono s2.later.stay
   have hlst := grown_list (cap := newCap) (hgr c).new hpos (fit_append hfit hfit0) hd (fun v hv => by
     rcases List.mem_append.1 hv with h | h
     ·exact ho1 v h
     ·exact hsrc.one v h)
    (fun j v hj => by
     rw [← hce]
     have hj2 : (olds ++ news).toList[j]? = some v := by simpa using hj
     have hlt : j < (olds ++ news).size := by
      rcases Nat.lt_or_ge j (olds ++ news).size with h | h
      ·exact h
      ·rw [List.getElem?_eq_none (by simpa using h)] at hj2; cases hj2
     rw [Array.getElem?_append_left hlt]
     rw [← Array.getElem?_toList]; exact hj2)
    (fun j hj => .inr ⟨rfl, by
     rw [List.length_append, hol, hnl, ← Nat.add_mul] at hj
     rw [hk, Nat.add_sub_cancel_left]
     exact hj⟩) (by rw [hlen]; exact hcge)
   rw [← hlen]
   refine .tl (rows ++ ys) tid st (P.cellsOf e) k _ newCap hlst htk (by rw [hlen, hk]; exact Nat.le_refl _) (fun row hr => ?_) (by simp [Gh.tokNew]) (fun _ _ => ⟨by simp [Gh.tokNew], by simp [Gh.tokNew], by simp [Gh.tokNew]⟩)
   obtain ⟨i, hi'⟩ := List.getElem?_of_mem hr
   exact fit_append hfit hfit0 i row hi'
  split at h
  ·-- into a mutable array's own room
   rename_i r off len s'
   split at h
   ·rename_i hcnd
    obtain ⟨rfl, _⟩ := hcnd
    split at h
    ·rename_i ocs hobj
     split at h
     ·rename_i hroom
      cases h
      cases hsv with
      | sl _ _ _ _ cap a hh hcap hsz hin hout ha hsp hlim =>
       have hln : ocs.length = g.len r := (hs.cells r ocs hobj).1
       have hcap2 : len + ys.length ≤ cap := by
        rw [Nat.add_mul] at hroom
        have : (len + ys.length) * P.cellsOf e ≤ cap * P.cellsOf e := by rw [Nat.add_mul]; omega
        exact Nat.le_of_mul_le_mul_right this hpos
       have hxl : ((ys.flatten).map V.d).length = ys.length * P.cellsOf e := by rw [List.length_map, flatten_len ys hys]
       rw [Nat.add_mul] at hroom
       obtain ⟨w', r1, r2, r3⟩ := hs.splice (P := P) hobj (off := off + len * P.cellsOf e) (DRs.to_v hsrc.one hsrc.rel) hsrc.one (by rw [hxl]; omega)
       by_cases hlt : off < g.len r
       ·have haa := ha hlt
        subst haa
        refine ⟨_, w', g, ?_, r2, .sl r off (len + ys.length) (P.cellsOf e) cap _ hh hcap2 hpos (by rw [Nat.add_mul]; omega) hout (fun _ => rfl) rfl hlim, r3⟩
        rw [runFit hcap2, addr_add, Nat.add_assoc, r1]
        rfl
       ·have hz1 : len * P.cellsOf e = 0 := by omega
        have hz2 : ys.length * P.cellsOf e = 0 := by omega
        have hn0 : news.toList = [] := List.eq_nil_of_length_eq_zero (by rw [hnl]; exact hz2)
        rw [hn0] at r1
        have hw : w' = w := by simp [storeCells] at r1; exact r1.symm
        subst hw
        refine ⟨_, w', g, ?_, r2, .sl r off (len + ys.length) (P.cellsOf e) cap a hh hcap2 hpos (by rw [Nat.add_mul]; omega) hout (fun h => absurd h hlt) hsp hlim, r3⟩
        rw [runFit hcap2, hn0]
        simp [storeCells]
     ·cases h
    ·cases h
   ·cases h
  ·split at h
   ·-- nothing is appended
    rename_i hnil
    subst hnil
    split at h
    ·rename_i hrows
     cases h
     obtain ⟨rows, hr⟩ := Option.isSome_iff_exists.1 hrows
     have hn0 : news.toList = [] := List.eq_nil_of_length_eq_zero (by rw [hnl]; simp)
     rcases rows_rel hs hsv hr with ⟨rfl, rfl⟩ | ⟨a, cap, sz, cv, rfl, hcap, _⟩
     ·refine ⟨_, w, g, ?_, hs, hsv, Ev.refl _ _ _⟩
      have hz : (match dx with | .int _ => true | _ => false) = false := by cases dx <;> first | rfl | exact absurd rfl (hni _)
      have hl := hsrc.len
      have hf := hsrc.first w rfl
      simp at hl hf
      simp [Builtin.append_, run_underlying ht, run_underlying hx, sizeOf, typeInfo, hi, hz, hl, hisz, hf]
     ·refine ⟨_, w, g, ?_, hs, hsv, Ev.refl _ _ _⟩
      rw [runFit (by simpa using hcap), hn0]
      simp [storeCells]
    ·cases h
   ·rename_i hne
    have hn : 0 < ys.length := List.length_pos_iff.2 hne
    split at h
    ·-- onto nil
     split at h
     ·rename_i hcnd
      obtain ⟨_, h48, h63⟩ := hcnd
      cases h
      have := hsv.inv_d
      cases this
      have := grow (sLen := 0) (sCap := 0) (tid := σ.toks.length) (k := ys.length) (st := 0) (base := none) (rows := []) (olds := #[]) (σ2 := σ.pushTok ys.length) rfl rfl (fun w' _ => by simp [Builtin.firstCells]) trivial (by simp) (by omega) (by omega) (by rw [Nat.zero_add]; exact h48) rfl
       (by simp [St.pushTok]) (fun t' ht' => by
        simp only [St.pushTok]
        rcases Nat.lt_or_ge t' σ.toks.length with h | h
        ·rw [List.getElem?_append_left h]
        ·rw [List.getElem?_eq_none (by simp; omega), List.getElem?_eq_none h]) (fun k0 hk0 => by simp at hk0) (by omega)
      simpa using this
     ·cases h
    ·-- onto a full slice
     rename_i rows _
     split at h
     ·rename_i hcnd
      obtain ⟨_, hfit, h48, h63⟩ := hcnd
      cases h
      have hd := fl_dr hsv
      cases hsv with
      | fl _ a hd' =>
       have hro : RowsR g.frz w rows (.slice (some a) rows.length rows.length) := .inr hd.rows
       obtain ⟨olds, ho⟩ := src_rows (P := P) hro hpos hfit
       exact grow (sLen := rows.length) (sCap := rows.length) (tid := σ.toks.length) (k := rows.length + ys.length) (st := 0) (base := some a) (rows := rows) (olds := olds) (σ2 := σ.pushTok (rows.length + ys.length)) rfl hfit ho.first ho.rel ho.one (by omega) h63 h48 rfl
        (by simp [St.pushTok]) (fun t' ht' => by
         simp only [St.pushTok]
         rcases Nat.lt_or_ge t' σ.toks.length with h | h
         ·rw [List.getElem?_append_left h]
         ·rw [List.getElem?_eq_none (by simp; omega), List.getElem?_eq_none h]) (fun k0 hk0 => by simp at hk0) (by omega)
     ·cases h
    ·-- onto a list that may grow
     rename_i rows tid st s' _
     split at h
     ·rename_i hcnd
      obtain ⟨rfl, hfit, htk, h48, h63⟩ := hcnd
      cases h
      have hd := tl_dr hsv
      cases hsv with
      | tl _ _ _ _ k a cap hd' ht' hle hh hsz ha =>
       rw [htk] at ht'
       cases ht'
       have htl : tid < σ.toks.length := by
        rcases Nat.lt_or_ge tid σ.toks.length with h | h
        ·exact h
        ·rw [List.getElem?_eq_none h] at htk; cases htk
       by_cases hroom : rows.length + ys.length ≤ cap
       ·obtain ⟨a0, rfl, a2⟩ := ha rfl (by omega)
        obtain ⟨w', r1, r2, r3, r4⟩ := hs.tok_fit (P := P) htk hn (by omega) (news := news.toList) (by rw [hsz]; exact hnl) hsrc.one
        have hL : (g.tok tid).o + (st - (g.tok tid).s0) * (g.tok tid).sz + rows.length * P.cellsOf e = (g.tok tid).o + (st + rows.length - (g.tok tid).s0) * (g.tok tid).sz := by
         rw [show st + rows.length - (g.tok tid).s0 = (st - (g.tok tid).s0) + rows.length by omega, Nat.add_mul, hsz]
         omega
        have hlen : (rows ++ ys).length = rows.length + ys.length := by simp
        refine ⟨.slice (some ⟨(g.tok tid).b, (g.tok tid).o + (st - (g.tok tid).s0) * (g.tok tid).sz, none⟩) (rows.length + ys.length) cap, w', _, ?_, r2, ?_, r3⟩
        ·rw [runFit hroom, addr_add, hL, r1]
         rfl
        ·rw [← hlen]
         have hla := list_append (w := w') (f := (g.tokFit (g.tok tid).b ((g.tok tid).o + (st + rows.length - (g.tok tid).s0) * (g.tok tid).sz) ((g.tok tid).o + (st + rows.length - (g.tok tid).s0) * (g.tok tid).sz + news.toList.length)).frz)
          (fun i row hr => fitR_get hfit hr) hys hpos (hd.mono r3.later.stay) (hsrc.rel.mono r3.later.stay) hsrc.one (fun j hj => .inr ⟨rfl, by rw [hL]; omega, by rw [hL]; omega⟩) (fun j v hj => by rw [hL]; exact r4 j v hj) (by simpa using hroom)
         refine .tl (rows ++ ys) tid st (P.cellsOf e) (st + rows.length + ys.length) _ cap hla ?_ (by rw [hlen]; omega) (fun row hr => ?_) hsz (fun _ _ => ⟨a0, rfl, a2⟩)
         ·simp [St.setTok, htl]
         ·obtain ⟨i, hi'⟩ := List.getElem?_of_mem hr
          exact fit_append hfit hfit0 i row hi'
       ·have hro : RowsR g.frz w rows (.slice (some a) rows.length cap) := .inr hd.rows
        obtain ⟨olds, ho⟩ := src_rows (P := P) hro hpos hfit
        refine grow (sLen := rows.length) (sCap := cap) (tid := tid) (k := st + rows.length + ys.length) (st := st) (base := some a) (rows := rows) (olds := olds) (σ2 := σ.setTok tid (st + rows.length + ys.length)) rfl hfit ?_ ho.rel ho.one (by omega) h63 h48 rfl
         (by simp [St.setTok, htl]) (fun t' ht' => by simp only [St.setTok]; rw [List.getElem?_set_ne (fun e => ht' e.symm)]) (fun k0 hk0 => by rw [htk] at hk0; cases hk0; exact ⟨by omega, hsz⟩) (by omega)
        exact ho.first
     ·cases h
    ·cases h

end Go.Dn

/- A slice of an object, appended to: the object is let go, a new one has all. -/
namespace Go.Dn
open Go.Lib
set_option linter.unusedVariables false
set_option linter.unusedSimpArgs false

variable {P : Program} {g : Gh} {σ : St} {w : World}

theorem Sim.drop (hs : Sim g σ w) {r : Nat} {o : Obj} (hr : σ.objs[r]? = some o) (hf : o ≠ .free) : Sim g (σ.setObj r .dead) w ∧ Ev g σ w g (σ.setObj r .dead) w ∧ (∀ q o', (σ.setObj r .dead).objs[q]? = some o' → o'.live → q ≠ r ∧ σ.objs[q]? = some o') := by
 have hrl : r < σ.objs.length := (List.getElem?_eq_some_iff.1 hr).1
 have obj : ∀ (q : Nat) (o' : Obj), (σ.setObj r .dead).objs[q]? = some o' → (q = r ∧ o' = .dead) ∨ (q ≠ r ∧ σ.objs[q]? = some o') := by
  intro q o' h
  simp only [St.setObj] at h
  by_cases hq : q = r
  ·subst hq
   rw [List.getElem?_set_self hrl] at h
   cases h
   exact .inl ⟨rfl, rfl⟩
  ·rw [List.getElem?_set_ne (fun e => hq e.symm)] at h
   exact .inr ⟨hq, h⟩
 have live : ∀ (q : Nat) (o' : Obj), (σ.setObj r .dead).objs[q]? = some o' → o'.live → q ≠ r ∧ σ.objs[q]? = some o' := by
  intro q o' h hl
  rcases obj q o' h with ⟨_, rfl⟩ | h
  ·exact hl.elim
  ·exact h
 have hm : ∀ b, Mine g (σ.setObj r .dead) b → Mine g σ b := fun b h => by
  rcases h with ⟨q, o', h1, h2, h3⟩ | h
  ·exact .inl ⟨q, o', (live q o' h1 h2).2, h2, h3⟩
  ·exact .inr h
 refine ⟨⟨fun q o' h1 h2 => hs.has q o' (live q o' h1 h2).2 h2, fun q hq => by simpa [St.setObj] using hs.bound q hq, fun q hq => ?_, fun q cs h => hs.cells q cs (live q _ h trivial).2, fun q o' h ho => hs.oth q o' (live q o' h ho.live).2 ho,
  fun q q' o1 o2 h1 h2 h3 h4 hne => hs.dist q q' o1 o2 (live q o1 h1 h2).2 h2 (live q' o2 h3 h4).2 h4 hne, fun q o' h1 h2 => hs.nofrz q o' (live q o' h1 h2).2 h2, hs.tok, hs.tdist, fun t k q o' h1 h2 h3 => hs.tobj t k q o' h1 (live q o' h2 h3).2 h3, hs.frzb, fun q cs h => hs.lims q cs (live q _ h trivial).2⟩,
  ⟨Later.refl _ _ _, Nat.le_refl _, rfl, rfl, rfl, fun _ _ _ => rfl, fun b h => .inl (hm b h), fun _ _ h => .inl h⟩, live⟩
 rcases obj q _ hq with ⟨_, h⟩ | ⟨_, h⟩
 ·cases h
 ·exact hs.free q h

def Gh.own (g : Gh) (r b o n m : Nat) : Gh :=
 { g with has := fun q => g.has q ∨ q = r, obj := fun q => if q = r then (b, o) else g.obj q, len := fun q => if q = r then n else g.len q, lim := fun q => if q = r then m else g.lim q }

theorem Sim.reown (hs : Sim g σ w) {tg : Option Nat} {cs : List V} {σ' : St} (hp : σ.place tg (.cells cs) = some σ') {b : Nat} {o : Nat} {c c' : Array Value} {e : TypeId} {fz : Nat × Nat} (hb : w.heap[b]? = some (.cells c e fz)) (hn : NoFz c fz) (hc' : c'.size = c.size)
  (hun : ¬ Mine g σ b) (hfz : ∀ q, ¬ g.frz b q) {m : Nat} (hlm : cs.length ≤ m) (hm : o + m ≤ c.size) (hrel : ∀ (j : Nat) (v : V), cs[j]? = some v → ∃ cv, c'[o + j]? = some cv ∧ oneC cv = true ∧ VR g σ.toks w v cv) :
  Sim (g.own (σ.spot tg) b o cs.length m) σ' (putB w b (.cells c' e fz)) ∧ Later g σ.toks w (g.own (σ.spot tg) b o cs.length m) σ'.toks (putB w b (.cells c' e fz)) ∧ (∀ b', Mine (g.own (σ.spot tg) b o cs.length m) σ' b' → Mine g σ b' ∨ b' = b) := by
 obtain ⟨p1, p2, p3, p4, p5⟩ := place_inv hp
 have hnh : ¬ g.has (σ.spot tg) := by
  intro hh
  rcases p5 with h | h
  ·have := hs.bound _ hh
   rw [List.getElem?_eq_none_iff] at h
   omega
  ·exact hs.free _ h hh
 have hcell : ∀ b' q, g.frz b' q → (putB w b (.cells c' e fz)).cell? ⟨b', q, none⟩ = w.cell? ⟨b', q, none⟩ := fun b' q hf => putB_cell w _ (fun e => hfz q (by rw [e]; exact hf)) q
 have keep : ∀ r, g.has r → r ≠ σ.spot tg := fun r hr e => hnh (e ▸ hr)
 have hl : Later g σ.toks w (g.own (σ.spot tg) b o cs.length m) σ'.toks (putB w b (.cells c' e fz)) := by
  refine ⟨⟨fun b q hf => hf, hcell⟩, fun r hr => ⟨.inl hr, ?_, ?_⟩, fun t k ht => ⟨k, by rw [p1]; exact ht, Nat.le_refl _, fun _ => rfl, rfl⟩, rfl, fun r hr => by simp [Gh.own, keep r hr]⟩
  ·simp [Gh.own, keep r hr]
  ·simp [Gh.own, keep r hr]
 have hob : ∀ (q : Nat) (o' : Obj), σ.objs[q]? = some o' → o'.live → b ≠ (g.obj q).1 := fun q o' h1 h2 e => hun (.inl ⟨q, o', h1, h2, e.symm⟩)
 refine ⟨⟨fun r o' h1 h2 => ?_, fun r hr => ?_, fun r hr => ?_, fun r cs' hr' => ?_, fun r o' hr' hoth => ?_, fun r r' o1 o2 h1 h2 h3 h4 hne => ?_, fun r o' h1 h2 q => ?_, fun t k ht => ?_, fun t t' k k' h1 h2 h3 => ?_, fun t k r o' h1 h2 h3 => ?_, fun b' q hf => ?_, fun r cs' hr' => ?_⟩, hl, fun b' hb' => ?_⟩
 ·by_cases hq : r = σ.spot tg
  ·exact .inr hq
  ·exact .inl (hs.has r o' (by rw [← p2 r hq]; exact h1) h2)
 ·rcases hr with hr | rfl
  ·exact Nat.lt_of_lt_of_le (hs.bound r hr) p4
  ·exact (List.getElem?_eq_some_iff.1 p3).1
 ·intro hh
  by_cases hq : r = σ.spot tg
  ·subst hq; rw [p3] at hr; cases hr
  ·rcases hh with hh | hh
   ·exact hs.free r (by rw [← p2 r hq]; exact hr) hh
   ·exact hq hh
 ·by_cases hq : r = σ.spot tg
  ·subst hq
   rw [p3] at hr'
   cases hr'
   refine ⟨by simp [Gh.own], c', e, fz, by simp only [Gh.own, if_true]; exact putB_same w _ (block_lt hb), fun o' ho' => hn o' (by omega), fun j v hj => ?_⟩
   obtain ⟨cv, r1, r2, r3⟩ := hrel j v hj
   exact ⟨cv, by simpa [Gh.own] using r1, r2, r3.later hl⟩
  ·have hr2 : σ.objs[r]? = some (.cells cs') := by rw [← p2 r hq]; exact hr'
   obtain ⟨h1, c2, e2, fz2, hb2, hn2, hc2⟩ := hs.cells r cs' hr2
   refine ⟨by simp [Gh.own, hq, h1], c2, e2, fz2, by simp only [Gh.own, hq, if_false]; rw [putB_other w _ (hob r _ hr2 trivial)]; exact hb2, hn2, fun j v hj => ?_⟩
   obtain ⟨cv, r1, r2, r3⟩ := hc2 j v hj
   exact ⟨cv, by simp only [Gh.own, hq, if_false]; exact r1, r2, r3.later hl⟩
 ·by_cases hq : r = σ.spot tg
  ·subst hq; rw [p3] at hr'; cases hr'; exact hoth.elim
  ·have hr2 : σ.objs[r]? = some o' := by rw [← p2 r hq]; exact hr'
   obtain ⟨x, a1, a2⟩ := hs.oth r o' hr2 hoth
   exact ⟨x, by simp only [Gh.own, hq, if_false]; rw [putB_other w _ (hob r _ hr2 hoth.live)]; exact a1, a2.later hl⟩
 ·by_cases hq : r = σ.spot tg
  ·by_cases hq' : r' = σ.spot tg
   ·exact absurd (hq.trans hq'.symm) hne
   ·simp only [Gh.own, hq, hq', if_true, if_false]
    exact hob r' o2 (by rw [← p2 r' hq']; exact h3) h4
  ·by_cases hq' : r' = σ.spot tg
   ·simp only [Gh.own, hq, hq', if_true, if_false]
    exact fun e => hob r o1 (by rw [← p2 r hq]; exact h1) h2 e.symm
   ·simp only [Gh.own, hq, hq', if_false]
    exact hs.dist r r' o1 o2 (by rw [← p2 r hq]; exact h1) h2 (by rw [← p2 r' hq']; exact h3) h4 hne
 ·by_cases hq : r = σ.spot tg
  ·simp only [Gh.own, hq, if_true]
   exact hfz q
  ·simp only [Gh.own, hq, if_false]
   exact hs.nofrz r o' (by rw [← p2 r hq]; exact h1) h2 q
 ·rw [p1] at ht
  obtain ⟨h0, c2, e2, fz2, hb2, rest⟩ := hs.tok t k ht
  exact ⟨h0, c2, e2, fz2, by rw [show ((g.own (σ.spot tg) b o cs.length m).tok t) = g.tok t from rfl, putB_other w _ (fun e => hun (.inr ⟨t, k, ht, e.symm⟩))]; exact hb2, rest⟩
 ·rw [p1] at h1 h2
  exact hs.tdist t t' k k' h1 h2 h3
 ·rw [p1] at h1
  by_cases hq : r = σ.spot tg
  ·simp only [Gh.own, hq, if_true]
   exact fun e => hun (.inr ⟨t, k, h1, e⟩)
  ·simp only [Gh.own, hq, if_false]
   exact hs.tobj t k r o' h1 (by rw [← p2 r hq]; exact h2) h3
 ·obtain ⟨v, hv⟩ := hs.frzb b' q hf
  exact ⟨v, by rw [hcell b' q hf]; exact hv⟩
 ·by_cases hq : r = σ.spot tg
  ·subst hq
   rw [p3] at hr'
   cases hr'
   refine ⟨by simpa [Gh.own] using hlm, fun c2 e2 fz2 hb2 => ?_⟩
   simp only [Gh.own, if_true] at hb2 ⊢
   rw [putB_same w _ (block_lt hb)] at hb2
   cases hb2
   omega
  ·have hr2 : σ.objs[r]? = some (.cells cs') := by rw [← p2 r hq]; exact hr'
   refine ⟨by simp only [Gh.own, hq, if_false]; exact (hs.lims r cs' hr2).1, fun c2 e2 fz2 hb2 => ?_⟩
   simp only [Gh.own, hq, if_false] at hb2 ⊢
   rw [putB_other w _ (hob r _ hr2 trivial)] at hb2
   exact (hs.lims r cs' hr2).2 c2 e2 fz2 hb2
 ·rcases hb' with ⟨r, o', h1, h2, rfl⟩ | ⟨t, k, ht, rfl⟩
  ·by_cases hq : r = σ.spot tg
   ·right; simp [Gh.own, hq]
   ·left
    simp only [Gh.own, hq, if_false]
    exact .inl ⟨r, o', by rw [← p2 r hq]; exact h1, h2, rfl⟩
  ·left
   exact .inr ⟨t, k, by rw [← p1]; exact ht, rfl⟩

theorem run_first_cells {sz len cap : Nat} {a : Addr} {vs : List Value} (hl : vs.length = len * sz) (h : ∀ k, k < len * sz → w.cell? (a.add k) = vs[k]?) (w' : World) (hw : w'.heap = w.heap) : (Builtin.firstCells sz len (.slice (some a) len cap)).run P w' = .ok vs.toArray w' := by
 simp only [Builtin.firstCells]
 have := run_loadCells (P := P) w' a (len * sz) (fun k => vs.getD k undef) (fun j hj => by
  rw [cell_heap hw, h j hj]
  simp [List.getD_eq_getElem?_getD, show j < vs.length by omega])
 rw [this]
 congr 2
 apply List.ext_getElem?
 intro k
 rw [List.getElem?_map]
 by_cases hk : k < len * sz
 ·simp [hk, List.getElem?_range, List.getD_eq_getElem?_getD, show k < vs.length by omega]
 ·rw [List.getElem?_eq_none (by simp; omega), List.getElem?_eq_none (by omega)]
  rfl

theorem growS_rel (hs : Sim g σ w) {t xT e ty : TypeId} (ht : P.underlying t = some (.slice e)) (hg : growOk P e = true) {ti : TypeInfo} (hti : P.info? e = some ti) {r off len : Nat} {cs cx : Value} (hsv : VR g σ.toks w (.sl r off len (P.cellsOf e)) cs)
  {ys : List (List D)} {news : Array Value} (hsrc : AppRun P g.frz w t xT ty e ti ys cx news) (hfit0 : fitR (P.cellsOf e) ys = true) (hne : ys ≠ []) {ocs : List V} (hobj : σ.objs[r]? = some (.cells ocs)) (hin2 : off + len * P.cellsOf e ≤ ocs.length) (hlt : off < ocs.length)
  (h48 : (len + ys.length) * P.bytesOf e ≤ 140737488355328) (h63 : len + ys.length ≤ 9223372036854775807) {tg : Option Nat} {v : V} {σ' : St}
  (h : Dn.newObj (σ.setObj r .dead) tg (.cells ((ocs.drop off).take (len * P.cellsOf e) ++ ys.flatten.map .d)) (fun r => .sl r 0 (len + ys.length) (P.cellsOf e)) = some (v, σ')) :
  EStep P g σ w (Builtin.append_ #[t, xT] ty #[cs, cx]) v σ' := by
 obtain ⟨i, z, hi, hzv, hisz, hiby, hc0, hzs, hz1⟩ := growOk_inv hg
 obtain rfl : i = ti := by rw [hi] at hti; exact Option.some.inj hti
 have hpos : 0 < P.cellsOf e := by omega
 have hys : ∀ (i : Nat) (row : List D), ys[i]? = some row → row.length = P.cellsOf e := fun i row hr => fitR_get hfit0 hr
 have hnl : news.toList.length = ys.length * P.cellsOf e := by rw [← hsrc.rel.length, flatten_len ys hys]
 have hypos : 0 < ys.length := List.length_pos_iff.2 hne
 have hnl2 : news.size = ys.length * P.cellsOf e := by simpa using hnl
 obtain ⟨hp, rfl⟩ := newObj_inv h
 obtain ⟨d1, d2, dlive⟩ := hs.drop hobj (by simp)
 have hspot : (σ.setObj r .dead).spot tg = σ.spot tg := by cases tg <;> simp [St.spot, St.setObj]
 obtain ⟨hl0, c, e0, fz, hb, hn, hcc⟩ := hs.cells r ocs hobj
 obtain ⟨lm1, lm2⟩ := hs.lims r ocs hobj
 have lm2 := lm2 _ _ _ hb
 cases hsv with
 | sl _ _ _ _ cap a hh hcap hsz hin hout ha hsp hlim =>
  have haa := ha (by omega)
  subst haa
  obtain ⟨vs, v1, v2, v3, v4⟩ := hs.stretch hobj off (len * P.cellsOf e) hin2
  have v4' : VRs g (σ.setObj r .dead).toks w ((ocs.drop off).take (len * P.cellsOf e)) vs := v4
  have hall : VRs g (σ.setObj r .dead).toks w ((ocs.drop off).take (len * P.cellsOf e) ++ ys.flatten.map .d) (vs ++ news.toList) := v4'.append (DRs.to_v hsrc.one hsrc.rel)
  have hone : ∀ u ∈ vs ++ news.toList, oneC u = true := fun u hu => by
   rcases List.mem_append.1 hu with h | h
   ·exact v3 u h
   ·exact hsrc.one u h
  have hcl : ((ocs.drop off).take (len * P.cellsOf e) ++ ys.flatten.map V.d).length = (len + ys.length) * P.cellsOf e := by
   rw [hall.length, List.length_append, v1, hnl, Nat.add_mul]
  have hun : ¬ Mine g (σ.setObj r .dead) (g.obj r).1 := by
   rintro (⟨q, o', h1, h2, h3⟩ | ⟨t', k', h1, h2⟩)
   ·obtain ⟨q1, q2⟩ := dlive q o' h1 h2
    exact hs.dist q r o' _ q2 h2 hobj trivial q1 h3
   ·exact hs.tobj t' k' r _ h1 hobj trivial h2
  by_cases hf : len + ys.length ≤ cap
  ·-- in its own room
   have hby : ys.length * i.bytes ≤ 140737488355328 := by
    have := Nat.mul_le_mul_right (P.bytesOf e) (show ys.length ≤ len + ys.length by omega)
    rw [hiby]
    omega
   have hrun := hsrc.fit (a := ⟨(g.obj r).1, (g.obj r).2 + off, none⟩) (sLen := len) (sCap := cap) hypos hby (by omega) hf
   rw [hisz] at hrun
   have m1 := Nat.mul_le_mul_right (P.cellsOf e) hf
   rw [Nat.add_mul] at m1
   have hst := run_storeCells_own (P := P) (g.obj r).1 ((g.obj r).2 + off + len * P.cellsOf e) e0 fz news.toList 0 c w hb hn (by omega) hsrc.one
   rw [Nat.add_zero] at hst
   obtain ⟨s1, s2, s3⟩ := d1.reown hp (b := (g.obj r).1) (o := (g.obj r).2 + off) (c' := (Dn.splice c.toList ((g.obj r).2 + off + len * P.cellsOf e) news.toList).toArray) hb hn (by rw [List.size_toArray, splice_length _ _ _ (by simp; omega)]; simp) hun
    (fun q => hs.nofrz r _ hobj trivial q) (m := cap * P.cellsOf e) (by rw [hcl, Nat.add_mul]; exact m1) (by omega) (fun j u hj => by
     have hju : j < (vs ++ news.toList).length := by rw [← hall.length]; exact (List.getElem?_eq_some_iff.1 hj).1
     refine ⟨(vs ++ news.toList)[j], ?_, hone _ (List.getElem_mem hju), hall.get j u _ hj (by simp [hju])⟩
     simp only [List.getElem?_toArray]
     rw [splice_get _ _ _ (by simp; omega)]
     have hg : (vs ++ news.toList)[j]? = some (vs ++ news.toList)[j] := by simp [hju]
     by_cases hj2 : j < len * P.cellsOf e
     ·rw [if_neg (by omega), ← hg, List.getElem?_append_left (by omega)]
      have := v2 j hj2
      rw [cell_of_block hb] at this
      simpa [Nat.add_assoc] using this
     ·rw [List.length_append, v1] at hju
      rw [if_pos ⟨by omega, by omega⟩, ← hg, List.getElem?_append_right (by omega), v1]
      congr 1
      omega)
   rw [hspot] at s1 s2 s3
   refine ⟨.slice (some ⟨(g.obj r).1, (g.obj r).2 + off, none⟩) (len + ys.length) cap, _, _, ?_, s1, ?_, ?_⟩
   ·rw [hrun, addr_add, hst]
    rfl
   ·rw [hspot]
    have := VR.sl (g := g.own (σ.spot tg) (g.obj r).1 ((g.obj r).2 + off) ((ocs.drop off).take (len * P.cellsOf e) ++ ys.flatten.map V.d).length (cap * P.cellsOf e)) (tk := σ'.toks) (w := putB w (g.obj r).1 (.cells (Dn.splice c.toList ((g.obj r).2 + off + len * P.cellsOf e) news.toList).toArray e0 fz)) (σ.spot tg) 0 (len + ys.length) (P.cellsOf e) cap ⟨(g.obj r).1, (g.obj r).2 + off, none⟩ (.inr rfl) hf hpos
     (by simp only [Gh.own, if_true, hcl]; omega) (by simp only [Gh.own, if_true, hcl, Nat.add_mul]; omega) (fun _ => by simp [Gh.own]) rfl (by simp [Gh.own])
    exact this
   ·refine ⟨d2.later.trans s2, by simp [putB], rfl, rfl, rfl, fun b hb' hm => putB_other w _ (fun e => hm (.inl ⟨r, _, hobj, trivial, e⟩)), fun b hb' => ?_, fun b q hf => .inl hf⟩
    rcases s3 b hb' with h | h
    ·exact d2.mine b h
    ·exact .inl (.inl ⟨r, _, hobj, trivial, h.symm⟩)
  ·-- a new block
   have hold := fun w' hw' => run_first_cells (P := P) (w := w) (sz := P.cellsOf e) (len := len) (cap := cap) (a := ⟨(g.obj r).1, (g.obj r).2 + off, none⟩) v1 (fun k hk => by rw [addr_add]; exact v2 k hk) w' hw'
   have hrun := hsrc.grow hzv (base := some ⟨(g.obj r).1, (g.obj r).2 + off, none⟩) (sLen := len) (sCap := cap) (olds := vs.toArray) hypos (by rw [hisz]; exact hold) (by omega) h63 (by rw [hiby]; exact h48)
   have hcge := grownCap_ge w (len + ys.length) cap e
   generalize hcap2 : grownCap w (len + ys.length) cap e = newCap at *
   have hgr : Grown1 w (.cells (vs.toArray ++ news ++ Builtin.zeroCells z.cells (newCap - (len + ys.length))) e (0, 0)) (w.drew.alloc (.cells (vs.toArray ++ news ++ Builtin.zeroCells z.cells (newCap - (len + ys.length))) e)) :=
    ⟨by simp [World.alloc, World.drew, -World.alloc_eq, -World.drew_eq], by simp [World.alloc, World.drew, -World.alloc_eq, -World.drew_eq], by simp [World.alloc, World.drew, -World.alloc_eq, -World.drew_eq], by simp [World.alloc, World.drew, -World.alloc_eq, -World.drew_eq]⟩
   obtain ⟨s1, s2⟩ := d1.new_obj2 hp hall hone (c := vs.toArray ++ news ++ Builtin.zeroCells z.cells (newCap - (len + ys.length))) (e := e) (fun j u hj => by
    have hlt2 : j < (vs.toArray ++ news).size := by
     have := (List.getElem?_eq_some_iff.1 hj).1
     simpa using this
    rw [Array.getElem?_append_left hlt2, ← Array.getElem?_toList, Array.toList_append]
    exact hj) hgr
   have hcs : (vs.toArray ++ news ++ Builtin.zeroCells z.cells (newCap - (len + ys.length))).size = newCap * P.cellsOf e := by
    simp only [Array.size_append, size_zeroCells, hzs]
    have a1 : vs.toArray.size = len * P.cellsOf e := by simpa using v1
    have a2 : news.size = ys.length * P.cellsOf e := by simpa using hnl
    rw [a1, a2, ← Nat.add_mul, ← Nat.add_mul]
    congr 1
    omega
   rw [hspot] at s1 s2
   refine ⟨_, _, _, hrun, s1, ?_, d2.trans s2⟩
   rw [hspot]
   have m1 := Nat.mul_le_mul_right (P.cellsOf e) hcge
   exact VR.sl (g := g.add (σ.spot tg) w.heap.size ((ocs.drop off).take (len * P.cellsOf e) ++ ys.flatten.map V.d).length (vs.toArray ++ news ++ Builtin.zeroCells z.cells (newCap - (len + ys.length))).size) (σ.spot tg) 0 (len + ys.length) (P.cellsOf e) newCap ⟨w.heap.size, 0, none⟩ (.inr rfl) hcge hpos
    (by simp only [Gh.add, if_true, hcl]; omega) (by simp only [Gh.add, if_true, hcl]; omega) (fun _ => by simp [Gh.add]) rfl (by simp only [Gh.add, if_true, hcs]; omega)

end Go.Dn

/- copy, make, clear; append into an object that may be written. -/
namespace Go.Dn
open Go.Lib
set_option linter.unusedVariables false
set_option linter.unusedSimpArgs false

variable {P : Program} {g : Gh} {σ : St} {tk : List Nat} {w : World}

theorem rowsLen_take {sz : Nat} : ∀ (ys : List (List D)) (n : Nat), (∀ (i : Nat) (row : List D), ys[i]? = some row → row.length = sz) → (ys.take n).flatten = ys.flatten.take (n * sz)
 | [], n, _ => by simp
 | y :: ys, 0, _ => by simp
 | y :: ys, n + 1, h => by
  have h0 : y.length = sz := h 0 y rfl
  have ih := rowsLen_take ys n (fun i row hr => h (i + 1) row (by simpa using hr))
  simp only [List.take_succ_cons, List.flatten_cons]
  rw [ih, Nat.add_mul, Nat.one_mul, Nat.add_comm (n * sz) sz, List.take_append, h0]
  rw [show y.take (sz + n * sz) = y from List.take_of_length_le (by omega)]
  congr 1
  congr 1
  omega

theorem DRs.take {f : Nat → Nat → Prop} : ∀ {ds : List D} {vs : List Value} (n : Nat), DRs f w ds vs → DRs f w (ds.take n) (vs.take n)
 | [], [], n, h => by simp; exact h
 | _ :: _, _ :: _, 0, h => trivial
 | _ :: _, _ :: _, n + 1, h => ⟨h.1, DRs.take n h.2⟩
 | [], _ :: _, _, h => h.elim
 | _ :: _, [], _, h => h.elim

theorem run_loadFrom (a : Addr) (cv : Nat → Value) (n : Nat) (hc : ∀ j, j < n → w.cell? (a.add j) = some (cv j)) : (loadCells a n).run P w = .ok ((List.range n).map cv).toArray w := run_loadCells w a n cv hc

theorem src_first (hs : Sim g σ w) {x : V} {cx : Value} (hx : VR g σ.toks w x cx) {ys : List (List D)} (h : V.rows σ x = some ys) {sz : Nat} (hpos : 0 < sz) (hfit : fitR sz ys = true) (m : Nat) (hm : m ≤ ys.length) :
  ∃ news : Array Value, (Builtin.lenOf cx).run P w = .ok ys.length w ∧ (Builtin.firstCells sz m cx).run P w = .ok news w ∧ DRs g.frz w (ys.take m).flatten news.toList ∧ ∀ v ∈ news.toList, oneC v = true := by
 have hf : ∀ (i : Nat) (row : List D), ys[i]? = some row → row.length = sz := fun i row hr => fitR_get hfit hr
 obtain ⟨news, hn⟩ := src_rows (P := P) (rows_rel hs hx h) hpos hfit
 have hl := hn.len
 have hfi := hn.first w rfl
 refine ⟨(news.toList.take (m * sz)).toArray, hl, ?_, ?_, ?_⟩
 ·rcases rows_rel hs hx h with ⟨rfl, rfl⟩ | ⟨a, cap, sz', cv, rfl, hcap, hat⟩
  ·have hm0 : m = 0 := by simpa using hm
   subst hm0
   simp [Builtin.firstCells]
  ·by_cases hz : ys.length = 0
   ·have hm0 : m = 0 := by omega
    subst hm0
    simp [Builtin.firstCells, loadCells, loadCellsFrom]
   ·have hsz : sz' = sz := by
     have h0 : ys[0]? = some (ys[0]'(by omega)) := by simp
     rw [← hat.hsz 0 _ h0, hf 0 _ h0]
    subst hsz
    have e1 : (Builtin.firstCells sz' ys.length (.slice (some a) ys.length cap)).run P w = .ok ((List.range (ys.length * sz')).map cv).toArray w := run_loadFrom a cv _ hat.hc
    rw [hfi] at e1
    simp only [Result.ok.injEq, and_true] at e1
    subst e1
    have hle : m * sz' ≤ ys.length * sz' := Nat.mul_le_mul_right _ hm
    have e2 : (Builtin.firstCells sz' m (.slice (some a) ys.length cap)).run P w = .ok ((List.range (m * sz')).map cv).toArray w := run_loadFrom a cv _ (fun j hj => hat.hc j (by omega))
    rw [e2]
    simp only [← List.map_take, List.take_range]
    rw [Nat.min_eq_left hle]
 ·rw [rowsLen_take ys m hf]
  exact hn.rel.take _
 ·intro v hv
  simp only at hv
  exact hn.one v (List.mem_of_mem_take hv)

theorem copy_rel (hs : Sim g σ w) {t xT e ty : TypeId} (ht : P.underlying t = some (.slice e)) (hc : P.cellsOf e ≠ 0) {s x v : V} {cs cx : Value} (hsv : VR g σ.toks w s cs) (hx : VR g σ.toks w x cx) {ys : List (List D)} (hys : V.rows σ x = some ys) {σ' : St}
  (h : copyV σ (P.cellsOf e) s ys = some (v, σ')) : EStep P g σ w (Builtin.copy_ #[t, xT] ty #[cs, cx]) v σ' := by
 have hpos : 0 < P.cellsOf e := by omega
 unfold copyV at h
 split at h
 ·cases h
 ·rename_i hfit
  simp only [Bool.not_eq_false] at hfit
  have hf : ∀ (i : Nat) (row : List D), ys[i]? = some row → row.length = P.cellsOf e := fun i row hr => fitR_get hfit hr
  split at h
  ·rename_i r off len s'
   split at h
   ·rename_i hcnd
    obtain ⟨rfl, _⟩ := hcnd
    split at h
    ·rename_i ocs hobj
     split at h
     ·rename_i hroom
      cases h
      cases hsv with
      | sl _ _ _ _ cap a hh hcap hsz hin hout ha hsp =>
       obtain ⟨news, n1, n2, n3, n4⟩ := src_first (P := P) hs hx hys hpos hfit (min ys.length len) (Nat.min_le_left _ _)
       have hln : ocs.length = g.len r := (hs.cells r ocs hobj).1
       have htl : (ys.take (min ys.length len)) = ys.take len := by
        rcases Nat.le_total ys.length len with h | h
        ·rw [Nat.min_eq_left h, List.take_of_length_le (Nat.le_refl _), List.take_of_length_le h]
        ·rw [Nat.min_eq_right h]
       rw [htl] at n3
       have hft : ∀ (i : Nat) (row : List D), (ys.take len)[i]? = some row → row.length = P.cellsOf e := fun i row hr => by
        rw [List.getElem?_take] at hr
        split at hr
        ·exact hf i row hr
        ·cases hr
       have hxl : (((ys.take len).flatten).map V.d).length ≤ len * P.cellsOf e := by
        rw [List.length_map, flatten_len _ hft]
        exact Nat.mul_le_mul_right _ (by simp; omega)
       obtain ⟨w', r1, r2, r3⟩ := hs.splice (P := P) hobj (off := off) (DRs.to_v n4 n3) n4 (by omega)
       have run : ∀ q, (storeCells a news.toList).run P w = .ok () q → (Builtin.copy_ #[t, xT] ty #[.slice (some a) len cap, cx]).run P w = .ok (goInt ((min ys.length len : Nat) : Int)) q := fun q hq => by
        have e1 : Nat.min ys.length len = min ys.length len := rfl
        simp [Builtin.copy_, run_underlying ht, run_sizeOf_cells hc, n1, e1, n2, hq]
        try (congr 1; omega)
       by_cases hlt : off < g.len r
       ·have haa := ha hlt
        subst haa
        exact ⟨_, w', g, run w' r1, r2, .int _ _, r3⟩
       ·have hn0 : news.toList = [] := List.eq_nil_of_length_eq_zero (by
         have := n3.length
         rw [flatten_len _ hft] at this
         have hz : len * P.cellsOf e = 0 := by omega
         have : (ys.take len).length * P.cellsOf e ≤ len * P.cellsOf e := Nat.mul_le_mul_right _ (by simp; omega)
         omega)
        have hw : w' = w := by
         rw [hn0] at r1
         simp [storeCells] at r1
         exact r1.symm
        subst hw
        exact ⟨_, w', g, run w' (by rw [hn0]; simp [storeCells]), r2, .int _ _, r3⟩
     ·cases h
    ·cases h
   ·cases h
  ·split at h
   ·rename_i hl0
    cases h
    obtain ⟨a, c, rfl, _⟩ := slice_len hs hsv hl0
    obtain ⟨news, n1, n2, n3, n4⟩ := src_first (P := P) hs hx hys hpos hfit 0 (Nat.zero_le _)
    have hn0 : news.toList = [] := List.eq_nil_of_length_eq_zero (by simpa using n3.length.symm)
    refine ⟨goInt 0, w, g, ?_, hs, .int _ _, Ev.refl _ _ _⟩
    have e1 : Nat.min ys.length 0 = 0 := Nat.min_zero _
    cases a with
    | none => simp [Builtin.copy_, run_underlying ht, run_sizeOf_cells hc, n1, e1, n2]
    | some a => simp [Builtin.copy_, run_underlying ht, run_sizeOf_cells hc, n1, e1, n2, hn0, storeCells]
   ·cases h

theorem makeSlice_rel (hs : Sim g σ w) {t e : TypeId} (ht : P.underlying t = some (.slice e)) (hg : growOk P e = true) {z : List D} (hz : zeroOf P e = some z) {l c : Int} (h0 : 0 ≤ l) (h1 : l ≤ c) (hb : c * P.bytesOf e ≤ 140737488355328) (hc : c ≤ 9223372036854775807)
  {tg : Option Nat} {v : V} {σ' : St} (h : Dn.newObj σ tg (.cells (repl c.toNat z)) (fun r => .sl r 0 l.toNat (P.cellsOf e)) = some (v, σ')) : EStep P g σ w (Instr.makeSlice t (.int .i64 l) (.int .i64 c)) v σ' := by
 obtain ⟨hp, rfl⟩ := newObj_inv h
 obtain ⟨i, zv, hi, hzv, hisz, hiby, hcell, hzs, hz1⟩ := growOk_inv hg
 obtain ⟨i', zv', hi', hzv', hleaf⟩ := zeroOf_inv hz
 rw [hi] at hi'; cases hi'
 rw [hzv] at hzv'; cases hzv'
 obtain ⟨z1, z2⟩ := leafsD_vrs (g := g) (tk := σ.toks) (w := w) hleaf
 have hzl : z.length = P.cellsOf e := by have := z1.length; simp at this; rw [this]; exact hzs
 have hpos : 0 < z.length := by omega
 have w1 : IntKind.i64.wrap l = l := by simp only [IntKind.wrap, IntKind.signed, IntKind.bits]; simp; omega
 have w2 : IntKind.i64.wrap c = c := by simp only [IntKind.wrap, IntKind.signed, IntKind.bits]; simp; omega
 have hcn : (c.toNat : Int) = c := Int.toNat_of_nonneg (by omega)
 have hprod : ((c.toNat * i.bytes : Nat) : Int) = c * i.bytes := by rw [Int.natCast_mul, hcn]
 rw [← hiby] at hb
 have room : c.toNat * i.bytes ≤ 140737488355328 := by omega
 have t1 : ¬ ((i.bytes : Int) * c > 281474976710656) := by rw [Int.mul_comm]; omega
 obtain ⟨r1, r2⟩ := repl_rel (g := g) (tk := σ.toks) (w := w) z1 z2 hpos c.toNat
 have hszz : zv.cells.size = z.length := by rw [hzl]; exact hzs
 obtain ⟨s1, s2⟩ := hs.new_obj hp r1 r2 (grown_push w (.cells ((Array.range (c.toNat * z.length)).map (zv.cells[· % zv.cells.size]!)) e))
 have hrl : (repl c.toNat z).length = c.toNat * z.length := repl_length _ _
 refine ⟨.slice (some ⟨w.heap.size, 0, none⟩) l.toNat c.toNat, _, _, ?_, s1, ?_, s2⟩
 ·have e1 : ¬ (c < 0) := by omega
  have e2 : ¬ (l < 0) := by omega
  have e3 : ¬ (c < l) := by omega
  have e4 : ¬ (roomBytes < c.toNat * i.bytes) := by unfold roomBytes; omega
  have e5 : ¬ (281474976710656 < (i.bytes : Int) * c) := by omega
  by_cases hn : c.toNat * i.size = 0
  ·have hc0 : c.toNat * z.length = 0 := by rw [hzl, ← hisz]; exact hn
   simp [Instr.makeSlice, run_underlying ht, asInt, asIntOf, typeInfo, hi, w1, w2, e1, e2, e3, e4, e5, sizeOf, hn, newRow, askRoom, hc0]
   have e0 : Array.range 0 = #[] := rfl
   simp only [e0, Array.map_empty]
  ·simp [Instr.makeSlice, run_underlying ht, asInt, asIntOf, typeInfo, hi, w1, w2, e1, e2, e3, e4, e5, sizeOf, hn, run_zeroValue hi hzv, newRow, askRoom]
   rw [hisz, hzl]
 ·have := VR.sl (g := g.add (σ.spot tg) w.heap.size (repl c.toNat z).length ((Array.range (c.toNat * z.length)).map (zv.cells[· % zv.cells.size]!)).size) (tk := σ'.toks) (w := { w with heap := w.heap.push (.cells ((Array.range (c.toNat * z.length)).map (zv.cells[· % zv.cells.size]!)) e) }) (σ.spot tg) 0 l.toNat (P.cellsOf e) c.toNat ⟨w.heap.size, 0, none⟩ (.inr rfl) (by omega) (by omega)
   (by simp [Gh.add, hrl, hzl]; exact Nat.mul_le_mul_right _ (by omega)) (by simp [Gh.add, hrl, hzl]) (fun _ => by simp [Gh.add]) rfl (by simp [Gh.add, hzl])
  exact this

theorem clear_rel (hs : Sim g σ w) {t e ty : TypeId} (ht : P.underlying t = some (.slice e)) {z : List D} (hz : zeroOf P e = some z) (hzl : z.length = P.cellsOf e) (hpos : 0 < P.cellsOf e) {s v : V} {cs : Value} (hsv : VR g σ.toks w s cs) {σ' : St}
  (h : clearV σ (P.cellsOf e) z s = some (v, σ')) : EStep P g σ w (Builtin.clear_ #[t] ty #[cs]) v σ' := by
 obtain ⟨i, zv, hi, hzv, hleaf⟩ := zeroOf_inv hz
 obtain ⟨z1, z2⟩ := leafsD_vrs (g := g) (tk := σ.toks) (w := w) hleaf
 have hzs : zv.cells.size = z.length := by have := z1.length; simp at this; exact this.symm
 unfold clearV at h
 split at h
 ·rename_i r off len s'
  split at h
  ·rename_i hcnd
   obtain ⟨rfl, _⟩ := hcnd
   split at h
   ·rename_i ocs hobj
    split at h
    ·rename_i hroom
     cases h
     cases hsv with
     | sl _ _ _ _ cap a hh hcap hsz hin hout ha hsp =>
      have hln : ocs.length = g.len r := (hs.cells r ocs hobj).1
      obtain ⟨r1, r2⟩ := repl_rel (g := g) (tk := σ.toks) (w := w) z1 z2 (by omega) len
      have hrl : (repl len z).length = len * z.length := repl_length _ _
      obtain ⟨w', q1, q2, q3⟩ := hs.splice (P := P) hobj (off := off) r1 r2 (by rw [hrl, hzl]; exact hroom)
      have hzc : (Builtin.zeroCells zv.cells len).toList = ((Array.range (len * z.length)).map (zv.cells[· % zv.cells.size]!)).toList := by
       simp [Builtin.zeroCells, hzs]
      by_cases hl0 : len = 0
      ·subst hl0
       have hw : w' = w := by
        simp [storeCells] at q1
        exact q1.symm
       subst hw
       exact ⟨.tuple #[], w', g, by simp [Builtin.clear_, run_underlying ht], q2, .tup [] #[] rfl (fun i c v h => by simp at h), q3⟩
      ·have hlt : off < g.len r := by
        have : 0 < len * P.cellsOf e := Nat.mul_pos (by omega) hpos
        omega
       have haa := ha hlt
       subst haa
       refine ⟨.tuple #[], w', g, ?_, q2, .tup [] #[] rfl (fun i c v h => by simp at h), q3⟩
       rw [← hzc] at q1
       obtain ⟨n, rfl⟩ : ∃ n, len = n + 1 := ⟨len - 1, by omega⟩
       simp [Builtin.clear_, run_underlying ht, run_zeroValue hi hzv, q1]
    ·cases h
   ·cases h
  ·cases h
 ·split at h
  ·rename_i hl0
   cases h
   obtain ⟨a, c, rfl, _⟩ := slice_len hs hsv hl0
   refine ⟨.tuple #[], w, g, ?_, hs, .tup [] #[] rfl (fun i c v h => by simp at h), Ev.refl _ _ _⟩
   cases a <;> simp [Builtin.clear_, run_underlying ht]
  ·cases h

theorem repl_zero {z : List D} {zv : Value} (hzs : zv.cells.size = z.length) (n : Nat) : (Builtin.zeroCells zv.cells n).toList = ((Array.range (n * z.length)).map (zv.cells[· % zv.cells.size]!)).toList := by
 simp [Builtin.zeroCells, hzs]

theorem appendZ_rel (hs : Sim g σ w) {t xT e ty : TypeId} (ht : P.underlying t = some (.slice e)) (hg : growOk P e = true) {k : IntKind} (hx : P.underlying xT = some (.int k)) {z : List D} (hz : zeroOf P e = some z) {l : Int} (h0 : 0 < l) (hb : l * P.bytesOf e ≤ 140737488355328) (h63 : l ≤ 9223372036854775807)
  {tg : Option Nat} {v : V} {σ' : St} (h : Dn.newObj σ tg (.cells (repl l.toNat z)) (fun r => .sl r 0 l.toNat (P.cellsOf e)) = some (v, σ')) : EStep P g σ w (Builtin.append_ #[t, xT] ty #[.slice none 0 0, .int .i64 l]) v σ' := by
 obtain ⟨hp, rfl⟩ := newObj_inv h
 obtain ⟨i, zv, hi, hzv, hisz, hiby, hcell, hzs, hz1⟩ := growOk_inv hg
 obtain ⟨i', zv', hi', hzv', hleaf⟩ := zeroOf_inv hz
 rw [hi] at hi'; cases hi'
 rw [hzv] at hzv'; cases hzv'
 obtain ⟨z1, z2⟩ := leafsD_vrs (g := g) (tk := σ.toks) (w := w) hleaf
 have hzl : z.length = P.cellsOf e := by have := z1.length; simp at this; rw [this]; exact hzs
 have hpos : 0 < z.length := by omega
 have hcn : (l.toNat : Int) = l := Int.toNat_of_nonneg (by omega)
 have hprod : ((l.toNat * i.bytes : Nat) : Int) = l * i.bytes := by rw [Int.natCast_mul, hcn]
 rw [← hiby] at hb
 have hrun := run_append_zero (P := P) (w := w) (ty := ty) (k' := .i64) ht hi hzv hx h0 h63 (by rw [hisz]; omega) (by omega)
 have hcge := grownCap_ge w l.toNat 0 e
 generalize grownCap w l.toNat 0 e = newCap at *
 obtain ⟨r1, r2⟩ := repl_rel (g := g) (tk := σ.toks) (w := w) z1 z2 hpos l.toNat
 have hszz : zv.cells.size = z.length := by rw [hzl]; exact hzs
 have hrl : (repl l.toNat z).length = l.toNat * z.length := repl_length _ _
 have hgr : Grown1 w (.cells (Builtin.zeroCells zv.cells l.toNat ++ Builtin.zeroCells zv.cells (newCap - l.toNat)) e (0, 0)) (w.drew.alloc (.cells (Builtin.zeroCells zv.cells l.toNat ++ Builtin.zeroCells zv.cells (newCap - l.toNat)) e)) :=
  ⟨by simp [World.alloc, World.drew, -World.alloc_eq, -World.drew_eq], by simp [World.alloc, World.drew, -World.alloc_eq, -World.drew_eq], by simp [World.alloc, World.drew, -World.alloc_eq, -World.drew_eq], by simp [World.alloc, World.drew, -World.alloc_eq, -World.drew_eq]⟩
 have hzc := repl_zero hszz l.toNat
 obtain ⟨s1, s2⟩ := hs.new_obj2 hp r1 r2 (c := Builtin.zeroCells zv.cells l.toNat ++ Builtin.zeroCells zv.cells (newCap - l.toNat)) (e := e) (fun j u hj => by
  have hj2 : (Builtin.zeroCells zv.cells l.toNat).toList[j]? = some u := by rw [hzc]; exact hj
  have hlt := (List.getElem?_eq_some_iff.1 hj2).1
  rw [Array.getElem?_append_left (by simpa using hlt), ← Array.getElem?_toList]
  exact hj2) hgr
 have hcs : (Builtin.zeroCells zv.cells l.toNat ++ Builtin.zeroCells zv.cells (newCap - l.toNat)).size = newCap * P.cellsOf e := by
  simp only [Array.size_append, size_zeroCells, hzs]
  rw [← Nat.add_mul]
  congr 1
  omega
 refine ⟨_, _, _, hrun, s1, ?_, s2⟩
 have m1 := Nat.mul_le_mul_right (P.cellsOf e) hcge
 exact VR.sl (g := g.add (σ.spot tg) w.heap.size (repl l.toNat z).length (Builtin.zeroCells zv.cells l.toNat ++ Builtin.zeroCells zv.cells (newCap - l.toNat)).size) (σ.spot tg) 0 l.toNat (P.cellsOf e) newCap ⟨w.heap.size, 0, none⟩ (.inr rfl) hcge (by omega)
  (by simp only [Gh.add, if_true, hrl, hzl]; omega) (by simp only [Gh.add, if_true, hrl, hzl]; omega) (fun _ => by simp [Gh.add]) rfl (by simp only [Gh.add, if_true, hcs]; omega)

theorem appendM_rel (hs : Sim g σ w) {t xT e ty : TypeId} (ht : P.underlying t = some (.slice e)) (hg : growOk P e = true) {ti : TypeInfo} (hti : P.info? e = some ti) {s v : V} {cs cx : Value} (hsv : VR g σ.toks w s cs)
  {ys : List (List D)} {news : Array Value} (hsrc : fitR (P.cellsOf e) ys = true → AppRun P g.frz w t xT ty e ti ys cx news) {tg : Option Nat} {σ' : St} (h : appendM σ tg (P.cellsOf e) (P.bytesOf e) s ys = some (v, σ')) :
  EStep P g σ w (Builtin.append_ #[t, xT] ty #[cs, cx]) v σ' := by
 obtain ⟨i, z, hi, hzv, hisz, hiby, hc0, hzs, hz1⟩ := growOk_inv hg
 have hti' := hti
 obtain rfl : i = ti := by rw [hi] at hti; exact Option.some.inj hti
 have hpos : 0 < P.cellsOf e := by omega
 unfold appendM at h
 split at h
 ·cases h
 ·rename_i hnn
  simp only [not_or, Bool.not_eq_false] at hnn
  obtain ⟨hfit0, hne⟩ := hnn
  have hsrc := hsrc hfit0
  have hys : ∀ (i : Nat) (row : List D), ys[i]? = some row → row.length = P.cellsOf e := fun i row hr => fitR_get hfit0 hr
  have hn : 0 < ys.length := List.length_pos_iff.2 hne
  -- what a new block comes to
  have main : ∀ (base : Option Addr) (sLen : Nat) (rows : List (List D)) (olds : Array Value), rows.length = sLen → fitR (P.cellsOf e) rows = true → (∀ w', w'.heap = w.heap → (Builtin.firstCells (P.cellsOf e) sLen (.slice base sLen sLen)).run P w' = .ok olds w') → DRs g.frz w rows.flatten olds.toList → (∀ v ∈ olds.toList, oneC v = true) →
    sLen + ys.length ≤ 9223372036854775807 → (sLen + ys.length) * P.bytesOf e ≤ 140737488355328 → Dn.newObj σ tg (.cells ((rows ++ ys).flatten.map .d)) (fun r => .sl r 0 (sLen + ys.length) (P.cellsOf e)) = some (v, σ') →
    EStep P g σ w (Builtin.append_ #[t, xT] ty #[.slice base sLen sLen, cx]) v σ' := by
   intro base sLen rows olds hrl hfr hold hdo hone h63 h48 hnew
   obtain ⟨hp, rfl⟩ := newObj_inv hnew
   have hrun := hsrc.grow hzv (base := base) (sLen := sLen) (sCap := sLen) (olds := olds) hn (by rw [hisz]; exact hold) (by omega) h63 (by rw [hiby]; exact h48)
   have hflat : (rows ++ ys).flatten = rows.flatten ++ ys.flatten := by simp
   have hdr : DRs g.frz w (rows ++ ys).flatten (olds.toList ++ news.toList) := by rw [hflat]; exact hdo.append hsrc.rel
   have hon : ∀ v ∈ olds.toList ++ news.toList, oneC v = true := fun v hv => by
    rcases List.mem_append.1 hv with h | h
    ·exact hone v h
    ·exact hsrc.one v h
   have hrf : ∀ (i : Nat) (row : List D), (rows ++ ys)[i]? = some row → row.length = P.cellsOf e := fit_append hfr hfit0
   have hgw : Grown1 w (.cells (olds ++ news ++ Builtin.zeroCells z.cells (grownCap w (sLen + ys.length) sLen e - (sLen + ys.length))) e) (w.drew.alloc (.cells (olds ++ news ++ Builtin.zeroCells z.cells (grownCap w (sLen + ys.length) sLen e - (sLen + ys.length))) e)) := ⟨rfl, rfl, rfl, rfl⟩
   obtain ⟨s1, s2⟩ := hs.new_obj2 hp (DRs.to_v hon hdr) hon (c := olds ++ news ++ Builtin.zeroCells z.cells (grownCap w (sLen + ys.length) sLen e - (sLen + ys.length))) (e := e) (fun j v hj => by
    have hlt : j < (olds ++ news).size := by
     have := (List.getElem?_eq_some_iff.1 hj).1
     simpa using this
    rw [Array.getElem?_append_left hlt, ← Array.getElem?_toList, Array.toList_append]
    exact hj) hgw
   refine ⟨_, _, _, hrun, s1, ?_, s2⟩
   have hlen : ((rows ++ ys).flatten.map V.d).length = (sLen + ys.length) * P.cellsOf e := by rw [List.length_map, flatten_len _ hrf]; simp [hrl]
   have hcap : sLen + ys.length ≤ grownCap w (sLen + ys.length) sLen e := grownCap_ge w (sLen + ys.length) sLen e
   exact VR.sl (g := g.add (σ.spot tg) w.heap.size ((rows ++ ys).flatten.map V.d).length (olds ++ news ++ Builtin.zeroCells z.cells (grownCap w (sLen + ys.length) sLen e - (sLen + ys.length))).size) (σ.spot tg) 0 (sLen + ys.length) (P.cellsOf e) _ ⟨w.heap.size, 0, none⟩ (.inr rfl) hcap hpos
    (by simp only [Gh.add, if_true, hlen]; omega) (by simp only [Gh.add, if_true, hlen]; have := Nat.mul_le_mul_right (P.cellsOf e) hcap; omega) (fun _ => by simp [Gh.add]) rfl (by
     simp only [Gh.add, if_true, Array.size_append, size_zeroCells, hzs]
     have a1 : olds.size = sLen * P.cellsOf e := by
      have := hdo.length
      rw [flatten_len rows (fun i row hr => fitR_get hfr hr), hrl] at this
      simpa using this.symm
     have a2 : news.size = ys.length * P.cellsOf e := by
      have := hsrc.rel.length
      rw [flatten_len ys hys] at this
      simpa using this.symm
     rw [a1, a2, ← Nat.add_mul, ← Nat.add_mul, Nat.zero_add]
     apply Nat.le_of_eq
     congr 1
     omega)
  split at h
  ·split at h
   ·rename_i hcnd
    obtain ⟨_, h48, h63⟩ := hcnd
    have := hsv.inv_d
    cases this
    refine main none 0 [] #[] rfl rfl (fun w' _ => by simp [Builtin.firstCells]) trivial (by simp) (by omega) (by rw [Nat.zero_add]; exact h48) ?_
    simpa using h
   ·cases h
  ·rename_i rows
   split at h
   ·rename_i hcnd
    obtain ⟨_, hfit, h48, h63⟩ := hcnd
    have hd := fl_dr hsv
    cases hsv with
    | fl _ a hd' =>
     have hro : RowsR g.frz w rows (.slice (some a) rows.length rows.length) := .inr hd.rows
     obtain ⟨olds, ho⟩ := src_rows (P := P) hro hpos hfit
     exact main (some a) rows.length rows olds rfl hfit ho.first ho.rel ho.one h63 h48 h
   ·cases h
  ·split at h
   ·rename_i hcnd
    obtain ⟨rfl, _, h48, h63⟩ := hcnd
    split at h
    ·rename_i ocs hobj
     split at h
     ·rename_i hin
      exact growS_rel hs ht hg hti' hsv hsrc hfit0 hne hobj hin.1 hin.2 h48 h63 h
     ·cases h
    ·cases h
   ·cases h
  ·cases h

theorem zerosD_flat (z : List D) : ∀ n, (List.replicate n z).flatten = zerosD n z
 | 0 => rfl
 | n + 1 => by simp only [List.replicate_succ, List.flatten_cons, zerosD, zerosD_flat z n]
theorem zerosD_map (n : Nat) (z : List D) : (zerosD n z).map V.d = repl n z := by
 induction n with
 | zero => rfl
 | succ n ih => simp only [zerosD, repl, List.map_append, ih]
theorem zero_app {t xT e ty : TypeId} (ht : P.underlying t = some (.slice e)) (hg : growOk P e = true) {k : IntKind} (hx : P.underlying xT = some (.int k)) {z : List D} (hz : zeroOf P e = some z) (n : Nat) (h0 : 0 < n) :
  ∃ ti news, P.info? e = some ti ∧ AppRun P g.frz w t xT ty e ti (List.replicate n z) (.int .i64 n) news := by
 obtain ⟨i, zv, hi, hzv, hisz, hiby, hcell, hzs, hz1⟩ := growOk_inv hg
 obtain ⟨i', zv', hi', hzv', hleaf⟩ := zeroOf_inv hz
 rw [hi] at hi'; cases hi'
 rw [hzv] at hzv'; cases hzv'
 obtain ⟨z1, z2⟩ := leafsD_vrs (g := g) (tk := ([] : List Nat)) (w := w) hleaf
 have hzl : z.length = P.cellsOf e := by have := z1.length; simp at this; rw [this]; exact hzs
 have hpos : 0 < z.length := by omega
 obtain ⟨r1, r2⟩ := repl_rel (g := g) (tk := ([] : List Nat)) (w := w) z1 z2 hpos n
 rw [← zerosD_map] at r1
 have hszz : zv.cells.size = z.length := by rw [hzl]; exact hzs
 have hzc := repl_zero hszz n
 refine ⟨i, Builtin.zeroCells zv.cells n, hi, ⟨by rw [zerosD_flat, hzc]; exact r1.of_d, by rw [hzc]; exact r2, ?_, ?_⟩⟩
 ·intro a sLen sCap hn hb h63 hf
  rw [List.length_replicate] at hn hb h63 hf ⊢
  exact run_appendZ_fit ht hi hzv hx hn h63 (by rw [hisz]; omega) hb hf
 ·intro z' base sLen sCap olds hz' hn ho hgt h63 h48
  rw [hzv] at hz'
  cases hz'
  rw [List.length_replicate] at hn h63 h48 hgt ⊢
  exact run_appendZ_grow ht hi hzv hx hn (by rw [hisz]; omega) ho hgt h63 h48
theorem run_appendZ_nil {t xT ty e : TypeId} {i : TypeInfo} (ht : P.underlying t = some (.slice e)) (hi : P.info? e = some i) {k : IntKind} (hx : P.underlying xT = some (.int k)) {base : Option Addr} {sLen sCap : Nat} (hf : sLen ≤ sCap) :
  (Builtin.append_ #[t, xT] ty #[.slice base sLen sCap, .int .i64 0]).run P w = .ok (.slice base sLen sCap) w := by
 have w1 : IntKind.i64.wrap 0 = 0 := by decide
 cases base <;> simp [Builtin.append_, run_underlying ht, run_underlying hx, sizeOf, typeInfo, hi, asInt, asIntOf, w1, hf, storeCells]
theorem appendZM_rel (hs : Sim g σ w) {t xT e ty : TypeId} (ht : P.underlying t = some (.slice e)) (hg : growOk P e = true) {k : IntKind} (hx : P.underlying xT = some (.int k)) {z : List D} (hz : zeroOf P e = some z) {s v : V} {cs : Value} (hsv : VR g σ.toks w s cs) (hsl : ∃ base n cap, cs = .slice base n cap ∧ n ≤ cap) {l : Int} (h0 : 0 ≤ l)
  {tg : Option Nat} {σ' : St} (h : (if l = 0 then some (s, σ) else appendM σ tg (P.cellsOf e) (P.bytesOf e) s (List.replicate l.toNat z)) = some (v, σ')) : EStep P g σ w (Builtin.append_ #[t, xT] ty #[cs, .int .i64 l]) v σ' := by
 split at h
 ·rename_i hl
  subst hl
  cases h
  obtain ⟨i, zv, hi, hzv, hisz, hiby, hcell, hzs, hz1⟩ := growOk_inv hg
  obtain ⟨base, n, cap, rfl, hc⟩ := hsl
  exact ⟨_, w, g, run_appendZ_nil ht hi hx hc, hs, hsv, Ev.refl _ _ _⟩
 ·rename_i hl
  obtain ⟨n, hn⟩ : ∃ n : Nat, l = (n : Int) := ⟨l.toNat, by omega⟩
  subst hn
  rw [Int.toNat_natCast] at h
  obtain ⟨ti, news, hti, ha⟩ := zero_app (g := g) (w := w) (ty := ty) ht hg hx hz n (by omega)
  exact appendM_rel hs ht hg hti hsv (fun _ => ha) h

end Go.Dn

/- Objects that are no cells: written anew, laid anew; maps' operations. -/
namespace Go.Dn
open Go.Lib Go.Maps Go.MapKept
set_option linter.unusedVariables false
set_option linter.unusedSimpArgs false

variable {P : Program} {g : Gh} {σ : St} {tk : List Nat} {w : World}

theorem PutOth {g : Gh} {tk : List Nat} {w : World} {o : Obj} {x : Go.Obj} (h : OthR g tk w o x) : o.isOth ∨ o = .dead := by
 cases o <;> first | exact .inl trivial | exact .inr rfl | (cases x <;> exact h.elim)

theorem Sim.put_oth (hs : Sim g σ w) {r : Nat} {o o' : Obj} (hr : σ.objs[r]? = some o) (ho : o.isOth) (ho' : o'.isOth ∨ o' = .dead) {x : Go.Obj} (hrel : o'.isOth → OthR g σ.toks w o' x) :
  Sim g (σ.setObj r o') (putB w (g.obj r).1 x) ∧ Ev g σ w g (σ.setObj r o') (putB w (g.obj r).1 x) := by
 have hrl : r < σ.objs.length := (List.getElem?_eq_some_iff.1 hr).1
 have hcell : ∀ b q, g.frz b q → (putB w (g.obj r).1 x).cell? ⟨b, q, none⟩ = w.cell? ⟨b, q, none⟩ := fun b q hf =>
  putB_cell w _ (fun e => hs.nofrz r _ hr ho.live q (by rw [e]; exact hf)) q
 have hl : Later g σ.toks w g (σ.setObj r o').toks (putB w (g.obj r).1 x) :=
  ⟨⟨fun b q hf => hf, hcell⟩, fun q hq => ⟨hq, rfl, rfl⟩, fun t k ht => ⟨k, ht, Nat.le_refl _, fun _ => rfl, rfl⟩, rfl, fun _ _ => rfl⟩
 have obj : ∀ (q : Nat) (p : Obj), (σ.setObj r o').objs[q]? = some p → (q = r ∧ p = o') ∨ (q ≠ r ∧ σ.objs[q]? = some p) := by
  intro q p h
  simp only [St.setObj] at h
  by_cases hq : q = r
  ·subst hq
   rw [List.getElem?_set_self hrl] at h
   cases h
   exact .inl ⟨rfl, rfl⟩
  ·rw [List.getElem?_set_ne (fun e => hq e.symm)] at h
   exact .inr ⟨hq, h⟩
 have old : ∀ (q : Nat) (p : Obj), (σ.setObj r o').objs[q]? = some p → p.live → ∃ p', σ.objs[q]? = some p' ∧ p'.live := by
  intro q p h1 h2
  rcases obj q p h1 with ⟨rfl, rfl⟩ | ⟨_, h⟩
  ·exact ⟨_, hr, ho.live⟩
  ·exact ⟨p, h, h2⟩
 refine ⟨⟨fun q p h1 h2 => ?_, fun q hq => ?_, fun q hq => ?_, fun q cs2 hq => ?_, fun q p hq hoth => ?_, fun q q' p p' h1 h2 h3 h4 hne => ?_, fun q p h1 h2 => ?_, fun t k ht => ?_, hs.tdist, fun t k q p h1 h2 h3 => ?_, fun b q hf => ?_, fun q cs2 hq => ?_⟩,
  ⟨hl, by simp [putB], rfl, rfl, rfl, fun b hb' hm => ?_, fun b hb' => ?_, fun b q hf => .inl hf⟩⟩
 ·obtain ⟨p', h3, h4⟩ := old q p h1 h2
  exact hs.has q p' h3 h4
 ·simpa [St.setObj] using hs.bound q hq
 ·rcases obj q _ hq with ⟨_, h⟩ | ⟨_, h⟩
  ·rcases ho' with h' | h'
   ·rw [← h] at h'; exact h'.elim
   ·rw [← h] at h'; cases h'
  ·exact hs.free q h
 ·rcases obj q _ hq with ⟨_, h⟩ | ⟨hne, h⟩
  ·rcases ho' with h' | h'
   ·rw [← h] at h'; exact h'.elim
   ·rw [← h] at h'; cases h'
  ·obtain ⟨h1, c0, e0, fz0, hb0, hn0, hcc⟩ := hs.cells q cs2 h
   have hbne := hs.dist r q _ _ hr ho.live h trivial (fun e => hne e.symm)
   refine ⟨h1, c0, e0, fz0, by rw [putB_other w _ hbne]; exact hb0, hn0, fun j v hj => ?_⟩
   obtain ⟨cv, r1, r2, r3⟩ := hcc j v hj
   exact ⟨cv, r1, r2, r3.later hl⟩
 ·rcases obj q _ hq with ⟨rfl, rfl⟩ | ⟨hne, h⟩
  ·exact ⟨x, putB_same w _ (hs.blk hr ho.live), (hrel hoth).later hl⟩
  ·obtain ⟨y, a1, a2⟩ := hs.oth q p h hoth
   exact ⟨y, by rw [putB_other w _ (hs.dist r q _ _ hr ho.live h hoth.live (fun e => hne e.symm))]; exact a1, a2.later hl⟩
 ·obtain ⟨p1, a1, a2⟩ := old q p h1 h2
  obtain ⟨p2, b1, b2⟩ := old q' p' h3 h4
  exact hs.dist q q' p1 p2 a1 a2 b1 b2 hne
 ·obtain ⟨p1, a1, a2⟩ := old q p h1 h2
  exact hs.nofrz q p1 a1 a2
 ·obtain ⟨h0, c0, e0, fz0, hb0, hn0, hsz, hf⟩ := hs.tok t k ht
  have hbne := hs.tobj t k r _ ht hr ho.live
  exact ⟨h0, c0, e0, fz0, by rw [putB_other w _ (fun e => hbne e.symm)]; exact hb0, hn0, hsz, hf⟩
 ·obtain ⟨p1, a1, a2⟩ := old q p h2 h3
  exact hs.tobj t k q p1 h1 a1 a2
 ·obtain ⟨v, hv⟩ := hs.frzb b q hf
  exact ⟨v, by rw [hcell b q hf]; exact hv⟩
 ·rcases obj q _ hq with ⟨_, h⟩ | ⟨hne, h⟩
  ·rcases ho' with h' | h'
   ·rw [← h] at h'; exact h'.elim
   ·rw [← h] at h'; cases h'
  ·refine ⟨(hs.lims q cs2 h).1, fun c2 e2 fz2 hb2 => ?_⟩
   rw [putB_other w _ (hs.dist r q _ _ hr ho.live h trivial (fun e => hne e.symm))] at hb2
   exact (hs.lims q cs2 h).2 _ _ _ hb2
 ·exact putB_other w _ (fun e => hm (.inl ⟨r, _, hr, ho.live, e⟩))
 ·left
  rcases hb' with ⟨q, p, h1, h2, rfl⟩ | h
  ·obtain ⟨p1, a1, a2⟩ := old q p h1 h2
   exact .inl ⟨q, p1, a1, a2, rfl⟩
  ·exact .inr h

theorem Sim.new_oth (hs : Sim g σ w) {tg : Option Nat} {o : Obj} (ho : o.isOth) {σ' : St} (hp : σ.place tg o = some σ') {x : Go.Obj} (hr : OthR g σ.toks w o x) {w' : World} (hw : Grown1 w x w') :
  Sim (g.add (σ.spot tg) w.heap.size 0 0) σ' w' ∧ Ev g σ w (g.add (σ.spot tg) w.heap.size 0 0) σ' w' := by
 obtain ⟨p1, p2, p3, p4, p5⟩ := place_inv hp
 have hnh : ¬ g.has (σ.spot tg) := by
  intro hh
  rcases p5 with h | h
  ·have := hs.bound _ hh
   rw [List.getElem?_eq_none_iff] at h
   omega
  ·exact hs.free _ h hh
 have hcell : ∀ b q, g.frz b q → w'.cell? ⟨b, q, none⟩ = w.cell? ⟨b, q, none⟩ := fun b q hf => by
  obtain ⟨v, hv⟩ := hs.frzb b q hf
  exact hw.cell (cell_lt hv) q
 have keep : ∀ r, g.has r → r ≠ σ.spot tg := fun r hr e => hnh (e ▸ hr)
 have hl : Later g σ.toks w (g.add (σ.spot tg) w.heap.size 0 0) σ'.toks w' := by
  refine ⟨⟨fun b q hf => hf, hcell⟩, fun r hr => ⟨.inl hr, ?_, ?_⟩, fun t k ht => ⟨k, by rw [p1]; exact ht, Nat.le_refl _, fun _ => rfl, rfl⟩, rfl, fun r hr => by simp [Gh.add, keep r hr]⟩
  ·simp [Gh.add, keep r hr]
  ·simp [Gh.add, keep r hr]
 have hlt : ∀ (r : Nat) (o : Obj), σ.objs[r]? = some o → o.live → (g.obj r).1 < w.heap.size := fun r o h1 h2 => hs.blk h1 h2
 refine ⟨⟨fun r o h1 h2 => ?_, fun r hr => ?_, fun r hr => ?_, fun r cs' hr' => ?_, fun r o hr' hoth => ?_, fun r r' o o' h1 h2 h3 h4 hne => ?_, fun r o h1 h2 q => ?_, fun t k ht => ?_, fun t t' k k' h1 h2 h3 => ?_, fun t k r o h1 h2 h3 => ?_, fun b q hf => ?_, fun r cs' hr' => ?_⟩,
  ⟨hl, by rw [hw.size]; omega, hw.os, hw.tape, hw.output, fun b hb _ => hw.old hb, fun b hb => ?_, fun b q hf => .inl hf⟩⟩
 ·by_cases hq : r = σ.spot tg
  ·exact .inr hq
  ·exact .inl (hs.has r o (by rw [← p2 r hq]; exact h1) h2)
 ·rcases hr with hr | rfl
  ·exact Nat.lt_of_lt_of_le (hs.bound r hr) p4
  ·exact (List.getElem?_eq_some_iff.1 p3).1
 ·intro hh
  by_cases hq : r = σ.spot tg
  ·subst hq; rw [p3] at hr; cases hr; exact ho.elim
  ·rcases hh with hh | hh
   ·exact hs.free r (by rw [← p2 r hq]; exact hr) hh
   ·exact hq hh
 ·by_cases hq : r = σ.spot tg
  ·subst hq
   rw [p3] at hr'
   cases hr'
   exact ho.elim
  ·obtain ⟨h1, c', e', fz', hb, hn, hc⟩ := hs.cells r cs' (by rw [← p2 r hq]; exact hr')
   refine ⟨by simp [Gh.add, hq, h1], c', e', fz', by simp only [Gh.add, hq, if_false]; rw [hw.old (block_lt hb)]; exact hb, hn, fun j v hj => ?_⟩
   obtain ⟨cv, r1, r2, r3⟩ := hc j v hj
   exact ⟨cv, by simp only [Gh.add, hq, if_false]; exact r1, r2, r3.later hl⟩
 ·by_cases hq : r = σ.spot tg
  ·subst hq
   rw [p3] at hr'
   cases hr'
   exact ⟨x, by simp [Gh.add, hw.new], hr.later hl⟩
  ·obtain ⟨y, a1, a2⟩ := hs.oth r o (by rw [← p2 r hq]; exact hr') hoth
   exact ⟨y, by simp only [Gh.add, hq, if_false]; rw [hw.old (block_lt a1)]; exact a1, a2.later hl⟩
 ·by_cases hq : r = σ.spot tg
  ·by_cases hq' : r' = σ.spot tg
   ·exact absurd (hq.trans hq'.symm) hne
   ·have := hlt r' o' (by rw [← p2 r' hq']; exact h3) h4
    simp only [Gh.add, hq, hq', if_true, if_false]
    omega
  ·have l1 := hlt r o (by rw [← p2 r hq]; exact h1) h2
   by_cases hq' : r' = σ.spot tg
   ·simp only [Gh.add, hq, hq', if_true, if_false]
    omega
   ·simp only [Gh.add, hq, hq', if_false]
    exact hs.dist r r' o o' (by rw [← p2 r hq]; exact h1) h2 (by rw [← p2 r' hq']; exact h3) h4 hne
 ·by_cases hq : r = σ.spot tg
  ·simp only [Gh.add, hq, if_true]
   intro hf
   obtain ⟨v, hv⟩ := hs.frzb _ _ hf
   have := cell_lt hv
   omega
  ·simp only [Gh.add, hq, if_false]
   exact hs.nofrz r o (by rw [← p2 r hq]; exact h1) h2 q
 ·rw [p1] at ht
  obtain ⟨h0, c', e', fz', hb, hn, hsz, hf⟩ := hs.tok t k ht
  exact ⟨h0, c', e', fz', by rw [show ((g.add (σ.spot tg) w.heap.size 0 0).tok t) = g.tok t from rfl, hw.old (block_lt hb)]; exact hb, hn, hsz, hf⟩
 ·rw [p1] at h1 h2
  exact hs.tdist t t' k k' h1 h2 h3
 ·rw [p1] at h1
  obtain ⟨h0, c', e', fz', hb, _⟩ := hs.tok t k h1
  have := block_lt hb
  by_cases hq : r = σ.spot tg
  ·simp only [Gh.add, hq, if_true]
   omega
  ·simp only [Gh.add, hq, if_false]
   exact hs.tobj t k r o h1 (by rw [← p2 r hq]; exact h2) h3
 ·obtain ⟨v, hv⟩ := hs.frzb b q hf
  exact ⟨v, by rw [hcell b q hf]; exact hv⟩
 ·by_cases hq : r = σ.spot tg
  ·subst hq
   rw [p3] at hr'
   cases hr'
   exact ho.elim
  ·have hr2 : σ.objs[r]? = some (.cells cs') := by rw [← p2 r hq]; exact hr'
   refine ⟨by simp only [Gh.add, hq, if_false]; exact (hs.lims r cs' hr2).1, fun c' e' fz' hb => ?_⟩
   simp only [Gh.add, hq, if_false] at hb ⊢
   exact (hs.lims r cs' hr2).2 c' e' fz' (by rw [← hw.old (hs.blk hr2 trivial)]; exact hb)
 ·rcases hb with ⟨r, o, h1, h2, rfl⟩ | ⟨t, k, ht, rfl⟩
  ·by_cases hq : r = σ.spot tg
   ·right; simp [Gh.add, hq]
   ·left
    simp only [Gh.add, hq, if_false]
    exact .inl ⟨r, o, by rw [← p2 r hq]; exact h1, h2, rfl⟩
  ·left
   exact .inr ⟨t, k, by rw [← p1]; exact ht, rfl⟩

theorem Gh.add_obj (g : Gh) (r b n m : Nat) : (g.add r b n m).obj r = (b, 0) := by simp [Gh.add]

theorem makeMap_rel (hs : Sim g σ w) {t : TypeId} {tg : Option Nat} {v : V} {σ' : St} (h : Dn.newObj σ tg (.map [] 0) .map = some (v, σ')) : EStep P g σ w (Instr.makeMap t none) v σ' := by
 obtain ⟨hp, rfl⟩ := newObj_inv h
 obtain ⟨s1, s2⟩ := hs.new_oth (o := .map [] 0) trivial hp (x := .map #[] 0) ⟨rfl, rfl, by simp, fun i b k v h => by simp at h⟩ (grown_push w _)
 refine ⟨.map (some w.heap.size), _, _, ?_, s1, ?_, s2⟩
 ·simp [Instr.makeMap, newObj, Sem.run]
 ·have := VR.map (g := g.add (σ.spot tg) w.heap.size 0 0) (tk := σ'.toks) (w := { w with heap := w.heap.push (.map #[] 0) }) (σ.spot tg) (.inr rfl)
  rwa [Gh.add_obj] at this

theorem range_rel (hs : Sim g σ w) {t kt et : TypeId} (hu : P.underlying t = some (.map kt et)) {tg : Option Nat} {x v : V} {cx : Value} (hx : VR g σ.toks w x cx) {σ' : St} (h : rangeV σ tg x = some (v, σ')) : EStep P g σ w (Instr.range t cx) v σ' := by
 unfold rangeV at h
 split at h
 ·have := hx.inv_d
  cases this
  obtain ⟨hp, rfl⟩ := newObj_inv h
  obtain ⟨s1, s2⟩ := hs.new_oth (o := .iter none 0 [] 0) trivial hp (x := .mapIter none 0 #[] 0) ⟨rfl, (fun r h => by cases h), rfl, rfl, rfl⟩ (grown_push w _)
  refine ⟨.pointer (some ⟨w.heap.size, 0, none⟩), _, _, ?_, s1, ?_, s2⟩
  ·simp [Instr.range, run_underlying hu, newObj, Sem.run]
  ·have := VR.iter (g := g.add (σ.spot tg) w.heap.size 0 0) (tk := σ'.toks) (w := { w with heap := w.heap.push (.mapIter none 0 #[] 0) }) (σ.spot tg) (.inr rfl)
   rwa [Gh.add_obj] at this
 ·rename_i r
  split at h
  ·rename_i es clock ho
   obtain ⟨hob, h1, h2⟩ := hs.oth _ _ ho trivial
   cases hob <;> try exact h2.elim
   rename_i es' clock'
   obtain ⟨hp, rfl⟩ := newObj_inv h
   cases hx with
   | map _ hh =>
    obtain ⟨rfl, _⟩ := h2
    obtain ⟨s1, s2⟩ := hs.new_oth (o := .iter (some r) clock [] clock) trivial hp (x := .mapIter (some (g.obj r).1) clock #[] clock) ⟨rfl, fun q h => by cases h; exact hh, rfl, rfl, rfl⟩ (grown_push w _)
    refine ⟨.pointer (some ⟨w.heap.size, 0, none⟩), _, _, ?_, s1, ?_, s2⟩
    ·simp [Instr.range, run_underlying hu, newObj, getObj, Sem.run, h1]
    ·have := VR.iter (g := g.add (σ.spot tg) w.heap.size 0 0) (tk := σ'.toks) (w := { w with heap := w.heap.push (.mapIter (some (g.obj r).1) clock #[] clock) }) (σ.spot tg) (.inr rfl)
     rwa [Gh.add_obj] at this
  ·cases h
 ·cases h

theorem clone_rel (hs : Sim g σ w) {tg : Option Nat} {x v : V} {cx : Value} (hx : VR g σ.toks w x cx) {σ' : St} (h : cloneV σ tg x = some (v, σ')) : EStep P g σ w (Extern.MapsClone.clone #[cx]) v σ' := by
 unfold cloneV at h
 split at h
 ·rename_i t r
  split at h
  ·rename_i es clock ho
   obtain ⟨hob, h1, h2⟩ := hs.oth _ _ ho trivial
   cases hob <;> try exact h2.elim
   rename_i es' clock'
   obtain ⟨hp, rfl⟩ := newObj_inv h
   cases hx with
   | ifc _ _ cv hcv =>
    cases hcv with
    | map _ hh =>
     obtain ⟨s1, s2⟩ := hs.new_oth (o := .map es clock) trivial hp (x := .map es' clock') h2 (grown_push w _)
     refine ⟨.iface t (.map (some w.heap.size)), _, _, ?_, s1, ?_, s2⟩
     ·have e : Extern.MapsClone.clone #[.iface t (.map (some (g.obj r).1))] = (getObj (g.obj r).1 >>= fun o => match o with
        | .map entries clock => (Go.newObj (.map entries clock) >>= fun n => pure (.iface t (.map (some n))))
        | _ => stuck "maps.clone: a map expected") := rfl
      rw [e]
      simp [Go.newObj, getObj, Sem.run, h1]
     ·have := VR.map (g := g.add (σ.spot tg) w.heap.size 0 0) (tk := σ'.toks) (w := { w with heap := w.heap.push (.map es' clock') }) (σ.spot tg) (.inr rfl)
      rw [Gh.add_obj] at this
      exact .ifc _ _ _ this
  ·cases h
 ·cases h

theorem find_born {es : List (Nat × V × V)} {es' : Array MapEntry} (hl : es.length = es'.size) {b : Nat} (hh : ∀ (i b : Nat) (k v : V), es[i]? = some (b, k, v) → ∃ x, es'[i]? = some x ∧ x.born = b) {e : Nat × V × V} (h : es.find? (fun e => e.1 == b) = some e) :
  ∃ (i : Nat) (x : MapEntry), es[i]? = some e ∧ es'[i]? = some x ∧ es'.find? (·.born == b) = some x := by
 obtain ⟨l⟩ := es'
 simp only [List.size_toArray, List.getElem?_toArray, List.find?_toArray] at *
 induction es generalizing l with
 | nil => cases h
 | cons a r ih =>
  cases l with
  | nil => simp at hl
  | cons x l =>
   obtain ⟨y, hy, hb⟩ := hh 0 a.1 a.2.1 a.2.2 rfl
   simp only [List.getElem?_cons_zero, Option.some.injEq] at hy
   subst hy
   rw [List.find?_cons] at h
   cases hc : (a.1 == b) with
   | true =>
    rw [hc] at h
    cases h
    exact ⟨0, x, rfl, rfl, by rw [List.find?_cons, hb, hc]⟩
   | false =>
    rw [hc] at h
    obtain ⟨i, z, h1, h2, h3⟩ := ih h l (by simpa using hl) fun i b k v hi => hh (i + 1) b k v hi
    exact ⟨i + 1, z, h1, h2, by rw [List.find?_cons, hb, hc]; exact h3⟩

theorem entry_rel (hs : Sim g σ w) {x v : V} {cx : Value} (hx : VR g σ.toks w x cx) (h : entryV σ x = some v) : EStep P g σ w (Instr.entry cx) v σ := by
 unfold entryV at h
 split at h
 ·rename_i r
  split at h
  ·rename_i m since seen last ho
   split at h
   ·rename_i b es clock hb hm
    split at h
    ·rename_i hc
     subst hc
     split at h
     ·rename_i e he
      cases h
      obtain ⟨hob, h1, h2⟩ := hs.oth _ _ ho trivial
      cases hob <;> try exact h2.elim
      rename_i m' since' seen' last'
      obtain ⟨rfl, k2, rfl, k4, rfl⟩ := h2
      obtain ⟨hom, h3, h4⟩ := hs.oth _ _ hm trivial
      cases hom <;> try exact h4.elim
      rename_i es' clock'
      obtain ⟨rfl, l1, l2, l3⟩ := h4
      obtain ⟨i, y, q1, q2, q3⟩ := find_born l1 (fun i b k v hi => by obtain ⟨x, a1, a2, _⟩ := l3 i b k v hi; exact ⟨x, a1, a2⟩) he
      obtain ⟨y', a1, a2, a3, a4, a5⟩ := l3 i e.1 e.2.1 e.2.2 q1
      rw [q2] at a1
      cases a1
      have hbk : seen'.back? = some b := by rw [← k4] at hb; simpa using hb
      cases hx with
      | iter _ hh =>
       refine ⟨.tuple #[y.key, y.val], w, g, ?_, hs, VR.two a3 a4, Ev.refl _ _ _⟩
       simp [Instr.entry, getObj, Sem.run, h1, h3, hbk, q3]
     ·cases h
    ·cases h
   ·cases h
  ·cases h
 ·cases h

theorem run_setObj_oth {b : Nat} {x : Go.Obj} (y : Go.Obj) (h : w.heap[b]? = some x) (hx : ∀ c e f, x ≠ .cells c e f) : (setObj b y).run P w = .ok () (putB w b y) := by
 cases x <;> first | exact absurd rfl (hx _ _ _) | simp [setObj, Sem.run, h, putB]

theorem update_rel (hs : Sim g σ w) {t : TypeId} {ka : Bool} {ks : List Lf} (hm : mapKeyOf P t = some (ka, ks)) {m k x v : V} {cm ck cx : Value} (hvm : VR g σ.toks w m cm) (hvk : VR g σ.toks w k ck) (hvx : VR g σ.toks w x cx) {σ' : St} (h : updateV σ ka ks m k x = some (v, σ')) :
  v = .gone ∧ ∃ w', (Instr.mapUpdate t cm ck cx).run P w = .ok () w' ∧ Sim g σ' w' ∧ Ev g σ w g σ' w' := by
 unfold mapKeyOf at hm
 split at hm
 ·rename_i kt et hu
  unfold updateV at h
  split at h
  ·rename_i r
   split at h
   ·rename_i es clock ho
    split at h
    ·rename_i hcnd
     obtain ⟨hko, hks, hcl⟩ := hcnd
     simp only [Option.some.injEq, Prod.mk.injEq] at h
     obtain ⟨rfl, rfl⟩ := h
     refine ⟨rfl, ?_⟩
     cases hvm with
     | map _ hh =>
      obtain ⟨hob, h1, h2⟩ := hs.oth _ _ ho trivial
      cases hob <;> try exact h2.elim
      rename_i es' clock'
      have hfin := find_rel hm hko hvk hks h2 w
      obtain ⟨rfl, hl, hn, hh2⟩ := h2
      rcases hfin with ⟨f1, f2⟩ | ⟨j, b, v', y, f1, f2, f3, f4, f5, f6, f7⟩
      ·rw [(findM_none f2).1]
       have hrel : OthR g σ.toks w (.map (es ++ [(clock, k, x)]) (clock + 1)) (.map (es'.push { key := ck, val := cx, born := clock }) (clock + 1)) := by
        refine ⟨rfl, by simp [hl], ?_, fun i b q u hi => ?_⟩
        ·rw [List.map_append, List.nodup_append]
         refine ⟨hn, by simp, ?_⟩
         intro a ha c hc
         simp at hc
         subst hc
         obtain ⟨z, hz, rfl⟩ := List.mem_map.1 ha
         exact f2 z hz
        ·rcases Nat.lt_or_ge i es.length with hlt | hge
         ·rw [List.getElem?_append_left hlt] at hi
          obtain ⟨z, a1, a2⟩ := hh2 i b q u hi
          exact ⟨z, by rw [Array.getElem?_push_lt (by omega)]; rw [Array.getElem?_eq_getElem (by omega)] at a1; exact a1, a2⟩
         ·have hi0 : i = es.length := by
           have := (List.getElem?_eq_some_iff.1 hi).1
           simp at this
           omega
          subst hi0
          simp at hi
          obtain ⟨rfl, rfl, rfl⟩ := hi
          exact ⟨{ key := ck, val := cx, born := clock }, by rw [hl]; simp, rfl, hvk, hvx, hcl⟩
       obtain ⟨s1, s2⟩ := hs.put_oth ho trivial (@PutOth _ _ _ _ _ hrel) (fun _ => hrel)
       refine ⟨_, ?_, s1, s2⟩
       simp [Instr.mapUpdate, run_underlying hu, getObj, Sem.run, h1, check_key hm hko hvk w, f1, run_setObj_oth _ h1 (by intro c e f; simp)]
      ·obtain ⟨lit, hlit⟩ := keyOk_lit hm hko hvk
       obtain ⟨e1, e2, e3⟩ := findM_at hn f2
       rw [e1]
       simp only [e2]
       have hlt : j < es'.size := (Array.getElem?_eq_some_iff.1 f3).1
       have hrel : OthR g σ.toks w (.map (es.set j (b, k, x)) clock) (.map (es'.modify j fun e => { e with key := ck, val := cx }) clock) := by
        refine ⟨rfl, by simp [hl], ?_, fun i b' q u hi => ?_⟩
        ·have : (es.set j (b, k, x)).map (fun x => x.2.1) = es.map fun x => x.2.1 := by
          rw [List.map_set]
          apply List.ext_getElem?
          intro i
          by_cases hij : j = i
          ·subst hij
           rw [List.getElem?_set_self (by simp; omega), List.getElem?_map, f2]
           rfl
          ·rw [List.getElem?_set_ne hij]
         rw [this]; exact hn
        ·by_cases hij : j = i
         ·subst hij
          rw [List.getElem?_set_self (by omega)] at hi
          cases hi
          refine ⟨{ y with key := ck, val := cx }, ?_, f4, hvk, hvx, hcl⟩
          simp [Array.getElem?_modify, f3]
         ·rw [List.getElem?_set_ne hij] at hi
          obtain ⟨z, a1, a2⟩ := hh2 i b' q u hi
          exact ⟨z, by simp [Array.getElem?_modify, hij, a1], a2⟩
       obtain ⟨s1, s2⟩ := hs.put_oth ho trivial (@PutOth _ _ _ _ _ hrel) (fun _ => hrel)
       refine ⟨_, ?_, s1, s2⟩
       have hst := (compKey_law hm).stays w hlit
       simp [Instr.mapUpdate, run_underlying hu, getObj, Sem.run, h1, check_key hm hko hvk w, f1, f3, f5, hst, run_setObj_oth _ h1 (by intro c e f; simp)]
    ·cases h
   ·cases h
  ·cases h
 ·cases hm

theorem eraseIdx_if {α : Type} (a : Array α) (j : Nat) (h : j < a.size) : (a.eraseIdxIfInBounds j).toList = a.toList.eraseIdx j := by
 simp [Array.eraseIdxIfInBounds, h]

theorem delete_rel (hs : Sim g σ w) {t : TypeId} {ka : Bool} {ks : List Lf} (hm : mapKeyOf P t = some (ka, ks)) {m k v : V} {cm ck : Value} (hvm : VR g σ.toks w m cm) (hvk : VR g σ.toks w k ck) {σ' : St} (h : deleteV σ ka ks m k = some (v, σ')) {ats : Array TypeId} (hat : ats[0]? = some t) (ty : TypeId) :
  EStep P g σ w (Builtin.delete_ ats ty #[cm, ck]) v σ' := by
 unfold mapKeyOf at hm
 split at hm
 ·rename_i kt et hu
  unfold deleteV at h
  split at h
  ·cases h
  ·rename_i hko
   have hko : keyOk ka ks k = true := by simpa using hko
   have vt : ∀ {g : Gh} {tk : List Nat} {w : World}, VR g tk w (.tup []) (.tuple #[]) := .tup _ _ rfl (fun i c v hi hv => by simp at hi)
   split at h
   ·cases h
    have := hvm.inv_d
    cases this
    exact ⟨.tuple #[], w, g, by simp [Builtin.delete_, hat, run_underlying hu, check_key hm hko hvk w], hs, vt, Ev.refl _ _ _⟩
   ·rename_i r
    split at h
    ·rename_i es clock ho
     split at h
     ·rename_i hks
      cases h
      cases hvm with
      | map _ hh =>
       obtain ⟨hob, h1, h2⟩ := hs.oth _ _ ho trivial
       cases hob <;> try exact h2.elim
       rename_i es' clock'
       have hfin := find_rel hm hko hvk hks h2 w
       obtain ⟨rfl, hl, hn, hh2⟩ := h2
       rcases hfin with ⟨f1, f2⟩ | ⟨j, b, v', y, f1, f2, f3, f4, f5, f6, f7⟩
       ·rw [(findM_none f2).2]
        obtain ⟨s1, s2⟩ := hs.put_oth ho trivial (o' := .map es clock) (.inl trivial) (x := .map es' clock) (fun _ => ⟨rfl, hl, hn, hh2⟩)
        refine ⟨.tuple #[], _, g, ?_, s1, vt, s2⟩
        simp [Builtin.delete_, hat, run_underlying hu, getObj, Sem.run, h1, check_key hm hko hvk w, f1, run_setObj_oth _ h1 (by intro c e f; simp)]
       ·obtain ⟨e1, e2, e3⟩ := findM_at hn f2
        rw [e3]
        have hlt : j < es'.size := (Array.getElem?_eq_some_iff.1 f3).1
        have hrel : OthR g σ.toks w (.map (es.eraseIdx j) clock) (.map (es'.eraseIdxIfInBounds j) clock) := by
         have el := eraseIdx_if es' j hlt
         refine ⟨rfl, ?_, ?_, fun i b' q u hi => ?_⟩
         ·have := congrArg List.length el
          rw [List.length_eraseIdx] at this ⊢
          simp only [Array.length_toList, hlt, if_true] at this
          simp only [hl, hlt, if_true]
          exact this.symm
         ·exact hn.sublist ((List.eraseIdx_sublist _ _).map _)
         ·have : (es'.eraseIdxIfInBounds j)[i]? = (es'.toList.eraseIdx j)[i]? := by rw [← el, Array.getElem?_toList]
          rw [this]
          rw [List.getElem?_eraseIdx] at hi ⊢
          split at hi
          ·rename_i hlt'
           obtain ⟨z, a1, a2⟩ := hh2 i b' q u hi
           exact ⟨z, by rw [if_pos hlt']; simpa using a1, a2⟩
          ·rename_i hlt'
           obtain ⟨z, a1, a2⟩ := hh2 (i + 1) b' q u hi
           exact ⟨z, by rw [if_neg hlt']; simpa using a1, a2⟩
        obtain ⟨s1, s2⟩ := hs.put_oth ho trivial (@PutOth _ _ _ _ _ hrel) (fun _ => hrel)
        refine ⟨.tuple #[], _, g, ?_, s1, vt, s2⟩
        simp [Builtin.delete_, hat, run_underlying hu, getObj, Sem.run, h1, check_key hm hko hvk w, f1, run_setObj_oth _ h1 (by intro c e f; simp)]
     ·cases h
    ·cases h
   ·cases h
 ·cases hm

end Go.Dn

/- Every operation that turns the store, taken together. -/
namespace Go.Dn
open Go.Lib
set_option linter.unusedVariables false
set_option linter.unusedSimpArgs false

variable {P : Program} {g : Gh} {σ : St} {w : World}

def XStep (P : Program) (g : Gh) (σ : St) (w : World) (s : Sem Next) (v : V) (σ' : St) : Prop :=
 ∃ cv w' g', (s.run P w = .ok (.value cv) w' ∨ (s.run P w = .ok .skip w' ∧ cv = undef)) ∧ Sim g' σ' w' ∧ VR g' σ'.toks w' v cv ∧ Ev g σ w g' σ' w'

theorem EStep.next {s : Sem Value} {v : V} {σ' : St} (h : EStep P g σ w s v σ') : XStep P g σ w (do pure (.value (← s))) v σ' := by
 obtain ⟨cv, w', g', h1, h2⟩ := h
 exact ⟨cv, w', g', .inl (by simp [Sem.run_bind, h1]), h2⟩

theorem builtin_xnext {b : Builtin} {args : Array Operand} {argTypes : Array TypeId} {o : Oper} {a : Act} (ho : o.op = .call { callee := .builtin b, args, argTypes }) {s : Sem Value} {v : V} {σ' : St}
  (hb : ∀ consts, Go.builtin b argTypes o.type consts (args.map a.eval) = (do pure (.value (← s)))) (h : EStep P g σ w s v σ') : XStep P g σ w (execOp a.eval o) v σ' := by
 obtain ⟨cv, w', g', h1, h2⟩ := h.next
 refine ⟨cv, w', g', ?_, h2⟩
 unfold execOp
 simp only [ho, resolve, Sem.run_bind, Sem.run_pure, Result.andThen_ok, invoke]
 rw [hb]
 exact h1

theorem append_args {argTypes : Array TypeId} {t xT ty : TypeId} (h0 : argTypes[0]? = some t) (h1 : argTypes[1]? = some xT) (args : Array Value) :
  Builtin.append_ argTypes ty args = Builtin.append_ #[t, xT] ty args := by
 unfold Builtin.append_
 simp [h0, h1]

theorem opd_pair {n : Nat} {e : Env} {a : Act} (he : EnvR g σ.toks w n e a.tmps) {args : Array Operand} {xa xb : Opd} (hx : compOpds args.toList = some [xa, xb]) : ∃ cx cy, args.map a.eval = #[cx, cy] ∧ VR g σ.toks w (xa.ev e) cx ∧ VR g σ.toks w (xb.ev e) cy := by
 have hargs : args.toList.map a.eval = (args.map a.eval).toList := by simp
 have hv := opds_vrs he hx
 rw [hargs] at hv
 match hm : (args.map a.eval).toList, hv with
 | [cx, cy], hv => exact ⟨cx, cy, by apply Array.ext'; simpa using hm, hv.1, hv.2.1⟩
 | [], hv => exact hv.elim
 | [_], hv => exact hv.2.elim
 | _ :: _ :: _ :: _, hv => exact hv.2.2.elim

theorem opd_single {n : Nat} {e : Env} {a : Act} (he : EnvR g σ.toks w n e a.tmps) {args : Array Operand} {xa : Opd} (hx : compOpds args.toList = some [xa]) : ∃ cx, args.map a.eval = #[cx] ∧ VR g σ.toks w (xa.ev e) cx := by
 have hargs : args.toList.map a.eval = (args.map a.eval).toList := by simp
 have hv := opds_vrs he hx
 rw [hargs] at hv
 match hm : (args.map a.eval).toList, hv with
 | [cx], hv => exact ⟨cx, by apply Array.ext'; simpa using hm, hv.1⟩
 | [], hv => exact hv.elim
 | _ :: _ :: _, hv => exact hv.2.elim

theorem copy_args {argTypes : Array TypeId} {t xT ty : TypeId} (h0 : argTypes[0]? = some t) (args : Array Value) :
  Builtin.copy_ argTypes ty args = Builtin.copy_ #[t, xT] ty args := by
 unfold Builtin.copy_
 simp [h0]

theorem clear_args {argTypes : Array TypeId} {t ty : TypeId} (h0 : argTypes[0]? = some t) (args : Array Value) :
  Builtin.clear_ argTypes ty args = Builtin.clear_ #[t] ty args := by
 unfold Builtin.clear_
 simp [h0]

theorem evalE_rel (hs : Sim g σ w) {n : Nat} {e : Env} {a : Act} (he : EnvR g σ.toks w n e a.tmps) {o : Oper} {dst : Option Nat} {op : EOp} (hc : compOp P o = some (.e dst op)) {v : V} {tg : Option Nat} {σ' : St} (h : evalE op e σ tg = some (v, σ')) :
  dst = o.dst ∧ XStep P g σ w (execOp a.eval o) v σ' := by
 have rel : ∀ {x : Operand} {x' : Opd}, compOpd x = some x' → VR g σ.toks w (x'.ev e) (a.eval x) := fun hx => opd_rel hx he
 obtain ⟨od, oop, oty, opos, oaft, ogd⟩ := o
 cases oop <;> simp only [compOp] at hc
 case alloc t =>
  split at hc
  ·rename_i z hz
   simp only [Option.some.injEq, Ins.e.injEq] at hc
   obtain ⟨rfl, rfl⟩ := hc
   simp only [evalE] at h
   exact ⟨rfl, (alloc_rel hs hz h).next⟩
  ·cases hc
 case box t x =>
  split at hc
  ·rename_i x' hx
   simp only [Option.some.injEq, Ins.e.injEq] at hc
   obtain ⟨rfl, rfl⟩ := hc
   simp only [evalE] at h
   split at h
   ·rename_i l hl
    exact ⟨rfl, (box_rel hs (rel hx) hl h).next⟩
   ·cases h
  ·cases hc
 case store t x y =>
  split at hc
  ·rename_i x' y' hx hy
   split at hc
   ·rename_i hok
    simp only [Option.some.injEq, Ins.e.injEq] at hc
    obtain ⟨rfl, rfl⟩ := hc
    simp only [evalE] at h
    split at h
    ·rename_i r off hxe
     split at h
     ·rename_i cs hr
      split at h
      ·rename_i l hl
       split at h
       ·rename_i hb
        cases h
        obtain ⟨w', r1, r2, r3⟩ := store_rel hs hok (rel hx) (rel hy) hxe hr hl hb.1 hb.2
        exact ⟨rfl, undef, w', g, .inr ⟨by simp [execOp, Sem.run_bind, r1], rfl⟩, r2, .gone, r3⟩
       ·cases h
      ·cases h
     ·cases h
    ·cases h
   ·cases hc
  ·cases hc
 case call c =>
  obtain ⟨callee, args, argTypes⟩ := c
  simp only [compCall] at hc
  split at hc
  case h_1 f =>
   split at hc
   ·rename_i l hl
    split at hc
    ·rename_i fn hfn
     split at hc
     ·simp at hc
     ·split at hc
      ·rename_i x'
       split at hc
       ·rename_i hcl
        simp only [Option.some.injEq, Ins.e.injEq] at hc
        obtain ⟨rfl, rfl⟩ := hc
        simp only [evalE] at h
        obtain ⟨cx, hcx, hvr⟩ := opd_single he hl
        have hst := clone_rel (P := P) hs hvr h
        refine ⟨rfl, ?_⟩
        obtain ⟨c1, c2, c3⟩ : fn.name = "maps.clone" ∧ fn.body.isNone = true ∧ Extern.findNext fn = none := by
         simp only [cloneFn, Bool.and_eq_true, beq_iff_eq] at hcl
         exact ⟨hcl.1.1, hcl.1.2, by simpa using hcl.2⟩
        have hfind : Extern.find fn = some Extern.MapsClone.clone := by
         unfold Extern.find
         simp only [c1]
         have e1 : Extern.allGenericRows.lookup "maps.clone" = none := by kernel_rfl
         have e2 : Extern.allTypedRows.lookup "maps.clone" = none := by kernel_rfl
         have e3 : Extern.allRows.lookup "maps.clone" = some Extern.MapsClone.clone := by kernel_rfl
         rw [e1, e2, e3]
         rfl
        have hname : (fn.name == "runtime.NumGoroutine") = false := by rw [c1]; rfl
        have hx : execOp a.eval (⟨od, .call { callee := .value (.func f), args, argTypes }, oty, opos, oaft, ogd⟩ : Oper) = callFunc f (#[] ++ args.map a.eval ++ #[]) := by
         unfold execOp
         simp only [resolve, Sem.run_bind, Sem.run_pure, Result.andThen_ok, invoke]
         rfl
        obtain ⟨cv, w', g', r1, r2⟩ := hst
        refine ⟨cv, w', g', .inl ?_, r2⟩
        rw [hx, run_callFunc_extern hfn hname c2 c3 hfind]
        simp only [Array.empty_append, Array.append_empty, hcx, r1, Result.andThen]
       ·cases hc
      ·cases hc
    ·cases hc
   ·cases hc
  case h_3 cal b =>
   unfold compBuiltin at hc
   split at hc
   case h_2 =>
    split at hc
    ·rename_i t xT xa xb ht hxT hx
     have hargs : args.toList.map a.eval = (args.map a.eval).toList := by simp
     have hv := opds_vrs he hx
     rw [hargs] at hv
     have h1 : ∃ cx cy, args.map a.eval = #[cx, cy] ∧ VR g σ.toks w (xa.ev e) cx ∧ VR g σ.toks w (xb.ev e) cy := by
      match hm : (args.map a.eval).toList, hv with
      | [cx, cy], hv => exact ⟨cx, cy, by apply Array.ext'; simpa using hm, hv.1, hv.2.1⟩
      | [], hv => exact hv.elim
      | [_], hv => exact hv.2.elim
      | _ :: _ :: _ :: _, hv => exact hv.2.2.elim
     obtain ⟨cx, cy, hcx, hvr, hvr'⟩ := h1
     split at hc
     ·rename_i el hu
      split at hc
      ·rename_i el' hu'
       split at hc
       ·rename_i hg
        simp only [Option.some.injEq, Ins.e.injEq] at hc
        obtain ⟨rfl, rfl⟩ := hc
        simp only [evalE] at h
        split at h
        ·rename_i ys hys
         refine ⟨rfl, builtin_xnext rfl (s := Builtin.append_ #[t, xT] oty #[cx, cy]) (fun _ => by rw [hcx]; simp only [Go.builtin]; rw [append_args ht hxT]) ?_⟩
         have hpos : 0 < P.cellsOf el := by
          obtain ⟨_, _, _, _, _, _, h0, _⟩ := growOk_inv hg
          omega
         by_cases hfit : fitR (P.cellsOf el) ys = true
         ·obtain ⟨news, hn⟩ := src_rows (P := P) (rows_rel hs hvr' hys) hpos hfit
          exact append_rel hs hu hg hu' (fun k => by simp) hvr (fun _ => hn) h
         ·unfold appendV at h
          simp [hfit] at h
        ·cases h
       ·cases hc
      ·rename_i hu'
       split at hc
       ·rename_i hg
        simp only [Option.some.injEq, Ins.e.injEq] at hc
        obtain ⟨rfl, rfl⟩ := hc
        simp only [evalE] at h
        split at h
        ·rename_i l hl
         refine ⟨rfl, builtin_xnext rfl (s := Builtin.append_ #[t, xT] oty #[cx, cy]) (fun _ => by rw [hcx]; simp only [Go.builtin]; rw [append_args ht hxT]) ?_⟩
         rw [hl] at hvr'
         cases hvr'.inv_d
         obtain ⟨news, hn⟩ := src_str (P := P) (w := w) (f := g.frz) l
         have := append_rel (t := t) (xT := xT) (ty := oty) (cx := .string ⟨l.toArray⟩) (news := news) (ys := byteRows l) hs hu hg.1 hu' (fun k => by simp) hvr (fun _ => by rw [hg.2.1]; exact hn) (tg := tg) (v := v) (σ' := σ') (by rw [hg.2.1, hg.2.2]; exact h)
         exact this
        ·cases h
       ·cases hc
      ·rename_i k0 hu'
       split at hc
       ·rename_i z hz
        split at hc
        ·cases hc
        ·rename_i hg
         simp only [Bool.not_eq_false] at hg
         simp only [Option.some.injEq, Ins.e.injEq] at hc
         obtain ⟨rfl, rfl⟩ := hc
         simp only [evalE] at h
         split at h
         ·rename_i k1 l hs0 hl0
          split at h
          ·rename_i hcnd
           obtain ⟨rfl, h0, hb, h63, hpos⟩ := hcnd
           rw [hs0] at hvr
           rw [hl0] at hvr'
           cases hvr.inv_d
           cases hvr'.inv_int
           exact ⟨rfl, builtin_xnext rfl (s := Builtin.append_ #[t, xT] oty #[.slice none 0 0, .int .i64 l]) (fun _ => by rw [hcx]; simp only [Go.builtin]; rw [append_args ht hxT]) (appendZ_rel hs hu hg hu' hz h0 hb h63 h)⟩
          ·cases h
         ·cases h
       ·cases hc
      ·cases hc
     ·cases hc
    ·cases hc
   case h_3 =>
    split at hc
    ·rename_i t xT xa xb ht hxT hx
     obtain ⟨cx, cy, hcx, hvr, hvr'⟩ := opd_pair he hx
     split at hc
     ·rename_i el el' hu hu'
      split at hc
      ·cases hc
      ·rename_i hne
       simp only [Option.some.injEq, Ins.e.injEq] at hc
       obtain ⟨rfl, rfl⟩ := hc
       simp only [evalE] at h
       split at h
       ·rename_i ys hys
        refine ⟨rfl, builtin_xnext rfl (s := Builtin.copy_ #[t, xT] oty #[cx, cy]) (fun _ => by rw [hcx]; simp only [Go.builtin]; rw [copy_args (xT := xT) ht]) ?_⟩
        exact copy_rel hs hu hne hvr hvr' hys h
       ·cases h
     ·cases hc
    ·cases hc
   case h_4 =>
    split at hc
    ·rename_i t xa ht hx
     obtain ⟨cx, hcx, hvr⟩ := opd_single he hx
     split at hc
     ·rename_i el hu
      split at hc
      ·rename_i z hz
       split at hc
       ·cases hc
       ·rename_i hcnd
        simp only [not_or, Decidable.not_not, ne_eq] at hcnd
        simp only [Option.some.injEq, Ins.e.injEq] at hc
        obtain ⟨rfl, rfl⟩ := hc
        simp only [evalE] at h
        refine ⟨rfl, builtin_xnext rfl (s := Builtin.clear_ #[t] oty #[cx]) (fun _ => by rw [hcx]; simp only [Go.builtin]; rw [clear_args ht]) ?_⟩
        exact clear_rel hs hu hz hcnd.2 (by omega) hvr h
      ·cases hc
     ·cases hc
    ·cases hc
   case h_7 =>
    split at hc
    ·rename_i t xa xb ht hx
     obtain ⟨cx, cy, hcx, hvr, hvr'⟩ := opd_pair he hx
     split at hc
     ·rename_i ka ks hm
      simp only [Option.some.injEq, Ins.e.injEq] at hc
      obtain ⟨rfl, rfl⟩ := hc
      simp only [evalE] at h
      refine ⟨rfl, builtin_xnext rfl (s := Builtin.delete_ argTypes oty #[cx, cy]) (fun _ => by rw [hcx]; simp only [Go.builtin]) ?_⟩
      exact delete_rel hs hm hvr hvr' h ht oty
     ·cases hc
    ·cases hc
   all_goals (exfalso; (repeat' (split at hc)) <;> first | (cases hc; done) | (simp only [Option.some.injEq, Ins.e.injEq] at hc; obtain ⟨rfl, rfl⟩ := hc; simp [evalE] at h; done) | (simp at hc; done))
  all_goals (exfalso; (repeat' (split at hc)) <;> first | (cases hc; done) | (simp only [Option.some.injEq, Ins.e.injEq] at hc; obtain ⟨rfl, rfl⟩ := hc; simp [evalE] at h; done) | (simp at hc; done))
 case makeSlice t xl xc =>
  split at hc
  ·rename_i el hu
   split at hc
   ·rename_i z xl' xc' hz hxl hxc
    split at hc
    ·cases hc
    ·rename_i hg
     simp only [Bool.not_eq_false] at hg
     simp only [Option.some.injEq, Ins.e.injEq] at hc
     obtain ⟨rfl, rfl⟩ := hc
     simp only [evalE] at h
     split at h
     ·rename_i k l k' c hl hcc
      split at h
      ·rename_i hcnd
       obtain ⟨rfl, rfl, h0, h1, hb, h63, hpos⟩ := hcnd
       have rl := rel hxl
       have rc := rel hxc
       rw [hl] at rl
       rw [hcc] at rc
       have e1 := rl.inv_int
       have e2 := rc.inv_int
       refine ⟨rfl, ?_⟩
       have := (makeSlice_rel (P := P) hs hu hg hz h0 h1 hb h63 h).next
       simpa [execOp, e1, e2] using this
      ·cases h
     ·cases h
   ·cases hc
  ·cases hc
 case makeMap t r =>
  cases r with
  | none =>
   simp only [Option.some.injEq, Ins.e.injEq] at hc
   obtain ⟨rfl, rfl⟩ := hc
   simp only [evalE] at h
   exact ⟨rfl, (makeMap_rel hs h).next⟩
  | some x => cases hc
 case range t x =>
  split at hc
  ·rename_i kt et a' hu hx
   simp only [Option.some.injEq, Ins.e.injEq] at hc
   obtain ⟨rfl, rfl⟩ := hc
   simp only [evalE] at h
   exact ⟨rfl, (range_rel hs hu (rel hx) h).next⟩
  ·cases hc
 case entry x =>
  split at hc
  ·rename_i a' hx
   simp only [Option.some.injEq, Ins.e.injEq] at hc
   obtain ⟨rfl, rfl⟩ := hc
   simp only [evalE] at h
   split at h
   ·rename_i v' hv
    cases h
    exact ⟨rfl, (entry_rel hs (rel hx) hv).next⟩
   ·cases h
  ·cases hc
 case mapUpdate t m k x =>
  split at hc
  ·rename_i ka ks m' k' x' hm hxs
   simp only [Option.some.injEq, Ins.e.injEq] at hc
   obtain ⟨rfl, rfl⟩ := hc
   simp only [evalE] at h
   have hv := opds_vrs he hxs
   simp only [List.map_cons, List.map_nil] at hv
   obtain ⟨v1, v2, v3, _⟩ := hv
   obtain ⟨rfl, w', r1, r2, r3⟩ := update_rel hs hm v1 v2 v3 h
   exact ⟨rfl, undef, w', g, .inr ⟨by simp [execOp, Sem.run_bind, r1], rfl⟩, r2, .gone, r3⟩
  ·cases hc
 all_goals (exfalso; (repeat' (split at hc)) <;> first | (cases hc; done) | (simp only [Option.some.injEq, Ins.e.injEq] at hc; obtain ⟨rfl, rfl⟩ := hc; simp [evalE] at h; done) | (simp at hc; done))

end Go.Dn

/- make, into memory that is not written any more. -/
namespace Go.Dn
open Go.Lib Go.RowKit
set_option linter.unusedVariables false
set_option linter.unusedSimpArgs false
variable {P : Program} {g : Gh} {σ : St} {w : World}

theorem makeSlice_relF (hs : Sim g σ w) {t e : TypeId} (ht : P.underlying t = some (.slice e)) (hg : growOk P e = true) {z : List D} (hz : zeroOf P e = some z) {l : Int} (h0 : 0 ≤ l) (hb : l * P.bytesOf e ≤ 140737488355328) (hc : l ≤ 9223372036854775807) :
  EStep P g σ w (Instr.makeSlice t (.int .i64 l) (.int .i64 l)) (.fl (rowsOf (P.cellsOf e) l.toNat (zerosD l.toNat z))) σ := by
 obtain ⟨i, zv, hi, hzv, hisz, hiby, hcell, hzs, hz1⟩ := growOk_inv hg
 obtain ⟨i', zv', hi', hzv', hleaf⟩ := zeroOf_inv hz
 rw [hi] at hi'; cases hi'
 rw [hzv] at hzv'; cases hzv'
 obtain ⟨z1, z2⟩ := leafsD_vrs (g := g) (tk := σ.toks) (w := w) hleaf
 have hzl : z.length = P.cellsOf e := by have := z1.length; simp at this; rw [this]; exact hzs
 have hpos : 0 < z.length := by omega
 have w1 : IntKind.i64.wrap l = l := by simp only [IntKind.wrap, IntKind.signed, IntKind.bits]; simp; omega
 have hcn : (l.toNat : Int) = l := Int.toNat_of_nonneg (by omega)
 have hprod : ((l.toNat * i.bytes : Nat) : Int) = l * i.bytes := by rw [Int.natCast_mul, hcn]
 rw [← hiby] at hb
 have room : l.toNat * i.bytes ≤ 140737488355328 := by omega
 have t1 : ¬ ((i.bytes : Int) * l > 281474976710656) := by rw [Int.mul_comm]; omega
 obtain ⟨r1, r2⟩ := repl_rel (g := g) (tk := σ.toks) (w := w) z1 z2 hpos l.toNat
 rw [← zerosD_map] at r1
 have hszz : zv.cells.size = z.length := by rw [hzl]; exact hzs
 have hrl : (zerosD l.toNat z).length = l.toNat * P.cellsOf e := by
  have := congrArg List.length (zerosD_map l.toNat z)
  rw [List.length_map, repl_length, hzl] at this
  exact this
 obtain ⟨g', s1, s2, s3⟩ := newRow_rel hs (e := e) hrl r1.of_d r2 (w' := { w with heap := w.heap.push (.cells ((Array.range (l.toNat * z.length)).map (zv.cells[· % zv.cells.size]!)) e) }) ⟨rfl, rfl, rfl, rfl⟩
 refine ⟨.slice (some ⟨w.heap.size, 0, none⟩) l.toNat l.toNat, _, g', ?_, s1, s2, s3⟩
 have e1 : ¬ (l < 0) := by omega
 have e4 : ¬ (roomBytes < l.toNat * i.bytes) := by unfold roomBytes; omega
 have e5 : ¬ (281474976710656 < (i.bytes : Int) * l) := by omega
 by_cases hn : l.toNat * i.size = 0
 ·have hc0 : l.toNat * z.length = 0 := by rw [hzl, ← hisz]; exact hn
  simp [Instr.makeSlice, run_underlying ht, asInt, asIntOf, typeInfo, hi, w1, e1, e4, e5, sizeOf, hn, newRow, askRoom, hc0]
  have e0 : Array.range 0 = #[] := rfl
  simp only [e0, Array.map_empty]
 ·simp [Instr.makeSlice, run_underlying ht, asInt, asIntOf, typeInfo, hi, w1, e1, e4, e5, sizeOf, hn, run_zeroValue hi hzv, newRow, askRoom]
  rw [hisz, hzl]

end Go.Dn

/- append, its other way. -/
namespace Go.Dn
open Go.Lib
set_option linter.unusedVariables false
set_option linter.unusedSimpArgs false

variable {P : Program} {g : Gh} {σ : St} {w : World}

theorem evalM_rel (hs : Sim g σ w) {n : Nat} {e : Env} {a : Act} (he : EnvR g σ.toks w n e a.tmps) {o : Oper} {dst : Option Nat} {op : EOp} (hc : compOp P o = some (.e dst op)) {v : V} {tg : Option Nat} {σ' : St} (h : evalM op e σ tg = some (v, σ')) :
  dst = o.dst ∧ XStep P g σ w (execOp a.eval o) v σ' := by
 have rel : ∀ {x : Operand} {x' : Opd}, compOpd x = some x' → VR g σ.toks w (x'.ev e) (a.eval x) := fun hx => opd_rel hx he
 obtain ⟨od, oop, oty, opos, oaft, ogd⟩ := o
 cases oop <;> simp only [compOp] at hc
 case call c =>
  obtain ⟨callee, args, argTypes⟩ := c
  simp only [compCall] at hc
  split at hc
  case h_3 cal b =>
   unfold compBuiltin at hc
   split at hc
   case h_2 =>
    split at hc
    ·rename_i t xT xa xb ht hxT hx
     have hargs : args.toList.map a.eval = (args.map a.eval).toList := by simp
     have hv := opds_vrs he hx
     rw [hargs] at hv
     have h1 : ∃ cx cy, args.map a.eval = #[cx, cy] ∧ VR g σ.toks w (xa.ev e) cx ∧ VR g σ.toks w (xb.ev e) cy := by
      match hm : (args.map a.eval).toList, hv with
      | [cx, cy], hv => exact ⟨cx, cy, by apply Array.ext'; simpa using hm, hv.1, hv.2.1⟩
      | [], hv => exact hv.elim
      | [_], hv => exact hv.2.elim
      | _ :: _ :: _ :: _, hv => exact hv.2.2.elim
     obtain ⟨cx, cy, hcx, hvr, hvr'⟩ := h1
     split at hc
     ·rename_i el hu
      split at hc
      ·rename_i el' hu'
       split at hc
       ·rename_i hg
        simp only [Option.some.injEq, Ins.e.injEq] at hc
        obtain ⟨rfl, rfl⟩ := hc
        simp only [evalM] at h
        split at h
        ·rename_i ys hys
         refine ⟨rfl, builtin_xnext rfl (s := Builtin.append_ #[t, xT] oty #[cx, cy]) (fun _ => by rw [hcx]; simp only [Go.builtin]; rw [append_args ht hxT]) ?_⟩
         have hpos : 0 < P.cellsOf el := by
          obtain ⟨_, _, _, _, _, _, h0, _⟩ := growOk_inv hg
          omega
         by_cases hfit : fitR (P.cellsOf el) ys = true
         ·obtain ⟨news, hn⟩ := src_rows (P := P) (rows_rel hs hvr' hys) hpos hfit
          obtain ⟨ti, _, hti, _, hts, _⟩ := growOk_inv hg
          exact appendM_rel hs hu hg hti hvr (fun _ => Src.app hu hti hu' (fun k => by simp) (by rw [hts]; exact hn)) h
         ·unfold appendM at h
          simp [hfit] at h
        ·cases h
       ·cases hc
      ·rename_i hu'
       split at hc
       ·rename_i hg
        simp only [Option.some.injEq, Ins.e.injEq] at hc
        obtain ⟨rfl, rfl⟩ := hc
        simp only [evalM] at h
        split at h
        ·rename_i l hl
         refine ⟨rfl, builtin_xnext rfl (s := Builtin.append_ #[t, xT] oty #[cx, cy]) (fun _ => by rw [hcx]; simp only [Go.builtin]; rw [append_args ht hxT]) ?_⟩
         rw [hl] at hvr'
         cases hvr'.inv_d
         obtain ⟨news, hn⟩ := src_str (P := P) (w := w) (f := g.frz) l
         obtain ⟨ti, _, hti, _, hts, _⟩ := growOk_inv hg.1
         have := appendM_rel (t := t) (xT := xT) (ty := oty) (cx := .string ⟨l.toArray⟩) (news := news) (ys := byteRows l) hs hu hg.1 hti hvr (fun _ => Src.app hu hti hu' (fun k => by simp) (by rw [hts, hg.2.1]; exact hn)) (tg := tg) (v := v) (σ' := σ') (by rw [hg.2.1, hg.2.2]; exact h)
         exact this
        ·cases h
       ·cases hc
      ·rename_i k0 hu'
       split at hc
       ·rename_i z hz
        split at hc
        ·cases hc
        ·rename_i hg
         simp only [Bool.not_eq_false] at hg
         simp only [Option.some.injEq, Ins.e.injEq] at hc
         obtain ⟨rfl, rfl⟩ := hc
         simp only [evalM] at h
         split at h
         ·rename_i k1 l hl0
          split at h
          ·rename_i hcnd
           obtain ⟨rfl, h0, hlen⟩ := hcnd
           rw [hl0] at hvr'
           cases hvr'.inv_int
           exact ⟨rfl, builtin_xnext rfl (s := Builtin.append_ #[t, xT] oty #[cx, .int .i64 l]) (fun _ => by rw [hcx]; simp only [Go.builtin]; rw [append_args ht hxT]) (appendZM_rel hs hu hg hu' hz hvr (by obtain ⟨n, hn⟩ := Option.isSome_iff_exists.1 hlen; obtain ⟨a, c, h1, h2⟩ := slice_len hs hvr hn; exact ⟨a, n, c, h1, h2⟩) h0 h)⟩
          ·cases h
         ·cases h
       ·cases hc
      ·cases hc
     ·cases hc
    ·cases hc
   all_goals (exfalso; (repeat' (split at hc)) <;> first | (cases hc; done) | (simp only [Option.some.injEq, Ins.e.injEq] at hc; obtain ⟨rfl, rfl⟩ := hc; simp [evalM] at h; done) | (simp at hc; done))
  all_goals (exfalso; (repeat' (split at hc)) <;> first | (cases hc; done) | (simp only [Option.some.injEq, Ins.e.injEq] at hc; obtain ⟨rfl, rfl⟩ := hc; simp [evalM] at h; done) | (simp at hc; done))
 case makeSlice t xl xc =>
  split at hc
  ·rename_i el hu
   split at hc
   ·rename_i z xl' xc' hz hxl hxc
    split at hc
    ·cases hc
    ·rename_i hg
     simp only [Bool.not_eq_false] at hg
     simp only [Option.some.injEq, Ins.e.injEq] at hc
     obtain ⟨rfl, rfl⟩ := hc
     simp only [evalM] at h
     split at h
     ·rename_i k l k' c hl hcc
      split at h
      ·rename_i hcnd
       obtain ⟨rfl, rfl, h0, rfl, hb, h63⟩ := hcnd
       cases h
       have rl := rel hxl
       have rc := rel hxc
       rw [hl] at rl
       rw [hcc] at rc
       have e1 := rl.inv_int
       have e2 := rc.inv_int
       refine ⟨rfl, ?_⟩
       have := (makeSlice_relF (P := P) hs hu hg hz h0 hb h63).next
       simpa [execOp, e1, e2] using this
      ·cases h
     ·cases h
   ·cases hc
  ·cases hc
 case makeMap t r =>
  cases r with
  | none =>
   simp only [Option.some.injEq, Ins.e.injEq] at hc
   obtain ⟨rfl, rfl⟩ := hc
   simp [evalM] at h
  | some x => cases hc
 all_goals (exfalso; (repeat' (split at hc)) <;> first | (cases hc; done) | (simp only [Option.some.injEq, Ins.e.injEq] at hc; obtain ⟨rfl, rfl⟩ := hc; simp [evalM] at h; done) | (simp at hc; done))

end Go.Dn
