/- copy, make, clear; append into an object that may be written. -/
import Derived.Test.YtjkedjjahjlmfaaFw21
namespace Go.Dn
open Go.Lib
set_option linter.unusedVariables false
set_option linter.unusedSimpArgs false

variable {P : Program} {g : Gh} {σ : St} {tk : List Nat} {w : World}

theorem rowsLen_take {sz : Nat} : ∀ (ys : List (List D)) (n : Nat), (∀ (i : Nat) (row : List D), ys[i]? = some row → row.length = sz) → (ys.take n).flatten = ys.flatten.take (n * sz)
  | [], n, _ => by simp
  | y :: ys, 0, _ => by simp
  | y :: ys, n + 1, h => by
    have h0 : y.length = sz := h 0 y rfl
    have ih := rowsLen_take ys n (fun i row hr => h (i + 1) row (by simpa using hr))
    simp only [List.take_succ_cons, List.flatten_cons]
    rw [ih, Nat.add_mul, Nat.one_mul, Nat.add_comm (n * sz) sz, List.take_append, h0]
    rw [show y.take (sz + n * sz) = y from List.take_of_length_le (by omega)]
    congr 1
    congr 1
    omega

theorem DRs.take {f : Nat → Nat → Prop} : ∀ {ds : List D} {vs : List Value} (n : Nat), DRs f w ds vs → DRs f w (ds.take n) (vs.take n)
  | [], [], n, h => by simp; exact h
  | _ :: _, _ :: _, 0, h => trivial
  | _ :: _, _ :: _, n + 1, h => ⟨h.1, DRs.take n h.2⟩
  | [], _ :: _, _, h => h.elim
  | _ :: _, [], _, h => h.elim

theorem run_loadFrom (a : Addr) (cv : Nat → Value) (n : Nat) (hc : ∀ j, j < n → w.cell? (a.add j) = some (cv j)) : (loadCells a n).run P w = .ok ((List.range n).map cv).toArray w := run_loadCells w a n cv hc

/-- The first cells of what is copied. -/
theorem src_first (hs : Sim g σ w) {x : V} {cx : Value} (hx : VR g σ.toks w x cx) {ys : List (List D)} (h : V.rows σ x = some ys) {sz : Nat} (hpos : 0 < sz) (hfit : fitR sz ys = true) (m : Nat) (hm : m ≤ ys.length) :
    ∃ news : Array Value, (Builtin.lenOf cx).run P w = .ok ys.length w ∧ (Builtin.firstCells sz m cx).run P w = .ok news w ∧ DRs g.frz w (ys.take m).flatten news.toList ∧ ∀ v ∈ news.toList, oneC v = true := by
  have hf : ∀ (i : Nat) (row : List D), ys[i]? = some row → row.length = sz := fun i row hr => fitR_get hfit hr
  obtain ⟨news, hn⟩ := src_rows (P := P) (rows_rel hs hx h) hpos hfit
  have hl := hn.len
  have hfi := hn.first w rfl
  refine ⟨(news.toList.take (m * sz)).toArray, hl, ?_, ?_, ?_⟩
  · rcases rows_rel hs hx h with ⟨rfl, rfl⟩ | ⟨a, cap, sz', cv, rfl, hcap, hat⟩
    · have hm0 : m = 0 := by simpa using hm
      subst hm0
      simp [Builtin.firstCells]
    · by_cases hz : ys.length = 0
      · have hm0 : m = 0 := by omega
        subst hm0
        simp [Builtin.firstCells, loadCells, loadCellsFrom]
      · have hsz : sz' = sz := by
          have h0 : ys[0]? = some (ys[0]'(by omega)) := by simp
          rw [← hat.hsz 0 _ h0, hf 0 _ h0]
        subst hsz
        have e1 : (Builtin.firstCells sz' ys.length (.slice (some a) ys.length cap)).run P w = .ok ((List.range (ys.length * sz')).map cv).toArray w := run_loadFrom a cv _ hat.hc
        rw [hfi] at e1
        simp only [Result.ok.injEq, and_true] at e1
        subst e1
        have hle : m * sz' ≤ ys.length * sz' := Nat.mul_le_mul_right _ hm
        have e2 : (Builtin.firstCells sz' m (.slice (some a) ys.length cap)).run P w = .ok ((List.range (m * sz')).map cv).toArray w := run_loadFrom a cv _ (fun j hj => hat.hc j (by omega))
        rw [e2]
        simp only [← List.map_take, List.take_range]
        rw [Nat.min_eq_left hle]
  · rw [rowsLen_take ys m hf]
    exact hn.rel.take _
  · intro v hv
    simp only at hv
    exact hn.one v (List.mem_of_mem_take hv)

theorem copy_rel (hs : Sim g σ w) {t xT e ty : TypeId} (ht : P.underlying t = some (.slice e)) (hc : P.cellsOf e ≠ 0) {s x v : V} {cs cx : Value} (hsv : VR g σ.toks w s cs) (hx : VR g σ.toks w x cx) {ys : List (List D)} (hys : V.rows σ x = some ys) {σ' : St}
    (h : copyV σ (P.cellsOf e) s ys = some (v, σ')) : EStep P g σ w (Builtin.copy_ #[t, xT] ty #[cs, cx]) v σ' := by
  have hpos : 0 < P.cellsOf e := by omega
  unfold copyV at h
  split at h
  · cases h
  · rename_i hfit
    simp only [Bool.not_eq_false] at hfit
    have hf : ∀ (i : Nat) (row : List D), ys[i]? = some row → row.length = P.cellsOf e := fun i row hr => fitR_get hfit hr
    split at h
    · rename_i r off len s'
      split at h
      · rename_i hcnd
        obtain ⟨rfl, _⟩ := hcnd
        split at h
        · rename_i ocs hobj
          split at h
          · rename_i hroom
            cases h
            cases hsv with
            | sl _ _ _ _ cap a hh hcap hsz hin hout ha hsp =>
              obtain ⟨news, n1, n2, n3, n4⟩ := src_first (P := P) hs hx hys hpos hfit (min ys.length len) (Nat.min_le_left _ _)
              have hln : ocs.length = g.len r := (hs.cells r ocs hobj).1
              have htl : (ys.take (min ys.length len)) = ys.take len := by
                rcases Nat.le_total ys.length len with h | h
                · rw [Nat.min_eq_left h, List.take_of_length_le (Nat.le_refl _), List.take_of_length_le h]
                · rw [Nat.min_eq_right h]
              rw [htl] at n3
              have hft : ∀ (i : Nat) (row : List D), (ys.take len)[i]? = some row → row.length = P.cellsOf e := fun i row hr => by
                rw [List.getElem?_take] at hr
                split at hr
                · exact hf i row hr
                · cases hr
              have hxl : (((ys.take len).flatten).map V.d).length ≤ len * P.cellsOf e := by
                rw [List.length_map, flatten_len _ hft]
                exact Nat.mul_le_mul_right _ (by simp; omega)
              obtain ⟨w', r1, r2, r3⟩ := hs.splice (P := P) hobj (off := off) (DRs.to_v n4 n3) n4 (by omega)
              have run : ∀ q, (storeCells a news.toList).run P w = .ok () q → (Builtin.copy_ #[t, xT] ty #[.slice (some a) len cap, cx]).run P w = .ok (goInt ((min ys.length len : Nat) : Int)) q := fun q hq => by
                have e1 : Nat.min ys.length len = min ys.length len := rfl
                simp [Builtin.copy_, run_underlying ht, run_sizeOf_cells hc, n1, e1, n2, hq]
                try (congr 1; omega)
              by_cases hlt : off < g.len r
              · have haa := ha hlt
                subst haa
                exact ⟨_, w', g, run w' r1, r2, .int _ _, r3⟩
              · have hn0 : news.toList = [] := List.eq_nil_of_length_eq_zero (by
                  have := n3.length
                  rw [flatten_len _ hft] at this
                  have hz : len * P.cellsOf e = 0 := by omega
                  have : (ys.take len).length * P.cellsOf e ≤ len * P.cellsOf e := Nat.mul_le_mul_right _ (by simp; omega)
                  omega)
                have hw : w' = w := by
                  rw [hn0] at r1
                  simp [storeCells] at r1
                  exact r1.symm
                subst hw
                exact ⟨_, w', g, run w' (by rw [hn0]; simp [storeCells]), r2, .int _ _, r3⟩
          · cases h
        · cases h
      · cases h
    · split at h
      · rename_i hl0
        cases h
        obtain ⟨a, c, rfl, _⟩ := slice_len hs hsv hl0
        obtain ⟨news, n1, n2, n3, n4⟩ := src_first (P := P) hs hx hys hpos hfit 0 (Nat.zero_le _)
        have hn0 : news.toList = [] := List.eq_nil_of_length_eq_zero (by simpa using n3.length.symm)
        refine ⟨goInt 0, w, g, ?_, hs, .int _ _, Ev.refl _ _ _⟩
        have e1 : Nat.min ys.length 0 = 0 := Nat.min_zero _
        cases a with
        | none => simp [Builtin.copy_, run_underlying ht, run_sizeOf_cells hc, n1, e1, n2]
        | some a => simp [Builtin.copy_, run_underlying ht, run_sizeOf_cells hc, n1, e1, n2, hn0, storeCells]
      · cases h

theorem makeSlice_rel (hs : Sim g σ w) {t e : TypeId} (ht : P.underlying t = some (.slice e)) (hg : growOk P e = true) {z : List D} (hz : zeroOf P e = some z) {l c : Int} (h0 : 0 ≤ l) (h1 : l ≤ c) (hb : c * P.bytesOf e ≤ 140737488355328) (hc : c ≤ 9223372036854775807)
    {tg : Option Nat} {v : V} {σ' : St} (h : Dn.newObj σ tg (.cells (repl c.toNat z)) (fun r => .sl r 0 l.toNat (P.cellsOf e)) = some (v, σ')) : EStep P g σ w (Instr.makeSlice t (.int .i64 l) (.int .i64 c)) v σ' := by
  obtain ⟨hp, rfl⟩ := newObj_inv h
  obtain ⟨i, zv, hi, hzv, hisz, hiby, hcell, hzs, hz1⟩ := growOk_inv hg
  obtain ⟨i', zv', hi', hzv', hleaf⟩ := zeroOf_inv hz
  rw [hi] at hi'; cases hi'
  rw [hzv] at hzv'; cases hzv'
  obtain ⟨z1, z2⟩ := leafsD_vrs (g := g) (tk := σ.toks) (w := w) hleaf
  have hzl : z.length = P.cellsOf e := by have := z1.length; simp at this; rw [this]; exact hzs
  have hpos : 0 < z.length := by omega
  have w1 : IntKind.i64.wrap l = l := by simp only [IntKind.wrap, IntKind.signed, IntKind.bits]; simp; omega
  have w2 : IntKind.i64.wrap c = c := by simp only [IntKind.wrap, IntKind.signed, IntKind.bits]; simp; omega
  have hcn : (c.toNat : Int) = c := Int.toNat_of_nonneg (by omega)
  have hprod : ((c.toNat * i.bytes : Nat) : Int) = c * i.bytes := by rw [Int.natCast_mul, hcn]
  rw [← hiby] at hb
  have room : c.toNat * i.bytes ≤ 140737488355328 := by omega
  have t1 : ¬ ((i.bytes : Int) * c > 281474976710656) := by rw [Int.mul_comm]; omega
  obtain ⟨r1, r2⟩ := repl_rel (g := g) (tk := σ.toks) (w := w) z1 z2 hpos c.toNat
  have hszz : zv.cells.size = z.length := by rw [hzl]; exact hzs
  obtain ⟨s1, s2⟩ := hs.new_obj hp r1 r2 (grown_push w (.cells ((Array.range (c.toNat * z.length)).map (zv.cells[· % zv.cells.size]!)) e))
  have hrl : (repl c.toNat z).length = c.toNat * z.length := repl_length _ _
  refine ⟨.slice (some ⟨w.heap.size, 0, none⟩) l.toNat c.toNat, _, _, ?_, s1, ?_, s2⟩
  · have e1 : ¬ (c < 0) := by omega
    have e2 : ¬ (l < 0) := by omega
    have e3 : ¬ (c < l) := by omega
    have e4 : ¬ (roomBytes < c.toNat * i.bytes) := by unfold roomBytes; omega
    have e5 : ¬ (281474976710656 < (i.bytes : Int) * c) := by omega
    by_cases hn : c.toNat * i.size = 0
    · have hc0 : c.toNat * z.length = 0 := by rw [hzl, ← hisz]; exact hn
      simp [Instr.makeSlice, run_underlying ht, asInt, asIntOf, typeInfo, hi, w1, w2, e1, e2, e3, e4, e5, sizeOf, hn, newRow, askRoom, hc0]
      have e0 : Array.range 0 = #[] := rfl
      simp only [e0, Array.map_empty]
    · simp [Instr.makeSlice, run_underlying ht, asInt, asIntOf, typeInfo, hi, w1, w2, e1, e2, e3, e4, e5, sizeOf, hn, run_zeroValue hi hzv, newRow, askRoom]
      rw [hisz, hzl]
  · have := VR.sl (g := g.add (σ.spot tg) w.heap.size (repl c.toNat z).length) (tk := σ'.toks) (w := { w with heap := w.heap.push (.cells ((Array.range (c.toNat * z.length)).map (zv.cells[· % zv.cells.size]!)) e) }) (σ.spot tg) 0 l.toNat (P.cellsOf e) c.toNat ⟨w.heap.size, 0, none⟩ (.inr rfl) (by omega) (by omega)
      (by simp [Gh.add, hrl, hzl]; exact Nat.mul_le_mul_right _ (by omega)) (by simp [Gh.add, hrl, hzl]) (fun _ => by simp [Gh.add]) rfl
    exact this

theorem clear_rel (hs : Sim g σ w) {t e ty : TypeId} (ht : P.underlying t = some (.slice e)) {z : List D} (hz : zeroOf P e = some z) (hzl : z.length = P.cellsOf e) (hpos : 0 < P.cellsOf e) {s v : V} {cs : Value} (hsv : VR g σ.toks w s cs) {σ' : St}
    (h : clearV σ (P.cellsOf e) z s = some (v, σ')) : EStep P g σ w (Builtin.clear_ #[t] ty #[cs]) v σ' := by
  obtain ⟨i, zv, hi, hzv, hleaf⟩ := zeroOf_inv hz
  obtain ⟨z1, z2⟩ := leafsD_vrs (g := g) (tk := σ.toks) (w := w) hleaf
  have hzs : zv.cells.size = z.length := by have := z1.length; simp at this; exact this.symm
  unfold clearV at h
  split at h
  · rename_i r off len s'
    split at h
    · rename_i hcnd
      obtain ⟨rfl, _⟩ := hcnd
      split at h
      · rename_i ocs hobj
        split at h
        · rename_i hroom
          cases h
          cases hsv with
          | sl _ _ _ _ cap a hh hcap hsz hin hout ha hsp =>
            have hln : ocs.length = g.len r := (hs.cells r ocs hobj).1
            obtain ⟨r1, r2⟩ := repl_rel (g := g) (tk := σ.toks) (w := w) z1 z2 (by omega) len
            have hrl : (repl len z).length = len * z.length := repl_length _ _
            obtain ⟨w', q1, q2, q3⟩ := hs.splice (P := P) hobj (off := off) r1 r2 (by rw [hrl, hzl]; exact hroom)
            have hzc : (Builtin.zeroCells zv.cells len).toList = ((Array.range (len * z.length)).map (zv.cells[· % zv.cells.size]!)).toList := by
              simp [Builtin.zeroCells, hzs]
            by_cases hl0 : len = 0
            · subst hl0
              have hw : w' = w := by
                simp [storeCells] at q1
                exact q1.symm
              subst hw
              exact ⟨.tuple #[], w', g, by simp [Builtin.clear_, run_underlying ht], q2, .tup [] #[] rfl (fun i c v h => by simp at h), q3⟩
            · have hlt : off < g.len r := by
                have : 0 < len * P.cellsOf e := Nat.mul_pos (by omega) hpos
                omega
              have haa := ha hlt
              subst haa
              refine ⟨.tuple #[], w', g, ?_, q2, .tup [] #[] rfl (fun i c v h => by simp at h), q3⟩
              rw [← hzc] at q1
              obtain ⟨n, rfl⟩ : ∃ n, len = n + 1 := ⟨len - 1, by omega⟩
              simp [Builtin.clear_, run_underlying ht, run_zeroValue hi hzv, q1]
        · cases h
      · cases h
    · cases h
  · split at h
    · rename_i hl0
      cases h
      obtain ⟨a, c, rfl, _⟩ := slice_len hs hsv hl0
      refine ⟨.tuple #[], w, g, ?_, hs, .tup [] #[] rfl (fun i c v h => by simp at h), Ev.refl _ _ _⟩
      cases a <;> simp [Builtin.clear_, run_underlying ht]
    · cases h

/-- append, onto nothing or onto a full slice, into an object that may be written. -/
theorem appendM_rel (hs : Sim g σ w) {t xT e ty : TypeId} (ht : P.underlying t = some (.slice e)) (hg : growOk P e = true) {dx : TypeDesc} (hx : P.underlying xT = some dx) (hni : ∀ k, dx ≠ .int k) {s v : V} {cs cx : Value} (hsv : VR g σ.toks w s cs)
    {ys : List (List D)} {news : Array Value} (hsrc : fitR (P.cellsOf e) ys = true → Src P g.frz w (P.cellsOf e) ys cx news) {tg : Option Nat} {σ' : St} (h : appendM σ tg (P.cellsOf e) (P.bytesOf e) s ys = some (v, σ')) :
    EStep P g σ w (Builtin.append_ #[t, xT] ty #[cs, cx]) v σ' := by
  obtain ⟨i, z, hi, hzv, hisz, hiby, hc0, hzs, hz1⟩ := growOk_inv hg
  have hpos : 0 < P.cellsOf e := by omega
  unfold appendM at h
  split at h
  · cases h
  · rename_i hnn
    simp only [not_or, Bool.not_eq_false] at hnn
    obtain ⟨hfit0, hne⟩ := hnn
    have hsrc := hsrc hfit0
    have hys : ∀ (i : Nat) (row : List D), ys[i]? = some row → row.length = P.cellsOf e := fun i row hr => fitR_get hfit0 hr
    have hn : 0 < ys.length := List.length_pos_iff.2 hne
    -- what a new block comes to
    have main : ∀ (base : Option Addr) (sLen : Nat) (rows : List (List D)) (olds : Array Value), rows.length = sLen → fitR (P.cellsOf e) rows = true → (∀ w', w'.heap = w.heap → (Builtin.firstCells (P.cellsOf e) sLen (.slice base sLen sLen)).run P w' = .ok olds w') → DRs g.frz w rows.flatten olds.toList → (∀ v ∈ olds.toList, oneC v = true) →
        sLen + ys.length ≤ 9223372036854775807 → (sLen + ys.length) * P.bytesOf e ≤ 140737488355328 → Dn.newObj σ tg (.cells ((rows ++ ys).flatten.map .d)) (fun r => .sl r 0 (sLen + ys.length) (P.cellsOf e)) = some (v, σ') →
        EStep P g σ w (Builtin.append_ #[t, xT] ty #[.slice base sLen sLen, cx]) v σ' := by
      intro base sLen rows olds hrl hfr hold hdo hone h63 h48 hnew
      obtain ⟨hp, rfl⟩ := newObj_inv hnew
      have hrun := run_append_grow' (P := P) (w := w) (xT := xT) (ty := ty) (base := base) (sLen := sLen) (sCap := sLen) (n := ys.length) (cx := cx) (news := news) (olds := olds) ht hi hzv hx hni hsrc.len (by rw [hisz]; exact hsrc.first) (by rw [hisz]; exact hold) (by omega) h63 (by rw [hiby]; exact h48)
      have hflat : (rows ++ ys).flatten = rows.flatten ++ ys.flatten := by simp
      have hdr : DRs g.frz w (rows ++ ys).flatten (olds.toList ++ news.toList) := by rw [hflat]; exact hdo.append hsrc.rel
      have hon : ∀ v ∈ olds.toList ++ news.toList, oneC v = true := fun v hv => by
        rcases List.mem_append.1 hv with h | h
        · exact hone v h
        · exact hsrc.one v h
      have hrf : ∀ (i : Nat) (row : List D), (rows ++ ys)[i]? = some row → row.length = P.cellsOf e := fit_append hfr hfit0
      have hgw : Grown1 w (.cells (olds ++ news ++ Builtin.zeroCells z.cells (grownCap w (sLen + ys.length) sLen e - (sLen + ys.length))) e) (w.drew.alloc (.cells (olds ++ news ++ Builtin.zeroCells z.cells (grownCap w (sLen + ys.length) sLen e - (sLen + ys.length))) e)) := ⟨rfl, rfl, rfl, rfl⟩
      obtain ⟨s1, s2⟩ := hs.new_obj2 hp (DRs.to_v hon hdr) hon (c := olds ++ news ++ Builtin.zeroCells z.cells (grownCap w (sLen + ys.length) sLen e - (sLen + ys.length))) (e := e) (fun j v hj => by
        have hlt : j < (olds ++ news).size := by
          have := (List.getElem?_eq_some_iff.1 hj).1
          simpa using this
        rw [Array.getElem?_append_left hlt, ← Array.getElem?_toList, Array.toList_append]
        exact hj) hgw
      refine ⟨_, _, _, hrun, s1, ?_, s2⟩
      have hlen : ((rows ++ ys).flatten.map V.d).length = (sLen + ys.length) * P.cellsOf e := by rw [List.length_map, flatten_len _ hrf]; simp [hrl]
      have hcap : sLen + ys.length ≤ grownCap w (sLen + ys.length) sLen e := grownCap_ge w (sLen + ys.length) sLen e
      exact VR.sl (g := g.add (σ.spot tg) w.heap.size ((rows ++ ys).flatten.map V.d).length) (σ.spot tg) 0 (sLen + ys.length) (P.cellsOf e) _ ⟨w.heap.size, 0, none⟩ (.inr rfl) hcap hpos
        (by simp only [Gh.add, if_true, hlen]; omega) (by simp only [Gh.add, if_true, hlen]; have := Nat.mul_le_mul_right (P.cellsOf e) hcap; omega) (fun _ => by simp [Gh.add]) rfl
    split at h
    · split at h
      · rename_i hcnd
        obtain ⟨_, h48, h63⟩ := hcnd
        have := hsv.inv_d
        cases this
        refine main none 0 [] #[] rfl rfl (fun w' _ => by simp [Builtin.firstCells]) trivial (by simp) (by omega) (by rw [Nat.zero_add]; exact h48) ?_
        simpa using h
      · cases h
    · rename_i rows
      split at h
      · rename_i hcnd
        obtain ⟨_, hfit, h48, h63⟩ := hcnd
        have hd := fl_dr hsv
        cases hsv with
        | fl _ a hd' =>
          have hro : RowsR g.frz w rows (.slice (some a) rows.length rows.length) := .inr hd.rows
          obtain ⟨olds, ho⟩ := src_rows (P := P) hro hpos hfit
          exact main (some a) rows.length rows olds rfl hfit ho.first ho.rel ho.one h63 h48 h
      · cases h
    · cases h

end Go.Dn
