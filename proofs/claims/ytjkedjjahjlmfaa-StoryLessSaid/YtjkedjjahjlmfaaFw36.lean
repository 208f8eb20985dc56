/- Lists in the store: what reads as rows, what may be appended to; bytes. -/
import Derived.Test.YtjkedjjahjlmfaaFw35
namespace Go.Dn
set_option linter.unusedVariables false
set_option linter.unusedSimpArgs false

/-- A list by value. -/
inductive LV : V → List (List D) → Prop
  | nil : LV (.d .nils) []
  | list (rows : List (List D)) : LV (.d (.list rows)) rows
  | fl (rows : List (List D)) : LV (.fl rows) rows
  | tl (rows : List (List D)) (t st sz : Nat) : LV (.tl rows t st sz) rows

theorem LV.len {v : V} {rows : List (List D)} (h : LV v rows) (σ : St) : lenT σ .slice v = some rows.length := by cases h <;> rfl
theorem LV.lenV {v : V} {rows : List (List D)} (h : LV v rows) (σ : St) : Dn.lenV σ v = some rows.length := by cases h <;> rfl
theorem LV.rows {v : V} {rows : List (List D)} (h : LV v rows) (σ : St) : V.rows σ v = some rows := by cases h <;> rfl
theorem LV.iaddr {v : V} {rows : List (List D)} (h : LV v rows) (σ : St) {k : IntKind} {sz i : Nat} {row : List D} (hr : rows[i]? = some row) (hs : row.length = sz) : iaddrV σ sz v (.d (.int k i)) = some (.ro row) := by
  have hl : i < rows.length := by
    rw [List.getElem?_eq_some_iff] at hr; exact hr.1
  have hg : rows[i] = row := by
    rw [List.getElem?_eq_some_iff] at hr; exact hr.2
  cases h with
  | nil => simp at hl
  | _ => simp [iaddrV, asIdx, V.rows, hl, hg, hs]
theorem LV.byVal {v : V} {rows : List (List D)} (h : LV v rows) (σ : St) : ∃ d, V.byVal σ v = some (.d d) ∧ LV (.d d) rows := by
  cases h with
  | nil => exact ⟨_, rfl, .nil⟩
  | _ => exact ⟨_, rfl, .list _⟩
theorem LV.borrows {v : V} {rows : List (List D)} (h : LV v rows) : v.borrows = false := by cases h <;> rfl
theorem LV.isNil {v : V} {rows : List (List D)} (h : LV v rows) : ∃ b, V.isNil .slice v = some b ∧ (b = true → v = .d .nils ∧ rows = []) := by
  cases h with
  | nil => exact ⟨true, rfl, fun _ => ⟨rfl, rfl⟩⟩
  | _ => exact ⟨false, rfl, fun h => by cases h⟩

theorem fitR_iff {sz : Nat} {rows : List (List D)} : fitR sz rows = true ↔ ∀ r ∈ rows, r.length = sz := by
  simp [fitR]

/-- A slice expression on a list by value, its bounds numbers. -/
theorem LV.slice {v : V} {rows : List (List D)} (h : LV v rows) (σ : St) {sz : Nat} (hf : ∀ r ∈ rows, r.length = sz) (hts : ∀ r t st s, v = .tl r t st s → s = sz) {lo hi : Nat} (h1 : lo ≤ hi) (h2 : hi ≤ rows.length) :
    ∃ v', sliceV sz v lo hi none = some v' ∧ LV v' ((rows.drop lo).take (hi - lo)) ∧ (∀ r t st s, v' = .tl r t st s → s = sz) := by
  have hf' := fitR_iff.2 hf
  cases h with
  | nil =>
    obtain rfl : hi = 0 := by simpa using h2
    obtain rfl : lo = 0 := by omega
    exact ⟨_, rfl, .nil, fun r t st s h => by cases h⟩
  | list rows => exact ⟨_, by simp [sliceV, hf', h2], .list _, fun r t st s h => by cases h⟩
  | fl rows =>
    by_cases he : hi = rows.length
    · subst he
      refine ⟨.fl (rows.drop lo), by simp [sliceV, hf'], ?_, fun r t st s h => by cases h⟩
      rw [List.take_of_length_le (by simp)]
      exact .fl _
    · exact ⟨_, by simp [sliceV, hf', he, h2], .list _, fun r t st s h => by cases h⟩
  | tl rows t st s =>
    obtain rfl := hts _ _ _ _ rfl
    by_cases he : hi = rows.length
    · subst he
      refine ⟨.tl (rows.drop lo) t (st + lo) s, by simp [sliceV, hf'], ?_, fun r t st s h => by cases h; rfl⟩
      rw [List.take_of_length_le (by simp)]
      exact .tl _ _ _ _
    · exact ⟨_, by simp [sliceV, hf', he, h2], .list _, fun r t st s h => by cases h⟩

/-- A list by value, as data. -/
def dv : V → V
  | .fl rows => .d (.list rows)
  | .tl rows _ _ _ => .d (.list rows)
  | v => v
theorem LV.dv {v : V} {rows : List (List D)} (h : LV v rows) (σ : St) : V.byVal σ v = some (Dn.dv v) ∧ LV (Dn.dv v) rows ∧ (∃ x, Dn.dv v = .d x) ∧ (Dn.dv v).borrows = false ∧ (Dn.dv v).pure = true := by
  cases h with
  | nil => exact ⟨rfl, .nil, ⟨_, rfl⟩, rfl, rfl⟩
  | list => exact ⟨rfl, .list _, ⟨_, rfl⟩, rfl, rfl⟩
  | fl => exact ⟨rfl, .list _, ⟨_, rfl⟩, rfl, rfl⟩
  | tl => exact ⟨rfl, .list _, ⟨_, rfl⟩, rfl, rfl⟩

def own : V → Option Nat
  | .tl _ t _ _ => some t
  | _ => none

/-- A list that may be appended to. -/
inductive App (σ : St) (sz : Nat) : V → List (List D) → Prop
  | nil : App σ sz (.d .nils) []
  | fl (rows : List (List D)) : App σ sz (.fl rows) rows
  | tl (rows : List (List D)) (t st : Nat) (h : σ.toks[t]? = some (st + rows.length)) : App σ sz (.tl rows t st sz) rows

theorem App.lv {σ : St} {sz : Nat} {v : V} {rows : List (List D)} (h : App σ sz v rows) : LV v rows := by
  cases h with
  | nil => exact .nil
  | fl => exact .fl _
  | tl rows t st h => exact .tl _ _ _ _
theorem App.tls {σ : St} {sz : Nat} {v : V} {rows : List (List D)} (h : App σ sz v rows) : ∀ r t st s, v = .tl r t st s → s = sz := by
  intro r t st s e
  cases h with
  | nil => cases e
  | fl => cases e
  | tl rows t st h => cases e; rfl

/-- Tokens: none but `o`'s has turned; new ones are new. -/
structure Toks (l l' : List Nat) (o o' : Option Nat) : Prop where
  len : l.length ≤ l'.length
  other : ∀ (t k : Nat), l[t]? = some k → o ≠ some t → l'[t]? = some k
  own : o' = o ∨ ∃ t, o' = some t ∧ l.length ≤ t

theorem Toks.refl (l : List Nat) (o : Option Nat) : Toks l l o o := ⟨Nat.le_refl _, fun _ _ h _ => h, .inl rfl⟩
theorem Toks.trans {l l' l'' : List Nat} {o o' o'' : Option Nat} (h : Toks l l' o o') (h' : Toks l' l'' o' o'') : Toks l l'' o o'' := by
  refine ⟨Nat.le_trans h.len h'.len, fun t k ht hne => h'.other t k (h.other t k ht hne) (fun e => ?_), ?_⟩
  · rcases h.own with h1 | ⟨t', h1, h2⟩
    · exact hne (by rw [← h1, e])
    · rw [h1] at e
      cases e
      have := (List.getElem?_eq_some_iff.1 ht).1
      omega
  · rcases h'.own with h1 | ⟨t', h1, h2⟩
    · rw [h1]; exact h.own
    · exact .inr ⟨t', h1, Nat.le_trans h.len h2⟩

theorem App.other {σ σ' : St} {sz : Nat} {v : V} {rows : List (List D)} (h : App σ sz v rows) {o o' : Option Nat} (ht : Toks σ.toks σ'.toks o o') (hne : ∀ t, Dn.own v = some t → o ≠ some t) : App σ' sz v rows := by
  cases h with
  | nil => exact .nil
  | fl => exact .fl _
  | tl rows t st h => exact .tl _ _ _ (ht.other t _ h (hne t rfl))

theorem App.toks {σ σ' : St} {sz : Nat} {v : V} {rows : List (List D)} (h : App σ sz v rows) (ht : σ'.toks = σ.toks) : App σ' sz v rows := by
  cases h with
  | nil => exact .nil
  | fl => exact .fl _
  | tl rows t st h => exact .tl _ _ _ (by rw [ht]; exact h)

/-- append, onto a list that may be appended to. -/
theorem App.push {σ : St} {sz bytes : Nat} {v : V} {rows : List (List D)} (hv : App σ sz v rows) (hpos : 0 < sz) (hfr : ∀ r ∈ rows, r.length = sz) {ys : List (List D)} (hfy : ∀ r ∈ ys, r.length = sz)
    (hb : (rows.length + ys.length) * bytes ≤ 140737488355328) (h63 : rows.length + ys.length ≤ 9223372036854775807) :
    ∃ v' σ', (∀ tg, appendV σ tg sz bytes v ys = some (v', σ')) ∧ App σ' sz v' (rows ++ ys) ∧ σ'.objs = σ.objs ∧ Toks σ.toks σ'.toks (Dn.own v) (Dn.own v') ∧ (v ≠ .d .nils ∨ ys ≠ [] → Dn.dv v' = .d (.list (rows ++ ys))) := by
  have h1 := fitR_iff.2 hfr
  have h2 := fitR_iff.2 hfy
  by_cases hy : ys = []
  · subst hy
    refine ⟨v, σ, fun tg => ?_, by rw [List.append_nil]; exact hv, rfl, Toks.refl _ _, fun h => ?_⟩
    · cases hv <;> simp [appendV, h2, V.rows]
    · cases hv <;> simp_all [Dn.dv]
  · cases hv with
    | nil =>
      refine ⟨.tl ys σ.toks.length 0 sz, σ.pushTok ys.length, fun tg => ?_, ?_, rfl, ?_, fun _ => rfl⟩
      · simp at hb h63
        simp [appendV, h2, hy, hpos, hb, h63]
      · rw [List.nil_append]
        exact .tl _ _ _ (by simp [St.pushTok])
      · exact ⟨by simp [St.pushTok], fun t k ht _ => by
          simp only [St.pushTok]
          rw [List.getElem?_append_left (List.getElem?_eq_some_iff.1 ht).1]; exact ht, .inr ⟨_, rfl, Nat.le_refl _⟩⟩
    | fl rows =>
      refine ⟨.tl (rows ++ ys) σ.toks.length 0 sz, σ.pushTok (rows.length + ys.length), fun tg => ?_, ?_, rfl, ?_, fun _ => rfl⟩
      · simp [appendV, h2, hy, hpos, hb, h63, h1]
      · exact .tl _ _ _ (by simp [St.pushTok])
      · exact ⟨by simp [St.pushTok], fun t k ht _ => by
          simp only [St.pushTok]
          rw [List.getElem?_append_left (List.getElem?_eq_some_iff.1 ht).1]; exact ht, .inr ⟨_, rfl, Nat.le_refl _⟩⟩
    | tl rows t st ht =>
      have hl := (List.getElem?_eq_some_iff.1 ht).1
      refine ⟨.tl (rows ++ ys) t st sz, σ.setTok t (st + rows.length + ys.length), fun tg => ?_, ?_, rfl, ?_, fun _ => rfl⟩
      · simp [appendV, h2, hy, hpos, hb, h63, h1, ht]
      · exact .tl _ _ _ (by simp [St.setTok, hl]; omega)
      · exact ⟨by simp [St.setTok], fun t' k ht' hne => by
          simp only [St.setTok]
          rw [List.getElem?_set_ne (fun e => hne (by rw [e]; rfl))]; exact ht', .inl rfl⟩

/-- append, into an object that may be written. -/
theorem appendM_fl {σ : St} {sz bytes : Nat} {rows ys : List (List D)} (hpos : 0 < sz) (hfr : ∀ r ∈ rows, r.length = sz) (hfy : ∀ r ∈ ys, r.length = sz) (hne : ys ≠ []) (hb : (rows.length + ys.length) * bytes ≤ 140737488355328) (h63 : rows.length + ys.length ≤ 9223372036854775807) :
    appendM σ none sz bytes (.fl rows) ys = some (.sl σ.objs.length 0 (rows.length + ys.length) sz, σ.push (.cells ((rows ++ ys).flatten.map .d))) := by
  simp [appendM, fitR_iff.2 hfr, fitR_iff.2 hfy, hne, hpos, hb, h63, newObj, St.place, St.spot]

/-! ### bytes -/

theorem byteRows_len (l : List UInt8) : (byteRows l).length = l.length := by simp [byteRows]
theorem byteRows_fit (l : List UInt8) : ∀ r ∈ byteRows l, r.length = 1 := by
  intro r hr
  simp only [byteRows, List.mem_map] at hr
  obtain ⟨b, _, rfl⟩ := hr
  rfl
theorem byteRows_app (a b : List UInt8) : byteRows (a ++ b) = byteRows a ++ byteRows b := by simp [byteRows]
theorem byteRows_drop (l : List UInt8) (n : Nat) : (byteRows l).drop n = byteRows (l.drop n) := by simp [byteRows]
theorem byteRows_take (l : List UInt8) (n : Nat) : (byteRows l).take n = byteRows (l.take n) := by simp [byteRows]
theorem byteRows_at {l : List UInt8} {i : Nat} {b : UInt8} (h : l[i]? = some b) : (byteRows l)[i]? = some [.int .u8 b.toNat] := by simp [byteRows, h]
theorem rowBytes_byteRows : ∀ l : List UInt8, rowBytes (byteRows l) = some l
  | [] => rfl
  | b :: l => by
    have ih := rowBytes_byteRows l
    simp only [byteRows, List.map_cons] at ih ⊢
    simp only [rowBytes, ih]
    simp
theorem byteRows_inj {a b : List UInt8} (h : byteRows a = byteRows b) : a = b := by
  have := congrArg rowBytes h
  rw [rowBytes_byteRows, rowBytes_byteRows] at this
  simpa using this

/-- Fits of bytes. -/
theorem bytes_of_fits : ∀ {rows : List (List D)}, (∀ row ∈ rows, Lks [.int .u8] row) → ∃ l, rows = byteRows l
  | [], _ => ⟨[], rfl⟩
  | r :: rows, h => by
    obtain ⟨l, rfl⟩ := bytes_of_fits (rows := rows) fun row hr => h row (by simp [hr])
    have h0 := h r (by simp)
    simp only [Lks, Lk.fits] at h0
    obtain ⟨d, _, rfl, ⟨n, rfl, h1, h2⟩, rfl⟩ := h0
    have e1 : IntKind.u8.min = 0 := rfl
    have e2 : IntKind.u8.max = 255 := rfl
    refine ⟨UInt8.ofNat n.toNat :: l, ?_⟩
    simp only [byteRows, List.map_cons, List.cons.injEq, and_true]
    have : (UInt8.ofNat n.toNat).toNat = n.toNat := by simp [UInt8.toNat_ofNat]; omega
    rw [this]
    congr 2
    omega

theorem drop_cons {α : Type} {l : List α} {i : Nat} (h : i < l.length) : ∃ n, l[i]? = some n ∧ l.drop i = n :: l.drop (i + 1) :=
  ⟨l[i], by simp [h], by rw [List.drop_eq_getElem_cons h]⟩

/-! ### numbers -/

theorem wrap_i64 {n : Int} (h : -9223372036854775808 ≤ n) (h' : n ≤ 9223372036854775807) : IntKind.i64.wrap n = n := by
  simp only [IntKind.wrap, IntKind.signed, IntKind.bits]
  simp
  omega
theorem wrap_u64 {n : Int} (h : 0 ≤ n) (h' : n ≤ 18446744073709551615) : IntKind.u64.wrap n = n := by
  simp only [IntKind.wrap, IntKind.signed, IntKind.bits]
  simp
  omega

theorem room_at {σ : St} {m r : Nat} {o : Obj} (h : σ.objs[r]? = some o) : (σ.room m).objs[r]? = some o := by
  simp only [St.room]
  rw [List.getElem?_append_left (List.getElem?_eq_some_iff.1 h).1]; exact h
theorem room_toks (σ : St) (m : Nat) : (σ.room m).toks = σ.toks := rfl
theorem push_at {σ : St} {o' : Obj} {r : Nat} {o : Obj} (h : σ.objs[r]? = some o) : (σ.push o').objs[r]? = some o := by
  simp only [St.push]
  rw [List.getElem?_append_left (List.getElem?_eq_some_iff.1 h).1]; exact h

/-- From one store to a later one: only these objects may have turned. -/
structure Fr (F : List Nat) (σ σ' : St) : Prop where
  len : σ.objs.length ≤ σ'.objs.length
  at_ : ∀ r, r ∉ F → r < σ.objs.length → σ'.objs[r]? = σ.objs[r]?

theorem Fr.refl (F : List Nat) (σ : St) : Fr F σ σ := ⟨Nat.le_refl _, fun _ _ _ => rfl⟩
theorem Fr.trans {F : List Nat} {a b c : St} (h : Fr F a b) (h' : Fr F b c) : Fr F a c :=
  ⟨Nat.le_trans h.len h'.len, fun r hr hl => (h'.at_ r hr (Nat.lt_of_lt_of_le hl h.len)).trans (h.at_ r hr hl)⟩
theorem Fr.mono {F F' : List Nat} {a b : St} (h : Fr F a b) (hs : ∀ r ∈ F, r ∈ F') : Fr F' a b := ⟨h.len, fun r hr => h.at_ r fun h => hr (hs r h)⟩
theorem Fr.get {F : List Nat} {a b : St} (h : Fr F a b) {r : Nat} {o : Obj} (ho : a.objs[r]? = some o) (hr : r ∉ F) : b.objs[r]? = some o := by
  rw [h.at_ r hr (List.getElem?_eq_some_iff.1 ho).1]; exact ho
theorem Fr.keeps {a b : St} (h : Fr [] a b) (ht : ∀ (t k : Nat), a.toks[t]? = some k → b.toks[t]? = some k) : Keeps a b := ⟨fun i hi => h.at_ i (by simp) hi, ht⟩

/-! what simp takes of cells, of values by value -/
theorem cell_d (x : D) : (V.d x).cells = some [.d x] := rfl
theorem cell_da (l : List D) : (V.da l).cells = some (l.map .d) := rfl
theorem cell_agg (l : List V) : (V.agg l).cells = some l := rfl
theorem cell_ref (r o : Nat) : (V.ref r o).cells = some [.ref r o] := rfl
theorem cell_sl (r o l s : Nat) : (V.sl r o l s).cells = some [.sl r o l s] := rfl
theorem cell_fl (r : List (List D)) : (V.fl r).cells = some [.fl r] := rfl
theorem cell_tl (r : List (List D)) (t st s : Nat) : (V.tl r t st s).cells = some [.tl r t st s] := rfl
theorem cell_map (r : Nat) : (V.map r).cells = some [.map r] := rfl
theorem cell_fn (f : Fn) (a b : List V) : (V.fn f a b).cells = some [.fn f a b] := rfl
theorem cell_ifc (t : Nat) (v : V) : (V.ifc t v).cells = some [.ifc t v] := rfl
theorem LV.cells {v : V} {rows : List (List D)} (h : LV v rows) : v.cells = some [v] := by cases h <;> rfl
theorem bv_d (σ : St) (x : D) : V.byVal σ (.d x) = some (.d x) := rfl
theorem bv_da (σ : St) (l : List D) : V.byVal σ (.da l) = some (.da l) := rfl
theorem bv_fl (σ : St) (r : List (List D)) : V.byVal σ (.fl r) = some (.d (.list r)) := rfl
theorem bv_tl (σ : St) (r : List (List D)) (t st s : Nat) : V.byVal σ (.tl r t st s) = some (.d (.list r)) := rfl
theorem bn_d (lo : Nat) (σ : St) (x : D) : V.byValN lo σ (.d x) = some (.d x) := rfl
theorem bn_da (lo : Nat) (σ : St) (l : List D) : V.byValN lo σ (.da l) = some (.da l) := rfl
theorem bn_fl (lo : Nat) (σ : St) (r : List (List D)) : V.byValN lo σ (.fl r) = some (.d (.list r)) := rfl
theorem bn_tl (lo : Nat) (σ : St) (r : List (List D)) (t st s : Nat) : V.byValN lo σ (.tl r t st s) = some (.d (.list r)) := rfl
theorem LV.byValN {v : V} {rows : List (List D)} (h : LV v rows) (lo : Nat) (σ : St) : V.byValN lo σ v = V.byVal σ v := by cases h <;> rfl

theorem Kept.set {ks : List Nat} {e : Env} {σ : St} {r : Nat} {o : Obj} (h : ∀ t ∈ ks, r ∉ dref (e.get t)) : Kept ks e σ ⟨σ.objs.set r o, σ.toks⟩ := fun t ht q hq => by
  simp only
  rw [List.getElem?_set_ne (fun he => h t ht (by rw [he]; exact hq))]
end Go.Dn
