/- Slices, indexes, conversions, composite literals; every operation that leaves the store alone. -/
import Derived.Test.YtjkedjjahjlmfaaFw7
namespace Go.Dn
set_option linter.unusedVariables false
set_option linter.unusedSimpArgs false

variable {P : Program} {g : Gh} {σ : St} {tk : List Nat} {w : World}

theorem rowsOf_length (sz n : Nat) (l : List D) : (rowsOf sz n l).length = n := by
  induction n generalizing l with
  | zero => rfl
  | succ n ih => simp [rowsOf, ih]

theorem rowsOf_get (sz n : Nat) (l : List D) (i : Nat) : (rowsOf sz n l)[i]? = if i < n then some ((l.drop (i * sz)).take sz) else none := by
  induction n generalizing l i with
  | zero => simp [rowsOf]
  | succ n ih =>
    cases i with
    | zero => simp [rowsOf]
    | succ i =>
      simp only [rowsOf, List.getElem?_cons_succ, ih, List.drop_drop, Nat.add_lt_add_iff_right]
      rw [show sz + i * sz = (i + 1) * sz by rw [Nat.add_mul]; omega]

/-- Rows laid behind an address. -/
structure RowsAt (f : Nat → Nat → Prop) (w : World) (rows : List (List D)) (sz : Nat) (a : Addr) (cv : Nat → Value) : Prop where
  hsz : ∀ (i : Nat) (row : List D), rows[i]? = some row → row.length = sz
  hc : ∀ k, k < rows.length * sz → w.cell? (a.add k) = some (cv k)
  h1 : ∀ k, k < rows.length * sz → oneC (cv k) = true
  hd : ∀ (i : Nat) (row : List D) (j : Nat) (d : D), rows[i]? = some row → row[j]? = some d → DR f w d (cv (i * sz + j))

def RowsR (f : Nat → Nat → Prop) (w : World) (rows : List (List D)) (cx : Value) : Prop :=
  (cx = .slice none 0 0 ∧ rows = []) ∨ ∃ a cap sz cv, cx = .slice (some a) rows.length cap ∧ rows.length ≤ cap ∧ RowsAt f w rows sz a cv

theorem DR.rows {f : Nat → Nat → Prop} {rows : List (List D)} {v : Value} (h : DR f w (.list rows) v) : ∃ a cap sz cv, v = .slice (some a) rows.length cap ∧ rows.length ≤ cap ∧ RowsAt f w rows sz a cv := by
  cases h with
  | list _ b o cap sz cv hcap hsz hf hc h1 hd =>
    exact ⟨_, cap, sz, cv, rfl, hcap, hsz, fun k hk => by rw [addr_add]; exact hc k hk, h1, hd⟩
  | list0 a cap =>
    exact ⟨a, cap, 0, fun _ => undef, rfl, Nat.zero_le _, fun i row h => by simp at h, fun k hk => by simp at hk, fun k hk => by simp at hk, fun i row j d h => by simp at h⟩

theorem rows_rel (hs : Sim g σ w) {x : V} {cx : Value} (hx : VR g σ.toks w x cx) {rows : List (List D)} (h : V.rows σ x = some rows) : RowsR g.frz w rows cx := by
  unfold V.rows at h
  split at h
  · cases h
    have := hx.inv_d
    cases this
    exact .inl ⟨rfl, rfl⟩
  · cases h; exact .inr hx.inv_d.rows
  · cases h; cases hx with
    | fl _ a h => exact .inr (by simpa using h.rows)
  · cases h; cases hx with
    | tl _ t st sz k a cap hd ht hle hh hsz ha => exact .inr hd.rows
  · rename_i r off len sz
    split at h
    · rename_i cs hr
      split at h
      · rename_i l hl
        cases h
        cases hx with
        | sl _ _ _ _ cap a hh hcap hsz hin hout ha =>
          have hlen : cs.length = g.len r := (hs.cells r cs hr).1
          obtain ⟨vs, v1, v2, v3, v4⟩ := hs.stretch hr off (len * sz) (by omega)
          rw [ofD_some hl] at v4
          have hds := v4.of_d
          have hll : l.length = len * sz := by rw [hds.length, v1]
          refine .inr ⟨a, cap, sz, fun k => vs.getD k undef, by rw [rowsOf_length], by rw [rowsOf_length]; exact hcap, ?_, ?_, ?_, ?_⟩
          · intro i row hrow
            rw [rowsOf_get] at hrow
            split at hrow
            · rename_i hi
              cases hrow
              have : i * sz + sz ≤ len * sz := by
                have := Nat.mul_le_mul_right sz (show i + 1 ≤ len from hi)
                rw [Nat.add_mul] at this; omega
              simp [hll]; omega
            · cases hrow
          · intro k hk
            rw [rowsOf_length] at hk
            rw [ha (by omega), addr_add, v2 k hk]
            simp [List.getElem?_eq_getElem (show k < vs.length by omega)]
          · intro k hk
            rw [rowsOf_length] at hk
            have hlt : k < vs.length := by omega
            refine v3 _ ?_
            simp [List.getD_eq_getElem?_getD, List.getElem?_eq_getElem hlt]
          · intro i row j d hrow hd
            rw [rowsOf_get] at hrow
            split at hrow
            · rename_i hi
              cases hrow
              rw [List.getElem?_take] at hd
              split at hd
              · rename_i hj
                rw [List.getElem?_drop] at hd
                have hlt : i * sz + j < vs.length := by
                  have := Nat.mul_le_mul_right sz (show i + 1 ≤ len from hi)
                  rw [Nat.add_mul] at this; omega
                have := hds.get (i * sz + j) d vs[i * sz + j] hd (by simp [List.getElem?_eq_getElem hlt])
                simpa [List.getD_eq_getElem?_getD, List.getElem?_eq_getElem hlt] using this
              · cases hd
            · cases hrow
      · cases h
    · cases h
  · cases h

theorem RowsR.len {f : Nat → Nat → Prop} {rows : List (List D)} {cx : Value} (h : RowsR f w rows cx) : ∃ a c, cx = .slice a rows.length c ∧ rows.length ≤ c := by
  rcases h with ⟨rfl, rfl⟩ | ⟨a, cap, sz, cv, rfl, h1, _⟩
  · exact ⟨none, 0, rfl, Nat.le_refl _⟩
  · exact ⟨some a, cap, rfl, h1⟩

theorem asIdx_rel {x : V} {cx : Value} (hx : VR g tk w x cx) {n : Int} (h : asIdx x = some n) : ∃ k, cx = .int k n := by
  unfold asIdx at h
  split at h
  · cases h; exact ⟨_, hx.inv_int⟩
  · cases h

theorem okT_slice {t e : TypeId} (h : P.underlying t = some (.slice e)) (hc : P.cellsOf e ≠ 0) : ∃ i, P.info? e = some i := by
  unfold Program.cellsOf at hc
  cases hi : P.info? e with
  | none => simp [hi] at hc
  | some i => exact ⟨i, rfl⟩

theorem run_sizeOf_cells {e : TypeId} (hc : P.cellsOf e ≠ 0) : (sizeOf e).run P w = .ok (P.cellsOf e) w := by
  unfold Program.cellsOf at hc
  cases hi : P.info? e with
  | none => simp [hi] at hc
  | some i => exact run_sizeOf w hi

theorem row_at {f : Nat → Nat → Prop} {rows : List (List D)} {sz : Nat} {a : Addr} {cv : Nat → Value} (h : RowsAt f w rows sz a cv) {i : Nat} {row : List D} (hr : rows[i]? = some row) : i < rows.length ∧ row.length = sz ∧ i * sz + sz ≤ rows.length * sz := by
  have hi : i < rows.length := by
    rcases Nat.lt_or_ge i rows.length with h | h
    · exact h
    · simp [List.getElem?_eq_none h] at hr
  refine ⟨hi, h.hsz i row hr, ?_⟩
  have := Nat.mul_le_mul_right sz (show i + 1 ≤ rows.length from hi)
  rw [Nat.add_mul] at this; omega

theorem add_add (a : Addr) (m n : Nat) : (a.add m).add n = a.add (m + n) := by
  unfold Addr.add
  by_cases h1 : m = 0 <;> by_cases h2 : n = 0 <;> simp [h1, h2] <;> omega

end Go.Dn
