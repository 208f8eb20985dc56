/- Slices of slices, of texts, of arrays; composite literals; lengths; interface values. -/
import Derived.Test.YtjkedjjahjlmfaaFw11
namespace Go.Dn
open Go.Lib
set_option linter.unusedVariables false
set_option linter.unusedSimpArgs false

variable {P : Program} {g : Gh} {σ : St} {tk : List Nat} {w : World}

theorem fitR_get {sz : Nat} {rows : List (List D)} (h : fitR sz rows = true) {i : Nat} {row : List D} (hr : rows[i]? = some row) : row.length = sz := by
  unfold fitR at h
  have := List.all_eq_true.1 h row (List.mem_of_getElem? hr)
  simpa using this

theorem DR.list_drop {f : Nat → Nat → Prop} {rows : List (List D)} {cap : Nat} {sz : Nat} (hfit : ∀ (i : Nat) (row : List D), rows[i]? = some row → row.length = sz) {a : Addr} (h : DR f w (.list rows) (.slice (some a) rows.length cap)) (lo n c : Nat) (hn : lo + n ≤ rows.length) (hc : n ≤ c) :
    DR f w (.list ((rows.drop lo).take n)) (.slice (some (a.add (lo * sz))) n c) := by
  cases h with
  | list0 a cap =>
    obtain rfl : n = 0 := by simp at hn; omega
    simp only [List.take_zero]
    exact .list0 _ _
  | list _ b o _ sz' cv hcap hsz hf hcell h1 hd =>
    rw [addr_add]
    have hl : ((rows.drop lo).take n).length = n := by simp; omega
    by_cases hz : n = 0
    · subst hz
      simp only [List.take_zero]
      exact .list [] b _ c sz (fun _ => undef) (Nat.zero_le _) (fun i row h => by simp at h) (fun k hk => by simp at hk) (fun k hk => by simp at hk) (fun k hk => by simp at hk) (fun i row j d h => by simp at h)
    · have hs : sz' = sz := by
        have h0 : rows[lo]? = some (rows[lo]'(by omega)) := by simp
        rw [← hsz lo _ h0, hfit lo _ h0]
      subst hs
      have hbase : ∀ k, k < ((rows.drop lo).take n).length * sz' → lo * sz' + k < rows.length * sz' := by
        intro k hk
        rw [hl] at hk
        have := Nat.mul_le_mul_right sz' hn
        rw [Nat.add_mul] at this
        omega
      have get : ∀ (i : Nat) (row : List D), ((rows.drop lo).take n)[i]? = some row → rows[lo + i]? = some row := by
        intro i row hr
        rw [List.getElem?_take] at hr
        split at hr
        · rwa [List.getElem?_drop] at hr
        · cases hr
      have := DR.list (frz := f) (w := w) ((rows.drop lo).take n) b (o + lo * sz') c sz' (fun k => cv (lo * sz' + k)) (by rw [hl]; exact hc) (fun i row hr => hsz _ row (get i row hr))
        (fun k hk => by rw [Nat.add_assoc]; exact hf _ (hbase k hk)) (fun k hk => by rw [Nat.add_assoc]; exact hcell _ (hbase k hk)) (fun k hk => h1 _ (hbase k hk))
        (fun i row j d hr hj => by
          have := hd (lo + i) row j d (get i row hr) hj
          rw [Nat.add_mul] at this
          rw [← Nat.add_assoc]; exact this)
      rw [hl] at this
      exact this

theorem DR.list_empty {f : Nat → Nat → Prop} (a : Addr) (c : Nat) (ha : a.spot = none) : DR f w (.list []) (.slice (some a) 0 c) := .list0 a c

/-- The machine's slice expression on a slice, its bounds known. -/
theorem run_slice_expr {t e : TypeId} (hu : P.underlying t = some (.slice e)) (hc : P.cellsOf e ≠ 0) {a : Option Addr} {len cap l h m : Nat} {clo chi cmx : Option Value}
    (hb : (Instr.sliceBounds true len cap clo chi cmx).run P w = .ok (l, h, m) w) :
    (Instr.sliceAt t (.slice a len cap) clo chi cmx).run P w = .ok (.slice (if m = l then a else a.map (·.add (l * P.cellsOf e))) (h - l) (m - l)) w := by
  simp [Instr.sliceAt, run_underlying hu, Instr.slice, hb, run_sizeOf_cells hc]

theorem tl_dr {rows : List (List D)} {t st sz : Nat} {cx : Value} (h : VR g tk w (.tl rows t st sz) cx) : DR g.frz w (.list rows) cx := by
  cases h with
  | tl _ _ _ _ k a cap hd ht hle hh hsz ha => exact hd
theorem fl_dr {rows : List (List D)} {cx : Value} (h : VR g tk w (.fl rows) cx) : DR g.frz w (.list rows) cx := by
  cases h with
  | fl _ a hd => exact hd

theorem slice_len (hs : Sim g σ w) {x : V} {cx : Value} (hx : VR g σ.toks w x cx) {n : Nat} (h : lenV σ x = some n) : ∃ a c, cx = .slice a n c ∧ n ≤ c := by
  unfold lenV at h
  split at h
  · cases h; have := hx.inv_d; cases this; exact ⟨_, _, rfl, Nat.le_refl _⟩
  · cases h; have := hx.inv_d; cases this with | list _ b o cap sz cv hcap => exact ⟨_, _, rfl, hcap⟩ | list0 a cap => exact ⟨_, _, rfl, Nat.zero_le _⟩
  · cases h; have := fl_dr hx; cases this with | list _ b o cap sz cv hcap => exact ⟨_, _, rfl, hcap⟩ | list0 a cap => exact ⟨_, _, rfl, Nat.zero_le _⟩
  · cases h; have := tl_dr hx; cases this with | list _ b o cap sz cv hcap => exact ⟨_, _, rfl, hcap⟩ | list0 a cap => exact ⟨_, _, rfl, Nat.zero_le _⟩
  · cases h; cases hx with | sl _ _ _ _ cap a hh hcap => exact ⟨_, _, rfl, hcap⟩
  · cases h

end Go.Dn
