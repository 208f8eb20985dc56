/- Rows: what the arguments are; a law's call. -/
import Derived.Test.YtjkedjjahjlmfaaFw31
import Derived.WideShapes
import Derived.OpenShut
import Derived.Deep.Slices
import Derived.Below
namespace Go.Dn
open Go.Lib Go.RowKit
set_option linter.unusedVariables false
set_option linter.unusedSimpArgs false

variable {P : Program} {w : World} {H : Type} {enc : TypeId × Value → H} {base : Nat} {spare : Nat → Bool} {held : Bool}

/-- A call that keeps what there was. -/
theorem row_calls {cx : Cx} (hm : P.follows .mixedOrders = true) {Γ : Nat → Option FnC} (hΓ : ∀ f fc, Γ f = some fc → Nonempty (Fits P f fc)) {f : Nat} {vs : List V} {b : Bool}
    (h : Call Γ cx .val f vs St.empty fun v _ => v = .d (.bool b)) {args : Array Value} (hv : VRs (Gh.bare fun b q => ∃ v, w.cell? ⟨b, q, none⟩ = some v) [] w vs args.toList) :
    Calls P f args w fun e w' => e = .returned (.bool b) ∧ Below w.heap.size w w' := by
  have h1 := (call_sound hm hΓ h).2 (Gh.bare fun b q => ∃ v, w.cell? ⟨b, q, none⟩ = some v) w args (Sim.bare fun b q h => h) hv
  refine (h1 rfl).mono fun e w' h => ?_
  cases e with
  | returned v =>
    obtain ⟨f', x, σ', rfl, hc, hx, hev⟩ := h
    cases hx.inv_bool
    exact ⟨rfl, hev.os, hev.tape, hev.output, hev.size, fun k hk => hev.frame k hk not_mine_empty⟩
  | panicked c => exact h.elim
  | outgrown => exact h.elim

theorem fitsAll_mk : ∀ {a b : List Lf} {x y : List D}, fitsAll a x = true → fitsAll b y = true → fitsAll (a ++ b) (x ++ y) = true
  | [], _, [], _, _, h => h
  | k :: a, b, d :: x, y, h, h' => by
    simp only [fitsAll, Bool.and_eq_true, List.cons_append] at h ⊢
    exact ⟨h.1, fitsAll_mk h.2 h'⟩
  | [], _, _ :: _, _, h, _ => by simp [fitsAll] at h
  | _ :: _, _, [], _, h, _ => by simp [fitsAll] at h

/-- Cells that read as flat data. -/
def Flat (F : Nat → Nat → Prop) (w : World) (ks : List Lf) (cs : List Value) : Prop := ∃ ds, DRs F w ds cs ∧ fitsAll ks ds = true ∧ ∀ v ∈ cs, oneC v = true

theorem Flat.append {F : Nat → Nat → Prop} {a b : List Lf} {x y : List Value} (h : Flat F w a x) (h' : Flat F w b y) : Flat F w (a ++ b) (x ++ y) := by
  obtain ⟨d, h1, h2, h3⟩ := h
  obtain ⟨d', h1', h2', h3'⟩ := h'
  exact ⟨d ++ d', h1.append h1', fitsAll_mk h2 h2', fun v hv => by
    rcases List.mem_append.1 hv with h | h
    · exact h3 v h
    · exact h3' v h⟩

theorem flat_chunks {F : Nat → Nat → Prop} {l : List Lf} : ∀ (n : Nat) (cs : List Value), cs.length = n * l.length → (∀ i, i < n → Flat F w l ((cs.drop (i * l.length)).take l.length)) → Flat F w ((List.replicate n l).flatten) cs
  | 0, cs, hl, h => by
    have : cs = [] := List.eq_nil_of_length_eq_zero (by simpa using hl)
    subst this
    exact ⟨[], trivial, rfl, by simp⟩
  | n + 1, cs, hl, h => by
    rw [List.replicate_succ, List.flatten_cons]
    have e : cs = cs.take l.length ++ cs.drop l.length := (List.take_append_drop _ _).symm
    rw [e]
    refine Flat.append (by simpa using h 0 (by omega)) (flat_chunks n _ (by simp [hl, Nat.add_mul]) fun i hi => ?_)
    have := h (i + 1) (by omega)
    rw [List.drop_drop, show l.length + i * l.length = (i + 1) * l.length by rw [Nat.add_mul]; omega]
    exact this

theorem flat_fields {F : Nat → Nat → Prop} {lv : TypeId → Option (List Lf)} {cs : List Value} : ∀ (fs : List Field) (off : Nat) (ks : List Lf), leavesFs P lv off fs = some ks → off + ks.length = cs.length →
    (∀ f ∈ fs, ∀ l, lv f.type = some l → Flat F w l ((cs.drop f.offset).take (P.cellsOf f.type))) → Flat F w ks (cs.drop off)
  | [], off, ks, h, hl, hf => by
    simp [leavesFs] at h
    subst h
    have : cs.drop off = [] := List.eq_nil_of_length_eq_zero (by simp at hl ⊢; omega)
    rw [this]
    exact ⟨[], trivial, rfl, by simp⟩
  | x :: fs, off, ks, h, hl, hf => by
    unfold leavesFs at h
    split at h
    · rename_i l hlv
      split at h
      · rename_i hc
        obtain ⟨hn, ho, hcell⟩ := hc
        split at h
        · rename_i b hb
          cases h
          have e : cs.drop off = (cs.drop off).take l.length ++ cs.drop (off + l.length) := by
            rw [← List.drop_drop]
            exact (List.take_append_drop _ _).symm
          rw [e]
          refine Flat.append ?_ (flat_fields fs (off + l.length) b hb (by simp at hl; omega) fun f hm => hf f (List.mem_cons_of_mem _ hm))
          have := hf x (by simp) l hlv
          rw [ho, hcell] at this
          exact this
        · cases h
      · cases h
    · cases h

theorem trod_flat {F : Nat → Nat → Prop} : ∀ (n : Nat) (t : TypeId) (ks : List Lf), leavesOf P n t = some ks → ∀ {fuel : Nat} {cs : List Value} {x : DataW H × List MemPlace}, DataW.trod enc P w base spare held fuel t cs = some x → Flat F w ks cs
  | 0, t, ks, h, _, _, _, _ => by simp [leavesOf] at h
  | n + 1, t, ks, h, fuel, cs, x, ht => by
    unfold leavesOf at h
    split at h
    · rename_i k hu
      cases h
      obtain ⟨m, rfl, _, hw⟩ := DataW.trod_int hu ht
      refine ⟨[.int k m], ⟨.int k m, trivial⟩, ?_, by simp [oneC]⟩
      simp only [Lit.wf, Bool.and_eq_true] at hw
      show (Lf.fits (.int k) (.int k m) && true) = true
      unfold Lf.fits
      rw [Bool.and_true, Bool.and_eq_true, Bool.and_eq_true]
      exact ⟨⟨beq_self_eq_true k, hw.1⟩, hw.2⟩
    · rename_i hu
      cases h
      obtain ⟨b, rfl, _⟩ := DataW.trod_bool hu ht
      exact ⟨[.bool b], ⟨.bool b, trivial⟩, rfl, by simp [oneC]⟩
    · rename_i hu
      cases h
      obtain ⟨s, rfl, _, hs⟩ := DataW.trod_string hu ht
      have : Value.string s = .string ⟨s.data.toList.toArray⟩ := by cases s; rfl
      refine ⟨[.str s.data.toList], ⟨by rw [this]; exact .str _, trivial⟩, ?_, by simp [oneC]⟩
      show (Lf.fits .str (.str s.data.toList) && true) = true
      unfold Lf.fits
      rw [Bool.and_true]
      refine decide_eq_true ?_
      have e1 : s.data.toList.length = s.size := Array.length_toList
      rw [e1]
      exact hs
    · rename_i len e hu
      split at h
      · rename_i l hl
        obtain ⟨⟨hc, hct⟩, h⟩ := ite_some h
        cases h
        obtain ⟨xs, m, rfl, _, h1, h2, h3⟩ := DataW.trod_array hu ht
        refine flat_chunks len cs (by rw [h1, hct]) fun i hi => ?_
        have := h3 i hi
        rw [hc] at this
        have hx : xs[i]? = some (xs[i]'(by omega)) := by simp [show i < xs.length by omega]
        rw [hx] at this
        exact trod_flat n e l hl this
      · cases h
    · rename_i fs hu
      split at h
      · rename_i l hl
        obtain ⟨hct, h⟩ := ite_some h
        cases h
        obtain ⟨xs, m, rfl, _, h1, h2, h3⟩ := DataW.trod_struct hu ht
        have := flat_fields (F := F) (w := w) (cs := cs) fs.toList 0 ks hl (by rw [h1, hct]; omega) fun f hf l hlv => by
          obtain ⟨i, hi⟩ := List.getElem?_of_mem hf
          have hfi : fs[i]? = some f := by simpa using hi
          have hi2 : i < xs.length := by
            have := (Array.getElem?_eq_some_iff.1 hfi).1
            omega
          have := h3 i f hfi
          rw [show xs[i]? = some xs[i] by simp [hi2]] at this
          exact trod_flat n f.type l hlv this
        simpa using this
      · cases h
    · cases h

/-- An argument of flat cells. -/
theorem arg_flat {F : Nat → Nat → Prop} {g : Gh} {tk : List Nat} (hg : g.frz = F) {W : World} {t : TypeId} {ks : List Lf} (hk : leavesOf P 12 t = some ks) (hagg : aggT P t = true) {v : Value} (hv : Value.okWide P W .any base t v) {d : DataW H} {p : List MemPlace}
    (h : DataW.Trod enc P w 0 spare held t v d p) : ∃ ds, VR g tk w (.da ds) v ∧ fitsAll ks ds = true := by
  obtain ⟨fuel, ht⟩ := h
  obtain ⟨ds, h1, h2, h3⟩ := trod_flat (F := F) 12 t ks hk ht
  have : ∃ cs, v = .agg cs := by
    unfold Value.okWide at hv
    unfold aggT at hagg
    split at hagg
    · rename_i hu; rw [hu] at hv; obtain ⟨cs, rfl, _⟩ := hv; exact ⟨cs, rfl⟩
    · rename_i hu; rw [hu] at hv; obtain ⟨cs, rfl, _⟩ := hv; exact ⟨cs, rfl⟩
    · cases hagg
  obtain ⟨cs, rfl⟩ := this
  simp only [Value.cells] at h1 h3
  exact ⟨ds, .da ds cs (by rw [hg]; exact DR.agg_of h3 h1), h2⟩

theorem arg_one {F : Nat → Nat → Prop} {g : Gh} {tk : List Nat} (hg : g.frz = F) {t : TypeId} {k : Lf} (hk : leavesOf P 12 t = some [k]) {v : Value} (hv : v.cells = #[v]) {d : DataW H} {p : List MemPlace}
    (h : DataW.Trod enc P w 0 spare held t v d p) : ∃ x, VR g tk w (.d x) v ∧ k.fits x = true := by
  obtain ⟨fuel, ht⟩ := h
  obtain ⟨ds, h1, h2, h3⟩ := trod_flat (F := F) 12 t [k] hk ht
  rw [hv] at h1 h3
  match ds, h1, h2 with
  | [x], h1, h2 =>
    refine ⟨x, .d _ _ (by rw [hg]; exact h1.1) (h3 v (by simp)), ?_⟩
    simpa [fitsAll] using h2
  | [], h1, _ => exact h1.elim
  | _ :: _ :: _, h1, _ => exact h1.2.elim

end Go.Dn
