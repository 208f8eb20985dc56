/- Addresses, indexes, slices, lengths, least and greatest, interface values. -/
import Derived.Test.YtjkedjjahjlmfaaFw10
namespace Go.Dn
open Go.Lib
set_option linter.unusedVariables false
set_option linter.unusedSimpArgs false

variable {P : Program} {g : Gh} {σ : St} {tk : List Nat} {w : World}

theorem fieldOf_inv {t : TypeId} {i off : Nat} {ft : TypeId} (h : fieldOf P t i = some (off, ft)) : ∃ fs f, P.underlying t = some (.struct fs) ∧ fs[i]? = some f ∧ f.offset = off ∧ f.type = ft ∧ P.cellsOf ft ≠ 0 ∧ okT P ft = true := by
  unfold fieldOf at h
  split at h
  · rename_i fs hu
    split at h
    · rename_i f hf
      split at h
      · cases h
      · rename_i hc
        cases h
        simp only [not_or, Bool.not_eq_false] at hc
        exact ⟨fs, f, hu, hf, rfl, rfl, hc.1, hc.2⟩
    · cases h
  · cases h

theorem VR.ro_drop {cs : List D} {b o : Nat} {cv : Nat → Value} (hf : ∀ k, k < cs.length → g.frz b (o + k)) (hc : ∀ k, k < cs.length → w.cell? ⟨b, o + k, none⟩ = some (cv k)) (h1 : ∀ k, k < cs.length → oneC (cv k) = true)
    (hd : ∀ (k : Nat) (d : D), cs[k]? = some d → DR g.frz w d (cv k)) (off : Nat) : VR g tk w (.ro (cs.drop off)) (.pointer (some ⟨b, o + off, none⟩)) := by
  refine .ro _ b (o + off) (fun k => cv (off + k)) (fun k hk => ?_) (fun k hk => ?_) (fun k hk => ?_) (fun k d hk => ?_)
  · simp at hk; rw [Nat.add_assoc]; exact hf _ (by omega)
  · simp at hk; rw [Nat.add_assoc]; exact hc _ (by omega)
  · simp at hk; exact h1 _ (by omega)
  · rw [List.getElem?_drop] at hk; exact hd _ d hk

theorem faddr_rel (hs : Sim g σ w) {t : TypeId} {i off : Nat} {ft : TypeId} (hf : fieldOf P t i = some (off, ft)) {x v : V} {cx : Value} (hx : VR g σ.toks w x cx)
    (h : faddrV off x = some v) :
    PStep P g σ w (Instr.fieldAt t cx i) v := by
  obtain ⟨fs, f, hu, hfi, rfl, rfl, hc, hok⟩ := fieldOf_inv hf
  have run : ∀ a : Addr, (Instr.fieldAt t (.pointer (some a)) i).run P w = .ok (.pointer (some (a.add f.offset))) w := by
    intro a
    simp [Instr.fieldAt, run_underlying hu, hfi, Instr.sureAddr, fieldPlace, run_sizeOf' hok, hc]
  unfold faddrV at h
  split at h
  · rename_i r o
    cases h
    cases hx with
    | ref _ _ hh =>
      refine PStep.still hs (run _) ?_
      rw [addr_add, Nat.add_assoc]
      exact .ref _ _ hh
  · rename_i cs
    split at h
    · cases h
      cases hx with
      | ro _ b o cv hf' hc' h1 hd =>
        refine PStep.still hs (run _) ?_
        rw [addr_add]
        exact VR.ro_drop hf' hc' h1 hd _
    · cases h
  · cases h

theorem field_rel (hs : Sim g σ w) {t : TypeId} {i off : Nat} {ft : TypeId} (hf : fieldOf P t i = some (off, ft)) {x v : V} {cx : Value} (hx : VR g σ.toks w x cx) (h : partOf (aggT P ft) off (P.cellsOf ft) x = some v) :
    PStep P g σ w (Instr.field t cx i) v := by
  obtain ⟨fs, f, hu, hfi, rfl, rfl, hc, hok⟩ := fieldOf_inv hf
  obtain ⟨cs, cv, rfl, h1, h2⟩ := partOf_rel hok hx h
  exact PStep.still hs (by simp [Instr.field, run_underlying hu, hfi, asAgg, h1]) h2

/-- Rows by value, whatever form they come in. -/
theorem rows_dr {x : V} {cx : Value} (hx : VR g σ.toks w x cx) (hn : ∀ r off len sz, x ≠ .sl r off len sz) {rows : List (List D)} (h : V.rows σ x = some rows) : (cx = .slice none 0 0 ∧ rows = []) ∨ DR g.frz w (.list rows) cx := by
  unfold V.rows at h
  split at h
  · cases h; have := hx.inv_d; cases this; exact .inl ⟨rfl, rfl⟩
  · cases h; exact .inr hx.inv_d
  · cases h; cases hx with
    | fl _ a h => exact .inr h
  · cases h; cases hx with
    | tl _ t st sz k a cap hd ht hle hh hsz ha => exact .inr hd
  · exact absurd rfl (hn _ _ _ _)
  · cases h

theorem iaddr_rel (hs : Sim g σ w) {t e : TypeId} (hu : P.underlying t = some (.slice e)) (hc : P.cellsOf e ≠ 0) {x i v : V} {cx ci : Value} (hx : VR g σ.toks w x cx) (hi : VR g σ.toks w i ci)
    (h : iaddrV σ (P.cellsOf e) x i = some v) : PStep P g σ w (Instr.indexAt t cx ci) v := by
  have run : ∀ (a : Addr) (len cap : Nat) (k : IntKind) (j : Int), 0 ≤ j → j < len → (Instr.indexAt t (.slice (some a) len cap) (.int k j)).run P w = .ok (.pointer (some (a.add (j.toNat * P.cellsOf e)))) w := by
    intro a len cap k j h0 h1
    simp [Instr.indexAt, asIntOf, run_underlying hu, h0, h1, run_sizeOf_cells hc]
  unfold iaddrV at h
  split at h
  · rename_i j hj
    obtain ⟨k, rfl⟩ := asIdx_rel hi hj
    split at h
    · rename_i r off len s
      split at h
      · rename_i hb
        obtain ⟨rfl, h0, h1⟩ := hb
        cases h
        cases hx with
        | sl _ _ _ _ cap a hh hcap hsz hin hout ha =>
          refine PStep.still hs (run a len cap k j h0 h1) ?_
          have hjl : j.toNat + 1 ≤ len := by omega
          have := Nat.mul_le_mul_right (P.cellsOf e) hjl
          rw [Nat.add_mul] at this
          rw [ha (by omega), addr_add, Nat.add_assoc]
          exact .ref _ _ hh
      · cases h
    · rename_i hn
      split at h
      · rename_i rows hr
        split at h
        · rename_i hb
          split at h
          · rename_i row hrow
            split at h
            · rename_i hlen
              cases h
              rcases rows_dr hx (fun r off len sz e => hn r off len sz e) hr with ⟨rfl, rfl⟩ | hd
              · simp at hrow
              · cases hd with
                | list0 _ _ => simp at hrow
                | list _ b o cap sz cv hcap hsz hf hc' h1 hd =>
                  have hs1 := hsz _ row hrow
                  have hi : j.toNat < rows.length := by omega
                  have hm := Nat.mul_le_mul_right sz (show j.toNat + 1 ≤ rows.length from hi)
                  rw [Nat.add_mul] at hm
                  refine PStep.still hs (run ⟨b, o, none⟩ rows.length cap k j hb.1 hb.2) ?_
                  rw [addr_add, ← hlen, hs1]
                  refine .ro row b (o + j.toNat * sz) (fun q => cv (j.toNat * sz + q)) (fun q hq => ?_) (fun q hq => ?_) (fun q hq => ?_) (fun q d hq => hd _ row q d hrow hq)
                  · rw [Nat.add_assoc]; exact hf _ (by omega)
                  · rw [Nat.add_assoc]; exact hc' _ (by omega)
                  · exact h1 _ (by omega)
            · cases h
          · cases h
        · cases h
      · cases h
  · cases h

theorem iaddrArr_rel (hs : Sim g σ w) {t e : TypeId} {n : Nat} (hu : P.underlying t = some (.array n e)) (hc : P.cellsOf e ≠ 0) {x i v : V} {cx ci : Value} (hx : VR g σ.toks w x cx) (hi : VR g σ.toks w i ci)
    (h : iaddrArrV n (P.cellsOf e) x i = some v) : PStep P g σ w (Instr.indexAt t cx ci) v := by
  have run : ∀ (a : Addr) (k : IntKind) (j : Int), 0 ≤ j → j < n → (Instr.indexAt t (.pointer (some a)) (.int k j)).run P w = .ok (.pointer (some (a.add (j.toNat * P.cellsOf e)))) w := by
    intro a k j h0 h1
    simp [Instr.indexAt, asIntOf, run_underlying hu, h0, h1, Instr.sureAddr, run_sizeOf_cells hc]
  unfold iaddrArrV at h
  split at h
  · rename_i j hj
    obtain ⟨k, rfl⟩ := asIdx_rel hi hj
    split at h
    · rename_i hb
      split at h
      · cases h
        cases hx with
        | ref _ _ hh =>
          refine PStep.still hs (run _ k j hb.1 hb.2) ?_
          rw [addr_add, Nat.add_assoc]
          exact .ref _ _ hh
      · split at h
        · cases h
          cases hx with
          | ro _ b o cv hf' hc' h1 hd =>
            refine PStep.still hs (run _ k j hb.1 hb.2) ?_
            rw [addr_add]
            exact VR.ro_drop hf' hc' h1 hd _
        · cases h
      · cases h
    · cases h
  · cases h

theorem index_rel (hs : Sim g σ w) {t e : TypeId} {n : Nat} (hu : P.underlying t = some (.array n e)) (hok : okT P e = true) {x i v : V} {cx ci : Value} (hx : VR g σ.toks w x cx) (hi : VR g σ.toks w i ci)
    (h : indexV (aggT P e) n (P.cellsOf e) x i = some v) : PStep P g σ w (Instr.index t cx ci) v := by
  unfold indexV at h
  split at h
  · rename_i j hj
    obtain ⟨k, rfl⟩ := asIdx_rel hi hj
    split at h
    · rename_i hb
      obtain ⟨cs, cv, rfl, h1, h2⟩ := partOf_rel hok hx h
      exact PStep.still hs (by simp [Instr.index, asIntOf, run_underlying hu, hb.1, hb.2, run_sizeOf' hok, h1]) h2
    · cases h
  · cases h

theorem indexStr_rel (hs : Sim g σ w) {t : TypeId} (hu : P.underlying t = some .string) {x i v : V} {cx ci : Value} (hx : VR g σ.toks w x cx) (hi : VR g σ.toks w i ci)
    (h : indexStrV x i = some v) : PStep P g σ w (Instr.index t cx ci) v := by
  unfold indexStrV at h
  split at h
  · rename_i s j hj
    obtain ⟨k, rfl⟩ := asIdx_rel hi hj
    have := hx.inv_str
    subst this
    split at h
    · rename_i h0
      split at h
      · rename_i b hb
        cases h
        refine PStep.still hs ?_ (.int _ _)
        have hlt : j.toNat < s.length := by
          rcases Nat.lt_or_ge j.toNat s.length with h | h
          · exact h
          · simp [List.getElem?_eq_none h] at hb
        have hg : (⟨s.toArray⟩ : ByteArray)[j.toNat]? = some b := by
          have hsz : j.toNat < (⟨s.toArray⟩ : ByteArray).size := by rw [bytes_size]; exact hlt
          rw [getElem?_pos (⟨s.toArray⟩ : ByteArray) j.toNat hsz]
          have : (⟨s.toArray⟩ : ByteArray)[j.toNat] = s[j.toNat] := rfl
          rw [this]
          simpa [List.getElem?_eq_getElem hlt] using hb
        simp [Instr.index, asIntOf, run_underlying hu, h0, hg]
      · cases h
    · cases h
  · cases h

theorem run_sliceBound {x : V} {cx : Value} (hx : VR g tk w x cx) {i : Int} (h : asIdx x = some i) {y : Nat} (h0 : 0 ≤ i) (h1 : i ≤ y) (code : BoundsCode) : (Instr.sliceBound cx y code).run P w = .ok i.toNat w := by
  obtain ⟨k, rfl⟩ := asIdx_rel hx h
  simp [Instr.sliceBound, asIntOf, h0, h1]

/-- Bounds as operands. -/
def OptR (g : Gh) (tk : List Nat) (w : World) (x : Option V) (c : Option Value) : Prop :=
  match x, c with
  | none, none => True
  | some v, some cv => VR g tk w v cv
  | _, _ => False

theorem run_sliceBounds {lo hi : Option V} {clo chi : Option Value} (hlo : OptR g tk w lo clo) (hhi : OptR g tk w hi chi) {len cap : Nat} {l h : Int} (isSlice : Bool)
    (hl : boundV 0 lo = some l) (hh : boundV len hi = some h) (h0 : 0 ≤ l) (h1 : l ≤ h) (h2 : h ≤ cap) :
    (Instr.sliceBounds isSlice len cap clo chi none).run P w = .ok (l.toNat, h.toNat, cap) w := by
  unfold Instr.sliceBounds
  cases hi with
  | none =>
    cases chi with
    | none =>
      simp [boundV] at hh
      subst hh
      cases lo with
      | none =>
        cases clo with
        | none => simp [boundV] at hl; subst hl; simp
        | some c => exact hlo.elim
      | some x =>
        cases clo with
        | none => exact hlo.elim
        | some c =>
          simp only [Sem.run_bind, Sem.run_pure, Result.andThen_ok, run_sliceBound (P := P) hlo hl h0 h1, Option.isSome_none, Bool.false_eq_true, if_false]
          simp
    | some c => exact hhi.elim
  | some y =>
    cases chi with
    | none => exact hhi.elim
    | some c =>
      have hb := fun code => run_sliceBound (P := P) (y := cap) hhi hh (by omega) h2 code
      cases lo with
      | none =>
        cases clo with
        | none => simp [boundV] at hl; subst hl; simp [hb]
        | some c => exact hlo.elim
      | some x =>
        cases clo with
        | none => exact hlo.elim
        | some c' =>
          have hb2 := fun code => run_sliceBound (P := P) (y := h.toNat) hlo hl h0 (by omega) code
          simp [hb, hb2]

theorem run_sliceBounds3 {lo hi : Option V} {clo chi : Option Value} (hlo : OptR g tk w lo clo) (hhi : OptR g tk w hi chi) {m : V} {cm : Value} (hm : VR g tk w m cm) {len cap : Nat} {l h k : Int} (isSlice : Bool)
    (hl : boundV 0 lo = some l) {y : V} (hy : hi = some y) (hh : asIdx y = some h) (hk : asIdx m = some k) (h0 : 0 ≤ l) (h1 : l ≤ h) (h2 : h ≤ k) (h3 : k ≤ cap) :
    (Instr.sliceBounds isSlice len cap clo chi (some cm)).run P w = .ok (l.toNat, h.toNat, k.toNat) w := by
  unfold Instr.sliceBounds
  subst hy
  cases chi with
  | none => exact hhi.elim
  | some c =>
    have hbm := fun code => run_sliceBound (P := P) (y := cap) hm hk (by omega) h3 code
    have hbh := fun code => run_sliceBound (P := P) (y := k.toNat) hhi hh (by omega) (by omega) code
    cases lo with
    | none =>
      cases clo with
      | none => simp [boundV] at hl; subst hl; simp [hbm, hbh]
      | some c => exact hlo.elim
    | some x =>
      cases clo with
      | none => exact hlo.elim
      | some c' =>
        have hbl := fun code => run_sliceBound (P := P) (y := h.toNat) hlo hl h0 (by omega) code
        simp [hbm, hbh, hbl]

end Go.Dn
