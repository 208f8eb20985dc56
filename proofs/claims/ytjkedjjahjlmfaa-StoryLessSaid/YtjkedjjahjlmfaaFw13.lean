/- The slice expression. -/
import Derived.Test.YtjkedjjahjlmfaaFw12
namespace Go.Dn
open Go.Lib
set_option linter.unusedVariables false
set_option linter.unusedSimpArgs false

variable {P : Program} {g : Gh} {σ : St} {tk : List Nat} {w : World}

theorem list_slice {f : Nat → Nat → Prop} {rows : List (List D)} {cap sz : Nat} {a : Addr} (hfit : fitR sz rows = true) (h : DR f w (.list rows) (.slice (some a) rows.length cap)) {lo hi m : Nat} (h1 : lo ≤ hi) (h2 : hi ≤ rows.length) (h3 : hi ≤ m) :
    DR f w (.list ((rows.drop lo).take (hi - lo))) (.slice (if m = lo then some a else (some a).map (·.add (lo * sz))) (hi - lo) (m - lo)) := by
  split
  · have : hi - lo = 0 := by omega
    rw [this]
    simp only [List.take_zero]
    exact .list0 _ _
  · simp only [Option.map_some]
    exact DR.list_drop (fun i row hr => fitR_get hfit hr) h lo (hi - lo) (m - lo) (by omega) (by omega)

theorem slice_shape {f : Nat → Nat → Prop} {rows : List (List D)} {cx : Value} (h : DR f w (.list rows) cx) : ∃ a cap, cx = .slice (some a) rows.length cap ∧ rows.length ≤ cap := by
  cases h with
  | list _ b o cap sz cv hcap => exact ⟨_, cap, rfl, hcap⟩
  | list0 a cap => exact ⟨a, cap, rfl, Nat.zero_le _⟩

theorem take_all {α : Type} (l : List α) (lo : Nat) : (l.drop lo).take (l.length - lo) = l.drop lo := List.take_of_length_le (by simp)

theorem fitR_drop {sz : Nat} {rows : List (List D)} (h : fitR sz rows = true) (n : Nat) : fitR sz (rows.drop n) = true := by
  unfold fitR at *
  rw [List.all_eq_true] at *
  exact fun x hx => h x (List.mem_of_mem_drop hx)

theorem slice_rel (hs : Sim g σ w) {t e : TypeId} (hu : P.underlying t = some (.slice e)) (hc : P.cellsOf e ≠ 0) {x v : V} {cx : Value} (hx : VR g σ.toks w x cx) {lo hi mx : Option V} {clo chi cmx : Option Value}
    (hlo : OptR g σ.toks w lo clo) (hhi : OptR g σ.toks w hi chi) (hmx : OptR g σ.toks w mx cmx) (h : sliceX σ (P.cellsOf e) x lo hi mx = some v) : PStep P g σ w (Instr.sliceAt t cx clo chi cmx) v := by
  unfold sliceX at h
  split at h
  · rename_i len hlen
    split at h
    · rename_i l hh hl hh'
      split at h
      · rename_i hb
        obtain ⟨h0, h1⟩ := hb
        have main : ∀ (m : Nat) (a : Option Addr) (c : Nat), cx = .slice a len c → (Instr.sliceBounds true len c clo chi cmx).run P w = .ok (l.toNat, hh.toNat, m) w →
            (Instr.sliceAt t cx clo chi cmx).run P w = .ok (.slice (if m = l.toNat then a else a.map (·.add (l.toNat * P.cellsOf e))) (hh.toNat - l.toNat) (m - l.toNat)) w := by
          rintro m a c rfl hr
          exact run_slice_expr hu hc hr
        have hle : l.toNat ≤ hh.toNat := by omega
        split at h
        · -- no third index
          have hcm : cmx = none := by
            cases cmx with
            | none => rfl
            | some c => exact hmx.elim
          subst hcm
          unfold sliceV at h
          split at h
          · split at h
            · rename_i hz
              cases h
              have hd := hx.inv_d
              cases hd
              simp [lenV] at hlen
              subst hlen
              have hr := run_sliceBounds (P := P) hlo hhi (len := 0) (cap := 0) true hl hh' h0 h1 (by omega)
              refine PStep.still hs (main 0 none 0 rfl hr) ?_
              have : l.toNat = 0 := by omega
              rw [hz, this]
              exact .d _ _ .nils rfl
            · cases h
          · rename_i hm; cases hm
          · rename_i rows _
            split at h
            · rename_i hcnd
              cases h
              simp [lenV] at hlen
              subst hlen
              obtain ⟨a, cap, rfl, hcap⟩ := slice_shape hx.inv_d
              have hr := run_sliceBounds (P := P) hlo hhi (len := rows.length) (cap := cap) true hl hh' h0 h1 (by omega)
              exact PStep.still hs (main cap _ cap rfl hr) (.d _ _ (list_slice hcnd.1 hx.inv_d hle hcnd.2 (by omega)) (by simp [oneC]))
            · cases h
          · rename_i rows _
            simp [lenV] at hlen
            subst hlen
            split at h
            · cases h
            · rename_i hfit
              simp only [Bool.not_eq_false] at hfit
              have hd := fl_dr hx
              cases hx with
              | fl _ a hd' =>
              obtain ⟨a', cap, he, hcap⟩ := slice_shape hd
              cases he
              split at h
              · rename_i hhl
                cases h
                have hr := run_sliceBounds (P := P) hlo hhi (len := rows.length) (cap := rows.length) true hl hh' h0 h1 (by omega)
                refine PStep.still hs (main rows.length _ rows.length rfl hr) ?_
                have := list_slice hfit hd hle (by omega) (show hh.toNat ≤ rows.length by omega)
                rw [hhl, take_all] at this
                rw [hhl]
                split at this
                · rename_i e1
                  rw [if_pos e1]
                  have hln : rows.length - l.toNat = (rows.drop l.toNat).length := by simp
                  rw [hln] at this ⊢
                  exact .fl _ _ this
                · rename_i e1
                  rw [if_neg e1]
                  simp only [Option.map_some] at this ⊢
                  have hln : rows.length - l.toNat = (rows.drop l.toNat).length := by simp
                  rw [hln] at this ⊢
                  exact .fl _ _ this
              · split at h
                · rename_i hhl
                  cases h
                  have hr := run_sliceBounds (P := P) hlo hhi (len := rows.length) (cap := rows.length) true hl hh' h0 h1 (by omega)
                  exact PStep.still hs (main rows.length _ rows.length rfl hr) (.d _ _ (list_slice hfit hd hle hhl (by omega)) (by simp [oneC]))
                · cases h
          · rename_i rows tt st s _
            simp [lenV] at hlen
            subst hlen
            split at h
            · cases h
            · rename_i hfit
              simp only [not_or, Bool.not_eq_false, ne_eq, Decidable.not_not] at hfit
              obtain ⟨hfit, hsz⟩ := hfit
              have hd := tl_dr hx
              cases hx with
              | tl _ _ _ _ k a cap hd' ht hle' hhh htsz ha =>
              obtain ⟨a', cap0, he, hcap⟩ := slice_shape hd
              cases he
              split at h
              · rename_i hhl
                cases h
                have hr := run_sliceBounds (P := P) hlo hhi (len := rows.length) (cap := cap) true hl hh' h0 h1 (by omega)
                refine PStep.still hs (main cap _ cap rfl hr) ?_
                have := list_slice hfit hd hle (by omega) (show hh.toNat ≤ cap by omega)
                rw [hhl, take_all] at this
                rw [hhl]
                have hln : rows.length - l.toNat = (rows.drop l.toNat).length := by simp
                have hsub : ∀ row ∈ rows.drop l.toNat, row.length = s := fun row hr => hhh row (List.mem_of_mem_drop hr)
                split at this
                · rename_i e1
                  rw [if_pos e1]
                  rw [hln] at this ⊢
                  refine .tl _ tt (st + l.toNat) s k _ _ this ht (by simp; omega) hsub htsz (fun e2 hc2 => ?_)
                  simp at hc2
                  omega
                · rename_i e1
                  rw [if_neg e1]
                  simp only [Option.map_some] at this ⊢
                  rw [hln] at this ⊢
                  refine .tl _ tt (st + l.toNat) s k _ _ this ht (by simp; omega) hsub htsz (fun e2 hc2 => ?_)
                  simp at e2 hc2
                  obtain ⟨a0, a1, a2⟩ := ha (by omega) (by omega)
                  have hne : 0 < rows.length - l.toNat ∨ rows.length = l.toNat := by omega
                  subst a1
                  rw [addr_add]
                  refine ⟨by omega, ?_, by omega⟩
                  simp only [Addr.mk.injEq, and_true, true_and]
                  have hszs : l.toNat * P.cellsOf e = l.toNat * (g.tok tt).sz := by rw [htsz, hsz]
                  rw [hszs, show st + l.toNat - (g.tok tt).s0 = (st - (g.tok tt).s0) + l.toNat by omega, Nat.add_mul]
                  omega
              · split at h
                · rename_i hhl
                  cases h
                  have hr := run_sliceBounds (P := P) hlo hhi (len := rows.length) (cap := cap) true hl hh' h0 h1 (by omega)
                  exact PStep.still hs (main cap _ cap rfl hr) (.d _ _ (list_slice hfit hd hle hhl (by omega)) (by simp [oneC]))
                · cases h
          · rename_i r off len' s _
            simp [lenV] at hlen
            subst hlen
            split at h
            · rename_i hcnd
              obtain ⟨rfl, hhl⟩ := hcnd
              cases h
              cases hx with
              | sl _ _ _ _ cap a hh2 hcap hsz hin hout ha hsp =>
              have hr := run_sliceBounds (P := P) hlo hhi (len := len') (cap := cap) true hl hh' h0 h1 (by omega)
              refine PStep.still hs (main cap _ cap rfl hr) ?_
              have m1 := Nat.mul_le_mul_right (P.cellsOf e) hhl
              have m2 : l.toNat * P.cellsOf e + (hh.toNat - l.toNat) * P.cellsOf e = hh.toNat * P.cellsOf e := by rw [← Nat.add_mul]; congr 1; omega
              have m3 : l.toNat * P.cellsOf e + (cap - l.toNat) * P.cellsOf e = cap * P.cellsOf e := by rw [← Nat.add_mul]; congr 1; omega
              split
              · rename_i e1
                refine .sl r _ _ _ _ _ hh2 (by omega) hsz (by omega) (by omega) (fun hlt => ?_) hsp
                rw [e1] at hout
                omega
              · refine .sl r _ _ _ _ _ hh2 (by omega) hsz (by omega) (by omega) (fun hlt => ?_) (by show (Addr.add a _).spot = none; obtain ⟨ab, ao, asp⟩ := a; simp only at hsp; subst hsp; rw [addr_add])
                rw [ha (by omega)]
                show (Addr.add _ _) = _
                rw [addr_add, Nat.add_assoc]
            · cases h
          · rename_i hm; cases hm
          · rename_i hm; cases hm
          · rename_i hm; cases hm
          · cases h
        · -- the capacity given
          rename_i mv
          split at h
          · rename_i k hk
            split at h
            · rename_i hcnd
              obtain ⟨hsome, hhk⟩ := hcnd
              obtain ⟨y, rfl⟩ := Option.isSome_iff_exists.1 hsome
              cases cmx with
              | none => exact hmx.elim
              | some cm =>
              have bnd := fun (c : Nat) (hkc : k ≤ c) => run_sliceBounds3 (P := P) (len := len) hlo hhi hmx true hl rfl hh' hk h0 h1 hhk hkc
              unfold sliceV at h
              split at h
              · rename_i hm; cases hm
              · rename_i m' hm
                cases hm
                split at h
                · rename_i hz
                  cases h
                  have hd := hx.inv_d
                  cases hd
                  simp [lenV] at hlen
                  subst hlen
                  refine PStep.still hs (main k.toNat none 0 rfl (bnd 0 (by omega))) ?_
                  have e1 : l.toNat = 0 := by omega
                  have e2 : hh.toNat = 0 := by omega
                  rw [e1, e2, hz]
                  exact .d _ _ .nils rfl
                · cases h
              · rename_i hm; cases hm
              · rename_i hm; cases hm
              · rename_i hm; cases hm
              · rename_i hm; cases hm
              all_goals first
                | (rename_i rows m' hm
                   cases hm
                   simp [lenV] at hlen
                   subst hlen
                   split at h
                   · rename_i hcnd
                     obtain ⟨hfit, hkh, hhl⟩ := hcnd
                     cases h
                     have hd : DR g.frz w (.list rows) cx := by first | exact hx.inv_d | exact fl_dr hx
                     obtain ⟨a, cap, rfl, hcap⟩ := slice_shape hd
                     refine PStep.still hs (main k.toNat _ cap rfl (bnd cap (by omega))) ?_
                     have := list_slice hfit hd hle hhl (show hh.toNat ≤ k.toNat by omega)
                     have hln : ((rows.drop l.toNat).take (hh.toNat - l.toNat)).length = hh.toNat - l.toNat := by simp; omega
                     rw [hkh] at this ⊢
                     split at this
                     · rename_i e1
                       rw [if_pos e1]
                       rw [← hln] at this ⊢
                       rw [hln] at this ⊢
                       have := VR.fl (g := g) (tk := σ.toks) (w := w) _ _ (by rw [hln]; exact this)
                       rw [hln] at this
                       exact this
                     · rename_i e1
                       rw [if_neg e1]
                       simp only [Option.map_some] at this ⊢
                       have := VR.fl (g := g) (tk := σ.toks) (w := w) _ _ (by rw [hln]; exact this)
                       rw [hln] at this
                       exact this
                   · cases h)
                | (rename_i rows tt st s m' hm
                   cases hm
                   simp [lenV] at hlen
                   subst hlen
                   split at h
                   · rename_i hcnd
                     obtain ⟨hfit, hkh, hhl⟩ := hcnd
                     cases h
                     have hd : DR g.frz w (.list rows) cx := tl_dr hx
                     obtain ⟨a, cap, rfl, hcap⟩ := slice_shape hd
                     refine PStep.still hs (main k.toNat _ cap rfl (bnd cap (by omega))) ?_
                     have := list_slice hfit hd hle hhl (show hh.toNat ≤ k.toNat by omega)
                     have hln : ((rows.drop l.toNat).take (hh.toNat - l.toNat)).length = hh.toNat - l.toNat := by simp; omega
                     rw [hkh] at this ⊢
                     split at this
                     · rename_i e1
                       rw [if_pos e1]
                       have := VR.fl (g := g) (tk := σ.toks) (w := w) _ _ (by rw [hln]; exact this)
                       rw [hln] at this
                       exact this
                     · rename_i e1
                       rw [if_neg e1]
                       simp only [Option.map_some] at this ⊢
                       have := VR.fl (g := g) (tk := σ.toks) (w := w) _ _ (by rw [hln]; exact this)
                       rw [hln] at this
                       exact this
                   · cases h)
                | cases h
            · cases h
          · cases h
      · cases h
    · cases h
  · cases h

end Go.Dn
