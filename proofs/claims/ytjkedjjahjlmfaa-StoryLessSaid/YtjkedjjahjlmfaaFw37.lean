/- A contract with the store as it stands, turned to other modes. -/
import Derived.Test.YtjkedjjahjlmfaaFw36
namespace Go.Dn
set_option linter.unusedVariables false
set_option linter.unusedSimpArgs false
variable {cx : Cx}

theorem Call.inv {Γ : Nat → Option FnC} {m : Mode} {f : Nat} {vs : List V} {σ : St} {Q : Post} (h : Call Γ cx m f vs σ Q) : ∃ fc, Γ f = some fc ∧ bodyP (Call Γ cx) cx m fc vs σ Q := by
  refine (h (fun m f vs σ Q => Call Γ cx m f vs σ Q ∧ ∃ fc, Γ f = some fc ∧ bodyP (Call Γ cx) cx m fc vs σ Q) ?_).2
  intro m f vs σ Q ⟨fc, hf, hb⟩
  have hb' : bodyP (Call Γ cx) cx m fc vs σ Q := bodyP_le (fun m f vs σ Q h => h.1) (fun v s h => h) hb
  exact ⟨Call.body hf hb', fc, hf, hb'⟩

theorem Call.as_val {Γ : Nat → Option FnC} {f : Nat} {fc : FnC} (hf : Γ f = some fc) (h1 : fc.res.length = 1) {vs : List V} {Q Q' : Post} (h : Call Γ cx .raw f vs St.empty Q) (hq : ∀ v s, Q v s → ∃ d, V.byVal s v = some d ∧ Q' d s) : Call Γ cx .val f vs St.empty Q' := by
  obtain ⟨fc', hf', hl, hb⟩ := h.inv
  rw [hf] at hf'
  cases hf'
  refine Call.body hf ⟨hl, wcode_le (fun m f vs σ Q h => h) _ (fun ex e s hx => ?_) hb⟩
  have key : (∃ v, retV .raw St.empty.objs.length e s fc.res = some v ∧ (Mode.raw = .rd → Keeps St.empty s) ∧ Q v s) → ∃ v, retV .val St.empty.objs.length e s fc.res = some v ∧ (Mode.val = .rd → Keeps St.empty s) ∧ Q' v s := by
    rintro ⟨v, hr, _, hv⟩
    obtain ⟨d, hd, hd'⟩ := hq v s hv
    unfold retV at hr ⊢
    match hv2 : fc.res, h1 with
    | [x], _ =>
      rw [hv2] at hr
      unfold resAll at hr ⊢
      cases hx : Res.ev e s x with
      | none => simp [hx] at hr
      | some y =>
        simp [hx, resAll, tupOf] at hr
        subst hr
        simp [resAll, byVals, hd, tupOf]
        exact hd'
  cases ex with
  | exit id => exact hx
  | normal => exact key hx
  | ret => exact key hx

theorem use_valN {cx0 : Cx} {Γ : Nat → Option FnC} {n0 : Nat} {ks : List Nat} {e : Env} {f : Nat} (hm : cx.mode f = .val) {vs ds : List V} {σ : St} (hds : byVals σ vs = some ds) {Q' : Post} (h : Call Γ cx0 .val f ds St.empty Q') (hex : ∃ v s, Q' v s) {Q : Post} (hq : ∀ v s, Q' v s → v.pure = true ∧ (vs.any V.borrows = true → v.scalars = true) ∧ Q v σ) :
    callN (Call Γ cx0) cx n0 ks e f vs σ Q := by
  unfold callN
  rw [hm]
  simp only
  rw [hds]
  exact ⟨_, h, hex, hq⟩

theorem room_zero (σ : St) : σ.room 0 = σ := by simp [St.room]
end Go.Dn
