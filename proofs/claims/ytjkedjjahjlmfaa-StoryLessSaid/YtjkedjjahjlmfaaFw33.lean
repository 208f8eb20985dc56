/- For those who prove about the small language: calls from bodies, loops from invariants. -/
import Derived.Test.YtjkedjjahjlmfaaFw32
namespace Go.Dn
set_option linter.unusedVariables false
set_option linter.unusedSimpArgs false

def LeK (K K' : CallP) : Prop := ∀ m f vs σ Q, K m f vs σ Q → K' m f vs σ Q

variable {K K' : CallP} {cx : Cx}

theorem callK_leK (hk : LeK K K') {f : Nat} {vs : List V} {σ : St} {Q Q' : Post} (hq : ∀ v s, Q v s → Q' v s) (h : callK K cx f vs σ Q) : callK K' cx f vs σ Q' := by
  obtain ⟨m, h⟩ := h
  refine ⟨m, ?_⟩
  cases m with
  | raw =>
    obtain ⟨q, h1, h2⟩ := h
    exact ⟨q, hk _ _ _ _ _ h1, fun v s hv => hq _ _ (h2 v s hv)⟩
  | rd =>
    obtain ⟨q, h1, h2⟩ := h
    exact ⟨q, hk _ _ _ _ _ h1, fun v s hv => hq _ _ (h2 v s hv)⟩
  | val =>
    simp only [callM] at *
    split
    · rename_i ds hds
      rw [hds] at h
      obtain ⟨q, h1, h2⟩ := h
      exact ⟨q, hk _ _ _ _ _ h1, fun v s hv => ⟨(h2 v s hv).1, (h2 v s hv).2.1, hq _ _ (h2 v s hv).2.2⟩⟩
    · rename_i hds
      rw [hds] at h
      exact h

mutual
theorem wins_le (hk : LeK K K') : ∀ (l : List Ins) {e : Env} {σ : St} {Q Q' : Env → St → Prop}, (∀ e s, Q e s → Q' e s) → wins K cx l e σ Q → wins K' cx l e σ Q'
  | [], e, σ, Q, Q', hq, h => by simp only [wins] at *; exact hq _ _ h
  | i :: r, e, σ, Q, Q', hq, h => by
    simp only [wins] at *
    exact wone_le hk i (fun e s => wins_le hk r hq) h
theorem wone_le (hk : LeK K K') : ∀ (i : Ins) {e : Env} {σ : St} {Q Q' : Env → St → Prop}, (∀ e s, Q e s → Q' e s) → wone K cx i e σ Q → wone K' cx i e σ Q'
  | .p dst op, e, σ, Q, Q', hq, h => by
    simp only [wone] at *
    split
    · rename_i v hv; rw [hv] at h; exact hq _ _ h
    · rename_i hv; rw [hv] at h; exact h
  | .e dst op, e, σ, Q, Q', hq, h => by
    simp only [wone] at *
    refine h.imp (fun h => ?_) (fun h => ?_)
    · split
      · rename_i v hv; rw [hv] at h; exact hq _ _ h
      · rename_i hv; rw [hv] at h; exact h
    · split
      · rename_i v hv; rw [hv] at h; exact hq _ _ h
      · rename_i hv; rw [hv] at h; exact h
  | .call dst f args, e, σ, Q, Q', hq, h => by
    simp only [wone] at *
    exact callK_leK hk (fun v s => hq _ _) h
  | .callv dst f args, e, σ, Q, Q', hq, h => by
    simp only [wone] at *
    split
    · rename_i g first caps hf; rw [hf] at h; exact callK_leK hk (fun v s => hq _ _) h
    · rename_i hn
      split at h
      · rename_i g first caps hf; exact (hn _ _ _ hf).elim
      · exact h
  | .when s want body, e, σ, Q, Q', hq, h => by
    simp only [wone] at *
    split
    · rename_i b hb
      rw [hb] at h
      simp only at h
      split
      · rename_i hw; rw [if_pos hw] at h; exact wins_le hk body hq h
      · rename_i hw; rw [if_neg hw] at h; exact hq _ _ h
    · rename_i hb; rw [hb] at h; exact hq _ _ h
    · rename_i h1 h2
      split at h
      · rename_i b hb; exact (h1 _ hb).elim
      · rename_i hb; exact (h2 hb).elim
      · exact h
end

theorem gdo_le {gd : Option (Nat × Bool)} {i : Ins} {e : Env} {σ : St} {a b : Prop} (hab : a → b) {Q Q' : Env → St → Prop} (hq : ∀ e s, Q e s → Q' e s) (h : gdo gd i e σ a Q) : gdo gd i e σ b Q' := by
  unfold gdo at *
  split
  · exact hab h
  · rename_i s want
    simp only at h
    split
    · rename_i b hb
      rw [hb] at h
      simp only at h
      split
      · rename_i hw; rw [if_pos hw] at h; exact hab h
      · rename_i hw; rw [if_neg hw] at h; exact hq _ _ h
    · rename_i hb; rw [hb] at h; exact hq _ _ h
    · rename_i h1 h2
      split at h
      · rename_i b hb; exact (h1 _ hb).elim
      · rename_i hb; exact (h2 hb).elim
      · exact h

theorem wdop_le (hk : LeK K K') {n0 : Nat} {d : DOp} {e : Env} {σ : St} {Q Q' : Env → St → Prop} (hq : ∀ e s, Q e s → Q' e s) (h : wdop K cx n0 d e σ Q) : wdop K' cx n0 d e σ Q' := by
  rw [wdop_eq] at *
  refine gdo_le (fun h => ?_) hq h
  obtain ⟨gd, i, af, al⟩ := d
  cases i with
  | e dst op =>
    simp only [dgo] at *
    refine h.imp (fun h => ?_) (fun h => ?_)
    · split
      · rename_i v s hv; rw [hv] at h; exact hq _ _ h
      · rename_i hv; rw [hv] at h; exact h
    · split
      · rename_i v s hv; rw [hv] at h; exact hq _ _ h
      · rename_i hv; rw [hv] at h; exact h
  | p dst op => exact wone_le hk _ hq h
  | call dst f args => exact wone_le hk _ hq h
  | callv dst f args => exact wone_le hk _ hq h
  | «when» s want body => exact wone_le hk _ hq h

theorem wany_le (hk : LeK K K') {n0 : Nat} {l : List DOp} {Q Q' : Env → St → Prop} (hq : ∀ e s, Q e s → Q' e s) : ∀ (fuel : Nat) (S : List Nat) (e : Env) (σ : St), wany K cx n0 l fuel S e σ Q → wany K' cx n0 l fuel S e σ Q'
  | 0, S, e, σ, h => ⟨h.1, hq _ _ h.2⟩
  | f + 1, S, e, σ, h => ⟨fun hr => hq _ _ (h.1 hr), fun i hi => by
    obtain ⟨o, ho, hw⟩ := h.2 i hi
    exact ⟨o, ho, wdop_le hk (fun e s => wany_le hk hq f (i :: S) e s) hw⟩⟩

theorem wcode_le (hk : LeK K K') : ∀ (c : C) {e : Env} {σ : St} {Q Q' : PostC}, (∀ ex e s, Q ex e s → Q' ex e s) → wcode K cx c e σ Q → wcode K' cx c e σ Q'
  | .skip, e, σ, Q, Q', hq, h => by simp only [wcode] at *; exact hq _ _ _ h
  | .ops ks l, e, σ, Q, Q', hq, h => by simp only [wcode] at *; exact wins_le hk l (fun e s => hq _ _ _) h
  | .drw ks na l, e, σ, Q, Q', hq, h => by simp only [wcode] at *; exact fun ho => wany_le hk (fun e s => hq _ _ _) _ _ _ _ (h ho)
  | .seq a b, e, σ, Q, Q', hq, h => by
    simp only [wcode] at *
    refine wcode_le hk a (fun ex e s h => ?_) h
    cases ex with
    | normal => exact wcode_le hk b hq h
    | exit id => exact hq _ _ _ h
    | ret => exact hq _ _ _ h
  | .cond c a b, e, σ, Q, Q', hq, h => by
    simp only [wcode] at *
    split
    · rename_i t ht
      rw [ht] at h
      simp only at h
      split
      · rename_i hb; rw [if_pos hb] at h; exact wcode_le hk a hq h
      · rename_i hb; rw [if_neg hb] at h; exact wcode_le hk b hq h
    · rename_i h1
      split at h
      · rename_i t ht; exact (h1 _ ht).elim
      · exact h
  | .block id c, e, σ, Q, Q', hq, h => by
    simp only [wcode] at *
    refine wcode_le hk c (fun ex e s h => ?_) h
    cases ex with
    | normal => exact hq _ _ _ h
    | exit j =>
      simp only at *
      split
      · rename_i hj; rw [if_pos hj] at h; exact hq _ _ _ h
      · rename_i hj; rw [if_neg hj] at h; exact hq _ _ _ h
    | ret => exact hq _ _ _ h
  | .loop ks c, e, σ, Q, Q', hq, h => by
    simp only [wcode] at *
    intro I hI
    refine h I fun e σ hb => hI e σ (wcode_le hk c (fun ex e s h => ?_) hb)
    cases ex with
    | normal => exact h
    | exit id => exact hq _ _ _ h
    | ret => exact hq _ _ _ h
  | .exit id, e, σ, Q, Q', hq, h => by simp only [wcode] at *; exact hq _ _ _ h
  | .ret, e, σ, Q, Q', hq, h => by simp only [wcode] at *; exact hq _ _ _ h

theorem bodyP_le (hk : LeK K K') {m : Mode} {fc : FnC} {vs : List V} {σ : St} {Q Q' : Post} (hq : ∀ v s, Q v s → Q' v s) (h : bodyP K cx m fc vs σ Q) : bodyP K' cx m fc vs σ Q' := by
  refine ⟨h.1, wcode_le hk _ (fun ex e s h => ?_) h.2⟩
  cases ex with
  | exit id => exact h
  | normal => obtain ⟨v, a, k, b⟩ := h; exact ⟨v, a, k, hq _ _ b⟩
  | ret => obtain ⟨v, a, k, b⟩ := h; exact ⟨v, a, k, hq _ _ b⟩

/-- A call, from its body. -/
theorem Call.body {Γ : Nat → Option FnC} {m : Mode} {f : Nat} {fc : FnC} (hf : Γ f = some fc) {vs : List V} {σ : St} {Q : Post} (h : bodyP (Call Γ cx) cx m fc vs σ Q) : Call Γ cx m f vs σ Q :=
  fun K hK => hK m f vs σ Q ⟨fc, hf, bodyP_le (fun m f vs σ Q h => h K hK) (fun v s h => h) h⟩

theorem Call.mono {Γ : Nat → Option FnC} {m : Mode} {f : Nat} {vs : List V} {σ : St} {Q Q' : Post} (hq : ∀ v s, Q v s → Q' v s) (h : Call Γ cx m f vs σ Q) : Call Γ cx m f vs σ Q' := by
  intro K hK
  have := h (fun m f vs σ Q => ∀ Q', (∀ v s, Q v s → Q' v s) → K m f vs σ Q') fun m f vs σ Q ⟨fc, hf, hb⟩ Q' hq => hK m f vs σ Q' ⟨fc, hf, bodyP_le (fun m f vs σ Q h => h Q fun _ _ h => h) hq hb⟩
  exact this Q' hq

/-- A contract, used where a call by value stands. -/
theorem use_val {Γ : Nat → Option FnC} {f : Nat} {vs ds : List V} {σ : St} (hds : byVals σ vs = some ds) {Q' : Post} (h : Call Γ cx .val f ds St.empty Q') {Q : Post} (hq : ∀ v s, Q' v s → v.pure = true ∧ (vs.any V.borrows = true → v.scalars = true) ∧ Q v σ) :
    callK (Call Γ cx) cx f vs σ Q := by
  refine ⟨.val, ?_⟩
  simp only [callM]
  rw [hds]
  exact ⟨Q', h, hq⟩

/-- A contract that names the result. -/
theorem use_fn {Γ : Nat → Option FnC} {f : Nat} {vs ds : List V} {σ : St} (hds : byVals σ vs = some ds) {r : V} (h : Call Γ cx .val f ds St.empty fun v _ => v = r) (hp : (r.pure && (!vs.any V.borrows || r.scalars)) = true) {Q : Post} (hq : Q r σ) :
    callK (Call Γ cx) cx f vs σ Q := by
  simp only [Bool.and_eq_true, Bool.or_eq_true, Bool.not_eq_true'] at hp
  exact use_val hds h fun v s hv => by
    subst hv
    exact ⟨hp.1, fun hb => hp.2.resolve_left (by simp [hb]), hq⟩

/-- A contract of a call that keeps the store. -/
theorem use_rd {Γ : Nat → Option FnC} {f : Nat} {vs : List V} {σ : St} {r : V} (h : Call Γ cx .rd f vs σ fun v _ => v = r) {Q : Post} (hq : Q r σ) : callK (Call Γ cx) cx f vs σ Q :=
  ⟨.rd, _, h, fun v s hv => by subst hv; exact hq⟩

theorem use_rd' {Γ : Nat → Option FnC} {f : Nat} {vs : List V} {σ : St} {Q' : Post} (h : Call Γ cx .rd f vs σ Q') {Q : Post} (hq : ∀ v s, Q' v s → Q v σ) : callK (Call Γ cx) cx f vs σ Q :=
  ⟨.rd, _, h, hq⟩

/-- A contract of a call with the store as it stands. -/
theorem use_raw {Γ : Nat → Option FnC} {f : Nat} {vs : List V} {σ : St} {Q' : Post} (h : Call Γ cx .raw f vs σ Q') {Q : Post} (hq : ∀ v s, Q' v s → Q v s) : callK (Call Γ cx) cx f vs σ Q :=
  ⟨.raw, _, h, hq⟩

/-- One round of a loop. -/
theorem wround {ks : List Nat} {c : C} {e : Env} {σ : St} {Q : PostC} (h : wcode K cx c (e.pick ks) σ fun ex e' σ' => match ex with | .normal => wcode K cx (.loop ks c) e' σ' Q | x => Q x e' σ') : wcode K cx (.loop ks c) e σ Q := by
  simp only [wcode] at h ⊢
  intro J hJ
  refine hJ _ _ (wcode_le (fun _ _ _ _ _ h => h) c (fun ex e s h => ?_) h)
  cases ex with
  | normal => exact h J hJ
  | exit id => exact h
  | ret => exact h

/-- A loop, by an invariant and a measure. -/
theorem wloop {ks : List Nat} {c : C} {e : Env} {σ : St} {Q : PostC} (I : Nat → Env → St → Prop) {m : Nat} (h0 : I m (e.pick ks) σ)
    (hs : ∀ m e σ, I m e σ → wcode K cx c e σ fun ex e' σ' => match ex with | .normal => ∃ m', m' < m ∧ I m' (e'.pick ks) σ' | x => Q x e' σ') : wcode K cx (.loop ks c) e σ Q := by
  simp only [wcode]
  intro J hJ
  have key : ∀ m e σ, I m e σ → J e σ := by
    intro m
    induction m using Nat.strongRecOn with
    | _ m ih =>
      intro e σ hi
      refine hJ e σ (wcode_le (fun _ _ _ _ _ h => h) c (fun ex e s h => ?_) (hs m e σ hi))
      cases ex with
      | normal => obtain ⟨m', h1, h2⟩ := h; exact ih m' h1 _ _ h2
      | exit id => exact h
      | ret => exact h
  exact key m _ _ h0

end Go.Dn
