/- Instructions and regions in the order of the text. -/
import Derived.Test.YtjkedjjahjlmfaaFw23
namespace Go.Dn
open Go.Lib
set_option linter.unusedVariables false
set_option linter.unusedSimpArgs false

variable {P : Program} {w : World}

def Ins.simple : Ins → Bool
  | .when .. => false
  | _ => true

theorem compCall_dst {dst : Option Nat} {ty : TypeId} {c : Go.Call} {i : Ins} (h : compCall P dst ty c = some i) : i.simple = true ∧ i.dst = dst := by
  unfold compCall compBuiltin at h
  (repeat' (split at h)) <;> first | (cases h; done) | (cases h; exact ⟨rfl, rfl⟩)

theorem compOp_dst {o : Oper} {i : Ins} (h : compOp P o = some i) : i.simple = true ∧ i.dst = o.dst := by
  obtain ⟨od, oop, oty, opos, oaft, ogd⟩ := o
  cases oop <;> simp only [compOp] at h
  case call c => exact compCall_dst h
  case makeMap t r =>
    cases r with
    | none => cases h; exact ⟨rfl, rfl⟩
    | some x => cases h
  all_goals ((repeat' (split at h)) <;> first | (cases h; done) | (cases h; exact ⟨rfl, rfl⟩))

theorem callK_mono {K : CallP} {cx : Cx} {f : Nat} {vs : List V} {σ : St} {Q Q' : Post} (hq : ∀ v s, Q v s → Q' v s) (h : callK K cx f vs σ Q) : callK K cx f vs σ Q' := by
  obtain ⟨m, h⟩ := h
  refine ⟨m, ?_⟩
  cases m with
  | raw =>
    obtain ⟨q, h1, h2⟩ := h
    exact ⟨q, h1, fun v s hv => hq _ _ (h2 v s hv)⟩
  | rd =>
    obtain ⟨q, h1, h2⟩ := h
    exact ⟨q, h1, fun v s hv => hq _ _ (h2 v s hv)⟩
  | val =>
    simp only [callM] at *
    split
    · rename_i ds hds
      rw [hds] at h
      obtain ⟨q, h1, h2⟩ := h
      exact ⟨q, h1, fun v s hv => ⟨(h2 v s hv).1, (h2 v s hv).2.1, hq _ _ (h2 v s hv).2.2⟩⟩
    · rename_i hds
      rw [hds] at h
      exact h

/-- A simple instruction puts its result where it goes. -/
theorem wone_mono_dst {K : CallP} {cx : Cx} {i : Ins} (hi : i.simple = true) {e : Env} {σ : St} {Q Q' : Env → St → Prop} (hq : ∀ v s, Q (putE e i.dst v) s → Q' (putE e i.dst v) s) (h : wone K cx i e σ Q) : wone K cx i e σ Q' := by
  cases i with
  | p dst op =>
    simp only [wone] at *
    split
    · rename_i v hv; rw [hv] at h; exact hq _ _ h
    · rename_i hv; rw [hv] at h; exact h
  | e dst op =>
    simp only [wone] at *
    refine h.imp (fun h => ?_) (fun h => ?_)
    · split
      · rename_i v hv; rw [hv] at h; exact hq _ _ h
      · rename_i hv; rw [hv] at h; exact h
    · split
      · rename_i v hv; rw [hv] at h; exact hq _ _ h
      · rename_i hv; rw [hv] at h; exact h
  | call dst f args =>
    simp only [wone] at *
    exact callK_mono (fun v s => hq v s) h
  | callv dst f args =>
    simp only [wone] at *
    split
    · rename_i g first caps hf; rw [hf] at h; exact callK_mono (fun v s => hq v s) h
    · rename_i hn
      split at h
      · rename_i g first caps hf; exact (hn _ _ _ hf).elim
      · exact h
  | «when» s want body => simp [Ins.simple] at hi

/-- Instructions one by one, each under its guard. -/
def wg (K : CallP) (cx : Cx) : List (Option (Nat × Bool) × Ins) → Env → St → (Env → St → Prop) → Prop
  | [], e, σ, Q => Q e σ
  | (none, i) :: r, e, σ, Q => wone K cx i e σ fun e' σ' => wg K cx r e' σ' Q
  | (some (s, want), i) :: r, e, σ, Q => wone K cx (.when s want [i]) e σ fun e' σ' => wg K cx r e' σ' Q

theorem get_put_ne {e : Env} {dst : Option Nat} {s : Nat} (h : dst ≠ some s) (v : V) : (putE e dst v).get s = e.get s := by
  cases dst with
  | none => rfl
  | some t =>
    simp only [putE]
    rw [Env.get_set, if_neg (fun e => h (by rw [e]))]

theorem goneOne_simple {i : Ins} (hi : i.simple = true) (e : Env) : goneOne i e = putE e i.dst .gone := by
  cases i with
  | «when» => simp [Ins.simple] at hi
  | _ => rfl

theorem wwhen_mono {K : CallP} {cx : Cx} {s : Nat} {want : Bool} {i : Ins} (hi : i.simple = true) {e : Env} {σ : St} {Q Q' : Env → St → Prop} (hq : ∀ e' s', Q e' s' → Q' e' s') (h : wone K cx (.when s want [i]) e σ Q) : wone K cx (.when s want [i]) e σ Q' := by
  simp only [wone, wins] at *
  split
  · rename_i b hb
    rw [hb] at h
    simp only at h
    split
    · rename_i hw; rw [if_pos hw] at h; exact wone_mono_dst hi (fun v s => hq _ _) h
    · rename_i hw; rw [if_neg hw] at h; exact hq _ _ h
  · rename_i hb; rw [hb] at h; exact hq _ _ h
  · rename_i hn1 hn2
    split at h
    · rename_i b hb; exact (hn1 _ hb).elim
    · rename_i hb; exact (hn2 hb).elim
    · exact h

theorem group_wg {K : CallP} {cx : Cx} {Q : Env → St → Prop} : ∀ (l : List (Option (Nat × Bool) × Ins)), (∀ p ∈ l, p.2.simple = true) → ∀ (e : Env) (σ : St), wins K cx (group l) e σ Q → wg K cx l e σ Q
  | [], _, e, σ, h => by simpa [group, wins, wg] using h
  | (none, i) :: r, hl, e, σ, h => by
    have hi := hl (none, i) (by simp)
    have ih := group_wg (K := K) (cx := cx) (Q := Q) r (fun p hp => hl p (by simp [hp]))
    simp only [group, wins, wg] at *
    exact wone_mono_dst hi (fun v s => ih _ _) h
  | (some (s, w), i) :: r, hl, e, σ, h => by
    have hi : i.simple = true := hl (some (s, w), i) (by simp)
    have ih := group_wg (K := K) (cx := cx) (Q := Q) r (fun p hp => hl p (by simp [hp]))
    have plain : wins K cx (.when s w [i] :: group r) e σ Q → wg K cx ((some (s, w), i) :: r) e σ Q := fun h => by
      simp only [wins, wg] at h ⊢
      exact wwhen_mono hi (fun _ _ => ih _ _) h
    simp only [group] at h
    split at h
    · rename_i s' w' body r' hg
      split at h
      · rename_i hc
        obtain ⟨rfl, rfl, hd⟩ := hc
        simp only [wg, wins, wone] at h ⊢
        split
        · rename_i b hb
          rw [hb] at h
          simp only at h
          split
          · rename_i hw
            rw [if_pos hw] at h
            refine wone_mono_dst hi (fun v s1 hq => ih _ _ ?_) h
            rw [hg]
            simp only [wins, wone]
            rw [get_put_ne hd, hb]
            simp only
            rw [if_pos hw]
            exact hq
          · rename_i hw
            rw [if_neg hw] at h
            simp only [goneAll] at h ⊢
            refine ih _ _ ?_
            rw [hg]
            simp only [wins, wone]
            rw [goneOne_simple hi, get_put_ne hd, hb]
            simp only
            rw [if_neg hw, ← goneOne_simple hi]
            exact h
        · rename_i hb
          rw [hb] at h
          simp only [goneAll] at h ⊢
          refine ih _ _ ?_
          rw [hg]
          simp only [wins, wone]
          rw [goneOne_simple hi, get_put_ne hd, hb]
          simp only
          rw [← goneOne_simple hi]
          exact h
        · rename_i hn1 hn2
          split at h
          · rename_i b hb; exact (hn1 _ hb).elim
          · rename_i hb; exact (hn2 hb).elim
          · exact h
      · rw [← hg] at h
        exact plain h
    · rename_i hn
      exact plain h

end Go.Dn
