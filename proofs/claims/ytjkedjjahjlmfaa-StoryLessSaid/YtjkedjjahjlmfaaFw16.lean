/- The theorem on operations that leave the store alone. -/
import Derived.Test.YtjkedjjahjlmfaaFw15
namespace Go.Dn
open Go.Lib
set_option linter.unusedVariables false
set_option linter.unusedSimpArgs false

variable {P : Program} {g : Gh} {σ : St} {tk : List Nat} {w : World}

/-- The same of a machine's step. -/
def NStep (P : Program) (g : Gh) (σ : St) (w : World) (s : Sem Next) (v : V) : Prop :=
  ∃ cv w' g', s.run P w = .ok (.value cv) w' ∧ Sim g' σ w' ∧ VR g' σ.toks w' v cv ∧ Ev g σ w g' σ w'

theorem PStep.next {s : Sem Value} {v : V} (h : PStep P g σ w s v) : NStep P g σ w (do pure (.value (← s))) v := by
  obtain ⟨cv, w', g', h1, h2⟩ := h
  exact ⟨cv, w', g', by simp [h1], h2⟩

theorem NStep.pure (hs : Sim g σ w) {v : V} {cv : Value} (h : VR g σ.toks w v cv) : NStep P g σ w (pure (.value cv)) v := ⟨cv, w, g, rfl, hs, h, Ev.refl _ _ _⟩

theorem opt_rel {n : Nat} {e : Env} {a : Act} (he : EnvR g tk w n e a.tmps) {x : Option Operand} {x' : Option Opd} (h : optOpd x = some x') : OptR g tk w (x'.map (Opd.ev e)) (x.map a.eval) := by
  cases x with
  | none => simp [optOpd] at h; subst h; trivial
  | some y =>
    simp only [optOpd] at h
    split at h
    · rename_i a' hy
      cases h
      exact opd_rel hy he
    · cases h

theorem opds_vrs {n : Nat} {e : Env} {a : Act} (he : EnvR g tk w n e a.tmps) : ∀ {xs : List Operand} {l : List Opd}, compOpds xs = some l → VRs g tk w (l.map (Opd.ev e)) (xs.map a.eval)
  | [], l, h => by simp [compOpds] at h; subst h; trivial
  | x :: r, l, h => by
    unfold compOpds at h
    split at h
    · rename_i a' l' hx hl
      cases h
      exact ⟨opd_rel hx he, opds_vrs he hl⟩
    · cases h

theorem builtin_next {b : Builtin} {args : Array Operand} {argTypes : Array TypeId} {o : Oper} {a : Act} (ho : o.op = .call { callee := .builtin b, args, argTypes }) {s : Sem Value} {v : V}
    (hb : ∀ consts, Go.builtin b argTypes o.type consts (args.map a.eval) = (do pure (.value (← s)))) (h : PStep P g σ w s v) : NStep P g σ w (execOp a.eval o) v := by
  obtain ⟨cv, w', g', h1, h2⟩ := h.next
  refine ⟨cv, w', g', ?_, h2⟩
  unfold execOp
  simp only [ho, resolve, Sem.run_bind, Sem.run_pure, Result.andThen_ok, invoke]
  rw [hb]
  exact h1

theorem ite_some {α : Type} {c : Prop} [Decidable c] {x : Option α} {y : α} (h : (if c then x else none) = some y) : c ∧ x = some y := by
  split at h
  · exact ⟨by assumption, h⟩
  · cases h

theorem evalP_rel (hs : Sim g σ w) {n : Nat} {e : Env} {a : Act} (he : EnvR g σ.toks w n e a.tmps) {o : Oper} {dst : Option Nat} {op : POp} (hc : compOp P o = some (.p dst op)) {v : V} (h : evalP op e σ = some v) :
    dst = o.dst ∧ NStep P g σ w (execOp a.eval o) v := by
  have rel : ∀ {x : Operand} {x' : Opd}, compOpd x = some x' → VR g σ.toks w (x'.ev e) (a.eval x) := fun hx => opd_rel hx he
  obtain ⟨od, oop, oty, opos, oaft, ogd⟩ := o
  cases oop <;> simp only [compOp] at hc
  case move x =>
    split at hc
    · rename_i x' hx
      simp only [Option.some.injEq, Ins.p.injEq] at hc
      obtain ⟨rfl, rfl⟩ := hc
      simp only [evalP, Option.some.injEq] at h
      subst h
      exact ⟨rfl, NStep.pure hs (rel hx)⟩
    · cases hc
  case assign x =>
    split at hc
    · rename_i x' hx
      simp only [Option.some.injEq, Ins.p.injEq] at hc
      obtain ⟨rfl, rfl⟩ := hc
      simp only [evalP, Option.some.injEq] at h
      subst h
      exact ⟨rfl, NStep.pure hs (rel hx)⟩
    · cases hc
  case pick c x y =>
    split at hc
    · rename_i c' hcc
      split at hc
      · rename_i x' y' hx hy
        simp only [Option.some.injEq, Ins.p.injEq] at hc
        obtain ⟨rfl, rfl⟩ := hc
        simp only [evalP] at h
        refine ⟨rfl, ?_⟩
        split at h
        · rename_i t ht
          cases h
          have hb := rel hcc
          rw [ht] at hb
          have hb := hb.inv_bool
          refine ⟨_, w, g, ?_, hs, (?_ : VR g σ.toks w _ (if t then a.eval x else a.eval y)), Ev.refl _ _ _⟩
          · simp only [execOp, hb, asBool, Sem.run_bind, Sem.run_pure, Result.andThen_ok]
          · cases t
            · simpa using rel hy
            · simpa using rel hx
        · cases h
      · cases hc
    · cases hc
  case alloc => split at hc <;> cases hc
  case box => split at hc <;> cases hc
  case build t parts =>
    split at hc
    · rename_i z l hz hl
      obtain ⟨hok, hc⟩ := ite_some hc
      simp only [Option.some.injEq, Ins.p.injEq] at hc
      obtain ⟨rfl, rfl⟩ := hc
      simp only [evalP] at h
      split at h
      · rename_i cs hcs
        cases h
        exact ⟨rfl, (build_rel hs he hz hl hok hcs).next⟩
      · cases h
    · cases hc
  case buildSlice t len parts =>
    split at hc
    · rename_i el hu
      split at hc
      · rename_i z l hz hl
        split at hc
        · cases hc
        · rename_i hcnd
          simp only [not_or, Decidable.not_not] at hcnd
          simp only [Option.some.injEq, Ins.p.injEq] at hc
          obtain ⟨rfl, rfl⟩ := hc
          simp only [evalP] at h
          split at h
          · rename_i cs hcs
            split at h
            · rename_i ds hds
              cases h
              exact ⟨rfl, (bslice_rel hs he hu hz hl hcnd.1 hcnd.2.1 hcnd.2.2 hcs hds).next⟩
            · cases h
          · cases h
      · cases hc
    · cases hc
  case insert => cases hc
  case load t x =>
    obtain ⟨hok, hc⟩ := ite_some hc
    split at hc
    · rename_i x' hx
      simp only [Option.some.injEq, Ins.p.injEq] at hc
      obtain ⟨rfl, rfl⟩ := hc
      obtain ⟨cv, h1, h2⟩ := loadAt_rel hs hok (rel hx) h
      exact ⟨rfl, (PStep.still hs h1 h2).next⟩
    · cases hc
  case store =>
    exfalso; revert hc; (repeat' split) <;> simp
  case ready => cases hc
  case waits => cases hc
  case nilCheck x =>
    split at hc
    · rename_i x' hx
      simp only [Option.some.injEq, Ins.p.injEq] at hc
      obtain ⟨rfl, rfl⟩ := hc
      simp only [evalP] at h
      refine ⟨rfl, ?_⟩
      have hr := rel hx
      generalize x'.ev e = y at h hr
      unfold nilCheckV at h
      split at h
      · cases h
        refine ⟨_, w, g, ?_, hs, hr, Ev.refl _ _ _⟩
        have : ∃ q, a.eval x = .pointer (some q) := by generalize a.eval x = z at hr; cases hr; exact ⟨_, rfl⟩
        obtain ⟨q, hq⟩ := this
        simp [execOp, hq]
      · cases h
        refine ⟨_, w, g, ?_, hs, hr, Ev.refl _ _ _⟩
        have : ∃ q, a.eval x = .pointer (some q) := by generalize a.eval x = z at hr; cases hr; exact ⟨_, rfl⟩
        obtain ⟨q, hq⟩ := this
        simp [execOp, hq]
      · cases h
        refine ⟨_, w, g, ?_, hs, hr, Ev.refl _ _ _⟩
        have : ∃ k f' c', a.eval x = .func (.func k) f' c' := by generalize a.eval x = z at hr; cases hr; exact ⟨_, _, _, rfl⟩
        obtain ⟨k, f', c', hq⟩ := this
        simp [execOp, hq]
      · cases h
    · cases hc
  case binOp bop t x y yt =>
    split at hc
    · rename_i ty ks ht
      split at hc
      · rename_i x' y' hx hy
        simp only [Option.some.injEq, Ins.p.injEq] at hc
        obtain ⟨rfl, rfl⟩ := hc
        obtain ⟨cv, h1, h2⟩ := evalBin_rel ht hx hy (rel hx) (rel hy) h
        exact ⟨rfl, (PStep.still hs h1 h2).next⟩
      · cases hc
    · cases hc
  case unOp uop t x =>
    split at hc
    · rename_i x' hx
      simp only [Option.some.injEq, Ins.p.injEq] at hc
      obtain ⟨rfl, rfl⟩ := hc
      obtain ⟨cv, h1, h2⟩ := evalUn_rel (P := P) (rel hx) h
      exact ⟨rfl, (PStep.still hs h1 h2).next⟩
    · cases hc
  case convert src dt x =>
    split at hc
    · rename_i k hk
      split at hc
      · rename_i x' hx
        simp only [Option.some.injEq, Ins.p.injEq] at hc
        obtain ⟨rfl, rfl⟩ := hc
        exact ⟨rfl, (conv_rel hs hk (rel hx) h).next⟩
      · cases hc
    · cases hc
  case sliceToArrayPointer => cases hc
  case makeInterface t x =>
    obtain ⟨hok, hc⟩ := ite_some hc
    split at hc
    · rename_i x' hx
      simp only [Option.some.injEq, Ins.p.injEq] at hc
      obtain ⟨rfl, rfl⟩ := hc
      exact ⟨rfl, (mkif_rel hs hok (rel hx) h).next⟩
    · cases hc
  case makeFunc f first caps =>
    split at hc
    · rename_i l1 l2 h1 h2
      simp only [Option.some.injEq, Ins.p.injEq] at hc
      obtain ⟨rfl, rfl⟩ := hc
      simp only [evalP, Option.some.injEq] at h
      subst h
      refine ⟨rfl, (PStep.still hs (cv := .func f (first.map a.eval) (caps.map a.eval)) (by simp [Instr.makeFunc]) ?_).next⟩
      have v1 := opds_vrs he h1
      have v2 := opds_vrs he h2
      exact .fn _ _ _ _ _ (by have := v1.length; simpa using this) (by have := v2.length; simpa using this) (fun i c v hc hv => v1.get i c v hc (by simpa using hv)) (fun i c v hc hv => v2.get i c v hc (by simpa using hv))
    · cases hc
  case makeMap t r => cases r <;> cases hc
  case makeChan => cases hc
  case makeSlice =>
    split at hc
    · split at hc
      · split at hc <;> cases hc
      · cases hc
    · cases hc
  case slice t x lo hi mx =>
    split at hc
    · rename_i hu hl hh hm
      split at hc
      · rename_i x' hx
        simp only [Option.some.injEq, Ins.p.injEq] at hc
        obtain ⟨rfl, rfl⟩ := hc
        have hmx : mx = none := by
          cases mx with
          | none => rfl
          | some m => simp [optOpd] at hm; split at hm <;> simp at hm
        subst hmx
        exact ⟨rfl, (sliceStr_rel hs hu (rel hx) (opt_rel he hl) (opt_rel he hh) h).next⟩
      · cases hc
    · rename_i el hu hl hh hm
      split at hc
      · cases hc
      · rename_i hcell
        split at hc
        · rename_i x' hx
          simp only [Option.some.injEq, Ins.p.injEq] at hc
          obtain ⟨rfl, rfl⟩ := hc
          exact ⟨rfl, (slice_rel hs hu hcell (rel hx) (opt_rel he hl) (opt_rel he hh) (opt_rel he hm) h).next⟩
        · cases hc
    · rename_i n' el hu hl hh hm
      split at hc
      · cases hc
      · rename_i hcell
        split at hc
        · rename_i x' hx
          simp only [Option.some.injEq, Ins.p.injEq] at hc
          obtain ⟨rfl, rfl⟩ := hc
          have hmx : mx = none := by
            cases mx with
            | none => rfl
            | some m => simp [optOpd] at hm; split at hm <;> simp at hm
          subst hmx
          exact ⟨rfl, (sliceArr_rel hs hu hcell (rel hx) (opt_rel he hl) (opt_rel he hh) h).next⟩
        · cases hc
    · cases hc
  case fieldAddr t x i =>
    split at hc
    · rename_i off ft hf
      split at hc
      · rename_i x' hx
        simp only [Option.some.injEq, Ins.p.injEq] at hc
        obtain ⟨rfl, rfl⟩ := hc
        exact ⟨rfl, (faddr_rel hs hf (rel hx) h).next⟩
      · cases hc
    · cases hc
  case field t x i =>
    split at hc
    · rename_i off ft hf
      split at hc
      · rename_i x' hx
        simp only [Option.some.injEq, Ins.p.injEq] at hc
        obtain ⟨rfl, rfl⟩ := hc
        exact ⟨rfl, (field_rel hs hf (rel hx) h).next⟩
      · cases hc
    · cases hc
  case indexAddr t x i =>
    split at hc
    · rename_i el hu
      split at hc
      · cases hc
      · rename_i hcell
        split at hc
        · rename_i x' i' hx hi
          simp only [Option.some.injEq, Ins.p.injEq] at hc
          obtain ⟨rfl, rfl⟩ := hc
          exact ⟨rfl, (iaddr_rel hs hu hcell (rel hx) (rel hi) h).next⟩
        · cases hc
    · rename_i n' el hu
      split at hc
      · cases hc
      · rename_i hcell
        split at hc
        · rename_i x' i' hx hi
          simp only [Option.some.injEq, Ins.p.injEq] at hc
          obtain ⟨rfl, rfl⟩ := hc
          exact ⟨rfl, (iaddrArr_rel hs hu hcell (rel hx) (rel hi) h).next⟩
        · cases hc
    · cases hc
  case index t x i =>
    split at hc
    · rename_i hu
      split at hc
      · rename_i x' i' hx hi
        simp only [Option.some.injEq, Ins.p.injEq] at hc
        obtain ⟨rfl, rfl⟩ := hc
        exact ⟨rfl, (indexStr_rel hs hu (rel hx) (rel hi) h).next⟩
      · cases hc
    · rename_i n' el hu
      split at hc
      · cases hc
      · rename_i hcell
        simp only [not_or, Bool.not_eq_false] at hcell
        split at hc
        · rename_i x' i' hx hi
          simp only [Option.some.injEq, Ins.p.injEq] at hc
          obtain ⟨rfl, rfl⟩ := hc
          exact ⟨rfl, (index_rel hs hu hcell.2 (rel hx) (rel hi) h).next⟩
        · cases hc
    · cases hc
  case lookup t x k ok =>
    split at hc
    · split at hc
      · split at hc
        · rename_i z hz x' k' hx hk
          simp only [Option.some.injEq, Ins.p.injEq] at hc
          obtain ⟨rfl, rfl⟩ := hc
          simp [evalP] at h
        · cases hc
      · cases hc
    · cases hc
  case mapUpdate => split at hc <;> cases hc
  case mapEntry => cases hc
  case entryStore => cases hc
  case range => cases hc
  case next => cases hc
  case entry => cases hc
  case typeAssert x xt t ok =>
    split at hc
    · rename_i z hz
      obtain ⟨hct, hc⟩ := ite_some hc
      split at hc
      · rename_i x' hx
        simp only [Option.some.injEq, Ins.p.injEq] at hc
        obtain ⟨rfl, rfl⟩ := hc
        exact ⟨rfl, (assert_rel hs hz hct (rel hx) h).next⟩
      · cases hc
    · cases hc
  case extract x i =>
    split at hc
    · rename_i x' hx
      simp only [Option.some.injEq, Ins.p.injEq] at hc
      obtain ⟨rfl, rfl⟩ := hc
      exact ⟨rfl, (extract_rel hs (rel hx) h).next⟩
    · cases hc
  case call c =>
    obtain ⟨callee, args, argTypes⟩ := c
    unfold compCall at hc
    split at hc
    case h_3 b hb =>
      simp only at hb
      subst hb
      unfold compBuiltin at hc
      split at hc
      case h_1 =>
        simp only at hc
        split at hc
        · rename_i t x ht hx
          have hargs : args.toList.map a.eval = (args.map a.eval).toList := by simp
          have hv := opds_vrs he hx
          rw [hargs] at hv
          have h1 : ∃ cx, args.map a.eval = #[cx] ∧ VR g σ.toks w (x.ev e) cx := by
            match hm : (args.map a.eval).toList, hv with
            | [cx], hv => exact ⟨cx, by apply Array.ext'; simpa using hm, hv.1⟩
            | [], hv => exact hv.elim
            | _ :: _ :: _, hv => exact hv.2.elim
          obtain ⟨cx, hcx, hvr⟩ := h1
          have hat : ∃ rest, argTypes = (t :: rest).toArray := by
            cases hl : argTypes.toList with
            | nil => have : argTypes = #[] := by apply Array.ext'; simpa using hl
                     subst this; simp at ht
            | cons u r =>
              have : argTypes = (u :: r).toArray := by apply Array.ext'; simpa using hl
              subst this
              simp at ht
              subst ht
              exact ⟨r, rfl⟩
          have hlen0 : ∀ {ty : Ty} {m : Nat}, ((ty = .str ∧ P.underlying t = some .string) ∨ (ty = .slice ∧ ∃ e, P.underlying t = some (.slice e)) ∨ (ty = .map ∧ ∃ k e, P.underlying t = some (.map k e))) → lenT σ ty (x.ev e) = some m → PStep P g σ w (Builtin.len_ argTypes oty #[cx]) (.d (.int .i64 m)) := by
            intro ty m h1 h2
            obtain ⟨cv, w', g', r1, r2⟩ := len_rel (P := P) hs h1 hvr h2 oty
            refine ⟨cv, w', g', ?_, r2⟩
            unfold Builtin.len_ at r1 ⊢
            simp only [ht]
            simpa using r1
          split at hc
          · rename_i n' el hu
            simp only [Option.some.injEq, Ins.p.injEq] at hc
            obtain ⟨rfl, rfl⟩ := hc
            simp only [evalP, Option.some.injEq] at h
            subst h
            refine ⟨rfl, builtin_next rfl (s := Builtin.len_ argTypes oty #[cx]) (fun _ => by rw [hcx]; rfl) ?_⟩
            refine PStep.still hs (cv := .int .i64 n') ?_ (.int _ _)
            unfold Builtin.len_
            simp [ht, run_underlying hu, goInt]
          · rename_i hu
            simp only [Option.some.injEq, Ins.p.injEq] at hc
            obtain ⟨rfl, rfl⟩ := hc
            simp only [evalP] at h
            split at h
            · cases h
              exact ⟨rfl, builtin_next rfl (s := Builtin.len_ argTypes oty #[cx]) (fun _ => by rw [hcx]; rfl) (hlen0 (.inl ⟨rfl, hu⟩) (by assumption))⟩
            · cases h
          · rename_i el hu
            simp only [Option.some.injEq, Ins.p.injEq] at hc
            obtain ⟨rfl, rfl⟩ := hc
            simp only [evalP] at h
            split at h
            · cases h
              exact ⟨rfl, builtin_next rfl (s := Builtin.len_ argTypes oty #[cx]) (fun _ => by rw [hcx]; rfl) (hlen0 (.inr (.inl ⟨rfl, el, hu⟩)) (by assumption))⟩
            · cases h
          · rename_i k el hu
            simp only [Option.some.injEq, Ins.p.injEq] at hc
            obtain ⟨rfl, rfl⟩ := hc
            simp only [evalP] at h
            split at h
            · cases h
              exact ⟨rfl, builtin_next rfl (s := Builtin.len_ argTypes oty #[cx]) (fun _ => by rw [hcx]; rfl) (hlen0 (.inr (.inr ⟨rfl, k, el, hu⟩)) (by assumption))⟩
            · cases h
          · cases hc
        · cases hc
      case h_5 =>
        split at hc
        · rename_i l hx
          simp only [Option.some.injEq, Ins.p.injEq] at hc
          obtain ⟨rfl, rfl⟩ := hc
          have hv := opds_vrs he hx
          rw [show args.toList.map a.eval = (args.map a.eval).toList by simp] at hv
          exact ⟨rfl, builtin_next rfl (s := Builtin.min_ argTypes oty (args.map a.eval)) (fun _ => rfl) (min_rel hs hv h _ _)⟩
        · cases hc
      case h_6 =>
        split at hc
        · rename_i l hx
          simp only [Option.some.injEq, Ins.p.injEq] at hc
          obtain ⟨rfl, rfl⟩ := hc
          have hv := opds_vrs he hx
          rw [show args.toList.map a.eval = (args.map a.eval).toList by simp] at hv
          exact ⟨rfl, builtin_next rfl (s := Builtin.max_ argTypes oty (args.map a.eval)) (fun _ => rfl) (max_rel hs hv h _ _)⟩
        · cases hc
      all_goals (exfalso; revert hc; (repeat' split) <;> simp)
    all_goals (exfalso; revert hc; (repeat' split) <;> simp)
  case go => cases hc
  case defer => cases hc
  case panic => cases hc
  case send => cases hc
  case recv => cases hc
  case select => cases hc

end Go.Dn
