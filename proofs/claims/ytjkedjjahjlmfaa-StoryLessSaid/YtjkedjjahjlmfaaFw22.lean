/- Every operation that turns the store, taken together. -/
import Derived.Test.YtjkedjjahjlmfaaFw211
namespace Go.Dn
open Go.Lib
set_option linter.unusedVariables false
set_option linter.unusedSimpArgs false

variable {P : Program} {g : Gh} {σ : St} {w : World}

/-- What an operation that turns the store comes to. -/
def XStep (P : Program) (g : Gh) (σ : St) (w : World) (s : Sem Next) (v : V) (σ' : St) : Prop :=
  ∃ cv w' g', (s.run P w = .ok (.value cv) w' ∨ (s.run P w = .ok .skip w' ∧ cv = undef)) ∧ Sim g' σ' w' ∧ VR g' σ'.toks w' v cv ∧ Ev g σ w g' σ' w'

theorem EStep.next {s : Sem Value} {v : V} {σ' : St} (h : EStep P g σ w s v σ') : XStep P g σ w (do pure (.value (← s))) v σ' := by
  obtain ⟨cv, w', g', h1, h2⟩ := h
  exact ⟨cv, w', g', .inl (by simp [Sem.run_bind, h1]), h2⟩

theorem builtin_xnext {b : Builtin} {args : Array Operand} {argTypes : Array TypeId} {o : Oper} {a : Act} (ho : o.op = .call { callee := .builtin b, args, argTypes }) {s : Sem Value} {v : V} {σ' : St}
    (hb : ∀ consts, Go.builtin b argTypes o.type consts (args.map a.eval) = (do pure (.value (← s)))) (h : EStep P g σ w s v σ') : XStep P g σ w (execOp a.eval o) v σ' := by
  obtain ⟨cv, w', g', h1, h2⟩ := h.next
  refine ⟨cv, w', g', ?_, h2⟩
  unfold execOp
  simp only [ho, resolve, Sem.run_bind, Sem.run_pure, Result.andThen_ok, invoke]
  rw [hb]
  exact h1

theorem append_args {argTypes : Array TypeId} {t xT ty : TypeId} (h0 : argTypes[0]? = some t) (h1 : argTypes[1]? = some xT) (args : Array Value) :
    Builtin.append_ argTypes ty args = Builtin.append_ #[t, xT] ty args := by
  unfold Builtin.append_
  simp [h0, h1]

theorem opd_pair {n : Nat} {e : Env} {a : Act} (he : EnvR g σ.toks w n e a.tmps) {args : Array Operand} {xa xb : Opd} (hx : compOpds args.toList = some [xa, xb]) : ∃ cx cy, args.map a.eval = #[cx, cy] ∧ VR g σ.toks w (xa.ev e) cx ∧ VR g σ.toks w (xb.ev e) cy := by
  have hargs : args.toList.map a.eval = (args.map a.eval).toList := by simp
  have hv := opds_vrs he hx
  rw [hargs] at hv
  match hm : (args.map a.eval).toList, hv with
  | [cx, cy], hv => exact ⟨cx, cy, by apply Array.ext'; simpa using hm, hv.1, hv.2.1⟩
  | [], hv => exact hv.elim
  | [_], hv => exact hv.2.elim
  | _ :: _ :: _ :: _, hv => exact hv.2.2.elim

theorem opd_single {n : Nat} {e : Env} {a : Act} (he : EnvR g σ.toks w n e a.tmps) {args : Array Operand} {xa : Opd} (hx : compOpds args.toList = some [xa]) : ∃ cx, args.map a.eval = #[cx] ∧ VR g σ.toks w (xa.ev e) cx := by
  have hargs : args.toList.map a.eval = (args.map a.eval).toList := by simp
  have hv := opds_vrs he hx
  rw [hargs] at hv
  match hm : (args.map a.eval).toList, hv with
  | [cx], hv => exact ⟨cx, by apply Array.ext'; simpa using hm, hv.1⟩
  | [], hv => exact hv.elim
  | _ :: _ :: _, hv => exact hv.2.elim

theorem copy_args {argTypes : Array TypeId} {t xT ty : TypeId} (h0 : argTypes[0]? = some t) (args : Array Value) :
    Builtin.copy_ argTypes ty args = Builtin.copy_ #[t, xT] ty args := by
  unfold Builtin.copy_
  simp [h0]

theorem clear_args {argTypes : Array TypeId} {t ty : TypeId} (h0 : argTypes[0]? = some t) (args : Array Value) :
    Builtin.clear_ argTypes ty args = Builtin.clear_ #[t] ty args := by
  unfold Builtin.clear_
  simp [h0]

theorem evalE_rel (hs : Sim g σ w) {n : Nat} {e : Env} {a : Act} (he : EnvR g σ.toks w n e a.tmps) {o : Oper} {dst : Option Nat} {op : EOp} (hc : compOp P o = some (.e dst op)) {v : V} {tg : Option Nat} {σ' : St} (h : evalE op e σ tg = some (v, σ')) :
    dst = o.dst ∧ XStep P g σ w (execOp a.eval o) v σ' := by
  have rel : ∀ {x : Operand} {x' : Opd}, compOpd x = some x' → VR g σ.toks w (x'.ev e) (a.eval x) := fun hx => opd_rel hx he
  obtain ⟨od, oop, oty, opos, oaft, ogd⟩ := o
  cases oop <;> simp only [compOp] at hc
  case alloc t =>
    split at hc
    · rename_i z hz
      simp only [Option.some.injEq, Ins.e.injEq] at hc
      obtain ⟨rfl, rfl⟩ := hc
      simp only [evalE] at h
      exact ⟨rfl, (alloc_rel hs hz h).next⟩
    · cases hc
  case box t x =>
    split at hc
    · rename_i x' hx
      simp only [Option.some.injEq, Ins.e.injEq] at hc
      obtain ⟨rfl, rfl⟩ := hc
      simp only [evalE] at h
      split at h
      · rename_i l hl
        exact ⟨rfl, (box_rel hs (rel hx) hl h).next⟩
      · cases h
    · cases hc
  case store t x y =>
    split at hc
    · rename_i x' y' hx hy
      split at hc
      · rename_i hok
        simp only [Option.some.injEq, Ins.e.injEq] at hc
        obtain ⟨rfl, rfl⟩ := hc
        simp only [evalE] at h
        split at h
        · rename_i r off hxe
          split at h
          · rename_i cs hr
            split at h
            · rename_i l hl
              split at h
              · rename_i hb
                cases h
                obtain ⟨w', r1, r2, r3⟩ := store_rel hs hok (rel hx) (rel hy) hxe hr hl hb.1 hb.2
                exact ⟨rfl, undef, w', g, .inr ⟨by simp [execOp, Sem.run_bind, r1], rfl⟩, r2, .gone, r3⟩
              · cases h
            · cases h
          · cases h
        · cases h
      · cases hc
    · cases hc
  case call c =>
    obtain ⟨callee, args, argTypes⟩ := c
    simp only [compCall] at hc
    split at hc
    case h_3 cal b =>
      unfold compBuiltin at hc
      split at hc
      case h_2 =>
        split at hc
        · rename_i t xT xa xb ht hxT hx
          have hargs : args.toList.map a.eval = (args.map a.eval).toList := by simp
          have hv := opds_vrs he hx
          rw [hargs] at hv
          have h1 : ∃ cx cy, args.map a.eval = #[cx, cy] ∧ VR g σ.toks w (xa.ev e) cx ∧ VR g σ.toks w (xb.ev e) cy := by
            match hm : (args.map a.eval).toList, hv with
            | [cx, cy], hv => exact ⟨cx, cy, by apply Array.ext'; simpa using hm, hv.1, hv.2.1⟩
            | [], hv => exact hv.elim
            | [_], hv => exact hv.2.elim
            | _ :: _ :: _ :: _, hv => exact hv.2.2.elim
          obtain ⟨cx, cy, hcx, hvr, hvr'⟩ := h1
          split at hc
          · rename_i el hu
            split at hc
            · rename_i el' hu'
              split at hc
              · rename_i hg
                simp only [Option.some.injEq, Ins.e.injEq] at hc
                obtain ⟨rfl, rfl⟩ := hc
                simp only [evalE] at h
                split at h
                · rename_i ys hys
                  refine ⟨rfl, builtin_xnext rfl (s := Builtin.append_ #[t, xT] oty #[cx, cy]) (fun _ => by rw [hcx]; simp only [Go.builtin]; rw [append_args ht hxT]) ?_⟩
                  have hpos : 0 < P.cellsOf el := by
                    obtain ⟨_, _, _, _, _, _, h0, _⟩ := growOk_inv hg
                    omega
                  by_cases hfit : fitR (P.cellsOf el) ys = true
                  · obtain ⟨news, hn⟩ := src_rows (P := P) (rows_rel hs hvr' hys) hpos hfit
                    exact append_rel hs hu hg hu' (fun k => by simp) hvr (fun _ => hn) h
                  · unfold appendV at h
                    simp [hfit] at h
                · cases h
              · cases hc
            · rename_i hu'
              split at hc
              · rename_i hg
                simp only [Option.some.injEq, Ins.e.injEq] at hc
                obtain ⟨rfl, rfl⟩ := hc
                simp only [evalE] at h
                split at h
                · rename_i l hl
                  refine ⟨rfl, builtin_xnext rfl (s := Builtin.append_ #[t, xT] oty #[cx, cy]) (fun _ => by rw [hcx]; simp only [Go.builtin]; rw [append_args ht hxT]) ?_⟩
                  rw [hl] at hvr'
                  cases hvr'.inv_d
                  obtain ⟨news, hn⟩ := src_str (P := P) (w := w) (f := g.frz) l
                  have := append_rel (t := t) (xT := xT) (ty := oty) (cx := .string ⟨l.toArray⟩) (news := news) (ys := byteRows l) hs hu hg.1 hu' (fun k => by simp) hvr (fun _ => by rw [hg.2.1]; exact hn) (tg := tg) (v := v) (σ' := σ') (by rw [hg.2.1, hg.2.2]; exact h)
                  exact this
                · cases h
              · cases hc
            · split at hc
              · simp only [Option.some.injEq, Ins.e.injEq] at hc
                obtain ⟨rfl, rfl⟩ := hc
                simp [evalE] at h
              · cases hc
            · cases hc
          · cases hc
        · cases hc
      case h_3 =>
        split at hc
        · rename_i t xT xa xb ht hxT hx
          obtain ⟨cx, cy, hcx, hvr, hvr'⟩ := opd_pair he hx
          split at hc
          · rename_i el el' hu hu'
            split at hc
            · cases hc
            · rename_i hne
              simp only [Option.some.injEq, Ins.e.injEq] at hc
              obtain ⟨rfl, rfl⟩ := hc
              simp only [evalE] at h
              split at h
              · rename_i ys hys
                refine ⟨rfl, builtin_xnext rfl (s := Builtin.copy_ #[t, xT] oty #[cx, cy]) (fun _ => by rw [hcx]; simp only [Go.builtin]; rw [copy_args (xT := xT) ht]) ?_⟩
                exact copy_rel hs hu hne hvr hvr' hys h
              · cases h
          · cases hc
        · cases hc
      case h_4 =>
        split at hc
        · rename_i t xa ht hx
          obtain ⟨cx, hcx, hvr⟩ := opd_single he hx
          split at hc
          · rename_i el hu
            split at hc
            · rename_i z hz
              split at hc
              · cases hc
              · rename_i hcnd
                simp only [not_or, Decidable.not_not, ne_eq] at hcnd
                simp only [Option.some.injEq, Ins.e.injEq] at hc
                obtain ⟨rfl, rfl⟩ := hc
                simp only [evalE] at h
                refine ⟨rfl, builtin_xnext rfl (s := Builtin.clear_ #[t] oty #[cx]) (fun _ => by rw [hcx]; simp only [Go.builtin]; rw [clear_args ht]) ?_⟩
                exact clear_rel hs hu hz hcnd.2 (by omega) hvr h
            · cases hc
          · cases hc
        · cases hc
      all_goals (exfalso; (repeat' (split at hc)) <;> first | (cases hc; done) | (simp only [Option.some.injEq, Ins.e.injEq] at hc; obtain ⟨rfl, rfl⟩ := hc; simp [evalE] at h; done) | (simp at hc; done))
    all_goals (exfalso; (repeat' (split at hc)) <;> first | (cases hc; done) | (simp only [Option.some.injEq, Ins.e.injEq] at hc; obtain ⟨rfl, rfl⟩ := hc; simp [evalE] at h; done) | (simp at hc; done))
  case makeSlice t xl xc =>
    split at hc
    · rename_i el hu
      split at hc
      · rename_i z xl' xc' hz hxl hxc
        split at hc
        · cases hc
        · rename_i hg
          simp only [Bool.not_eq_false] at hg
          simp only [Option.some.injEq, Ins.e.injEq] at hc
          obtain ⟨rfl, rfl⟩ := hc
          simp only [evalE] at h
          split at h
          · rename_i k l k' c hl hcc
            split at h
            · rename_i hcnd
              obtain ⟨rfl, rfl, h0, h1, hb, h63, hpos⟩ := hcnd
              have rl := rel hxl
              have rc := rel hxc
              rw [hl] at rl
              rw [hcc] at rc
              have e1 := rl.inv_int
              have e2 := rc.inv_int
              refine ⟨rfl, ?_⟩
              have := (makeSlice_rel (P := P) hs hu hg hz h0 h1 hb h63 h).next
              simpa [execOp, e1, e2] using this
            · cases h
          · cases h
      · cases hc
    · cases hc
  case makeMap t r =>
    cases r with
    | none =>
      simp only [Option.some.injEq, Ins.e.injEq] at hc
      obtain ⟨rfl, rfl⟩ := hc
      simp [evalE] at h
    | some x => cases hc
  all_goals (exfalso; (repeat' (split at hc)) <;> first | (cases hc; done) | (simp only [Option.some.injEq, Ins.e.injEq] at hc; obtain ⟨rfl, rfl⟩ := hc; simp [evalE] at h; done) | (simp at hc; done))

end Go.Dn
