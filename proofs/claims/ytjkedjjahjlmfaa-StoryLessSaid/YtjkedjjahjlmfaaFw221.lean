/- append, its other way. -/
import Derived.Test.YtjkedjjahjlmfaaFw22
import Derived.Test.YtjkedjjahjlmfaaFw212
namespace Go.Dn
open Go.Lib
set_option linter.unusedVariables false
set_option linter.unusedSimpArgs false

variable {P : Program} {g : Gh} {σ : St} {w : World}

theorem evalM_rel (hs : Sim g σ w) {n : Nat} {e : Env} {a : Act} (he : EnvR g σ.toks w n e a.tmps) {o : Oper} {dst : Option Nat} {op : EOp} (hc : compOp P o = some (.e dst op)) {v : V} {tg : Option Nat} {σ' : St} (h : evalM op e σ tg = some (v, σ')) :
    dst = o.dst ∧ XStep P g σ w (execOp a.eval o) v σ' := by
  have rel : ∀ {x : Operand} {x' : Opd}, compOpd x = some x' → VR g σ.toks w (x'.ev e) (a.eval x) := fun hx => opd_rel hx he
  obtain ⟨od, oop, oty, opos, oaft, ogd⟩ := o
  cases oop <;> simp only [compOp] at hc
  case call c =>
    obtain ⟨callee, args, argTypes⟩ := c
    simp only [compCall] at hc
    split at hc
    case h_3 cal b =>
      unfold compBuiltin at hc
      split at hc
      case h_2 =>
        split at hc
        · rename_i t xT xa xb ht hxT hx
          have hargs : args.toList.map a.eval = (args.map a.eval).toList := by simp
          have hv := opds_vrs he hx
          rw [hargs] at hv
          have h1 : ∃ cx cy, args.map a.eval = #[cx, cy] ∧ VR g σ.toks w (xa.ev e) cx ∧ VR g σ.toks w (xb.ev e) cy := by
            match hm : (args.map a.eval).toList, hv with
            | [cx, cy], hv => exact ⟨cx, cy, by apply Array.ext'; simpa using hm, hv.1, hv.2.1⟩
            | [], hv => exact hv.elim
            | [_], hv => exact hv.2.elim
            | _ :: _ :: _ :: _, hv => exact hv.2.2.elim
          obtain ⟨cx, cy, hcx, hvr, hvr'⟩ := h1
          split at hc
          · rename_i el hu
            split at hc
            · rename_i el' hu'
              split at hc
              · rename_i hg
                simp only [Option.some.injEq, Ins.e.injEq] at hc
                obtain ⟨rfl, rfl⟩ := hc
                simp only [evalM] at h
                split at h
                · rename_i ys hys
                  refine ⟨rfl, builtin_xnext rfl (s := Builtin.append_ #[t, xT] oty #[cx, cy]) (fun _ => by rw [hcx]; simp only [Go.builtin]; rw [append_args ht hxT]) ?_⟩
                  have hpos : 0 < P.cellsOf el := by
                    obtain ⟨_, _, _, _, _, _, h0, _⟩ := growOk_inv hg
                    omega
                  by_cases hfit : fitR (P.cellsOf el) ys = true
                  · obtain ⟨news, hn⟩ := src_rows (P := P) (rows_rel hs hvr' hys) hpos hfit
                    exact appendM_rel hs hu hg hu' (fun k => by simp) hvr (fun _ => hn) h
                  · unfold appendM at h
                    simp [hfit] at h
                · cases h
              · cases hc
            · rename_i hu'
              split at hc
              · rename_i hg
                simp only [Option.some.injEq, Ins.e.injEq] at hc
                obtain ⟨rfl, rfl⟩ := hc
                simp only [evalM] at h
                split at h
                · rename_i l hl
                  refine ⟨rfl, builtin_xnext rfl (s := Builtin.append_ #[t, xT] oty #[cx, cy]) (fun _ => by rw [hcx]; simp only [Go.builtin]; rw [append_args ht hxT]) ?_⟩
                  rw [hl] at hvr'
                  cases hvr'.inv_d
                  obtain ⟨news, hn⟩ := src_str (P := P) (w := w) (f := g.frz) l
                  have := appendM_rel (t := t) (xT := xT) (ty := oty) (cx := .string ⟨l.toArray⟩) (news := news) (ys := byteRows l) hs hu hg.1 hu' (fun k => by simp) hvr (fun _ => by rw [hg.2.1]; exact hn) (tg := tg) (v := v) (σ' := σ') (by rw [hg.2.1, hg.2.2]; exact h)
                  exact this
                · cases h
              · cases hc
            · split at hc
              · simp only [Option.some.injEq, Ins.e.injEq] at hc
                obtain ⟨rfl, rfl⟩ := hc
                simp [evalM] at h
              · cases hc
            · cases hc
          · cases hc
        · cases hc
      all_goals (exfalso; (repeat' (split at hc)) <;> first | (cases hc; done) | (simp only [Option.some.injEq, Ins.e.injEq] at hc; obtain ⟨rfl, rfl⟩ := hc; simp [evalM] at h; done) | (simp at hc; done))
    all_goals (exfalso; (repeat' (split at hc)) <;> first | (cases hc; done) | (simp only [Option.some.injEq, Ins.e.injEq] at hc; obtain ⟨rfl, rfl⟩ := hc; simp [evalM] at h; done) | (simp at hc; done))
  case makeSlice t xl xc =>
    split at hc
    · rename_i el hu
      split at hc
      · rename_i z xl' xc' hz hxl hxc
        split at hc
        · cases hc
        · rename_i hg
          simp only [Bool.not_eq_false] at hg
          simp only [Option.some.injEq, Ins.e.injEq] at hc
          obtain ⟨rfl, rfl⟩ := hc
          simp only [evalM] at h
          split at h
          · rename_i k l k' c hl hcc
            split at h
            · rename_i hcnd
              obtain ⟨rfl, rfl, h0, rfl, hb, h63⟩ := hcnd
              cases h
              have rl := rel hxl
              have rc := rel hxc
              rw [hl] at rl
              rw [hcc] at rc
              have e1 := rl.inv_int
              have e2 := rc.inv_int
              refine ⟨rfl, ?_⟩
              have := (makeSlice_relF (P := P) hs hu hg hz h0 hb h63).next
              simpa [execOp, e1, e2] using this
            · cases h
          · cases h
      · cases hc
    · cases hc
  case makeMap t r =>
    cases r with
    | none =>
      simp only [Option.some.injEq, Ins.e.injEq] at hc
      obtain ⟨rfl, rfl⟩ := hc
      simp [evalM] at h
    | some x => cases hc
  all_goals (exfalso; (repeat' (split at hc)) <;> first | (cases hc; done) | (simp only [Option.some.injEq, Ins.e.injEq] at hc; obtain ⟨rfl, rfl⟩ := hc; simp [evalM] at h; done) | (simp at hc; done))

end Go.Dn
