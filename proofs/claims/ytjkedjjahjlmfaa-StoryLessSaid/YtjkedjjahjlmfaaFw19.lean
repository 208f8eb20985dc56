/- append. -/
import Derived.Test.YtjkedjjahjlmfaaFw18
namespace Go.Dn
open Go.Lib
set_option linter.unusedVariables false
set_option linter.unusedSimpArgs false

variable {P : Program} {g : Gh} {σ : St} {tk : List Nat} {w : World}

theorem run_append_fit' {t xT ty e : TypeId} {i : TypeInfo} (ht : P.underlying t = some (.slice e)) (hi : P.info? e = some i) {dx : TypeDesc} (hx : P.underlying xT = some dx) (hni : ∀ k, dx ≠ .int k) {a : Addr} {sLen sCap n : Nat} {cx : Value} {news : Array Value}
    (hlen : (Builtin.lenOf cx).run P w = .ok n w) (hnew : (Builtin.firstCells i.size n cx).run P w = .ok news w) (hfit : sLen + n ≤ sCap) :
    (Builtin.append_ #[t, xT] ty #[.slice (some a) sLen sCap, cx]).run P w = ((storeCells (a.add (sLen * i.size)) news.toList).run P w).andThen fun _ w' => .ok (.slice (some a) (sLen + n) sCap) w' := by
  have hz : (match dx with | .int _ => true | _ => false) = false := by cases dx <;> first | rfl | exact absurd rfl (hni _)
  simp [Builtin.append_, run_underlying ht, run_underlying hx, sizeOf, typeInfo, hi, hz, hlen, hnew, hfit]

theorem run_append_grow' {t xT ty e : TypeId} {i : TypeInfo} {z : Value} (ht : P.underlying t = some (.slice e)) (hi : P.info? e = some i) (hzv : i.zero = some z) {dx : TypeDesc} (hx : P.underlying xT = some dx) (hni : ∀ k, dx ≠ .int k) {base : Option Addr} {sLen sCap n : Nat} {cx : Value} {news olds : Array Value}
    (hlen : (Builtin.lenOf cx).run P w = .ok n w) (hnew : ∀ w', w'.heap = w.heap → (Builtin.firstCells i.size n cx).run P w' = .ok news w') (hold : ∀ w', w'.heap = w.heap → (Builtin.firstCells i.size sLen (.slice base sLen sCap)).run P w' = .ok olds w') (hgt : sCap < sLen + n)
    (h63 : sLen + n ≤ 9223372036854775807) (h48 : (sLen + n) * i.bytes ≤ 140737488355328) :
    (Builtin.append_ #[t, xT] ty #[.slice base sLen sCap, cx]).run P w = .ok (.slice (some ⟨w.heap.size, 0, none⟩) (sLen + n) (grownCap w (sLen + n) sCap e))
      (w.drew.alloc (.cells (olds ++ news ++ Builtin.zeroCells z.cells (grownCap w (sLen + n) sCap e - (sLen + n))) e)) := by
  have hz : (match dx with | .int _ => true | _ => false) = false := by cases dx <;> first | rfl | exact absurd rfl (hni _)
  have hnf : ¬ (sLen + n ≤ sCap) := by omega
  have h63' : ¬ ((9223372036854775807 : Int) < (sLen : Int) + (n : Int)) := by omega
  have hfit := growslice_fits hgt h48
  have h48' : ¬ (281474976710656 < Builtin.nextslicecap (sLen + n) sCap * i.bytes) := by omega
  have e1 : w.drew.heap = w.heap := rfl
  have hn1 := hnew w.drew e1
  have ho1 := hold w.drew e1
  simp [Builtin.append_, run_underlying ht, run_underlying hx, sizeOf, typeInfo, zeroValue, hi, hzv, hz, hlen, hnf, h63', h48', Question.forced, hn1, ho1, newRow, grownCap]

/-! ### what is appended -/

theorem flatten_get {sz : Nat} (hpos : 0 < sz) : ∀ (ys : List (List D)), (∀ (i : Nat) (row : List D), ys[i]? = some row → row.length = sz) → ∀ k, ys.flatten[k]? = (ys[k / sz]?).bind (·[k % sz]?)
  | [], _, k => by simp
  | y :: ys, h, k => by
    have h0 : y.length = sz := h 0 y rfl
    have ih := flatten_get hpos ys (fun i row hr => h (i + 1) row (by simpa using hr))
    simp only [List.flatten_cons]
    by_cases hk : k < sz
    · rw [List.getElem?_append_left (by omega), Nat.div_eq_of_lt hk, Nat.mod_eq_of_lt hk]
      rfl
    · rw [List.getElem?_append_right (by omega), ih, h0]
      have e1 : k / sz = (k - sz) / sz + 1 := by
        rw [Nat.div_eq_sub_div hpos (by omega)]
      have e2 : k % sz = (k - sz) % sz := Nat.mod_eq_sub_mod (by omega)
      rw [e1, e2]
      simp

theorem flatten_len {sz : Nat} : ∀ (ys : List (List D)), (∀ (i : Nat) (row : List D), ys[i]? = some row → row.length = sz) → ys.flatten.length = ys.length * sz
  | [], _ => by simp
  | y :: ys, h => by
    have h0 : y.length = sz := h 0 y rfl
    have ih := flatten_len ys (fun i row hr => h (i + 1) row (by simpa using hr))
    simp [h0, ih, Nat.add_mul]; omega

/-- What stands ready to be appended. -/
structure Src (P : Program) (f : Nat → Nat → Prop) (w : World) (sz : Nat) (ys : List (List D)) (cx : Value) (news : Array Value) : Prop where
  len : (Builtin.lenOf cx).run P w = .ok ys.length w
  first : ∀ w' : World, w'.heap = w.heap → (Builtin.firstCells sz ys.length cx).run P w' = .ok news w'
  rel : DRs f w ys.flatten news.toList
  one : ∀ v ∈ news.toList, oneC v = true

theorem cell_heap {w w' : World} (h : w'.heap = w.heap) (a : Addr) : w'.cell? a = w.cell? a := by
  unfold World.cell?
  rw [h]

theorem src_rows {f : Nat → Nat → Prop} {ys : List (List D)} {cx : Value} (h : RowsR f w ys cx) {sz : Nat} (hpos : 0 < sz) (hfit : fitR sz ys = true) : ∃ news, Src P f w sz ys cx news := by
  have hf : ∀ (i : Nat) (row : List D), ys[i]? = some row → row.length = sz := fun i row hr => fitR_get hfit hr
  rcases h with ⟨rfl, rfl⟩ | ⟨a, cap, sz', cv, rfl, hcap, hat⟩
  · exact ⟨#[], rfl, fun w' _ => by simp [Builtin.firstCells], trivial, by simp⟩
  · by_cases hz : ys.length = 0
    · have : ys = [] := List.eq_nil_of_length_eq_zero hz
      subst this
      exact ⟨#[], rfl, fun w' _ => by simp [Builtin.firstCells, loadCells, loadCellsFrom], trivial, by simp⟩
    · have hs : sz' = sz := by
        have h0 : ys[0]? = some (ys[0]'(by omega)) := by simp
        rw [← hat.hsz 0 _ h0, hf 0 _ h0]
      subst hs
      refine ⟨((List.range (ys.length * sz')).map cv).toArray, rfl, fun w' hw' => ?_, ?_, fun v hv => ?_⟩
      · simp only [Builtin.firstCells]
        exact run_loadCells w' a (ys.length * sz') cv (fun j hj => by rw [cell_heap hw']; exact hat.hc j hj)
      · refine DRs.of_get (by rw [flatten_len ys hf]; simp) (fun k d v hk hv => ?_)
        have hlt : k < ys.length * sz' := by
          rcases Nat.lt_or_ge k (ys.length * sz') with h | h
          · exact h
          · rw [List.getElem?_eq_none (by rw [flatten_len ys hf]; exact h)] at hk; cases hk
        simp [hlt] at hv
        subst hv
        rw [flatten_get hpos ys hf] at hk
        cases hr : ys[k / sz']? with
        | none => rw [hr] at hk; cases hk
        | some row =>
          rw [hr] at hk
          have := hat.hd (k / sz') row (k % sz') d hr hk
          rw [Nat.div_add_mod'] at this
          exact this
      · simp at hv
        obtain ⟨k, hk, rfl⟩ := hv
        exact hat.h1 k hk

theorem byteRows_flatten (l : List UInt8) : (byteRows l).flatten = l.map fun b => D.int .u8 b.toNat := by
  induction l with
  | nil => rfl
  | cons a r ih => simp only [byteRows, List.map_cons, List.flatten_cons] at ih ⊢; rw [ih]; rfl

theorem src_str {f : Nat → Nat → Prop} (l : List UInt8) : ∃ news, Src P f w 1 (byteRows l) (.string ⟨l.toArray⟩) news := by
  have hl : (byteRows l).length = l.length := by simp [byteRows]
  refine ⟨(l.map fun b => Value.int .u8 b.toNat).toArray, ?_, fun w' _ => ?_, ?_, fun v hv => ?_⟩
  · simp [Builtin.lenOf, bytes_size, hl]
  · simp only [Builtin.firstCells, hl, extract_list]
    simp
  · rw [byteRows_flatten]
    refine DRs.of_get (by simp) (fun i d v hd hv => ?_)
    simp only [List.getElem?_map, Option.map_eq_some_iff] at hd hv
    obtain ⟨b, hb, rfl⟩ := hd
    obtain ⟨b', hb', rfl⟩ := hv
    rw [hb] at hb'
    cases hb'
    exact .int _ _
  · simp at hv
    obtain ⟨b, _, rfl⟩ := hv
    rfl

/-! ### tokens -/

def Gh.tokNew (g : Gh) (tid b s0 sz lim n : Nat) : Gh :=
  { g with tok := fun t => if t = tid then ⟨b, 0, s0, sz, lim⟩ else g.tok t, frz := fun b' q => g.frz b' q ∨ (b' = b ∧ q < n) }

theorem Sim.tok_new (hs : Sim g σ w) {tid k sz lim s0 : Nat} {σ' : St} (hobjs : σ'.objs = σ.objs) (htk : σ'.toks[tid]? = some k) (hother : ∀ t, t ≠ tid → σ'.toks[t]? = σ.toks[t]?) (hgrow : ∀ k0, σ.toks[tid]? = some k0 → k0 < k ∧ (g.tok tid).sz = sz)
    (hs0 : s0 ≤ k) (hsz : 0 < sz) {c : Array Value} {e : TypeId} (hc : (lim - s0) * sz ≤ c.size) (hcf : (k - s0) * sz ≤ c.size) {w' : World} (hw : Grown1 w (.cells c e (0, 0)) w') :
    Sim (g.tokNew tid w.heap.size s0 sz lim ((k - s0) * sz)) σ' w' ∧ Ev g σ w (g.tokNew tid w.heap.size s0 sz lim ((k - s0) * sz)) σ' w' := by
  have hcell : ∀ b q, g.frz b q → w'.cell? ⟨b, q, none⟩ = w.cell? ⟨b, q, none⟩ := fun b q hf => by
    obtain ⟨v, hv⟩ := hs.frzb b q hf
    exact hw.cell (cell_lt hv) q
  have hl : Later g σ.toks w (g.tokNew tid w.heap.size s0 sz lim ((k - s0) * sz)) σ'.toks w' := by
    refine ⟨⟨fun b q hf => .inl hf, hcell⟩, fun r hr => ⟨hr, rfl, rfl⟩, fun t k0 ht => ?_⟩
    by_cases hq : t = tid
    · subst hq
      obtain ⟨h1, h2⟩ := hgrow k0 ht
      exact ⟨k, htk, by omega, fun e => by omega, by simp [Gh.tokNew, h2]⟩
    · exact ⟨k0, by rw [hother t hq]; exact ht, Nat.le_refl _, fun _ => by simp [Gh.tokNew, hq], by simp [Gh.tokNew, hq]⟩
  have hlt : ∀ (r : Nat) (o : Obj), σ.objs[r]? = some o → o.live → (g.obj r).1 < w.heap.size := by
    intro r o h1 h2
    cases o with
    | cells cs' => obtain ⟨_, c', e', fz', hb, _⟩ := hs.cells r cs' h1; exact block_lt hb
    | map es => exact (hs.maps r es h1).elim
    | dead => exact h2.elim
    | free => exact h2.elim
  have tlt : ∀ t k, σ.toks[t]? = some k → (g.tok t).b < w.heap.size := fun t k ht => by
    obtain ⟨_, c', e', fz', hb, _⟩ := hs.tok t k ht
    exact block_lt hb
  refine ⟨⟨fun r o h1 h2 => hs.has r o (by rw [← hobjs]; exact h1) h2, fun r hr => by rw [hobjs]; exact hs.bound r hr, fun r hr => hs.free r (by rw [← hobjs]; exact hr), fun r cs' hr' => ?_, fun r es hr' => hs.maps r es (by rw [← hobjs]; exact hr'), fun r r' o o' h1 h2 h3 h4 => ?_, fun r o h1 h2 q => ?_, fun t k' ht => ?_, fun t t' k1 k2 h1 h2 h3 => ?_, fun t k' r o h1 h2 h3 => ?_, fun b q hf => ?_⟩,
    ⟨hl, by rw [hw.size]; omega, hw.os, hw.tape, hw.output, fun b hb _ => hw.old hb, fun b hb => ?_, fun b q hf => ?_⟩⟩
  · rw [hobjs] at hr'
    obtain ⟨h1, c', e', fz', hb, hn, hc'⟩ := hs.cells r cs' hr'
    refine ⟨h1, c', e', fz', by rw [show ((g.tokNew tid w.heap.size s0 sz lim ((k - s0) * sz)).obj r) = g.obj r from rfl, hw.old (block_lt hb)]; exact hb, hn, fun j v hj => ?_⟩
    obtain ⟨cv, r1, r2, r3⟩ := hc' j v hj
    exact ⟨cv, r1, r2, r3.later hl⟩
  · rw [hobjs] at h1 h3
    exact hs.dist r r' o o' h1 h2 h3 h4
  · rw [hobjs] at h1
    rintro (hf | ⟨hb, _⟩)
    · exact hs.nofrz r o h1 h2 q hf
    · have := hlt r o h1 h2
      have hb2 : (g.obj r).1 = w.heap.size := hb
      omega
  · by_cases hq : t = tid
    · subst hq
      rw [htk] at ht
      cases ht
      simp only [Gh.tokNew, if_true]
      refine ⟨⟨hsz, hs0⟩, c, e, (0, 0), hw.new, fun o _ h => by omega, by simpa using hc, fun q hq => ?_⟩
      rintro (hf | ⟨_, hlt'⟩)
      · obtain ⟨v, hv⟩ := hs.frzb _ _ hf
        have := cell_lt hv
        omega
      · omega
    · rw [hother t hq] at ht
      obtain ⟨h0, c', e', fz', hb, hn, hsz', hf⟩ := hs.tok t k' ht
      simp only [Gh.tokNew, hq, if_false]
      refine ⟨h0, c', e', fz', by rw [hw.old (block_lt hb)]; exact hb, hn, hsz', fun q hq' => ?_⟩
      rintro (hf' | ⟨hb', _⟩)
      · exact hf q hq' hf'
      · have := block_lt hb
        omega
  · by_cases hq : t = tid
    · by_cases hq' : t' = tid
      · exact absurd (hq.trans hq'.symm) h3
      · have := tlt t' k2 (by rw [← hother t' hq']; exact h2)
        simp only [Gh.tokNew, hq, hq', if_true, if_false]
        omega
    · have l1 := tlt t k1 (by rw [← hother t hq]; exact h1)
      by_cases hq' : t' = tid
      · simp only [Gh.tokNew, hq, hq', if_true, if_false]
        omega
      · simp only [Gh.tokNew, hq, hq', if_false]
        exact hs.tdist t t' k1 k2 (by rw [← hother t hq]; exact h1) (by rw [← hother t' hq']; exact h2) h3
  · rw [hobjs] at h2
    have l1 := hlt r o h2 h3
    by_cases hq : t = tid
    · simp only [Gh.tokNew, hq, if_true]
      omega
    · simp only [Gh.tokNew, hq, if_false]
      exact hs.tobj t k' r o (by rw [← hother t hq]; exact h1) h2 h3
  · rcases hf with hf | ⟨rfl, hq⟩
    · obtain ⟨v, hv⟩ := hs.frzb b q hf
      exact ⟨v, by rw [hcell b q hf]; exact hv⟩
    · exact ⟨c[q], by rw [cell_of_block hw.new]; simp [show q < c.size by omega]⟩
  · rcases hb with ⟨r, o, h1, h2, rfl⟩ | ⟨t, k', ht, rfl⟩
    · left
      exact .inl ⟨r, o, by rw [← hobjs]; exact h1, h2, rfl⟩
    · by_cases hq : t = tid
      · right; simp [Gh.tokNew, hq]
      · left
        exact .inr ⟨t, k', by rw [← hother t hq]; exact ht, by simp [Gh.tokNew, hq]⟩
  · rcases hf with hf | ⟨rfl, _⟩
    · exact .inl hf
    · exact .inr (.inr (Nat.le_refl _))

end Go.Dn
