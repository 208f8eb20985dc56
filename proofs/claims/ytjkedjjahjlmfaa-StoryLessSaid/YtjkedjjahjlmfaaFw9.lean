/- New blocks that stay as they are. -/
import Derived.Test.YtjkedjjahjlmfaaFw8
namespace Go.Dn
set_option linter.unusedVariables false
set_option linter.unusedSimpArgs false

variable {P : Program} {g : Gh} {σ : St} {tk : List Nat} {w : World}

theorem block_lt {b : Nat} {o : Go.Obj} (h : w.heap[b]? = some o) : b < w.heap.size := (Array.getElem?_eq_some_iff.1 h).1

theorem cell_lt {b o : Nat} {v : Value} (h : w.cell? ⟨b, o, none⟩ = some v) : b < w.heap.size := by
  unfold World.cell? at h
  split at h
  · rename_i hb; exact block_lt hb
  · cases h

/-- A world that is another one with one block more. -/
structure Grown1 (w : World) (o : Go.Obj) (w' : World) : Prop where
  heap : w'.heap = w.heap.push o
  os : w'.os = w.os
  tape : w'.tape = w.tape
  output : w'.output = w.output

theorem Grown1.old {o : Go.Obj} {w' : World} (h : Grown1 w o w') {b : Nat} (hb : b < w.heap.size) : w'.heap[b]? = w.heap[b]? := by
  rw [h.heap, Array.getElem?_push]
  split
  · omega
  · rfl

theorem Grown1.new {o : Go.Obj} {w' : World} (h : Grown1 w o w') : w'.heap[w.heap.size]? = some o := by
  rw [h.heap]; simp

theorem Grown1.cell {o : Go.Obj} {w' : World} (h : Grown1 w o w') {b : Nat} (hb : b < w.heap.size) (q : Nat) : w'.cell? ⟨b, q, none⟩ = w.cell? ⟨b, q, none⟩ := by
  unfold World.cell?
  rw [h.old hb]

theorem Grown1.size {o : Go.Obj} {w' : World} (h : Grown1 w o w') : w'.heap.size = w.heap.size + 1 := by
  rw [h.heap]; simp

def Gh.freeze (g : Gh) (b n : Nat) : Gh := { g with frz := fun b' q => g.frz b' q ∨ (b' = b ∧ q < n) }

theorem mine_lt (hs : Sim g σ w) {b : Nat} (h : Mine g σ b) : b < w.heap.size ∨ ∃ (r : Nat) (es : List (D × V)), σ.objs[r]? = some (Obj.map es) := by
  rcases h with ⟨r, o, ho, hl, rfl⟩ | ⟨t, k, ht, rfl⟩
  · cases o with
    | cells cs =>
      obtain ⟨_, c, e, fz, hb, _⟩ := hs.cells r cs ho
      exact .inl (block_lt hb)
    | map es => exact .inr ⟨r, es, ho⟩
    | dead => exact hl.elim
    | free => exact hl.elim
  · obtain ⟨_, c, e, fz, hb, _⟩ := hs.tok t k ht
    exact .inl (block_lt hb)

theorem Sim.push_frz (hs : Sim g σ w) {c : Array Value} {e : TypeId} {fz : Nat × Nat} {w' : World} (h : Grown1 w (.cells c e fz) w') :
    Sim (g.freeze w.heap.size c.size) σ w' ∧ Ev g σ w (g.freeze w.heap.size c.size) σ w' := by
  have hcell : ∀ b q, g.frz b q → w'.cell? ⟨b, q, none⟩ = w.cell? ⟨b, q, none⟩ := fun b q hf => by
    obtain ⟨v, hv⟩ := hs.frzb b q hf
    exact h.cell (cell_lt hv) q
  have hl : Later g σ.toks w (g.freeze w.heap.size c.size) σ.toks w' :=
    ⟨⟨fun b q hf => .inl hf, hcell⟩, fun r hr => ⟨hr, rfl, rfl⟩, fun t k ht => ⟨k, ht, Nat.le_refl _, fun _ => rfl, rfl⟩⟩
  refine ⟨⟨hs.has, hs.bound, hs.free, fun r cs hr => ?_, hs.maps, hs.dist, fun r o ho hlv q => ?_, fun t k ht => ?_, hs.tdist, hs.tobj, fun b q hf => ?_⟩, ⟨hl, by rw [h.size]; omega, h.os, h.tape, h.output, fun b hb _ => h.old hb, fun b hb => .inl hb, fun b q hf => ?_⟩⟩
  · obtain ⟨h1, c', e', fz', hb, hn, hc⟩ := hs.cells r cs hr
    refine ⟨h1, c', e', fz', by rw [show ((g.freeze w.heap.size c.size).obj r) = g.obj r from rfl, h.old (block_lt hb)]; exact hb, hn, fun j v hj => ?_⟩
    obtain ⟨cv, h1, h2, h3⟩ := hc j v hj
    exact ⟨cv, h1, h2, h3.later hl⟩
  · rintro (hf | ⟨hb, _⟩)
    · exact hs.nofrz r o ho hlv q hf
    · cases o with
      | cells cs =>
        obtain ⟨_, c', e', fz', hb', _⟩ := hs.cells r cs ho
        have := block_lt hb'
        have hb2 : (g.obj r).1 = w.heap.size := hb
        omega
      | map es => exact (hs.maps r es ho).elim
      | dead => exact hlv
      | free => exact hlv
  · obtain ⟨h0, c', e', fz', hb, hn, hsz, hf⟩ := hs.tok t k ht
    refine ⟨h0, c', e', fz', by rw [show ((g.freeze w.heap.size c.size).tok t) = g.tok t from rfl, h.old (block_lt hb)]; exact hb, hn, hsz, fun q hq => ?_⟩
    rintro (hf' | ⟨hb', _⟩)
    · exact hf q hq hf'
    · have := block_lt hb
      have hb2 : (g.tok t).b = w.heap.size := hb'
      omega
  · rcases hf with hf | ⟨rfl, hq⟩
    · obtain ⟨v, hv⟩ := hs.frzb b q hf
      exact ⟨v, by rw [hcell b q hf]; exact hv⟩
    · exact ⟨c[q], by rw [cell_of_block h.new]; simp [hq]⟩
  · rcases hf with hf | ⟨rfl, hq⟩
    · exact .inl hf
    · exact .inr (.inr (Nat.le_refl _))

/-- A new row of data, read as a list. -/
theorem list_new {f : Nat → Nat → Prop} {b : Nat} {c : Array Value} {e : TypeId} {fz : Nat × Nat} (hb : w.heap[b]? = some (.cells c e fz)) {rows : List (List D)} {sz cap : Nat} (hcap : rows.length ≤ cap)
    (hsz : ∀ (i : Nat) (row : List D), rows[i]? = some row → row.length = sz) (hf : ∀ k, k < rows.length * sz → f b k) (hn : rows.length * sz ≤ c.size) (h1 : ∀ k, k < rows.length * sz → oneC (c.getD k undef) = true)
    (hd : ∀ (i : Nat) (row : List D) (j : Nat) (d : D), rows[i]? = some row → row[j]? = some d → DR f w d (c.getD (i * sz + j) undef)) :
    DR f w (.list rows) (.slice (some ⟨b, 0, none⟩) rows.length cap) := by
  refine .list rows b 0 cap sz (fun k => c.getD k undef) hcap hsz (fun k hk => by rw [Nat.zero_add]; exact hf k hk) (fun k hk => ?_) h1 hd
  rw [Nat.zero_add, cell_of_block hb]
  simp [show k < c.size by omega]

theorem splice_length {α : Type} (cs : List α) (off : Nat) (xs : List α) (h : off + xs.length ≤ cs.length) : (splice cs off xs).length = cs.length := by
  simp [splice]; omega

theorem splice_get {α : Type} (cs : List α) (off : Nat) (xs : List α) (h : off + xs.length ≤ cs.length) (k : Nat) :
    (splice cs off xs)[k]? = if off ≤ k ∧ k < off + xs.length then xs[k - off]? else cs[k]? := by
  unfold splice
  by_cases h1 : k < off
  · rw [List.append_assoc, List.getElem?_append_left (by simp; omega), List.getElem?_take]
    simp [h1, show ¬ off ≤ k by omega]
  · by_cases h2 : k < off + xs.length
    · rw [List.append_assoc, List.getElem?_append_right (by simp; omega), List.getElem?_append_left (by simp; omega)]
      simp only [List.length_take, show off ≤ k by omega, h2, and_self, if_true]
      congr 1
      omega
    · rw [List.getElem?_append_right (by simp; omega), List.getElem?_drop]
      simp only [List.length_append, List.length_take, show ¬ (k < off + xs.length) from h2, and_false, if_false]
      congr 1
      omega

theorem VRs.splice {cs : List V} {vs : List Value} {xs : List V} {us : List Value} (off : Nat) (h : VRs g tk w cs vs) (h' : VRs g tk w xs us) : VRs g tk w (Dn.splice cs off xs) (Dn.splice vs off us) := by
  unfold Dn.splice
  rw [h'.length]
  exact ((h.take off).append h').append (h.drop _)

/-- The model's own way to put a part's cells over others. -/
theorem foldl_set (l : List Value) (off : Nat) : ∀ (i : Nat) (cs : Array Value), off + i + l.length ≤ cs.size →
    ((l.zipIdx i).foldl (fun cs (p : Value × Nat) => cs.setIfInBounds (off + p.2) p.1) cs).toList = splice cs.toList (off + i) l := by
  induction l with
  | nil => intro i cs h; simp [splice]
  | cons x l ih =>
    intro i cs h
    simp only [List.zipIdx_cons, List.foldl_cons]
    rw [ih (i + 1) _ (by simp; simp at h; omega)]
    apply List.ext_getElem?
    intro k
    have e1 : off + i + 1 + l.length ≤ (cs.setIfInBounds (off + i) x).toList.length := by simp at h ⊢; omega
    rw [show off + (i + 1) = off + i + 1 by omega, splice_get _ _ _ (by simpa using e1), splice_get _ _ _ (by simpa using h)]
    simp only [List.length_cons, Array.toList_setIfInBounds]
    by_cases hk : off + i + 1 ≤ k ∧ k < off + i + 1 + l.length
    · rw [if_pos hk, if_pos ⟨by omega, by omega⟩, show k - (off + i) = (k - (off + i + 1)) + 1 by omega, List.getElem?_cons_succ]
    · rw [if_neg hk]
      by_cases hk2 : k = off + i
      · subst hk2
        rw [if_pos ⟨by omega, by omega⟩]
        simp only [Nat.sub_self, List.getElem?_cons_zero]
        rw [List.getElem?_set_self (by simp at h ⊢; omega)]
      · rw [if_neg (by omega), List.getElem?_set_ne (fun e => hk2 e.symm)]

end Go.Dn
