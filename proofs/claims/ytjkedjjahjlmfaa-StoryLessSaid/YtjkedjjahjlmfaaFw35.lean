/- Arguments of any data: numbers, strings, arrays, structs, slices of these. -/
import Derived.Test.YtjkedjjahjlmfaaFw34
namespace Go.Dn
open Go.Lib Go.RowKit
set_option linter.unusedVariables false
set_option linter.unusedSimpArgs false

/-- A leaf of data: a slice's rows have leaves of their own. -/
inductive Lk where
  | int (k : IntKind) | bool | str | list (ls : List Lk)

mutual
def Lk.fits : Lk → D → Prop
  | .int k, d => ∃ n, d = .int k n ∧ k.min ≤ n ∧ n ≤ k.max
  | .bool, d => ∃ b, d = .bool b
  | .str, d => ∃ s, d = .str s ∧ s.length ≤ 9223372036854775807
  | .list ls, d => d = .nils ∨ ∃ rows, d = .list rows ∧ rows.length ≤ 9223372036854775807 ∧ ∀ row ∈ rows, Lks ls row
def Lks : List Lk → List D → Prop
  | [], ds => ds = []
  | k :: ks, ds => ∃ d r, ds = d :: r ∧ k.fits d ∧ Lks ks r
end

variable {P : Program} {w : World} {H : Type} {enc : TypeId × Value → H} {base : Nat} {spare : Nat → Bool} {held : Bool}

theorem Lks.mk : ∀ {a b : List Lk} {x y : List D}, Lks a x → Lks b y → Lks (a ++ b) (x ++ y)
  | [], _, x, y, h, h' => by simp only [Lks] at h; subst h; exact h'
  | k :: a, b, x, y, h, h' => by
    simp only [Lks, List.cons_append] at h ⊢
    obtain ⟨d, r, rfl, h1, h2⟩ := h
    exact ⟨d, r ++ y, rfl, h1, Lks.mk h2 h'⟩

theorem Lks.length : ∀ {a : List Lk} {x : List D}, Lks a x → x.length = a.length
  | [], x, h => by simp only [Lks] at h; subst h; rfl
  | k :: a, x, h => by
    simp only [Lks] at h
    obtain ⟨d, r, rfl, h1, h2⟩ := h
    simp [Lks.length h2]

def leavesKs (P : Program) (f : TypeId → Option (List Lk)) : Nat → List Field → Option (List Lk)
  | _, [] => some []
  | off, x :: r => match f x.type with
    | some l => if x.offset = off ∧ P.cellsOf x.type = l.length then
        (match leavesKs P f (off + l.length) r with
         | some b => some (l ++ b)
         | none => none) else none
    | none => none

def leavesK (P : Program) : Nat → TypeId → Option (List Lk)
  | 0, _ => none
  | n + 1, t => match P.underlying t with
    | some (.int k) => some [.int k]
    | some .bool => some [.bool]
    | some .string => some [.str]
    | some (.slice e) => match leavesK P n e with
      | some l => if P.cellsOf e = l.length ∧ 0 < l.length then some [.list l] else none
      | none => none
    | some (.array len e) => match leavesK P n e with
      | some l => if P.cellsOf e = l.length ∧ P.cellsOf t = len * l.length then some ((List.replicate len l).flatten) else none
      | none => none
    | some (.struct fs) => match leavesKs P (leavesK P n) 0 fs.toList with
      | some l => if P.cellsOf t = l.length then some l else none
      | none => none
    | _ => none

/-- Cells that read as data. -/
def Data (F : Nat → Nat → Prop) (w : World) (ks : List Lk) (cs : List Value) : Prop := ∃ ds, DRs F w ds cs ∧ Lks ks ds ∧ ∀ v ∈ cs, oneC v = true

theorem Data.append {F : Nat → Nat → Prop} {a b : List Lk} {x y : List Value} (h : Data F w a x) (h' : Data F w b y) : Data F w (a ++ b) (x ++ y) := by
  obtain ⟨d, h1, h2, h3⟩ := h
  obtain ⟨d', h1', h2', h3'⟩ := h'
  exact ⟨d ++ d', h1.append h1', Lks.mk h2 h2', fun v hv => by
    rcases List.mem_append.1 hv with h | h
    · exact h3 v h
    · exact h3' v h⟩

theorem Data.nil {F : Nat → Nat → Prop} : Data F w [] [] := ⟨[], trivial, by simp only [Lks], by simp⟩

theorem data_chunks {F : Nat → Nat → Prop} {l : List Lk} : ∀ (n : Nat) (cs : List Value), cs.length = n * l.length → (∀ i, i < n → Data F w l ((cs.drop (i * l.length)).take l.length)) → Data F w ((List.replicate n l).flatten) cs
  | 0, cs, hl, h => by
    have : cs = [] := List.eq_nil_of_length_eq_zero (by simpa using hl)
    subst this
    exact Data.nil
  | n + 1, cs, hl, h => by
    rw [List.replicate_succ, List.flatten_cons]
    have e : cs = cs.take l.length ++ cs.drop l.length := (List.take_append_drop _ _).symm
    rw [e]
    refine Data.append (by simpa using h 0 (by omega)) (data_chunks n _ (by simp [hl, Nat.add_mul]) fun i hi => ?_)
    have := h (i + 1) (by omega)
    rw [List.drop_drop, show l.length + i * l.length = (i + 1) * l.length by rw [Nat.add_mul]; omega]
    exact this

theorem data_fields {F : Nat → Nat → Prop} {lv : TypeId → Option (List Lk)} {cs : List Value} : ∀ (fs : List Field) (off : Nat) (ks : List Lk), leavesKs P lv off fs = some ks → off + ks.length = cs.length →
    (∀ f ∈ fs, ∀ l, lv f.type = some l → Data F w l ((cs.drop f.offset).take (P.cellsOf f.type))) → Data F w ks (cs.drop off)
  | [], off, ks, h, hl, hf => by
    simp [leavesKs] at h
    subst h
    have : cs.drop off = [] := List.eq_nil_of_length_eq_zero (by simp at hl ⊢; omega)
    rw [this]
    exact Data.nil
  | x :: fs, off, ks, h, hl, hf => by
    unfold leavesKs at h
    split at h
    · rename_i l hlv
      split at h
      · rename_i hc
        obtain ⟨ho, hcell⟩ := hc
        split at h
        · rename_i b hb
          cases h
          have e : cs.drop off = (cs.drop off).take l.length ++ cs.drop (off + l.length) := by
            rw [← List.drop_drop]
            exact (List.take_append_drop _ _).symm
          rw [e]
          refine Data.append ?_ (data_fields fs (off + l.length) b hb (by simp at hl; omega) fun f hm => hf f (List.mem_cons_of_mem _ hm))
          have := hf x (by simp) l hlv
          rw [ho, hcell] at this
          exact this
        · cases h
      · cases h
    · cases h

theorem rowsOfs {l : List Lk} {f : Nat → List D} (n : Nat) (i : Nat) (row : List D) (h : ((List.range n).map f)[i]? = some row) : i < n ∧ row = f i := by
  rw [List.getElem?_map] at h
  simp only [Option.map_eq_some_iff] at h
  obtain ⟨a, h1, h2⟩ := h
  obtain ⟨h3, rfl⟩ := List.getElem?_eq_some_iff.1 h1
  simp at h3 h2
  exact ⟨h3, h2.symm⟩

theorem trod_data {F : Nat → Nat → Prop} (hF : ∀ b q v, w.cell? ⟨b, q, none⟩ = some v → F b q) : ∀ (n : Nat) (t : TypeId) (ks : List Lk), leavesK P n t = some ks → ∀ {fuel : Nat} {cs : List Value} {x : DataW H × List MemPlace}, DataW.trod enc P w base spare held fuel t cs = some x → Data F w ks cs
  | 0, t, ks, h, _, _, _, _ => by simp [leavesK] at h
  | n + 1, t, ks, h, fuel, cs, x, ht => by
    unfold leavesK at h
    split at h
    · rename_i k hu
      cases h
      obtain ⟨m, rfl, _, hw⟩ := DataW.trod_int hu ht
      refine ⟨[.int k m], ⟨.int k m, trivial⟩, ?_, by simp [oneC]⟩
      simp only [Lit.wf, Bool.and_eq_true] at hw
      simp only [Lks]
      refine ⟨_, _, rfl, ?_, rfl⟩
      simp only [Lk.fits]
      exact ⟨m, rfl, by simpa using hw.1, by simpa using hw.2⟩
    · rename_i hu
      cases h
      obtain ⟨b, rfl, _⟩ := DataW.trod_bool hu ht
      refine ⟨[.bool b], ⟨.bool b, trivial⟩, ?_, by simp [oneC]⟩
      simp only [Lks]
      refine ⟨_, _, rfl, ?_, rfl⟩
      simp only [Lk.fits]
      exact ⟨b, rfl⟩
    · rename_i hu
      cases h
      obtain ⟨s, rfl, _, hs⟩ := DataW.trod_string hu ht
      have : Value.string s = .string ⟨s.data.toList.toArray⟩ := by cases s; rfl
      refine ⟨[.str s.data.toList], ⟨by rw [this]; exact .str _, trivial⟩, ?_, by simp [oneC]⟩
      simp only [Lks]
      refine ⟨_, _, rfl, ?_, rfl⟩
      simp only [Lk.fits]
      have e1 : s.data.toList.length = s.size := Array.length_toList
      exact ⟨_, rfl, by rw [e1]; exact hs⟩
    · rename_i e hu
      split at h
      · rename_i l hl
        obtain ⟨⟨hc, hpos⟩, h⟩ := ite_some h
        cases h
        rcases DataW.trod_slice hu ht with ⟨rfl, _⟩ | ⟨a, len, cap, elems, rest, m, _, rfl, _, hb, hlc, hcm, hlen, hel, _, _⟩
        · refine ⟨[.nils], ⟨.nils, trivial⟩, ?_, by simp [oneC]⟩
          simp only [Lks]
          refine ⟨_, _, rfl, ?_, rfl⟩
          simp only [Lk.fits]
          exact .inl trivial
        · have each : ∀ i, ∃ row : List D, i < len → Lks l row ∧ ∀ j d, row[j]? = some d → ∃ v, w.cell? (a.add (i * l.length + j)) = some v ∧ oneC v = true ∧ DR F w d v := by
            intro i
            by_cases hi : i < len
            · have h1 := hel i hi
              rw [hc] at h1
              have h2 : elems[i]? = some (elems[i]'(by omega)) := by simp [show i < elems.length by omega]
              rw [h2, Option.bind_eq_some_iff] at h1
              obtain ⟨ci, h3, h4⟩ := h1
              obtain ⟨ds, d1, d2, d3⟩ := trod_data hF n e l hl h4
              refine ⟨ds, fun _ => ⟨d2, fun j d hj => ?_⟩⟩
              unfold World.cells? at h3
              split at h3
              · have hln := mapM_some_length h3
                have hj' : j < ci.length := by
                  rw [← d1.length]
                  exact (List.getElem?_eq_some_iff.1 hj).1
                have hr : (List.range l.length)[j]? = some j := by
                  rw [List.length_range] at hln
                  rw [List.getElem?_range (by omega)]
                have h5 := mapM_some_get h3 j j hr
                have h6 : ci[j]? = some ci[j] := by simp [hj']
                rw [h6] at h5
                refine ⟨ci[j], ?_, d3 _ (List.getElem_mem hj'), d1.get j d _ hj h6⟩
                rw [← h5]
                exact congrArg w.cell? (add_add a _ _).symm
              · cases h3
            · exact ⟨[], fun h => (hi h).elim⟩
          have hz : ∃ f : Nat → List D, ∀ i, i < len → Lks l (f i) ∧ ∀ j d, (f i)[j]? = some d → ∃ v, w.cell? (a.add (i * l.length + j)) = some v ∧ oneC v = true ∧ DR F w d v :=
            ⟨fun i => (each i).choose, fun i hi => (each i).choose_spec hi⟩
          obtain ⟨f, hf⟩ := hz
          have hrl : ((List.range len).map f).length = len := by simp
          refine ⟨[.list ((List.range len).map f)], ⟨?_, trivial⟩, ?_, by simp [oneC]⟩
          · by_cases h0 : len = 0
            · subst h0; exact .list0 a cap
            · have cellAt : ∀ k, k < len * l.length → ∃ v, w.cell? (a.add k) = some v ∧ oneC v = true := by
                intro k hk
                have hkl : k / l.length < len := Nat.div_lt_of_lt_mul (by rw [Nat.mul_comm]; exact hk)
                obtain ⟨g1, g2⟩ := hf _ hkl
                have hm : k % l.length < (f (k / l.length)).length := by rw [g1.length]; exact Nat.mod_lt _ hpos
                obtain ⟨v, v1, v2, _⟩ := g2 (k % l.length) _ (by simp [hm]; rfl)
                rw [Nat.mul_comm, Nat.div_add_mod] at v1
                exact ⟨v, v1, v2⟩
              have hsp : a.spot = none := by
                obtain ⟨v, hv, _⟩ := cellAt 0 (Nat.mul_pos (by omega) hpos)
                unfold World.cell? at hv
                split at hv
                · cases hs : a.spot with
                  | none => rfl
                  | some s => simp [Addr.add, hs] at hv
                · cases hv
              obtain ⟨ab, ao, asp⟩ := a
              simp only at hsp
              subst hsp
              simp only [addr_add] at cellAt hf
              have := DR.list (frz := F) (w := w) ((List.range len).map f) ab ao cap l.length (fun k => (w.cell? ⟨ab, ao + k, none⟩).getD undef) (by rw [hrl]; exact hlc)
                (fun i row hr => by obtain ⟨hi, rfl⟩ := rowsOfs (l := l) len i row hr; exact (hf i hi).1.length)
                (fun k hk => by rw [hrl] at hk; obtain ⟨v, hv, _⟩ := cellAt k hk; exact hF _ _ _ hv)
                (fun k hk => by rw [hrl] at hk; obtain ⟨v, hv, _⟩ := cellAt k hk; simp [hv])
                (fun k hk => by rw [hrl] at hk; obtain ⟨v, hv, h1⟩ := cellAt k hk; simp [hv, h1])
                (fun i row j d hr hj => by
                  obtain ⟨hi, rfl⟩ := rowsOfs (l := l) len i row hr
                  obtain ⟨v, v1, _, v2⟩ := (hf i hi).2 j d hj
                  simp [v1, v2])
              rw [hrl] at this
              exact this
          · simp only [Lks]
            refine ⟨_, _, rfl, ?_, rfl⟩
            simp only [Lk.fits]
            refine .inr ⟨_, rfl, ?_, fun row hr => ?_⟩
            · rw [hrl]
              unfold maxLen at hcm
              omega
            · obtain ⟨i, hi⟩ := List.getElem?_of_mem hr
              obtain ⟨hi', rfl⟩ := rowsOfs (l := l) len i row hi
              exact (hf i hi').1
      · cases h
    · rename_i len e hu
      split at h
      · rename_i l hl
        obtain ⟨⟨hc, hct⟩, h⟩ := ite_some h
        cases h
        obtain ⟨xs, m, rfl, _, h1, h2, h3⟩ := DataW.trod_array hu ht
        refine data_chunks len cs (by rw [h1, hct]) fun i hi => ?_
        have := h3 i hi
        rw [hc] at this
        have hx : xs[i]? = some (xs[i]'(by omega)) := by simp [show i < xs.length by omega]
        rw [hx] at this
        exact trod_data hF n e l hl this
      · cases h
    · rename_i fs hu
      split at h
      · rename_i l hl
        obtain ⟨hct, h⟩ := ite_some h
        cases h
        obtain ⟨xs, m, rfl, _, h1, h2, h3⟩ := DataW.trod_struct hu ht
        have := data_fields (F := F) (w := w) (cs := cs) fs.toList 0 ks hl (by rw [h1, hct]; omega) fun f hf l hlv => by
          obtain ⟨i, hi⟩ := List.getElem?_of_mem hf
          have hfi : fs[i]? = some f := by simpa using hi
          have hi2 : i < xs.length := by
            have := (Array.getElem?_eq_some_iff.1 hfi).1
            omega
          have := h3 i f hfi
          rw [show xs[i]? = some xs[i] by simp [hi2]] at this
          exact trod_data hF n f.type l hlv this
        simpa using this
      · cases h
    · cases h

abbrev Has (W : World) : Nat → Nat → Prop := fun b q => ∃ v, W.cell? ⟨b, q, none⟩ = some v

/-- An argument of several cells. -/
theorem arg_da {g : Gh} {tk : List Nat} (hg : g.frz = Has w) {t : TypeId} {ks : List Lk} (hk : leavesK P 12 t = some ks) (hagg : aggT P t = true) {v : Value} (hv : Value.okWide P w .any base t v) {d : DataW H} {p : List MemPlace}
    (h : DataW.Trod enc P w 0 spare held t v d p) : ∃ ds, VR g tk w (.da ds) v ∧ Lks ks ds := by
  obtain ⟨fuel, ht⟩ := h
  obtain ⟨ds, h1, h2, h3⟩ := trod_data (F := Has w) (fun b q v h => ⟨v, h⟩) 12 t ks hk ht
  have : ∃ cs, v = .agg cs := by
    unfold Value.okWide at hv
    unfold aggT at hagg
    split at hagg
    · rename_i hu; rw [hu] at hv; obtain ⟨cs, rfl, _⟩ := hv; exact ⟨cs, rfl⟩
    · rename_i hu; rw [hu] at hv; obtain ⟨cs, rfl, _⟩ := hv; exact ⟨cs, rfl⟩
    · cases hagg
  obtain ⟨cs, rfl⟩ := this
  simp only [Value.cells] at h1 h3
  exact ⟨ds, .da ds cs (by rw [hg]; exact DR.agg_of h3 h1), h2⟩

def oneT (P : Program) (t : TypeId) : Bool :=
  match P.underlying t with
  | some (.int _) | some .bool | some .string | some (.slice _) => true
  | _ => false

theorem Cell.ok_one {W : World} {t : TypeId} (h1 : oneT P t = true) {v : Value} (hv : Value.okWide P W .any base t v) : v.cells = #[v] := by
  unfold oneT at h1
  unfold Value.okWide Go.Cell.okWide Go.Cell.ok at hv
  split at h1 <;> rename_i hu <;> simp only [hu] at hv
  · cases v <;> first | rfl | exact hv.elim
  · cases v <;> first | rfl | exact hv.elim
  · cases v <;> first | rfl | exact hv.elim
  · cases v <;> first | rfl | exact hv.elim
  · cases h1

/-- An argument of one cell. -/
theorem arg_d {g : Gh} {tk : List Nat} (hg : g.frz = Has w) {t : TypeId} {k : Lk} (hk : leavesK P 12 t = some [k]) (h1 : oneT P t = true) {v : Value} (hv : Value.okWide P w .any base t v) {d : DataW H} {p : List MemPlace}
    (h : DataW.Trod enc P w 0 spare held t v d p) : ∃ x, VR g tk w (.d x) v ∧ k.fits x := by
  obtain ⟨fuel, ht⟩ := h
  obtain ⟨ds, d1, d2, d3⟩ := trod_data (F := Has w) (fun b q v h => ⟨v, h⟩) 12 t [k] hk ht
  rw [Cell.ok_one h1 hv] at d1 d3
  simp only [Lks] at d2
  obtain ⟨x, _, rfl, d2, rfl⟩ := d2
  exact ⟨x, .d _ _ (by rw [hg]; exact d1.1) (d3 v (by simp)), d2⟩

end Go.Dn
