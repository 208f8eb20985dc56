/- The single operations, one lemma each. -/
import Derived.Test.YtjkedjjahjlmfaaFw9
import Derived.Lib.ConvBytes
import Derived.Laws.BytesString
namespace Go.Dn
open Go.Lib
set_option linter.unusedVariables false
set_option linter.unusedSimpArgs false

variable {P : Program} {g : Gh} {σ : St} {tk : List Nat} {w : World}

/-- What a step that leaves the store alone comes to. -/
def PStep (P : Program) (g : Gh) (σ : St) (w : World) (s : Sem Value) (v : V) : Prop :=
  ∃ cv w' g', s.run P w = .ok cv w' ∧ Sim g' σ w' ∧ VR g' σ.toks w' v cv ∧ Ev g σ w g' σ w'

theorem PStep.still (hs : Sim g σ w) {s : Sem Value} {v : V} {cv : Value} (h : s.run P w = .ok cv w) (hv : VR g σ.toks w v cv) : PStep P g σ w s v :=
  ⟨cv, w, g, h, hs, hv, Ev.refl _ _ _⟩

theorem rowBytes_inv : ∀ {rows : List (List D)} {l : List UInt8}, rowBytes rows = some l → (∀ (i : Nat) (row : List D), rows[i]? = some row → ∃ n : Int, row = [.int .u8 n]) ∧
    ∃ ns : List Int, rows = ns.map (fun n => [D.int .u8 n]) ∧ l = ns.map (fun n => UInt8.ofNat n.toNat)
  | [], l, h => by simp [rowBytes] at h; subst h; exact ⟨fun i row hr => by simp at hr, [], rfl, rfl⟩
  | r :: rs, l, h => by
    unfold rowBytes at h
    split at h
    · rename_i heq; cases heq
    · rename_i n rest heq
      cases heq
      split at h
      · rename_i m hm
        cases h
        obtain ⟨h1, ns, h2, h3⟩ := rowBytes_inv hm
        refine ⟨fun i row hr => ?_, n :: ns, by simp [h2], by simp [h3]⟩
        cases i with
        | zero => simp at hr; exact ⟨n, hr.symm⟩
        | succ i => simp at hr; exact h1 i row hr
      · cases h
    · cases h

theorem push_fold (ns : List Int) (s : ByteArray) : ns.foldl (fun r n => r.push (UInt8.ofNat n.toNat)) s = ⟨(s.data.toList ++ ns.map (fun n => UInt8.ofNat n.toNat)).toArray⟩ := by
  induction ns generalizing s with
  | nil => simp
  | cons n ns ih =>
    simp only [List.foldl_cons, ih]
    apply ByteArray.ext
    simp [ByteArray.push]

theorem conv_rel (hs : Sim g σ w) {src dst : TypeId} {k : Conv} (hk : compConv P src dst = some k) {x v : V} {cx : Value} (hx : VR g σ.toks w x cx) (h : evalConv σ k x = some v) : PStep P g σ w (Go.convert src dst cx) v := by
  unfold compConv at hk
  split at hk
  · rename_i k' hu1 hu2
    cases hk
    simp only [evalConv] at h
    split at h
    · cases h
      have e := hx.inv_int
      subst e
      exact PStep.still hs (by simp [Go.convert, run_underlying hu1, run_underlying hu2, Conv.intToInt]) (.int _ _)
    · cases h
  · rename_i hu1 hu2
    cases hk
    simp only [evalConv] at h
    split at h
    · cases h
      have ec := hx.inv_str
      subst ec
      exact PStep.still hs (by simp [Go.convert, run_underlying hu1, run_underlying hu2]) (.str _)
    · cases h
  · rename_i e hu1 hu2
    split at hk
    · rename_i hu3
      cases hk
      simp only [evalConv] at h
      split at h
      · rename_i s
        cases h
        have ec := hx.inv_str
        subst ec
        have hrun := Lib.run_convert_string_bytes (P := P) w src dst e ⟨s.toArray⟩ hu1 hu2 hu3
        have hnew := bytesWorld_at_new w e ⟨s.toArray⟩
        have hgr : Grown1 w (.cells (bytesCells w e ⟨s.toArray⟩) e ((bytesCells w e ⟨s.toArray⟩).size, (bytesCells w e ⟨s.toArray⟩).size + 1)) (bytesWorld w e ⟨s.toArray⟩) := by
          refine ⟨?_, rfl, rfl, rfl⟩
          apply Array.ext_getElem?
          intro i
          rcases Nat.lt_trichotomy i w.heap.size with h | h | h
          · rw [bytesWorld_at_old w e _ i h, Array.getElem?_push]
            simp [show i ≠ w.heap.size by omega]
          · subst h; rw [hnew]; simp
          · rw [Array.getElem?_eq_none (by rw [bytesWorld_size]; omega), Array.getElem?_eq_none (by simp; omega)]
        obtain ⟨h1, h2⟩ := hs.push_frz hgr
        have hsz : (bytesCells w e ⟨s.toArray⟩).size = s.length + (grownCap w s.length 0 e - s.length) := by
          simp [bytesCells, bytes_size]
        have hget : ∀ k, k < s.length → (bytesCells w e ⟨s.toArray⟩).getD k undef = .int .u8 ((s.getD k 0).toNat) := by
          intro k hk
          simp [bytesCells, Array.getD_eq_getD_getElem?, Array.getElem?_append, hk, List.getD_eq_getElem?_getD]
        refine ⟨_, _, _, hrun, h1, .d _ _ ?_ rfl, h2⟩
        have hl : (byteRows s).length = s.length := by simp [byteRows]
        rw [bytes_size, ← hl]
        have hgc := grownCap_ge w s.length 0 e
        refine list_new (sz := 1) hnew (by rw [hl]; exact hgc) (fun i row hr => ?_) (fun k hk => ?_) ?_ (fun k hk => ?_) (fun i row j d hr hd => ?_)
        · simp only [byteRows, List.getElem?_map, Option.map_eq_some_iff] at hr
          obtain ⟨b, _, rfl⟩ := hr
          rfl
        · rw [hl] at hk
          exact .inr ⟨rfl, by rw [hsz]; omega⟩
        · rw [hl, hsz]; omega
        · rw [hl] at hk
          rw [hget k (by omega)]
          rfl
        · simp only [byteRows, List.getElem?_map, Option.map_eq_some_iff] at hr
          obtain ⟨b, hb, rfl⟩ := hr
          have hi : i < s.length := by
            rcases Nat.lt_or_ge i s.length with h | h
            · exact h
            · simp [List.getElem?_eq_none h] at hb
          have hj : j = 0 := by
            rcases Nat.eq_zero_or_pos j with h | h
            · exact h
            · rw [List.getElem?_eq_none (by simp; omega)] at hd; cases hd
          subst hj
          simp at hd
          subst hd
          rw [Nat.mul_one, Nat.add_zero, hget i hi, List.getD_eq_getElem?_getD, hb]
          exact .int _ _
      · cases h
    · cases hk
  · rename_i e hu1 hu2
    split at hk
    · rename_i hu3
      cases hk
      simp only [evalConv] at h
      split at h
      · rename_i rows hr
        split at h
        · rename_i l hl
          cases h
          obtain ⟨hone, ns, hns, rfl⟩ := rowBytes_inv hl
          rcases rows_rel hs hx hr with ⟨rfl, rfl⟩ | ⟨a, cap, sz, cv, rfl, hcap, hat⟩
          · have : ns = [] := by cases ns; rfl; simp at hns
            subst this
            refine PStep.still hs ?_ (.str [])
            rw [run_convert_bytes_string w src dst e none 0 0 hu1 hu3 hu2]
            simp [Conv.bytesToString]
            rfl
          · refine PStep.still hs ?_ (.str _)
            have hlen : rows.length = ns.length := by rw [hns]; simp
            rw [run_convert_bytes_string w src dst e (some a) _ cap hu1 hu3 hu2, run_bytesToString w a _ cap ns, push_fold]
            · rfl
            · by_cases hz : rows.length = 0
              · rw [hz]
                have : ns = [] := List.eq_nil_of_length_eq_zero (by omega)
                subst this
                rfl
              · have hsz1 : sz = 1 := by
                  have h0 : rows[0]? = some rows[0] := by simp
                  obtain ⟨n, hn⟩ := hone 0 _ h0
                  rw [← hat.hsz 0 _ h0, hn]
                  rfl
                subst hsz1
                rw [hlen, ← (show (ns.map (Value.int .u8)).length = ns.length by simp)]
                refine run_loadCells_list w a _ (fun j v hv => ?_)
                simp only [List.getElem?_map, Option.map_eq_some_iff] at hv
                obtain ⟨n, hn, rfl⟩ := hv
                have hj : j < ns.length := by
                  rcases Nat.lt_or_ge j ns.length with h | h
                  · exact h
                  · simp [List.getElem?_eq_none h] at hn
                rw [hat.hc j (by omega)]
                have hrow : rows[j]? = some [D.int .u8 n] := by rw [hns]; simp [hn]
                have := hat.hd j _ 0 (.int .u8 n) hrow rfl
                rw [Nat.mul_one, Nat.add_zero] at this
                rw [this.inv_int]
        · cases h
      · cases h
    · cases hk
  · cases hk

end Go.Dn
