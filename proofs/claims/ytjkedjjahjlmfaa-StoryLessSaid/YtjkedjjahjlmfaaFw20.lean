/- append, its three ways. -/
import Derived.Test.YtjkedjjahjlmfaaFw19
namespace Go.Dn
open Go.Lib
set_option linter.unusedVariables false
set_option linter.unusedSimpArgs false

variable {P : Program} {g : Gh} {σ : St} {tk : List Nat} {w : World}

def Gh.tokFit (g : Gh) (b lo hi : Nat) : Gh := { g with frz := fun b' q => g.frz b' q ∨ (b' = b ∧ lo ≤ q ∧ q < hi) }

theorem Sim.tok_fit (hs : Sim g σ w) {tid k n : Nat} (htk : σ.toks[tid]? = some k) (hn : 0 < n) (hlim : k + n ≤ (g.tok tid).lim) {news : List Value} (hnl : news.length = n * (g.tok tid).sz) (h1 : ∀ v ∈ news, oneC v = true) :
    ∃ w' : World, (storeCells ⟨(g.tok tid).b, (g.tok tid).o + (k - (g.tok tid).s0) * (g.tok tid).sz, none⟩ news).run P w = .ok () w' ∧
      Sim (g.tokFit (g.tok tid).b ((g.tok tid).o + (k - (g.tok tid).s0) * (g.tok tid).sz) ((g.tok tid).o + (k - (g.tok tid).s0) * (g.tok tid).sz + news.length)) (σ.setTok tid (k + n)) w' ∧
      Ev g σ w (g.tokFit (g.tok tid).b ((g.tok tid).o + (k - (g.tok tid).s0) * (g.tok tid).sz) ((g.tok tid).o + (k - (g.tok tid).s0) * (g.tok tid).sz + news.length)) (σ.setTok tid (k + n)) w' ∧
      (∀ j v, news[j]? = some v → w'.cell? ⟨(g.tok tid).b, (g.tok tid).o + (k - (g.tok tid).s0) * (g.tok tid).sz + j, none⟩ = some v) := by
  obtain ⟨⟨hsz, hs0⟩, c, e, fz, hb, hnf, hcs, hnz⟩ := hs.tok tid k htk
  generalize hL : (g.tok tid).o + (k - (g.tok tid).s0) * (g.tok tid).sz = L at *
  have htl : tid < σ.toks.length := by
    rcases Nat.lt_or_ge tid σ.toks.length with h | h
    · exact h
    · rw [List.getElem?_eq_none h] at htk; cases htk
  have hfit : L + news.length ≤ c.size := by
    have m1 : (k - (g.tok tid).s0) * (g.tok tid).sz + n * (g.tok tid).sz = (k + n - (g.tok tid).s0) * (g.tok tid).sz := by rw [← Nat.add_mul]; congr 1; omega
    have m2 := Nat.mul_le_mul_right (g.tok tid).sz (show k + n - (g.tok tid).s0 ≤ (g.tok tid).lim - (g.tok tid).s0 by omega)
    rw [hnl]
    omega
  have hrun := run_storeCells_own (P := P) (g.tok tid).b L e fz news 0 c w hb hnf (by omega) h1
  rw [Nat.add_zero] at hrun
  have hcell : ∀ b q, g.frz b q → (putB w (g.tok tid).b (.cells (Dn.splice c.toList L news).toArray e fz)).cell? ⟨b, q, none⟩ = w.cell? ⟨b, q, none⟩ := fun b q hf => by
    by_cases hbb : (g.tok tid).b = b
    · subst hbb
      rw [cell_of_block (putB_same w _ (block_lt hb)), cell_of_block hb]
      have hq : q < L := by
        rcases Nat.lt_or_ge q L with h | h
        · exact h
        · exact absurd hf (hnz q h)
      rw [List.getElem?_toArray, splice_get _ _ _ (by simpa using hfit), if_neg (by omega)]
      simp
    · exact putB_cell w _ hbb q
  have hset : ∀ t, (σ.setTok tid (k + n)).toks[t]? = if t = tid then some (k + n) else σ.toks[t]? := by
    intro t
    simp only [St.setTok]
    by_cases hq : t = tid
    · subst hq; rw [if_pos rfl, List.getElem?_set_self htl]
    · rw [if_neg hq, List.getElem?_set_ne (fun e => hq e.symm)]
  have hl : Later g σ.toks w (g.tokFit (g.tok tid).b L (L + news.length)) (σ.setTok tid (k + n)).toks (putB w (g.tok tid).b (.cells (Dn.splice c.toList L news).toArray e fz)) := by
    refine ⟨⟨fun b q hf => .inl hf, hcell⟩, fun r hr => ⟨hr, rfl, rfl⟩, fun t k0 ht => ?_⟩
    by_cases hq : t = tid
    · subst hq
      rw [htk] at ht
      cases ht
      exact ⟨k + n, by rw [hset, if_pos rfl], by omega, fun _ => rfl, rfl⟩
    · exact ⟨k0, by rw [hset, if_neg hq]; exact ht, Nat.le_refl _, fun _ => rfl, rfl⟩
  refine ⟨_, hrun, ⟨hs.has, hs.bound, hs.free, fun r cs' hr' => ?_, hs.maps, hs.dist, fun r o h1 h2 q => ?_, fun t k' ht => ?_, fun t t' k1 k2 h1 h2 h3 => ?_, fun t k' r o h1 h2 h3 => ?_, fun b q hf => ?_⟩,
    ⟨hl, by simp [putB], rfl, rfl, rfl, fun b hb' hm => putB_other w _ (fun e => hm (.inr ⟨tid, k, htk, e⟩)), fun b hb' => ?_, fun b q hf => ?_⟩, fun j v hj => ?_⟩
  · obtain ⟨h1, c', e', fz', hb', hn', hc'⟩ := hs.cells r cs' hr'
    have hne := hs.tobj tid k r _ htk hr' trivial
    refine ⟨h1, c', e', fz', by rw [show ((g.tokFit (g.tok tid).b L (L + news.length)).obj r) = g.obj r from rfl, putB_other w _ hne]; exact hb', hn', fun j v hj => ?_⟩
    obtain ⟨cv, r1, r2, r3⟩ := hc' j v hj
    exact ⟨cv, r1, r2, r3.later hl⟩
  · rintro (hf | ⟨hb', _⟩)
    · exact hs.nofrz r o h1 h2 q hf
    · exact hs.tobj tid k r o htk h1 h2 hb'.symm
  · rw [hset] at ht
    split at ht
    · rename_i hq
      subst hq
      cases ht
      refine ⟨⟨hsz, by show (g.tok t).s0 ≤ k + n; omega⟩, (Dn.splice c.toList L news).toArray, e, fz, putB_same w _ (block_lt hb), fun o ho => hnf o (by rw [List.size_toArray, splice_length _ _ _ (by simpa using hfit)] at ho; simpa using ho), ?_, fun q hq => ?_⟩
      · rw [List.size_toArray, splice_length _ _ _ (by simpa using hfit)]
        show (g.tok t).o + ((g.tok t).lim - (g.tok t).s0) * (g.tok t).sz ≤ _
        simpa using hcs
      · have m1 : (k - (g.tok t).s0) * (g.tok t).sz + n * (g.tok t).sz = (k + n - (g.tok t).s0) * (g.tok t).sz := by rw [← Nat.add_mul]; congr 1; omega
        have hq' : (g.tok t).o + (k + n - (g.tok t).s0) * (g.tok t).sz ≤ q := hq
        rintro (hf | ⟨_, h1', h2'⟩)
        · exact hnz q (by omega) hf
        · omega
    · rename_i hq
      obtain ⟨h0, c', e', fz', hb', hn', hsz', hf⟩ := hs.tok t k' ht
      have hne := hs.tdist tid t k k' htk ht (fun e => hq e.symm)
      refine ⟨h0, c', e', fz', by rw [show ((g.tokFit (g.tok tid).b L (L + news.length)).tok t) = g.tok t from rfl, putB_other w _ hne]; exact hb', hn', hsz', fun q hq' => ?_⟩
      rintro (hf' | ⟨hb2, _⟩)
      · exact hf q hq' hf'
      · exact hne hb2.symm
  · rw [hset] at h1 h2
    have f1 : ∃ k, σ.toks[t]? = some k := by
      split at h1
      · rename_i hq; subst hq; exact ⟨k, htk⟩
      · exact ⟨_, h1⟩
    have f2 : ∃ k, σ.toks[t']? = some k := by
      split at h2
      · rename_i hq; subst hq; exact ⟨k, htk⟩
      · exact ⟨_, h2⟩
    obtain ⟨a, ha⟩ := f1
    obtain ⟨b, hb⟩ := f2
    exact hs.tdist t t' a b ha hb h3
  · rw [hset] at h1
    have f1 : ∃ k, σ.toks[t]? = some k := by
      split at h1
      · rename_i hq; subst hq; exact ⟨k, htk⟩
      · exact ⟨_, h1⟩
    obtain ⟨a, ha⟩ := f1
    exact hs.tobj t a r o ha h2 h3
  · rcases hf with hf | ⟨rfl, hq1, hq2⟩
    · obtain ⟨v, hv⟩ := hs.frzb b q hf
      exact ⟨v, by rw [hcell b q hf]; exact hv⟩
    · rw [cell_of_block (putB_same w _ (block_lt hb)), List.getElem?_toArray, splice_get _ _ _ (by simpa using hfit), if_pos ⟨hq1, hq2⟩]
      exact ⟨news[q - L]'(by omega), by simp [show q - L < news.length by omega]⟩
  · left
    rcases hb' with ⟨r, o, h1, h2, rfl⟩ | ⟨t, k', ht, rfl⟩
    · exact .inl ⟨r, o, h1, h2, rfl⟩
    · rw [hset] at ht
      split at ht
      · rename_i hq; subst hq; exact .inr ⟨t, k, htk, rfl⟩
      · exact .inr ⟨t, k', ht, rfl⟩
  · rcases hf with hf | ⟨rfl, _⟩
    · exact .inl hf
    · exact .inr (.inl (.inr ⟨tid, k, htk, rfl⟩))
  · have hj' : j < news.length := by
      rcases Nat.lt_or_ge j news.length with h | h
      · exact h
      · rw [List.getElem?_eq_none h] at hj; cases hj
    rw [cell_of_block (putB_same w _ (block_lt hb)), List.getElem?_toArray, splice_get _ _ _ (by simpa using hfit), if_pos ⟨by omega, by omega⟩, show L + j - L = j by omega]
    exact hj

/-- A list of data behind an address, put together from two. -/
theorem list_append {f : Nat → Nat → Prop} {rows ys : List (List D)} {b o cap : Nat} {sz : Nat} (hf1 : ∀ (i : Nat) (row : List D), rows[i]? = some row → row.length = sz) (hf2 : ∀ (i : Nat) (row : List D), ys[i]? = some row → row.length = sz) (hpos : 0 < sz)
    (h : DR f w (.list rows) (.slice (some ⟨b, o, none⟩) rows.length cap)) {news : List Value} (hd : DRs f w ys.flatten news) (h1 : ∀ v ∈ news, oneC v = true)
    (hfr : ∀ j, j < news.length → f b (o + rows.length * sz + j)) (hc : ∀ j v, news[j]? = some v → w.cell? ⟨b, o + rows.length * sz + j, none⟩ = some v) (hcap : rows.length + ys.length ≤ cap) :
    DR f w (.list (rows ++ ys)) (.slice (some ⟨b, o, none⟩) (rows ++ ys).length cap) := by
  have hnl : news.length = ys.length * sz := by rw [← hd.length, flatten_len ys hf2]
  obtain ⟨_, sz', cv, hcap', hsz, hf, hcell, ho, hdd⟩ := h.asList
  · have cast : ∀ k, k < rows.length * sz → k < rows.length * sz' := by
      intro k hk
      by_cases hz : rows.length = 0
      · rw [hz] at hk; simp at hk
      · have h0 : rows[0]? = some (rows[0]'(by omega)) := by simp
        have : sz' = sz := by rw [← hsz 0 _ h0, hf1 0 _ h0]
        rw [this]; exact hk
    have getNew : ∀ k, rows.length * sz ≤ k → k < (rows ++ ys).length * sz → ∃ v, news[k - rows.length * sz]? = some v ∧ news.getD (k - rows.length * sz) undef = v := by
      intro k hk1 hk2
      rw [List.length_append, Nat.add_mul] at hk2
      have : k - rows.length * sz < news.length := by omega
      exact ⟨news[k - rows.length * sz], by simp [this], by simp [List.getD_eq_getElem?_getD, this]⟩
    refine .list (rows ++ ys) b o cap sz (fun k => if k < rows.length * sz then cv k else news.getD (k - rows.length * sz) undef) (by simpa using hcap) (fun i row hr => ?_) (fun k hk => ?_) (fun k hk => ?_) (fun k hk => ?_) (fun i row j d hr hj => ?_)
    · by_cases hi : i < rows.length
      · rw [List.getElem?_append_left hi] at hr; exact hf1 i row hr
      · rw [List.getElem?_append_right (by omega)] at hr; exact hf2 _ row hr
    · by_cases hk1 : k < rows.length * sz
      · exact hf k (cast k hk1)
      · obtain ⟨v, hv, _⟩ := getNew k (by omega) hk
        have hlt : k - rows.length * sz < news.length := by
          rcases Nat.lt_or_ge (k - rows.length * sz) news.length with h | h
          · exact h
          · rw [List.getElem?_eq_none h] at hv; cases hv
        have := hfr _ hlt
        rwa [show o + rows.length * sz + (k - rows.length * sz) = o + k by omega] at this
    · by_cases hk1 : k < rows.length * sz
      · simp only [hk1, if_true]; exact hcell k (cast k hk1)
      · simp only [hk1, if_false]
        obtain ⟨v, hv, hg⟩ := getNew k (by omega) hk
        rw [hg]
        have := hc _ v hv
        rwa [show o + rows.length * sz + (k - rows.length * sz) = o + k by omega] at this
    · by_cases hk1 : k < rows.length * sz
      · simp only [hk1, if_true]; exact ho k (cast k hk1)
      · simp only [hk1, if_false]
        obtain ⟨v, hv, hg⟩ := getNew k (by omega) hk
        rw [hg]
        exact h1 v (List.mem_of_getElem? hv)
    · by_cases hi : i < rows.length
      · rw [List.getElem?_append_left hi] at hr
        have hrl := hf1 i row hr
        have hj' : j < sz := by
          rcases Nat.lt_or_ge j sz with h | h
          · exact h
          · rw [List.getElem?_eq_none (by omega)] at hj; cases hj
        have hm := Nat.mul_le_mul_right sz (show i + 1 ≤ rows.length from hi)
        rw [Nat.add_mul] at hm
        have hss : sz' = sz := by rw [← hsz i row hr, hrl]
        simp only [show i * sz + j < rows.length * sz by omega, if_true]
        have := hdd i row j d hr hj
        rw [hss] at this
        exact this
      · rw [List.getElem?_append_right (by omega)] at hr
        have hrl := hf2 _ row hr
        have hj' : j < sz := by
          rcases Nat.lt_or_ge j sz with h | h
          · exact h
          · rw [List.getElem?_eq_none (by omega)] at hj; cases hj
        have hm := Nat.mul_le_mul_right sz (show rows.length ≤ i by omega)
        have hiy : i - rows.length < ys.length := by
          rcases Nat.lt_or_ge (i - rows.length) ys.length with h | h
          · exact h
          · rw [List.getElem?_eq_none h] at hr; cases hr
        have hm2 := Nat.mul_le_mul_right sz (show i - rows.length + 1 ≤ ys.length by omega)
        rw [Nat.add_mul] at hm2
        have e1 : i * sz + j - rows.length * sz = (i - rows.length) * sz + j := by rw [Nat.sub_mul]; omega
        simp only [show ¬ (i * sz + j < rows.length * sz) by omega, if_false, e1]
        have hlt : (i - rows.length) * sz + j < news.length := by omega
        have hfl : ys.flatten[(i - rows.length) * sz + j]? = some d := by
          rw [flatten_get hpos ys hf2]
          have d1 : ((i - rows.length) * sz + j) / sz = i - rows.length := by
            rw [Nat.add_comm, Nat.add_mul_div_right _ _ hpos, Nat.div_eq_of_lt hj', Nat.zero_add]
          have d2 : ((i - rows.length) * sz + j) % sz = j := by
            rw [Nat.add_comm, Nat.add_mul_mod_self_right, Nat.mod_eq_of_lt hj']
          rw [d1, d2, hr]
          exact hj
        have := hd.get _ d news[(i - rows.length) * sz + j] hfl (by simp [hlt])
        simpa [List.getD_eq_getElem?_getD, hlt] using this

end Go.Dn
