import Derived.Test.YtmcojkkpanijjaaE7
namespace Go.Proofs.Ytmcojkkpanijjaa.T
open Go.Dn
attribute [local simp] body_eq globEnv GB List.map_nil List.map_cons List.append_nil w_rangeF i_next i_makeMap i_range i_update i_delete i_entry i_clone entryV cloneV q_rndA q_rndB_n q_rndB_e q_rndB_r setAll w_skip w_ops w_seq w_cond w_block w_exit w_ret q_then_n q_then_e q_then_r q_blk_n q_blk_e q_blk_r q_ops q_cont q_end_n q_end_r q_end_e q_loop_n q_loop_e q_loop_r i_nil i_p i_alloc i_box i_store i_copy i_clear i_call i_callv i_when t_nil t_p t_call t_alloc t_box t_store kept_nil t_copy t_clear q_tcont gsel List.cons_append List.nil_append evalP evalE evalF evalB isObj thaw Opd.ev Env.get Env.set Env.pick putE initEnv evalBin intBin evalUn evalConv goneAll goneOne retV resAll Res.ev tupOf byVals byValsN bv_d bv_da bv_fl bv_tl bn_d bn_da bn_fl bn_tl cx Dn.newObj St.place St.push St.spot St.empty cell_d cell_da cell_agg cell_ref cell_sl cell_fl cell_tl cell_map cell_fn cell_ifc loadAt faddrV partOf extractV mkAgg ofD splice St.setObj fillV
set_option linter.unusedSimpArgs false
set_option linter.unusedVariables false
open Go.Sort (swp PermIn SortedIn Below partition partitionEqual choosePivot breakPatterns bitsLen Hint)

/-! ### pdqsort, of fewer than 50 -/
structure Rnd (σ : St) (q n a b : Nat) (d : Array Int) (Q1 : PostC) : Prop where
  ret : ∀ (e : Env) (s : St) (R : Array Int), To σ q R s → PermIn a b d R → SortedIn lt a b R → Q1 .ret e s
  go : ∀ (a' b' l' : Nat) (wb wp : Bool) (d' : Array Int) (s : St), To σ q d' s → a' ≤ b' → b' ≤ n → b' - a' < b - a → d'.size = n → l' ≤ 1000 → Below lt a' b' d' →
    (∀ R, PermIn a' b' d' R → SortedIn lt a' b' R → PermIn a b d R ∧ SortedIn lt a b R) → Q1 .normal [(0, .sl q 0 n 1), (1, I a'), (2, I b'), (3, I l'), (8, B wb), (9, B wp)] s

def Ih (q n m : Nat) : Prop := ∀ (σ : St) (a b l : Nat) (d : Array Int), b - a < m → At σ q d → d.size = n → a ≤ b → b ≤ n → l ≤ 1000 → Below lt a b d →
  Dn.Call Γ cx .raw 62 [.sl q 0 n 1, I a, I b, I l] σ fun _ s => ∃ R, To σ q R s ∧ PermIn a b d R ∧ SortedIn lt a b R

attribute [local irreducible] Go.Sort.partition Go.Sort.partitionEqual Go.Sort.partialInsertionSort Go.Sort.insertionSort Go.Sort.heapSort Go.Sort.reverseRange Go.Sort.breakPatterns Go.Sort.choosePivot
theorem swo : Go.Sort.SWO lt := Go.Sort.swo_ltInt

theorem st10 {σ : St} {q n a b l pv lim : Nat} {d d3 : Array Int} {wb wp : Bool} {Q1 : PostC} {s : St} (hR : Rnd σ q n a b d Q1) (ih : Ih q n (b - a)) (hto : To σ q d3 s) (hn3 : d3.size = n) (hP : PermIn a b d d3) (hB : Below lt a b d3)
    (hl : b - a = l) (hN : n ≤ 90) (hb : b ≤ n) (h1 : a ≤ pv) (h2 : pv < b) (hlim : lim ≤ 1000) :
    wcode (Dn.Call Γ cx) cx c62_k10 [(0, .sl q 0 n 1), (1, I a), (2, I b), (3, I lim), (8, B wb), (9, B wp), (10, I l), (11, I pv), (87, B false)] s Q1 := by
  simp -implicitDefEqProofs [c62_k10]
  refine use_raw (s_part hto.at hn3 h1 h2 hb (by omega)) fun v s4 ⟨hv, ht4⟩ => ?_
  rcases hx : partition lt d3 a b pv with ⟨mid, ap, d4⟩
  rw [hx] at hv ht4
  have hb3 : b ≤ d3.size := by omega
  have hpt := Go.Sort.partition_holds lt
  have hm := Go.Sort.round_part swo hpt h1 h2 hb3 hB hx
  obtain ⟨m1, m2, m3, m4, m5, m6, m7⟩ := hm
  have ht4' := hto.trans ht4
  have hn4 : d4.size = n := by rw [m3, hn3]
  have e1 : IntKind.i64.wrap ((mid : Int) - a) = ((mid - a : Nat) : Int) := by rw [wrap_i64 (by omega) (by omega)]; omega
  have e2 : IntKind.i64.wrap ((b : Int) - mid) = ((b - mid : Nat) : Int) := by rw [wrap_i64 (by omega) (by omega)]; omega
  have e3 : IntKind.i64.wrap ((mid : Int) + 1) = ((mid + 1 : Nat) : Int) := by rw [wrap_i64 (by omega) (by omega)]; omega
  have e4 : IntKind.i64.wrap ((l : Int) / 8) = ((l / 8 : Nat) : Int) := by rw [wrap_i64 (by omega) (by omega)]; omega
  obtain ⟨lf, hlf⟩ : ∃ lf, mid - a = lf := ⟨_, rfl⟩
  obtain ⟨rt, hrt⟩ : ∃ rt, b - mid = rt := ⟨_, rfl⟩
  obtain ⟨th, hth⟩ : ∃ th, l / 8 = th := ⟨_, rfl⟩
  obtain ⟨mi, hmi⟩ : ∃ mi, mid + 1 = mi := ⟨_, rfl⟩
  rw [hlf] at e1
  rw [hrt] at e2
  rw [hmi] at e3
  rw [hth] at e4
  subst hv
  simp -implicitDefEqProofs [c62_k9, c62_k8, e1, e2, c62_k7, e4, c62_k6]
  by_cases hlr : lf < rt
  · simp -implicitDefEqProofs [hlr, c62_k5, c62_k2, c62_k1]
    refine use_raw (ih s4 a mid lim d4 (by omega) ht4.at hn4 m1 (by omega) hlim m4) fun v s5 ⟨L, hL, pL, sL⟩ => ?_
    simp -implicitDefEqProofs [c62_k0, e3]
    obtain ⟨n1, n2⟩ := m6 L pL sL
    rw [hmi] at n1 n2
    exact hR.go mi b lim _ ap L s5 (ht4'.trans hL) (by omega) hb (by omega) (by rw [pL.1, hn4]) hlim n1 fun R pR sR => ⟨Go.Sort.permIn_trans _ _ _ a b hP (n2 R pR sR).1, (n2 R pR sR).2⟩
  · simp -implicitDefEqProofs [hlr, c62_k5, c62_k4, c62_k3, e3]
    rw [hmi] at m5 m7
    refine use_raw (ih s4 mi b lim d4 (by omega) ht4.at hn4 (by omega) hb hlim m5) fun v s5 ⟨L, hL, pL, sL⟩ => ?_
    simp -implicitDefEqProofs
    obtain ⟨n1, n2⟩ := m7 L pL sL
    exact hR.go a mid lim _ ap L s5 (ht4'.trans hL) m1 (by omega) (by omega) (by rw [pL.1, hn4]) hlim n1 fun R pR sR => ⟨Go.Sort.permIn_trans _ _ _ a b hP (n2 R pR sR).1, (n2 R pR sR).2⟩

theorem st13 {σ : St} {q n a b l pv lim : Nat} {d d3 : Array Int} {wb wp : Bool} {Q1 : PostC} {s : St} {tl : Env} (htl : tl = [(72, B false)] ∨ tl = [(68, B false)]) (hR : Rnd σ q n a b d Q1) (ih : Ih q n (b - a)) (hto : To σ q d3 s) (hn3 : d3.size = n) (hP : PermIn a b d d3) (hB : Below lt a b d3)
    (hl : b - a = l) (hN : n ≤ 90) (hb : b ≤ n) (h1 : a ≤ pv) (h2 : pv < b) (hlim : lim ≤ 1000) :
    wcode (Dn.Call Γ cx) cx c62_k13 ((0, .sl q 0 n 1) :: (1, I a) :: (2, I b) :: (3, I lim) :: (8, B wb) :: (9, B wp) :: (10, I l) :: (11, I pv) :: tl) s (blkQ 1 Q1) := by
  simp only [body_eq, globEnv, GB, List.map_nil, List.map_cons, List.append_nil, w_rangeF, i_next, i_makeMap, i_range, i_update, i_delete, i_entry, i_clone, entryV, cloneV, q_rndA, q_rndB_n, q_rndB_e, q_rndB_r, setAll, w_skip, w_ops, w_seq, w_cond, w_block, w_exit, w_ret, q_then_n, q_then_e, q_then_r, q_blk_n, q_blk_e, q_blk_r, q_ops, q_cont, q_end_n, q_end_r, q_end_e, q_loop_n, q_loop_e, q_loop_r, i_nil, i_p, i_alloc, i_box, i_store, i_copy, i_clear, i_call, i_callv, i_when, t_nil, t_p, t_call, t_alloc, t_box, t_store, kept_nil, t_copy, t_clear, q_tcont, gsel, List.cons_append, List.nil_append, evalP, evalE, evalF, evalB, isObj, thaw, Opd.ev, Env.get, Env.set, Env.pick, putE, initEnv, evalBin, intBin, evalUn, evalConv, goneAll, goneOne, retV, resAll, Res.ev, tupOf, byVals, byValsN, bv_d, bv_da, bv_fl, bv_tl, bn_d, bn_da, bn_fl, bn_tl, cx, Dn.newObj, St.place, St.push, St.spot, St.empty, cell_d, cell_da, cell_agg, cell_ref, cell_sl, cell_fl, cell_tl, cell_map, cell_fn, cell_ifc, loadAt, faddrV, partOf, extractV, mkAgg, ofD, splice, St.setObj, fillV, c62_k13]
  refine w_drwX (fun _ => .val) [] (by decide +kernel) ?_
  have hat := hto.at
  have hR' : Rnd σ q n a b d (blkQ 1 Q1) := ⟨hR.ret, hR.go⟩
  have rest := st10 hR' ih hto hn3 hP hB hl hN hb h1 h2 hlim (wb := wb) (wp := wp)
  by_cases ha0 : 0 < a
  · obtain ⟨a', rfl⟩ : ∃ a', a = a' + 1 := ⟨a - 1, by omega⟩
    have e1 : IntKind.i64.wrap (((a' + 1 : Nat) : Int) - 1) = (a' : Nat) := by rw [wrap_i64 (by omega) (by omega)]; omega
    have hsw := hat.sw (i := a') (j := pv) (by omega) (by omega)
    have ia1 := fun σ => iaddr_sl σ (q := q) (n := n) (i := a') (by omega)
    have ia2 := fun σ => iaddr_sl σ (q := q) (n := n) (i := pv) (by omega)
    obtain ⟨a, hadef⟩ : ∃ a, a' + 1 = a := ⟨_, rfl⟩
    have haa : a - 1 = a' := by omega
    rw [hadef] at e1 hR hR' ih hP hB hl h1 rest ha0 ⊢
    have ha0' : (0 : Int) < a := by omega
    rcases htl with rfl | rfl
    all_goals
      simp -implicitDefEqProofs [room_zero, ha0', ha0, e1, ia1, ia2, hsw.o, hsw.ai, hsw.aj]
      refine use_fnN rfl rfl (s_Less _ _) rfl ?_
      cases hlt : lt d3[a']! d3[pv]! with
      | true =>
        simp -implicitDefEqProofs [c62_k12]
        exact rest
      | false =>
        simp -implicitDefEqProofs [c62_k12]
        refine use_raw (s_partEq hat hn3 h1 h2 hb (by omega)) fun v s4 ⟨hv, ht4⟩ => ?_
        rcases hx : partitionEqual lt d3 a b pv with ⟨mid, d4⟩
        rw [hx] at hv ht4
        subst hv
        obtain ⟨m1, m2, m3, m4, m5⟩ := Go.Sort.round_eq swo (Go.Sort.partitionEqual_holds lt) ha0 h1 h2 (by omega) hB (by rw [haa]; exact hlt) hx
        simp -implicitDefEqProofs [c62_k11]
        exact hR.go mid b lim wb wp d4 s4 (hto.trans ht4) m2 hb (by omega) (by rw [m3, hn3]) hlim m4 fun R pR sR => ⟨Go.Sort.permIn_trans _ _ _ a b hP (m5 R pR sR).1, (m5 R pR sR).2⟩
  · obtain rfl : a = 0 := by omega
    rcases htl with rfl | rfl
    all_goals
      simp -implicitDefEqProofs [room_zero, c62_k12]
      exact rest

theorem st16 {σ : St} {q n a b l pv lim : Nat} {d d3 : Array Int} {wb wp : Bool} {hi : Int} {Q1 : PostC} {s : St} {tl : Env} (htl : tl = [] ∨ tl = [(50, B false)]) (hR : Rnd σ q n a b d Q1) (ih : Ih q n (b - a)) (hto : To σ q d3 s) (hn3 : d3.size = n) (hP : PermIn a b d d3) (hB : Below lt a b d3)
    (hl : b - a = l) (hN : n ≤ 90) (hb : b ≤ n) (h1 : a ≤ pv) (h2 : pv < b) (hlim : lim ≤ 1000) :
    wcode (Dn.Call Γ cx) cx c62_k16 ((0, .sl q 0 n 1) :: (1, I a) :: (2, I b) :: (3, I lim) :: (8, B wb) :: (9, B wp) :: (10, I l) :: (11, I pv) :: (12, I hi) :: tl) s (blkQ 1 Q1) := by
  have rest := fun (tl : Env) (htl : tl = [(72, B false)] ∨ tl = [(68, B false)]) => st13 (wb := wb) (wp := wp) htl hR ih hto hn3 hP hB hl hN hb h1 h2 hlim
  have rest2 := fun (tl : Env) (htl : tl = [(72, B false)] ∨ tl = [(68, B false)]) (s4 : St) (d4 : Array Int) (hto4 : To σ q d4 s4) (hn4 : d4.size = n) (hP4 : PermIn a b d d4) (hB4 : Below lt a b d4) => st13 (wb := true) (wp := true) htl hR ih hto4 hn4 hP4 hB4 hl hN hb h1 h2 hlim
  by_cases hg : wb = true ∧ wp = true ∧ hi = 1
  · obtain ⟨rfl, rfl, rfl⟩ := hg
    have hps := Go.Sort.partialInsertionSort_holds swo d3 a b (by omega) (by omega) hB
    rcases htl with rfl | rfl
    all_goals
      simp -implicitDefEqProofs [c62_k16, c62_k15]
      refine use_raw (s_pins hto.at hn3 (by omega) hb (by omega)) fun v s4 ⟨hv, ht4⟩ => ?_
      subst hv
      have hP4 := Go.Sort.permIn_trans _ _ _ a b hP hps.1
      have hn4 : (Go.Sort.partialInsertionSort lt d3 a b).1.size = n := by rw [hps.1.1, hn3]
      have hB4 : Below lt a b (Go.Sort.partialInsertionSort lt d3 a b).1 := hB.perm (by omega) hps.1
      have hto4 := hto.trans ht4
      cases hp : (Go.Sort.partialInsertionSort lt d3 a b).2 with
      | true =>
        simp -implicitDefEqProofs [c62_k14]
        exact hR.ret _ _ _ hto4 hP4 (hps.2 hp)
      | false =>
        simp -implicitDefEqProofs [c62_k14]
        exact rest2 _ (.inl rfl) _ _ hto4 hn4 hP4 hB4
  · have hv : ∀ x : Bool, (wb = true → wp = true → x = decide (hi = 1)) → (if wb = true then (if wp = true then x else false) else false) = false := by
      intro x hx
      cases wb <;> cases wp <;> simp at hx ⊢
      rw [hx]
      simpa using hg
    rcases htl with rfl | rfl
    all_goals
      cases wb <;> cases wp <;> simp -implicitDefEqProofs [c62_k16, c62_k15] <;> first | exact rest _ (.inr rfl) | skip
    all_goals
      have h1 : ¬ hi = 1 := by simpa using hg
      simp [h1]
      exact rest _ (.inr rfl)

open Go.Sort (swp PermIn SortedIn Below partition partitionEqual choosePivot breakPatterns bitsLen Hint)

theorem nw_to {σ s s1 : St} {q : Nat} {d : Array Int} (h : To σ q d s) (hn : Nw s s1) : To σ q d s1 := ⟨hn.fr.get h.obj (by simp), h.fr.trans (hn.fr.mono (by simp)), hn.tk.trans h.tk⟩

theorem st21 {σ : St} {q n a b l lim : Nat} {d d3 : Array Int} {wb wp : Bool} {Q1 : PostC} {s : St} {tl : Env} (htl : tl = [] ∨ tl = [(35, B false)]) (hR : Rnd σ q n a b d Q1) (ih : Ih q n (b - a)) (hto : To σ q d3 s) (hn3 : d3.size = n) (hP : PermIn a b d d3) (hB : Below lt a b d3)
    (hl : b - a = l) (hN : n ≤ 90) (hb : b ≤ n) (hab : a < b) (hlim : lim ≤ 1000) :
    wcode (Dn.Call Γ cx) cx c62_k21 ((0, .sl q 0 n 1) :: (1, I a) :: (2, I b) :: (3, I lim) :: (8, B wb) :: (9, B wp) :: (10, I l) :: tl) s (blkQ 1 Q1) := by
  have hcp := Go.Sort.choosePivot_holds lt d3 a b hab
  have step := s_choose hto.at hn3 hab hb (by omega)
  rcases hc : choosePivot lt d3 a b with ⟨pv, h⟩
  rw [hc] at hcp step
  simp only at hcp
  rcases htl with rfl | rfl
  all_goals
    simp -implicitDefEqProofs [c62_k21]
    refine use_raw step fun v s4 ⟨hv, hnw⟩ => ?_
    have ht4 := nw_to hto hnw
    subst hv
    simp -implicitDefEqProofs [c62_k20]
    by_cases hd : h = .decreasing
    · subst hd
      have hrv := s_reverse ht4.at hn3 hab hb (by omega)
      have hpr := Go.Sort.reverseRange_holds d3 a b (by omega) (by omega)
      have e1 : IntKind.i64.wrap ((b : Int) - 1) = ((b - 1 : Nat) : Int) := by rw [wrap_i64 (by omega) (by omega)]; omega
      have e2 : IntKind.i64.wrap ((pv : Int) - a) = ((pv - a : Nat) : Int) := by rw [wrap_i64 (by omega) (by omega)]; omega
      have e3 : IntKind.i64.wrap (((b - 1 : Nat) : Int) - ((pv - a : Nat) : Int)) = ((b - 1 - (pv - a) : Nat) : Int) := by rw [wrap_i64 (by omega) (by omega)]; omega
      obtain ⟨x, hx⟩ : ∃ x, b - 1 = x := ⟨_, rfl⟩
      obtain ⟨y, hy⟩ : ∃ y, pv - a = y := ⟨_, rfl⟩
      obtain ⟨z, hz⟩ : ∃ z, x - y = z := ⟨_, rfl⟩
      rw [hx] at e1 e3
      rw [hy] at e2 e3
      rw [hz] at e3
      have hb3 : b ≤ d3.size := by omega
      simp -implicitDefEqProofs [hintN, c62_k19, c62_k18]
      refine use_raw hrv fun v s5 ht5 => ?_
      simp -implicitDefEqProofs [c62_k17, e1, e2, e3]
      exact st16 (.inl rfl) hR ih (ht4.trans ht5) (by rw [hpr.1, hn3]) (Go.Sort.permIn_trans _ _ _ a b hP hpr) (hB.perm hb3 hpr) hl hN hb (by omega) (by omega) hlim
    · have hh : ¬ hintN h = 2 := by cases h <;> simp [hintN] at hd ⊢
      simp -implicitDefEqProofs [hh, c62_k19]
      exact st16 (.inr rfl) hR ih ht4 hn3 hP hB hl hN hb hcp.1 hcp.2 hlim

theorem st29 {σ : St} {q n a b lim : Nat} {d : Array Int} {wb wp : Bool} {Q1 : PostC} (hR : Rnd σ q n a b d Q1) (ih : Ih q n (b - a)) (hat : At σ q d) (hn : d.size = n) (hB : Below lt a b d)
    (hN : n ≤ 90) (hb : b ≤ n) (hab : a ≤ b) (hlim : lim ≤ 1000) :
    wcode (Dn.Call Γ cx) cx c62_k29 [(0, .sl q 0 n 1), (1, I a), (2, I b), (3, I lim), (8, B wb), (9, B wp)] σ (blkQ 1 Q1) := by
  obtain ⟨l, hl⟩ : ∃ l, b - a = l := ⟨_, rfl⟩
  have e0 : IntKind.i64.wrap ((b : Int) - a) = (l : Int) := by rw [wrap_i64 (by omega) (by omega)]; omega
  simp -implicitDefEqProofs [c62_k29, e0, c62_k28]
  by_cases h12 : l ≤ 12
  · have h12' : (l : Int) ≤ 12 := by omega
    have hin := Go.Sort.insertionSort_holds swo d a b hab (by omega)
    simp -implicitDefEqProofs [h12', c62_k27]
    refine use_raw (s_ins hat hn hab hb (by omega)) fun v s ht => ?_
    simp -implicitDefEqProofs
    exact hR.ret _ _ _ ht hin.1 hin.2
  have h12' : ¬ (l : Int) ≤ 12 := by omega
  simp -implicitDefEqProofs [h12', c62_k27, c62_k26]
  by_cases h0 : lim = 0
  · subst h0
    have hin := Go.Sort.heapSort_holds swo d a b hab (by omega)
    simp -implicitDefEqProofs [c62_k25]
    refine use_raw (s_heap hat hn hab hb (by omega)) fun v s ht => ?_
    simp -implicitDefEqProofs
    exact hR.ret _ _ _ ht hin.1 hin.2
  have h0' : ¬ (lim : Int) = 0 := by omega
  simp -implicitDefEqProofs [h0', h0, c62_k25, c62_k24]
  have hlt : a < b := by omega
  cases wb with
  | false =>
    have hpb := Go.Sort.breakPatterns_holds (α := Int) d a b hab (by omega)
    have e1 : IntKind.i64.wrap ((lim : Int) - 1) = ((lim - 1 : Nat) : Int) := by rw [wrap_i64 (by omega) (by omega)]; omega
    obtain ⟨l1, hl1⟩ : ∃ l1, lim - 1 = l1 := ⟨_, rfl⟩
    rw [hl1] at e1
    have hb3 : b ≤ d.size := by omega
    simp -implicitDefEqProofs [c62_k23]
    refine use_raw (s_break hat hn hab hb hN) fun v s ht => ?_
    simp -implicitDefEqProofs [c62_k22, e1]
    exact st21 (.inl rfl) hR ih ht (by rw [hpb.1, hn]) hpb (hB.perm hb3 hpb) hl hN hb hlt (by omega)
  | true =>
    simp -implicitDefEqProofs [c62_k23]
    exact st21 (.inr rfl) hR ih (To.refl hat) hn (Go.Sort.permIn_refl _ _ _) hB hl hN hb hlt hlim

def InvPq (σ0 : St) (q n a0 b0 : Nat) (d0 : Array Int) (m : Nat) (e : Env) (σ : St) : Prop := ∃ (a b l : Nat) (wb wp : Bool) (d : Array Int), e = [(0, .sl q 0 n 1), (1, I a), (2, I b), (3, I l), (8, B wb), (9, B wp)] ∧ b - a = m ∧ To σ0 q d σ ∧ a ≤ b ∧ b ≤ n ∧ b - a ≤ b0 - a0 ∧ d.size = n ∧ l ≤ 1000 ∧ Below lt a b d ∧
    (∀ R, PermIn a b d R → SortedIn lt a b R → PermIn a0 b0 d0 R ∧ SortedIn lt a0 b0 R)

theorem s_pdq {q n : Nat} (hN : n ≤ 90) : ∀ m, Ih q n m := by
  intro m
  induction m with
  | zero => intro σ a b l d h; omega
  | succ m ihm =>
    intro σ a b l d hlt hat hn hab hb hlim hB
    refine Dn.Call.body (fc := c62) rfl ?_
    simp -implicitDefEqProofs [c62, c62_k32, c62_k31]
    refine wloopI (InvPq σ q n a b d) (m := b - a) ⟨a, b, l, true, true, d, rfl, rfl, To.refl hat, hab, hb, Nat.le_refl _, hn, hlim, hB, fun R h1 h2 => ⟨h1, h2⟩⟩ ?_
    rintro m' e s ⟨a1, b1, l1, wb, wp, d1, rfl, rfl, ht1, hab1, hb1, hle, hn1, hl1, hB1, hfin⟩
    simp only [body_eq, globEnv, GB, List.map_nil, List.map_cons, List.append_nil, w_rangeF, i_next, i_makeMap, i_range, i_update, i_delete, i_entry, i_clone, entryV, cloneV, q_rndA, q_rndB_n, q_rndB_e, q_rndB_r, setAll, w_skip, w_ops, w_seq, w_cond, w_block, w_exit, w_ret, q_then_n, q_then_e, q_then_r, q_blk_n, q_blk_e, q_blk_r, q_ops, q_cont, q_end_n, q_end_r, q_end_e, q_loop_n, q_loop_e, q_loop_r, i_nil, i_p, i_alloc, i_box, i_store, i_copy, i_clear, i_call, i_callv, i_when, t_nil, t_p, t_call, t_alloc, t_box, t_store, kept_nil, t_copy, t_clear, q_tcont, gsel, List.cons_append, List.nil_append, evalP, evalE, evalF, evalB, isObj, thaw, Opd.ev, Env.get, Env.set, Env.pick, putE, initEnv, evalBin, intBin, evalUn, evalConv, goneAll, goneOne, retV, resAll, Res.ev, tupOf, byVals, byValsN, bv_d, bv_da, bv_fl, bv_tl, bn_d, bn_da, bn_fl, bn_tl, cx, Dn.newObj, St.place, St.push, St.spot, St.empty, cell_d, cell_da, cell_agg, cell_ref, cell_sl, cell_fl, cell_tl, cell_map, cell_fn, cell_ifc, loadAt, faddrV, partOf, extractV, mkAgg, ofD, splice, St.setObj, fillV, c62_l30]
    refine st29 ⟨fun e s2 R hR p1 p2 => ?_, fun a' b' l' wb' wp' d' s2 ht2 h1 h2 h3 h4 h5 h6 h7 => ?_⟩ (fun σ' a' b' l' d' h => ihm σ' a' b' l' d' (by omega)) ht1.at hn1 hB1 hN hb1 hab1 hl1
    · simp -implicitDefEqProofs
      exact ⟨R, ht1.trans hR, (hfin R p1 p2).1, (hfin R p1 p2).2⟩
    · simp only [body_eq, globEnv, GB, List.map_nil, List.map_cons, List.append_nil, w_rangeF, i_next, i_makeMap, i_range, i_update, i_delete, i_entry, i_clone, entryV, cloneV, q_rndA, q_rndB_n, q_rndB_e, q_rndB_r, setAll, w_skip, w_ops, w_seq, w_cond, w_block, w_exit, w_ret, q_then_n, q_then_e, q_then_r, q_blk_n, q_blk_e, q_blk_r, q_ops, q_cont, q_end_n, q_end_r, q_end_e, q_loop_n, q_loop_e, q_loop_r, i_nil, i_p, i_alloc, i_box, i_store, i_copy, i_clear, i_call, i_callv, i_when, t_nil, t_p, t_call, t_alloc, t_box, t_store, kept_nil, t_copy, t_clear, q_tcont, gsel, List.cons_append, List.nil_append, evalP, evalE, evalF, evalB, isObj, thaw, Opd.ev, Env.get, Env.set, Env.pick, putE, initEnv, evalBin, intBin, evalUn, evalConv, goneAll, goneOne, retV, resAll, Res.ev, tupOf, byVals, byValsN, bv_d, bv_da, bv_fl, bv_tl, bn_d, bn_da, bn_fl, bn_tl, cx, Dn.newObj, St.place, St.push, St.spot, St.empty, cell_d, cell_da, cell_agg, cell_ref, cell_sl, cell_fl, cell_tl, cell_map, cell_fn, cell_ifc, loadAt, faddrV, partOf, extractV, mkAgg, ofD, splice, St.setObj, fillV]
      refine ⟨b' - a', h3, a', b', l', wb', wp', d', rfl, rfl, ht1.trans ht2, h1, h2, by omega, h4, h5, h6, fun R p1 p2 => ?_⟩
      obtain ⟨k1, k2⟩ := h7 R p1 p2
      exact hfin R k1 k2

/-- slices.Sort, of fewer than 50: the same elements, rising. -/
theorem s_Sort {σ : St} {q n : Nat} {d : Array Int} (h : At σ q d) (hn : d.size = n) (hN : n ≤ 90) :
    Dn.Call Γ cx .raw 51 [.sl q 0 n 1] σ fun _ s => ∃ R, To σ q R s ∧ PermIn 0 n d R ∧ SortedIn lt 0 n R := by
  refine Dn.Call.body (fc := c51) rfl ?_
  have u1 : IntKind.u64.wrap (n : Int) = n := wrap_u64 (by omega) (by omega)
  have hbl := bits_256 ⟨n, by omega⟩
  simp only at hbl
  simp -implicitDefEqProofs [c51, lenT, Dn.lenV, c51_k0, u1]
  refine use_fn rfl (s_Len (x := n) (by omega)) rfl ?_
  simp -implicitDefEqProofs
  refine use_raw (s_pdq hN (n + 1) σ 0 n (bitsLen n) d (by omega) h hn (by omega) (by omega) (by omega) (.inl rfl)) fun v s hR => ?_
  simp -implicitDefEqProofs
  exact hR


/-! ### walks over maps -/
abbrev Ent := Nat × V × V
/-- A map's entries: each born once. -/
structure Bn (es : List Ent) (clock : Nat) : Prop where
  nd : (es.map (·.1)).Nodup
  lt : ∀ x ∈ es, x.1 < clock

theorem find_mem {es : List Ent} (h : (es.map (·.1)).Nodup) {x : Ent} (hx : x ∈ es) : es.find? (fun e => e.1 == x.1) = some x := by
  induction es with
  | nil => cases hx
  | cons a r ih =>
    rw [List.find?_cons]
    simp only [List.map_cons, List.nodup_cons] at h
    rcases List.mem_cons.1 hx with rfl | hx
    · simp
    · have : ¬ a.1 = x.1 := fun e => h.1 (by rw [e]; exact List.mem_map.2 ⟨x, hx, rfl⟩)
      rw [show (a.1 == x.1) = false by simpa using this]
      exact ih h.2 hx

def InvKeys (r p q : Nat) (es : List Ent) (clock : Nat) (J : List V → St → Prop) (m : Nat) (e : Env) (s : St) : Prop := ∃ (vis rest : List Ent), e = [(0, .yld r), (5, .iter p)] ∧ rest.length = m ∧ es.Perm (vis ++ rest) ∧ s.objs[p]? = some (.iter (some q) clock (vis.map (·.1)) clock) ∧ J (vis.map (·.2.1)) s

theorem s_Keys1 {σ : St} {r rb q : Nat} {es : List Ent} {clock : Nat} (hb : σ.objs[rb]? = some (.cells [.map q])) (hm : σ.objs[q]? = some (.map es clock)) (hbn : Bn es clock) (J : List V → St → Prop)
    (h0 : J [] ⟨σ.objs ++ [.iter (some q) clock [] clock], σ.toks⟩)
    (hkeep : ∀ l s, J l s → s.objs[q]? = some (.map es clock))
    (hit : ∀ l s seen seen', J l s → s.objs[σ.objs.length]? = some (.iter (some q) clock seen clock) → J l (s.setObj σ.objs.length (.iter (some q) clock seen' clock)))
    (hround : ∀ l k s seen, J l s → s.objs[σ.objs.length]? = some (.iter (some q) clock seen clock) → k ∈ es.map (·.2.1) → l.length < es.length → Dn.Call Γ cx .rnd r [k] s fun w s' => w = B true ∧ J (l ++ [k]) s' ∧ s'.objs[σ.objs.length]? = some (.iter (some q) clock seen clock)) :
    Dn.Call Γ cx .raw 52 [.yld r, .ref rb 0] σ fun _ s => ∃ l seen, l.Perm (es.map (·.2.1)) ∧ J l s ∧ s.objs[σ.objs.length]? = some (.iter (some q) clock seen clock) := by
  refine Dn.Call.body (fc := c52) rfl ?_
  have hr : rangeV σ none (.map q) = some (.iter σ.objs.length, ⟨σ.objs ++ [.iter (some q) clock [] clock], σ.toks⟩) := by
    simp [rangeV, hm, newObj, St.place, St.push, St.spot]
  simp -implicitDefEqProofs [c52, hb, hr, c52_k6]
  generalize hp : σ.objs.length = p at *
  refine wloopI (InvKeys r p q es clock J) (m := es.length) ⟨[], es, rfl, rfl, List.Perm.refl _, by simp only; rw [← hp]; simp, h0⟩ ?_
  rintro m e s ⟨vis, rest, rfl, rfl, hperm, hiter, hJ⟩
  simp -implicitDefEqProofs [c52_l5]
  have hnd2 : ((vis ++ rest).map (·.1)).Nodup := (hperm.map (·.1)).nodup hbn.nd
  rw [List.map_append, List.nodup_append] at hnd2
  obtain ⟨d1, d2, d3⟩ := hnd2
  have hpl : p < s.objs.length := (List.getElem?_eq_some_iff.1 hiter).1
  refine nextV_at hiter (hkeep _ _ hJ) hbn.lt (fun x hx hns => ?_) (fun hall => ?_)
  · have hxr : x ∈ rest := by
      rcases List.mem_append.1 (hperm.mem_iff.1 hx) with h | h
      · exfalso
        have : (vis.map (·.1)).contains x.1 = true := by simpa using ⟨x.2.1, x.2.2, h⟩
        rw [this] at hns
        cases hns
      · exact h
    obtain ⟨ra, rb', hrest⟩ := List.append_of_mem hxr
    have hJ2 := hit _ _ _ (vis.map (·.1) ++ [x.1]) hJ hiter
    have hit2 : (s.setObj p (.iter (some q) clock (vis.map (·.1) ++ [x.1]) clock)).objs[p]? = some (.iter (some q) clock (vis.map (·.1) ++ [x.1]) clock) := by simp [St.setObj, hpl]
    have hent : entryV (s.setObj p (.iter (some q) clock (vis.map (·.1) ++ [x.1]) clock)) (.iter p) = some (.tup [x.2.1, x.2.2]) := by
      simp only [entryV, hit2, hkeep _ _ hJ2, List.getLast?_append, List.getLast?_singleton]
      simp [find_mem hbn.nd hx]
    generalize s.setObj p (.iter (some q) clock (vis.map (·.1) ++ [x.1]) clock) = s2 at *
    simp -implicitDefEqProofs [-entryV, c52_k4, c52_k3, c52_k2, hent, c52_k1]
    refine ⟨_, hround _ x.2.1 s2 _ hJ2 hit2 (List.mem_map.2 ⟨x, hx, rfl⟩) (by have := hperm.length_eq; rw [hrest] at this; simp at this ⊢; omega), fun w s3 ⟨hw, hJ3, hit3⟩ => ?_⟩
    subst hw
    simp -implicitDefEqProofs [c52_k0]
    refine ⟨(ra ++ rb').length, by rw [hrest]; simp, vis ++ [x], ra ++ rb', rfl, rfl, ?_, by simpa using hit3, by simpa using hJ3⟩
    rw [hrest] at hperm
    refine hperm.trans ?_
    rw [List.append_assoc]
    exact List.Perm.append_left _ List.perm_middle
  · have hre : rest = [] := by
      cases rest with
      | nil => rfl
      | cons y ys =>
        exfalso
        have hy : y ∈ es := hperm.mem_iff.2 (by simp)
        have := hall y hy
        have hm2 : y.1 ∈ vis.map (·.1) := by simpa using this
        exact d3 _ hm2 y.1 (by simp) rfl
    subst hre
    rw [List.append_nil] at hperm
    simp -implicitDefEqProofs [c52_k4]
    exact ⟨_, (hperm.map (·.2.1)).symm, hJ, _, hiter⟩

/-! ### what is collected -/
/-- What was put together so far: nothing, or an object of its own. -/
def Col (lo : Nat) (s : St) (v : V) (l : List Int) : Prop := (l = [] ∧ v = .d .nils) ∨ ∃ r, v = .sl r 0 l.length 1 ∧ lo ≤ r ∧ s.objs[r]? = some (.cells (l.map X)) ∧ l ≠ []

theorem Col.push {lo : Nat} {s : St} {v : V} {l : List Int} (h : Col lo s v l) (hl : l.length ≤ 1000000) (hlo : lo ≤ s.objs.length) (k : Int) : ∃ v' s', appendM s none 1 4 v [[.int .u32 k]] = some (v', s') ∧ Col lo s' v' (l ++ [k]) ∧ (∀ r, r < lo → s'.objs[r]? = s.objs[r]?) ∧ s.objs.length ≤ s'.objs.length ∧ s'.toks = s.toks := by
  rcases h with ⟨rfl, rfl⟩ | ⟨r, rfl, hr, ho, hne⟩
  · refine ⟨.sl s.objs.length 0 1 1, ⟨s.objs ++ [.cells [X k]], s.toks⟩, by simp [appendM, fitR, newObj, St.place, St.push, St.spot], .inr ⟨s.objs.length, rfl, hlo, by simp, by simp⟩, fun r hr => by simp only; rw [List.getElem?_append_left (by omega)], by simp, rfl⟩
  · have hrl : r < s.objs.length := (List.getElem?_eq_some_iff.1 ho).1
    have hpos : 0 < l.length := List.length_pos_iff.2 hne
    have etk : (l.map X).take l.length = l.map X := List.take_of_length_le (by simp)
    refine ⟨.sl s.objs.length 0 (l.length + 1) 1, ⟨(s.objs.set r .dead) ++ [.cells (l.map X ++ [X k])], s.toks⟩, ?_, .inr ⟨s.objs.length, by simp, hlo, by simp [List.getElem?_append], by simp⟩, fun r' hr' => ?_, by simp, rfl⟩
    · simp only [appendM, ho, fitR, List.length_map, List.drop_zero, Nat.mul_one, etk]
      simp [newObj, St.place, St.push, St.spot, St.setObj, hpos, show (l.length + 1) * 4 ≤ 140737488355328 by omega, show l.length + 1 ≤ 9223372036854775807 by omega]
    · simp only
      rw [List.getElem?_append_left (by simp; omega), List.getElem?_set_ne (by omega)]

open Go.Sort (PermIn SortedIn)

abbrev keysF : Fn := .func 52
def asE (n0 : Nat) : Env := [(2, .ref n0 0)]
/-- The loop of slices.AppendSeq, between rounds. -/
structure JA (σ : St) (l : List V) (li : List Int) (v : V) (s : St) : Prop where
  l : l = li.map X
  b : s.objs[σ.objs.length]? = some (.cells [v])
  lp : s.objs[σ.objs.length + 1]? = some (.loop (asE σ.objs.length) [7] c61_a1 c61_b2 .ready)
  c : Col (σ.objs.length + 3) s v li
  old : ∀ r, r < σ.objs.length → s.objs[r]? = σ.objs[r]?
  len : σ.objs.length + 3 ≤ s.objs.length
  tk : s.toks = σ.toks
  n : li.length ≤ 1000

theorem Col.set {lo : Nat} {s : St} {v : V} {l : List Int} (h : Col lo s v l) {p : Nat} (hp : p < lo) (o : Dn.Obj) : Col lo (s.setObj p o) v l := by
  rcases h with ⟨h1, h2⟩ | ⟨r, h1, h2, h3, h4⟩
  · exact .inl ⟨h1, h2⟩
  · refine .inr ⟨r, h1, h2, ?_, h4⟩
    simp only [St.setObj]
    rw [List.getElem?_set_ne (by omega)]
    exact h3
theorem JA.set {σ : St} {l : List V} {li : List Int} {v : V} {s : St} (h : JA σ l li v s) (o : Dn.Obj) : JA σ l li v (s.setObj (σ.objs.length + 2) o) := by
  refine ⟨h.l, ?_, ?_, h.c.set (by omega) o, fun r hr => ?_, by simp [St.setObj]; exact h.len, h.tk, h.n⟩
  · simp only [St.setObj]; rw [List.getElem?_set_ne (by omega)]; exact h.b
  · simp only [St.setObj]; rw [List.getElem?_set_ne (by omega)]; exact h.lp
  · simp only [St.setObj]; rw [List.getElem?_set_ne (by omega)]; exact h.old r hr

theorem as_a {e : Env} {s : St} {Q : PostC} (h : Q .normal ((putE e (some 5) (e.get 7)).pick [2, 5]) s) : wcode (Dn.Call Γ cx) cx c61_a1 e s Q := by
  simp only [c61_a1, w_ops, i_p, isObj, Bool.false_eq_true, if_false, evalP, Opd.ev, i_nil, q_ops]
  exact h
theorem as_b {n0 : Nat} {s s' : St} {v v' : V} {i : Int} {Q : PostC} (hb : s.objs[n0]? = some (.cells [v])) (hap : appendM s none 1 4 v [[.int .u32 i]] = some (v', s')) (hb' : s'.objs[n0]? = some (.cells [v])) (hc : v'.cells = some [v'])
    (hQ : Q .normal [] ⟨s'.objs.set n0 (.cells [v']), s'.toks⟩) : wcode (Dn.Call Γ cx) cx c61_b2 [(2, .ref n0 0), (5, X i)] s Q := by
  simp -implicitDefEqProofs [c61_b2, hb, repl, rowsOf, frzV]
  refine i_app_m (v := v') (s := s') ?_ ?_
  · simp -implicitDefEqProofs [evalM, V.rows]
    exact hap
  simp -implicitDefEqProofs [hb', hc]
  exact hQ

theorem s_Collect {σ : St} {rb q : Nat} {es : List Ent} {clock : Nat} (hb : σ.objs[rb]? = some (.cells [.map q])) (hm : σ.objs[q]? = some (.map es clock)) (hbn : Bn es clock) (hk : ∀ k ∈ es.map (·.2.1), ∃ i : Int, k = X i) (hlen : es.length ≤ 1000) :
    Dn.Call Γ cx .raw 50 [.fn keysF [] [.ref rb 0]] σ fun v s => ∃ li, (li.map X).Perm (es.map (·.2.1)) ∧ Col σ.objs.length s v li ∧ (∀ r, r < σ.objs.length → s.objs[r]? = σ.objs[r]?) ∧ σ.objs.length ≤ s.objs.length ∧ s.toks = σ.toks := by
  refine Dn.Call.body (fc := c50) rfl ?_
  simp -implicitDefEqProofs [c50, c50_k0]
  have hA : Dn.Call Γ cx .raw 61 [.d .nils, .fn keysF [] [.ref rb 0]] σ fun v s => ∃ li, (li.map X).Perm (es.map (·.2.1)) ∧ Col σ.objs.length s v li ∧ (∀ r, r < σ.objs.length → s.objs[r]? = σ.objs[r]?) ∧ σ.objs.length ≤ s.objs.length ∧ s.toks = σ.toks := by
    refine Dn.Call.body (fc := c61) rfl ?_
    have hrbl : rb < σ.objs.length := (List.getElem?_eq_some_iff.1 hb).1
    have hql : q < σ.objs.length := (List.getElem?_eq_some_iff.1 hm).1
    simp -implicitDefEqProofs [c61, c61_k4, c61_k3]
    obtain ⟨σ1, hσ1⟩ : ∃ s : St, (⟨σ.objs ++ [.cells [.d .nils], .loop [(2, .ref σ.objs.length 0)] [7] c61_a1 c61_b2 .ready], σ.toks⟩ : St) = s := ⟨_, rfl⟩
    rw [hσ1]
    have hl1 : σ1.objs.length = σ.objs.length + 2 := by rw [← hσ1]; simp
    have old1 : ∀ r, r < σ.objs.length → σ1.objs[r]? = σ.objs[r]? := fun r hr => by rw [← hσ1]; simp only; rw [List.getElem?_append_left hr]
    have key := s_Keys1 (σ := σ1) (r := σ.objs.length + 1) (rb := rb) (q := q) (es := es) (clock := clock) (by rw [old1 rb hrbl]; exact hb) (by rw [old1 q hql]; exact hm) hbn
      (fun l s => ∃ li v, JA σ l li v s) ?_ ?_ ?_ ?_
    · refine ⟨_, key, fun v s ⟨l, seen, hperm, ⟨li, w, hJ⟩, hit⟩ => ?_⟩
      refine rfQ_ready hJ.lp ?_
      have hb' : (s.setObj (σ.objs.length + 1) .dead).objs[σ.objs.length]? = some (.cells [w]) := by
        simp only [St.setObj]; rw [List.getElem?_set_ne (by omega)]; exact hJ.b
      simp only [St.setObj] at hb'
      simp -implicitDefEqProofs [c61_k0, hb']
      refine ⟨li, by rw [← hJ.l]; exact hperm, ?_, fun r hr => ?_, by have := hJ.len; omega, hJ.tk⟩
      · rcases hJ.c with ⟨h1, h2⟩ | ⟨r, h1, h2, h3, h4⟩
        · exact .inl ⟨h1, h2⟩
        · refine .inr ⟨r, h1, by omega, ?_, h4⟩
          simp only
          rw [List.getElem?_set_ne (by omega)]
          exact h3
      · rw [List.getElem?_set_ne (by omega)]
        exact hJ.old r hr
    · refine ⟨[], .d .nils, rfl, ?_, ?_, .inl ⟨rfl, rfl⟩, fun r hr => ?_, by simp [hl1], by rw [← hσ1], by simp⟩
      · simp only; rw [List.getElem?_append_left (by omega), ← hσ1]; simp
      · simp only; rw [List.getElem?_append_left (by omega), ← hσ1]; simp [asE]
      · simp only; rw [List.getElem?_append_left (by omega)]; exact old1 r hr
    · rintro l s ⟨li, v, hJ⟩
      rw [hJ.old q hql]
      exact hm
    · rintro l s seen seen' ⟨li, v, hJ⟩ hit
      rw [hl1]
      exact ⟨li, v, hJ.set _⟩
    · rintro l k s seen ⟨li, v, hJ⟩ hit hkm hlt
      rw [hl1] at hit ⊢
      obtain ⟨i, rfl⟩ := hk k hkm
      have hL1 : σ.objs.length + 1 < s.objs.length := by have := hJ.len; omega
      refine Call.rnd (e := asE σ.objs.length) (ps := [7]) (a := c61_a1) (b := c61_b2) hJ.lp rfl ?_
      refine as_a ?_
      simp only [q_rndA]
      refine ⟨hJ.lp, ?_⟩
      obtain ⟨lo, hlo⟩ : ∃ o, Dn.Obj.loop (asE σ.objs.length) [7] c61_a1 c61_b2 .busy = o := ⟨_, rfl⟩
      have hc2 := hJ.c.set (p := σ.objs.length + 1) (by omega) lo
      have hb2 : (s.setObj (σ.objs.length + 1) lo).objs[σ.objs.length]? = some (.cells [v]) := by simp only [St.setObj]; rw [List.getElem?_set_ne (by omega)]; exact hJ.b
      have hn := hJ.n
      have hlen2 := hJ.len
      obtain ⟨v', s', a1, a2, a3, a4, a5⟩ := hc2.push (by omega) (by simp [St.setObj]; omega) i
      have hnn : li.length + 1 ≤ 1000 := by rw [hJ.l] at hlt; simp at hlt; omega
      have hvc : v'.cells = some [v'] := by
        rcases a2 with ⟨h1, rfl⟩ | ⟨r, rfl, _⟩ <;> rfl
      rw [hlo]
      refine as_b hb2 a1 (by rw [a3 _ (by omega)]; exact hb2) hvc ?_
      have hl1 : s'.objs[σ.objs.length + 1]? = some lo := by
        rw [a3 _ (by omega)]
        simp [St.setObj, hL1]
      have hlen3 : σ.objs.length + 3 ≤ s'.objs.length := by simp [St.setObj] at a4; omega
      simp only [q_rndB_n]
      refine ⟨by rw [List.getElem?_set_ne (by omega), hl1, hlo], trivial, ⟨li ++ [i], v', ?_, ?_, ?_, ?_, ?_, ?_, ?_, by simp; omega⟩, ?_⟩
      · simp [hJ.l]
      · simp only [St.setObj]; rw [List.getElem?_set_ne (by omega), List.getElem?_set_self (by omega)]
      · simp only [St.setObj]; rw [List.getElem?_set_self (by simp; omega)]
      · exact Col.set (p := σ.objs.length + 1) (Col.set (s := s') (p := σ.objs.length) a2 (by omega) _) (by omega) _
      · intro r hr
        simp only [St.setObj]
        rw [List.getElem?_set_ne (by omega), List.getElem?_set_ne (by omega), a3 r (by omega)]
        simp only [St.setObj]
        rw [List.getElem?_set_ne (by omega)]
        exact hJ.old r hr
      · simp [St.setObj]; omega
      · simp only [St.setObj, a5]; exact hJ.tk
      · simp only [St.setObj]
        rw [List.getElem?_set_ne (by omega), List.getElem?_set_ne (by omega), a3 _ (by omega)]
        simp only [St.setObj]
        rw [List.getElem?_set_ne (by omega)]
        exact hit
  refine use_raw hA fun v s h => ?_
  simp -implicitDefEqProofs
  exact h

open Go.Sort (PermIn SortedIn)

/-! ### slices.Sorted of a map's keys -/
theorem s_Sort0 {σ : St} : Dn.Call Γ cx .raw 51 [.d .nils] σ fun _ s => s = σ := by
  refine Dn.Call.body (fc := c51) rfl ?_
  simp -implicitDefEqProofs [c51, lenT, Dn.lenV, c51_k0]
  refine use_fn rfl (s_Len (x := 0) (by omega)) rfl ?_
  simp -implicitDefEqProofs
  have hins : Dn.Call Γ cx .raw 71 [.d .nils, I 0, I 0] σ fun _ s => s = σ := by
    refine Dn.Call.body (fc := c71) rfl ?_
    simp -implicitDefEqProofs [c71, wrap_i64 (n := 1) (by omega) (by omega), c71_k10]
    refine wloopI (fun m e s => e = [(0, .d .nils), (1, I 0), (2, I 0), (6, I 1)] ∧ s = σ) (m := 0) ⟨rfl, rfl⟩ ?_
    rintro m e s ⟨rfl, rfl⟩
    simp -implicitDefEqProofs [c71_l9, c71_k8]
  have hp : Dn.Call Γ cx .raw 62 [.d .nils, I 0, I 0, I (Go.Sort.bitsLen 0)] σ fun _ s => s = σ := by
    refine Dn.Call.body (fc := c62) rfl ?_
    have e0 : IntKind.i64.wrap 0 = 0 := rfl
    simp -implicitDefEqProofs [c62, c62_k32, c62_k31]
    refine wloopI (fun m e s => e = [(0, .d .nils), (1, I 0), (2, I 0), (3, I (Go.Sort.bitsLen 0)), (8, B true), (9, B true)] ∧ s = σ) (m := 0) ⟨rfl, rfl⟩ ?_
    rintro m e s ⟨rfl, rfl⟩
    simp -implicitDefEqProofs [c62_l30, c62_k29, e0, c62_k28, c62_k27]
    refine use_raw hins fun v s hs => ?_
    subst hs
    simp -implicitDefEqProofs
  refine use_raw hp fun v s hs => ?_
  subst hs
  simp -implicitDefEqProofs

theorem perm_of {n : Nat} {d R : Array Int} (hd : d.size = n) (h : PermIn 0 n d R) : R.toList.Perm d.toList := by
  obtain ⟨h1, -, h3⟩ := h
  have e1 : R.extract 0 n = R := by rw [← hd, ← h1]; simp
  have e2 : d.extract 0 n = d := by rw [← hd]; simp
  rw [e1, e2] at h3
  exact h3
theorem rising_of {n : Nat} {R : Array Int} (hR : R.size = n) (h : SortedIn lt 0 n R) : R.toList.Pairwise (· ≤ ·) := by
  rw [List.pairwise_iff_getElem]
  intro i j hi hj hij
  simp at hi hj
  have := h i j (by omega) hij (by omega)
  simp only [lt, Go.Sort.ltInt, decide_eq_false_iff_not, Int.not_lt] at this
  simpa [hi, hj] using this

theorem s_Sorted {σ : St} {rb q : Nat} {es : List Ent} {clock : Nat} (hb : σ.objs[rb]? = some (.cells [.map q])) (hm : σ.objs[q]? = some (.map es clock)) (hbn : Bn es clock) (hk : ∀ k ∈ es.map (·.2.1), ∃ i : Int, k = X i) (hlen : es.length ≤ 90) :
    Dn.Call Γ cx .raw 42 [.fn keysF [] [.ref rb 0]] σ fun v s => ∃ li, (li.map X).Perm (es.map (·.2.1)) ∧ li.Pairwise (· ≤ ·) ∧ Col σ.objs.length s v li ∧ (∀ r, r < σ.objs.length → s.objs[r]? = σ.objs[r]?) ∧ σ.objs.length ≤ s.objs.length ∧ s.toks = σ.toks := by
  refine Dn.Call.body (fc := c42) rfl ?_
  simp -implicitDefEqProofs [c42, c42_k2]
  refine use_raw (s_Collect hb hm hbn hk (by omega)) fun v s ⟨li, h1, h2, h3, h4, h5⟩ => ?_
  simp -implicitDefEqProofs [c42_k1]
  rcases h2 with ⟨rfl, rfl⟩ | ⟨r, rfl, hr, ho, hne⟩
  · refine use_raw s_Sort0 fun v s2 hs => ?_
    subst hs
    simp -implicitDefEqProofs [c42_k0]
    exact ⟨[], h1, List.Pairwise.nil, .inl ⟨rfl, rfl⟩, h3, h4, h5⟩
  · have hll : li.length ≤ 90 := by
      have := h1.length_eq
      simp at this
      omega
    have hat : At s r li.toArray := ⟨by simp [ar]; exact ho⟩
    refine use_raw (s_Sort hat (by simp) hll) fun v s2 ⟨R, hR, p1, p2⟩ => ?_
    simp -implicitDefEqProofs [c42_k0]
    have q1 := perm_of (by simp) p1
    have q2 : R.size = li.length := by have := q1.length_eq; simpa using this
    refine ⟨R.toList, (q1.map X).trans h1, rising_of q2 p2, .inr ⟨r, by simp [q2], hr, hR.obj, ?_⟩, fun r' hr' => ?_, Nat.le_trans h4 hR.fr.len, hR.tk.trans h5⟩
    · intro e
      apply hne
      have := congrArg List.length e
      simp [q2] at this
      exact this
    · rw [hR.fr.at_ r' (by simp; omega) (by omega)]
      exact h3 r' hr'

/-! ### an index -/
def hashD (l : List UInt8) : List D := l.map fun b => .int .u8 b.toNat
def uRows (l : List Int) : List (List D) := l.map fun n => [.int .u32 n]
abbrev Item := Int × List UInt8
def pairV (p : Item) : V × V := (X p.1, .da (hashD p.2))
structure Mp (es : List Ent) (clock : Nat) (M : List Item) : Prop where
  bn : Bn es clock
  pm : (es.map (·.2)).Perm (M.map pairV)
structure Plain (M : List Item) : Prop where
  up : M.Pairwise fun a b => a.1 < b.1
  h : ∀ p ∈ M, p.2.length = 32
  i : ∀ p ∈ M, 0 ≤ p.1 ∧ p.1 ≤ 4294967295
  n : M.length ≤ 90
/-- The object of an index. -/
structure Ix (σ : St) (x q : Nat) (k0 k1 : Int) (es : List Ent) (clock : Nat) (M : List Item) : Prop where
  o : σ.objs[x]? = some (.cells [U k0, U k1, .map q])
  m : σ.objs[q]? = some (.map es clock)
  mp : Mp es clock M
  pl : Plain M

theorem ofD_X (l : List Int) : ofD (l.map X) = some (l.map fun n => .int .u32 n) := by
  induction l with
  | nil => rfl
  | cons a r ih => simp only [List.map_cons, ofD, ih]
theorem rows_X : ∀ l : List Int, rowsOf 1 l.length (l.map fun n => D.int .u32 n) = uRows l
  | [] => rfl
  | a :: r => by
    have := rows_X r
    simp [rowsOf, uRows] at this ⊢
    exact this
theorem Col.lv {lo : Nat} {s : St} {v : V} {l : List Int} (h : Col lo s v l) : ∃ d, V.byValN lo s v = some (.d d) ∧ LV (.d d) (uRows l) := by
  rcases h with ⟨rfl, rfl⟩ | ⟨r, rfl, hr, ho, hne⟩
  · exact ⟨.nils, rfl, .nil⟩
  · refine ⟨.list (uRows l), ?_, .list _⟩
    simp [V.byValN, hr, V.byVal, V.rows, ho, List.take_of_length_le, ofD_X, rows_X]

theorem keys_of {es : List Ent} {clock : Nat} {M : List Item} (h : Mp es clock M) : (es.map (·.2.1)).Perm ((M.map (·.1)).map X) := by
  have := h.pm.map (·.1)
  simp only [List.map_map] at this ⊢
  exact this

theorem ids_of {es : List Ent} {clock : Nat} {M : List Item} (h : Mp es clock M) (hp : Plain M) {li : List Int} (h1 : (li.map X).Perm (es.map (·.2.1))) (h2 : li.Pairwise (· ≤ ·)) : li = M.map (·.1) := by
  have hX : (li.map X).Perm ((M.map (·.1)).map X) := h1.trans (keys_of h)
  have hinv : ∀ l : List Int, (l.map X).map (fun v => match v with | .d (.int _ n) => n | _ => 0) = l := fun l => by
    rw [List.map_map]
    exact List.map_id'' (fun _ => rfl) l
  have h3 := hX.map (fun v => match v with | .d (.int _ n) => n | _ => (0 : Int))
  rw [hinv, hinv] at h3
  refine List.Perm.eq_of_pairwise (le := (· ≤ ·)) (fun a b _ _ h1 h2 => by omega) h2 ?_ h3
  rw [List.pairwise_map]
  exact hp.up.imp (fun h => by omega)

theorem s_IDs {σ : St} {x q : Nat} {k0 k1 : Int} {es : List Ent} {clock : Nat} {M : List Item} (h : Ix σ x q k0 k1 es clock M) :
    Dn.Call Γ cx .rd 31 [.ref x 0] σ fun v _ => ∃ d, v = .d d ∧ LV (.d d) (uRows (M.map (·.1))) := by
  refine Dn.Call.body (fc := c31) rfl ?_
  have hql : q < σ.objs.length := (List.getElem?_eq_some_iff.1 h.m).1
  simp -implicitDefEqProofs [c31, c31_k2, eqV, V.isNil, Opd.isC, c31_k1, c31_k0, nilCheckV, h.o]
  have hK : Dn.Call Γ cx .raw 43 [.map q] σ fun v s => v = .fn keysF [] [.ref σ.objs.length 0] ∧ s = ⟨σ.objs ++ [.cells [.map q]], σ.toks⟩ := by
    refine Dn.Call.body (fc := c43) rfl ?_
    simp -implicitDefEqProofs [c43, c43_k0]
  refine use_raw hK fun v s ⟨hv, hs⟩ => ?_
  subst hv
  have hb : s.objs[σ.objs.length]? = some (.cells [.map q]) := by rw [hs]; simp
  have hm : s.objs[q]? = some (.map es clock) := by rw [hs]; simp only; rw [List.getElem?_append_left hql]; exact h.m
  have hsl : s.objs.length = σ.objs.length + 1 := by rw [hs]; simp
  have hso : ∀ r, r < σ.objs.length → s.objs[r]? = σ.objs[r]? := fun r hr => by rw [hs]; simp only; rw [List.getElem?_append_left hr]
  have hst : s.toks = σ.toks := by rw [hs]
  have hel : es.length ≤ 90 := by
    have := h.mp.pm.length_eq
    have := h.pl.n
    simp at *
    omega
  have hkx : ∀ k ∈ es.map (·.2.1), ∃ i : Int, k = X i := fun k hk => by
    have := (keys_of h.mp).mem_iff.1 hk
    obtain ⟨i, _, rfl⟩ := List.mem_map.1 this
    exact ⟨i, rfl⟩
  simp -implicitDefEqProofs
  refine use_raw (s_Sorted hb hm h.mp.bn hkx hel) fun v s2 ⟨li, h1, h2, h3, h4, h5, h6⟩ => ?_
  have hli := ids_of h.mp h.pl h1 h2
  subst hli
  have h3' : Col σ.objs.length s2 v (M.map (·.1)) := by
    rcases h3 with ⟨a, b⟩ | ⟨r, a, b, c⟩
    · exact .inl ⟨a, b⟩
    · exact .inr ⟨r, a, by omega, c⟩
  obtain ⟨d, d1, d2⟩ := h3'.lv
  simp -implicitDefEqProofs [d1]
  exact ⟨⟨fun i hi => by rw [h4 i (by omega)]; exact hso i hi, fun t k ht => by rw [h6, hst]; exact ht⟩, d2⟩


/-! ### SipHash-2-4, plain -/
namespace Sip
def rot (x : W64) (k : Nat) : W64 := x <<< k ||| x >>> (64 - k)
structure S4 where
  a : W64
  b : W64
  c : W64
  d : W64
def S4.round (s : S4) : S4 :=
  let a := s.a + s.b
  let b := rot s.b 13 ^^^ a
  let a := rot a 32
  let c := s.c + s.d
  let d := rot s.d 16 ^^^ c
  let a := a + d
  let d := rot d 21 ^^^ a
  let c := c + b
  let b := rot b 17 ^^^ c
  let c := rot c 32
  ⟨a, b, c, d⟩
def S4.take (s : S4) (m : W64) : S4 :=
  let s := (S4.mk s.a s.b s.c (s.d ^^^ m)).round.round
  ⟨s.a ^^^ m, s.b, s.c, s.d⟩
/-- Bytes as a number, the low one first. -/
def num : List UInt8 → Nat
  | [] => 0
  | b :: r => b.toNat + 256 * num r
def word (l : List UInt8) : W64 := BitVec.ofNat 64 (num l)
def start (k0 k1 : W64) : S4 := ⟨k0 ^^^ 0x736f6d6570736575, k1 ^^^ 0x646f72616e646f6d, k0 ^^^ 0x6c7967656e657261, k1 ^^^ 0x7465646279746573⟩
/-- Of a text of 32 bytes. -/
def blk (t : List UInt8) (i : Nat) : W64 := word ((t.drop (8 * i)).take 8)
def after (k0 k1 : W64) (t : List UInt8) : Nat → S4
  | 0 => start k0 k1
  | i + 1 => (after k0 k1 t i).take (blk t i)
def fin (s : S4) : W64 :=
  let s := (s.take 0x2000000000000000)
  let s := (S4.mk s.a s.b (s.c ^^^ 255) s.d).round.round.round.round
  s.a ^^^ s.b ^^^ s.c ^^^ s.d
def hash (k0 k1 : W64) (t : List UInt8) : W64 := fin (after k0 k1 t 4)
def short (k0 k1 : W64) (t : List UInt8) : Int := (((hash k0 k1 t).toNat % 4294967295 + 1 : Nat) : Int)
theorem num_lt : ∀ l : List UInt8, num l < 256 ^ l.length
  | [] => by decide
  | b :: r => by
    have := num_lt r
    have hb := b.toNat_lt
    simp only [num, List.length_cons, Nat.pow_succ]
    omega
theorem num_app : ∀ (l : List UInt8) (b : UInt8), num (l ++ [b]) = num l + 256 ^ l.length * b.toNat
  | [], b => by simp [num]
  | a :: r, b => by
    simp only [List.cons_append, num, num_app r b, List.length_cons, Nat.pow_succ]
    rw [Nat.mul_add, ← Nat.add_assoc]
    congr 1
    rw [← Nat.mul_assoc, Nat.mul_comm 256 (256 ^ _)]
theorem num_take {l : List UInt8} {i : Nat} {b : UInt8} (h : l[i]? = some b) : num (l.take (i + 1)) = num (l.take i) + 256 ^ i * b.toNat := by
  obtain ⟨hi, rfl⟩ := List.getElem?_eq_some_iff.1 h
  rw [← List.take_append_getElem hi, num_app]
  simp [Nat.min_eq_left (Nat.le_of_lt hi)]
end Sip
open Sip

theorem shl_sh (x : W64) (n : Nat) (h : n < 64) : shiftBin .shl .u64 (un x) (n : Int) = some (Wd (x <<< n)) := by
  have h1 : min n 64 = n := by omega
  have h2 : IntKind.u64.bits = 64 := rfl
  have h3 : ¬ ((n : Int) < 0) := by omega
  simp [shiftBin, h1, h2, h3, shl_u64]
theorem shr_sh (x : W64) (n : Nat) (h : n < 64) : shiftBin .shr .u64 (un x) (n : Int) = some (Wd (x >>> n)) := by
  have h1 : min n 64 = n := by omega
  have h2 : IntKind.u64.bits = 64 := rfl
  have h3 : ¬ ((n : Int) < 0) := by omega
  simp [shiftBin, h1, h2, h3, shr_u64]
theorem and63 : ∀ k : Fin 64, bits .and .u64 (IntKind.u64.wrap (k.val : Int)) 63 = (k.val : Int) := by decide +kernel

theorem s_rotl (x : W64) (k : Nat) (h1 : 1 ≤ k) (h2 : k < 64) : Dn.Call Γ cx .val 66 [Wd x, I k] St.empty fun v _ => v = Wd (rot x k) := by
  have ha := and63 ⟨k, h2⟩
  simp only at ha
  refine Dn.Call.body (fc := c66) rfl ?_
  have e1 := shl_sh x k h2
  have e2 : IntKind.u64.wrap (64 - (k : Int)) = ((64 - k : Nat) : Int) := by rw [wrap_u64 (by omega) (by omega)]; omega
  have e3 := shr_sh x (64 - k) (by omega)
  obtain ⟨j, hj⟩ : ∃ j, 64 - k = j := ⟨_, rfl⟩
  rw [hj] at e2 e3
  simp -implicitDefEqProofs [c66, c66_k1, ha, c66_k0, e1, e2, e3, or_u64, rot, hj]

def s4 (s : S4) : List V := [Wd s.a, Wd s.b, Wd s.c, Wd s.d]

theorem s_round {σ : St} {r : Nat} {x : S4} (h : σ.objs[r]? = some (.cells (s4 x))) : Dn.Call Γ cx .raw 57 [.ref r 0] σ fun _ s => s = ⟨σ.objs.set r (.cells (s4 x.round)), σ.toks⟩ := by
  obtain ⟨a, b, c, d⟩ := x
  refine Dn.Call.body (fc := c57) rfl ?_
  have hl : r < σ.objs.length := (List.getElem?_eq_some_iff.1 h).1
  have hst : ∀ o : Dn.Obj, (σ.objs.set r o)[r]? = some o := fun o => by simp [hl]
  simp only [s4] at h ⊢
  simp only [S4.round]
  simp -implicitDefEqProofs [c57]
  refine w_drwX (fun _ => .val) [] (by decide +kernel) ?_
  simp -implicitDefEqProofs [room_zero, nilCheckV, h, add_u64, c57_k8]
  generalize a + b = a1
  refine w_drwX (fun _ => .val) [] (by decide +kernel) ?_
  simp -implicitDefEqProofs [room_zero, nilCheckV, hst]
  refine use_fnN rfl rfl (s_rotl b 13 (by omega) (by omega)) rfl ?_
  simp -implicitDefEqProofs [nilCheckV, hst, xor_u64, c57_k7]
  generalize rot b 13 ^^^ a1 = b1
  refine use_fn rfl (s_rotl a1 32 (by omega) (by omega)) rfl ?_
  simp -implicitDefEqProofs [nilCheckV, hst, c57_k6]
  generalize rot a1 32 = a2
  refine w_drwX (fun _ => .val) [] (by decide +kernel) ?_
  simp -implicitDefEqProofs [room_zero, nilCheckV, hst, add_u64, c57_k5]
  generalize c + d = c1
  refine w_drwX (fun _ => .val) [] (by decide +kernel) ?_
  simp -implicitDefEqProofs [room_zero, nilCheckV, hst]
  refine use_fnN rfl rfl (s_rotl d 16 (by omega) (by omega)) rfl ?_
  simp -implicitDefEqProofs [nilCheckV, hst, xor_u64, c57_k4]
  generalize rot d 16 ^^^ c1 = d1
  refine w_drwX (fun _ => .val) [] (by decide +kernel) ?_
  simp -implicitDefEqProofs [room_zero, nilCheckV, hst, add_u64, c57_k3]
  generalize a2 + d1 = a3
  refine w_drwX (fun _ => .val) [] (by decide +kernel) ?_
  simp -implicitDefEqProofs [room_zero, nilCheckV, hst]
  refine use_fnN rfl rfl (s_rotl d1 21 (by omega) (by omega)) rfl ?_
  simp -implicitDefEqProofs [nilCheckV, hst, xor_u64, c57_k2]
  generalize rot d1 21 ^^^ a3 = d2
  refine w_drwX (fun _ => .val) [] (by decide +kernel) ?_
  simp -implicitDefEqProofs [room_zero, nilCheckV, hst, add_u64, c57_k1]
  generalize c1 + b1 = c2
  refine w_drwX (fun _ => .val) [] (by decide +kernel) ?_
  simp -implicitDefEqProofs [room_zero, nilCheckV, hst]
  refine use_fnN rfl rfl (s_rotl b1 17 (by omega) (by omega)) rfl ?_
  simp -implicitDefEqProofs [nilCheckV, hst, xor_u64, c57_k0]
  generalize rot b1 17 ^^^ c2 = b2
  refine use_fn rfl (s_rotl c2 32 (by omega) (by omega)) rfl ?_
  simp -implicitDefEqProofs [nilCheckV, hst]

def InvTk (r : Nat) (σ : St) (m : W64) (x : S4) (k : Nat) (e : Env) (s : St) : Prop := ∃ i : Nat, e = [(0, .ref r 0), (1, Wd m), (12, I i)] ∧ k = 2 - i ∧ i ≤ 2 ∧ s = ⟨σ.objs.set r (.cells (s4 (Nat.rec x (fun _ y => y.round) i))), σ.toks⟩

theorem s_take {σ : St} {r : Nat} {x : S4} (h : σ.objs[r]? = some (.cells (s4 x))) (m : W64) : Dn.Call Γ cx .raw 55 [.ref r 0, Wd m] σ fun _ s => s = ⟨σ.objs.set r (.cells (s4 (x.take m))), σ.toks⟩ := by
  refine Dn.Call.body (fc := c55) rfl ?_
  have hl : r < σ.objs.length := (List.getElem?_eq_some_iff.1 h).1
  have hst : ∀ o : Dn.Obj, (σ.objs.set r o)[r]? = some o := fun o => by simp [hl]
  simp only [s4] at h
  simp -implicitDefEqProofs [c55, nilCheckV, h, xor_u64, c55_k5, c55_k4]
  refine wloopI (InvTk r σ m ⟨x.a, x.b, x.c, x.d ^^^ m⟩) (m := 2) ⟨0, rfl, rfl, by omega, rfl⟩ ?_
  rintro k e s ⟨i, rfl, rfl, hi, rfl⟩
  simp -implicitDefEqProofs [c55_l3, c55_k2]
  by_cases hi2 : i < 2
  · have hi2' : (i : Int) < 2 := by omega
    simp -implicitDefEqProofs [hi2', c55_k1]
    refine use_raw (s_round (hst _)) fun v s hs => ?_
    subst hs
    simp -implicitDefEqProofs [wrap_i64 (n := (i : Int) + 1) (by omega) (by omega)]
    exact ⟨2 - (i + 1), by omega, i + 1, rfl, rfl, by omega, rfl⟩
  · obtain rfl : i = 2 := by omega
    simp -implicitDefEqProofs [c55_k0, nilCheckV, hst, s4, xor_u64, S4.take]
    rfl

/-! ### words -/
theorem or_nat (m c i : Nat) (hm : m < 2 ^ (8 * i)) (hi : i < 8) (hc : c < 256) : bits .or .u64 (m : Int) ((c * 2 ^ (8 * i) : Nat) : Int) = ((m + c * 2 ^ (8 * i) : Nat) : Int) := by
  have hp : 2 ^ (8 * i) * 256 ≤ 2 ^ 64 := by
    have : 2 ^ (8 * i) * 2 ^ 8 = 2 ^ (8 * i + 8) := by rw [← Nat.pow_add]
    have h2 : 2 ^ (8 * i + 8) ≤ 2 ^ 64 := Nat.pow_le_pow_right (by decide) (by omega)
    omega
  have hcm : c * 2 ^ (8 * i) ≤ 255 * 2 ^ (8 * i) := Nat.mul_le_mul_right _ (by omega)
  have e1 : (m : Int) = un (BitVec.ofNat 64 m) := by
    simp only [un, BitVec.toNat_ofNat]
    rw [Nat.mod_eq_of_lt (by omega)]
  have e2 : ((c * 2 ^ (8 * i) : Nat) : Int) = un (BitVec.ofNat 64 (c * 2 ^ (8 * i))) := by
    simp only [un, BitVec.toNat_ofNat]
    rw [Nat.mod_eq_of_lt (by omega)]
  rw [e1, e2, or_u64]
  simp only [un, BitVec.toNat_or, BitVec.toNat_ofNat]
  rw [Nat.mod_eq_of_lt (by omega), Nat.mod_eq_of_lt (by omega)]
  have := Nat.two_pow_add_eq_or_of_lt hm c
  rw [Nat.or_comm, Nat.mul_comm c, ← this, Nat.add_comm]

abbrev Y (n : Int) : V := .d (.int .u8 n)
def InvWord (v : V) (l : List UInt8) (m : Nat) (e : Env) (σ : St) : Prop := ∃ i : Nat, e = [(3, U (num (l.take i))), (6, v), (7, I l.length), (8, I i)] ∧ i ≤ l.length ∧ m = l.length - i ∧ σ = St.empty

theorem un_word {l : List UInt8} (h : l.length ≤ 8) : un (word l) = (num l : Int) := by
  have := num_lt l
  have h2 : 256 ^ l.length ≤ 256 ^ 8 := Nat.pow_le_pow_right (by decide) h
  simp only [un, word, BitVec.toNat_ofNat]
  rw [Nat.mod_eq_of_lt (by omega)]

theorem s_word {v : V} {l : List UInt8} (hv : LV v (byteRows l)) (hl : l.length ≤ 8) : Dn.Call Γ cx .val 56 [v] St.empty fun r _ => r = Wd (word l) := by
  refine Dn.Call.body (fc := c56) rfl ?_
  have hlen : ∀ σ, lenT σ .slice v = some l.length := fun σ => by rw [hv.len, byteRows_len]
  simp -implicitDefEqProofs [c56, c56_k8, c56_k7, c56_k6, hlen]
  refine wloopI (InvWord v l) (m := l.length) ⟨0, rfl, by omega, by omega, rfl⟩ ?_
  rintro m e σ ⟨i, rfl, hi, rfl, rfl⟩
  simp -implicitDefEqProofs [c56_l5, c56_k4]
  by_cases hil : i < l.length
  rotate_left
  · obtain rfl : i = l.length := by omega
    have := un_word hl
    simp -implicitDefEqProofs [c56_k0, this]
  obtain ⟨b, hb⟩ : ∃ b, l[i]? = some b := ⟨l[i], by simp [hil]⟩
  have hia := fun σ => hv.iaddr σ (k := .i64) (i := i) (byteRows_at hb) (sz := 1) rfl
  have hbl := b.toNat_lt
  have hnt := num_take hb
  have hnl := num_lt (l.take i)
  have e256 : 256 ^ i = 2 ^ (8 * i) := by rw [show 256 = 2 ^ 8 from rfl, ← Nat.pow_mul]
  rw [List.length_take, Nat.min_eq_left hi, e256] at hnl
  rw [e256] at hnt
  have hor := or_nat (num (l.take i)) b.toNat i hnl (by omega) hbl
  have w1 : IntKind.u64.wrap (b.toNat : Int) = (b.toNat : Int) := wrap_u64 (by omega) (by omega)
  have w2 : IntKind.i64.wrap (8 * (i : Int)) = ((8 * i : Nat) : Int) := by rw [wrap_i64 (by omega) (by omega)]; omega
  have hsh : shiftBin .shl .u64 (b.toNat : Int) ((8 * i : Nat) : Int) = some (U ((b.toNat * 2 ^ (8 * i) : Nat) : Int)) := by
    have e1 : (b.toNat : Int) = un (BitVec.ofNat 64 b.toNat) := by
      simp only [un, BitVec.toNat_ofNat]
      rw [Nat.mod_eq_of_lt (by omega)]
    rw [e1, shl_sh _ _ (by omega)]
    have hp : 2 ^ (8 * i) * 256 ≤ 2 ^ 64 := by
      have : 2 ^ (8 * i) * 2 ^ 8 = 2 ^ (8 * i + 8) := by rw [← Nat.pow_add]
      have h2 : 2 ^ (8 * i + 8) ≤ 2 ^ 64 := Nat.pow_le_pow_right (by decide) (by omega)
      omega
    have hcm : b.toNat * 2 ^ (8 * i) ≤ 255 * 2 ^ (8 * i) := Nat.mul_le_mul_right _ (by omega)
    simp only [Wd, U, un, BitVec.toNat_shiftLeft, BitVec.toNat_ofNat, Nat.shiftLeft_eq]
    rw [Nat.mod_eq_of_lt (a := b.toNat) (by omega), Nat.mod_eq_of_lt (by omega)]
  obtain ⟨sh, hshd⟩ : ∃ sh : Nat, 8 * i = sh := ⟨_, rfl⟩
  rw [hshd] at w2 hsh hor hnt
  obtain ⟨y, hy⟩ : ∃ y : Nat, b.toNat * 2 ^ sh = y := ⟨_, rfl⟩
  rw [hy] at hsh hor
  rw [Nat.mul_comm, hy] at hnt
  rw [← hnt] at hor
  simp -implicitDefEqProofs [hil, c56_k3, c56_k2, hia, c56_k1, w1, w2, hsh, hor, wrap_i64 (n := (i : Int) + 1) (by omega) (by omega)]
  exact ⟨l.length - (i + 1), by omega, i + 1, rfl, by omega, rfl, rfl⟩

def rev (x : W64) : W64 :=
  let x := ((x >>> 8) &&& 71777214294589695) ||| ((x &&& 71777214294589695) <<< 8)
  let x := ((x >>> 16) &&& 281470681808895) ||| ((x &&& 281470681808895) <<< 16)
  (x >>> 32) ||| (x <<< 32)
theorem s_rev (x : W64) : Dn.Call Γ cx .val 64 [Wd x] St.empty fun v _ => v = Wd (rev x) := by
  refine Dn.Call.body (fc := c64) rfl ?_
  have s8 : ∀ x : W64, shiftBin .shr .u64 (un x) 8 = some (Wd (x >>> 8)) := fun x => shr_sh x 8 (by omega)
  have l8 : ∀ x : W64, shiftBin .shl .u64 (un x) 8 = some (Wd (x <<< 8)) := fun x => shl_sh x 8 (by omega)
  have s16 : ∀ x : W64, shiftBin .shr .u64 (un x) 16 = some (Wd (x >>> 16)) := fun x => shr_sh x 16 (by omega)
  have l16 : ∀ x : W64, shiftBin .shl .u64 (un x) 16 = some (Wd (x <<< 16)) := fun x => shl_sh x 16 (by omega)
  have s32 : ∀ x : W64, shiftBin .shr .u64 (un x) 32 = some (Wd (x >>> 32)) := fun x => shr_sh x 32 (by omega)
  have l32 : ∀ x : W64, shiftBin .shl .u64 (un x) 32 = some (Wd (x <<< 32)) := fun x => shl_sh x 32 (by omega)
  have a1 : ∀ x : W64, bits .and .u64 (un x) 71777214294589695 = un (x &&& 71777214294589695) := fun x => and_u64 x 71777214294589695
  have a2 : ∀ x : W64, bits .and .u64 (un x) 281470681808895 = un (x &&& 281470681808895) := fun x => and_u64 x 281470681808895
  simp -implicitDefEqProofs [c64, c64_k2, s8, l8, a1, or_u64, c64_k1, s16, l16, a2, c64_k0, s32, l32, rev]

theorem s_first (i : Nat) (hi : i < 4) : Dn.Call Γ cx .val 53 [I i] St.empty fun v _ => v = Wd ((([0x736f6d6570736575, 0x646f72616e646f6d, 0x6c7967656e657261, 0x7465646279746573] : List W64).getD i 0)) := by
  have hcase : i = 0 ∨ i = 1 ∨ i = 2 ∨ i = 3 := by omega
  refine Dn.Call.body (fc := c53) rfl ?_
  rcases hcase with rfl | rfl | rfl | rfl
  all_goals
    simp -implicitDefEqProofs [c53, c53_k0, sliceStrV, boundV, asIdx, wrap_i64 (n := 8) (by omega) (by omega), wrap_i64 (n := 0) (by omega) (by omega), wrap_i64 (n := 16) (by omega) (by omega), wrap_i64 (n := 24) (by omega) (by omega), wrap_i64 (n := 32) (by omega) (by omega)]
    refine use_fn rfl (s_word (.list _) (by decide)) rfl ?_
    try simp -implicitDefEqProofs
    refine use_fn rfl (s_rev _) rfl ?_
    simp -implicitDefEqProofs
    decide +kernel

open Sip

/-! ### slices.Chunk (as in wip/story D7, D8) -/
def InvChunk (r rs rn n : Nat) (rows : List (List D)) (J : Nat → St → Prop) (m : Nat) (e : Env) (σ : St) : Prop := ∃ i : Nat, e = [(0, .yld r), (1, .ref rs 0), (2, .ref rn 0), (4, I ((i * n : Nat) : Int))] ∧ m = rows.length - i * n ∧ J i σ ∧ ∀ j, j < i → j * n < rows.length

theorem sliceV_max {v : V} {rows : List (List D)} (hv : LV v rows) {sz lo hi : Nat} (hf : ∀ r ∈ rows, r.length = sz) (h1 : lo < hi) (h2 : hi ≤ rows.length) : sliceV sz v lo hi (some hi) = some (.fl ((rows.drop lo).take (hi - lo))) := by
  have hf' := fitR_iff.2 hf
  cases hv with
  | nil => simp at h2; omega
  | list rows => simp [sliceV, hf', h2]
  | fl rows => simp [sliceV, hf', h2]
  | tl rows t st s => simp [sliceV, hf', h2]

/-- The loop of slices.Chunk, for a round that keeps J. -/
theorem s_Chunk1 {σ : St} {r rs rn n : Nat} {v : V} {rows : List (List D)} (hn : 0 < n) (hnb : n ≤ 1000000) (hv : LV v rows) (hfit : ∀ x ∈ rows, x.length = 1) (hts : ∀ r t st s, v = .tl r t st s → s = 1) (hl : rows.length ≤ 1000000000000)
    (J : Nat → St → Prop) (h0 : J 0 σ) (hst : ∀ i s, J i s → s.objs[rs]? = some (.cells [v]) ∧ s.objs[rn]? = some (.cells [I n]))
    (hround : ∀ i s, J i s → i * n < rows.length → Dn.Call Γ cx .rnd r [.fl ((rows.drop (i * n)).take n)] s fun w s' => w = B true ∧ J (i + 1) s') :
    Dn.Call Γ cx .raw 65 [.yld r, .ref rs 0, .ref rn 0] σ fun _ s => ∃ k, J k s ∧ rows.length ≤ k * n ∧ ∀ j, j < k → j * n < rows.length := by
  refine Dn.Call.body (fc := c65) rfl ?_
  simp -implicitDefEqProofs [c65, c65_k7]
  refine wloopI (InvChunk r rs rn n rows J) (m := rows.length) ⟨0, by simp [Env.pick, Env.get], by simp, h0, fun j hj => by omega⟩ ?_
  rintro m e σ ⟨i, rfl, rfl, hJ, hlt⟩
  obtain ⟨hs, hnn⟩ := hst i σ hJ
  have hlen := hv.len σ
  obtain ⟨p, hp⟩ : ∃ p, i * n = p := ⟨_, rfl⟩
  have hr1 := hround i σ hJ
  rw [hp] at hr1 ⊢
  simp -implicitDefEqProofs [c65_l6, c65_k5, hs, hnn, hlen]
  by_cases hil : p < rows.length
  rotate_left
  · have h1 : ¬ ((p : Int) < (rows.length : Int)) := by omega
    simp -implicitDefEqProofs [h1, hil]
    exact ⟨i, hJ, by omega, hlt⟩
  have h1 : ((p : Int) < (rows.length : Int)) := by omega
  simp -implicitDefEqProofs [h1, hil, c65_k4, c65_k3]
  refine w_drw (fun _ => .val) [2, 1] (by decide +kernel) ?_
  obtain ⟨z, hz, hzl, -⟩ := hv.slice σ hfit hts (lo := p) (hi := rows.length) (by omega) (Nat.le_refl _)
  have hlv := hv.lenV σ
  have hsx : sliceX σ 1 v (some (I p)) none none = some z := by simp [sliceX, hlv, boundV, asIdx, hz, show p ≤ rows.length by omega]
  have hzlen := hzl.len σ
  have hdl : (List.take (rows.length - p) (rows.drop p)).length = rows.length - p := by simp
  rw [hdl] at hzlen
  obtain ⟨t, ht⟩ : ∃ t, min n (rows.length - p) = t := ⟨_, rfl⟩
  have hmin : minAll [I n, I ((rows.length - p : Nat) : Int)] = some (I t) := by
    have : minInts (n : Int) [I ((rows.length - p : Nat) : Int)] .i64 = some (min (n : Int) ((rows.length - p : Nat) : Int)) := by
      simp [minInts]
      split <;> omega
    simp only [minAll, this]
    congr 3
    omega
  have htk : (rows.drop p).take t = (rows.drop p).take n := by
    rcases Nat.le_total n (rows.length - p) with h | h
    · rw [Nat.min_eq_left h] at ht; rw [← ht]
    · rw [Nat.min_eq_right h] at ht
      rw [List.take_of_length_le (i := n) (by simp; omega), ← ht, List.take_of_length_le (by simp)]
  have hsx3 : sliceX σ 1 v (some (I p)) (some (.d (.int .i64 ((p : Int) + (t : Int))))) (some (.d (.int .i64 ((p : Int) + (t : Int))))) = some (.fl ((rows.drop p).take n)) := by
    have h3 := sliceV_max hv (lo := p) (hi := p + t) hfit (by omega) (by omega)
    rw [Nat.add_sub_cancel_left, htk] at h3
    have e1 : ((p : Int) + (t : Int)).toNat = p + t := by omega
    have e2 : (p : Int) + (t : Int) ≤ rows.length := by omega
    have e3 : (0 : Int) ≤ (p : Int) + t := by omega
    simp [sliceX, hlv, boundV, asIdx, h3, e1, e2, e3]
    try omega
  simp -implicitDefEqProofs [room_zero, hs, hnn, hsx, hzlen, hmin, hsx3, c65_k2, wrap_i64 (n := (p : Int) + t) (by omega) (by omega)]
  refine ⟨_, hr1 hil, fun w s ⟨hw, hJ'⟩ => ?_⟩
  obtain ⟨-, hn2⟩ := hst (i + 1) s hJ'
  subst hw
  have hp1 : (i + 1) * n = p + n := by rw [Nat.add_mul, hp, Nat.one_mul]
  simp -implicitDefEqProofs [c65_k1, c65_k0, hn2, wrap_i64 (n := (p : Int) + n) (by omega) (by omega)]
  refine ⟨rows.length - (p + n), by omega, i + 1, by rw [hp1]; rfl, by rw [hp1], hJ', fun j hj => ?_⟩
  rcases Nat.lt_or_ge j i with h | h
  · exact hlt j h
  · obtain rfl : j = i := by omega
    omega
theorem s_Chunk {σ : St} {v : V} {n : Nat} (hn : 0 < n) (hc : v.cells = some [v]) : Dn.Call Γ cx .raw 54 [v, I n] σ fun w s => w = .fn (.func 65) [] [.ref σ.objs.length 0, .ref (σ.objs.length + 1) 0] ∧ s = ⟨σ.objs ++ [.cells [v], .cells [I n]], σ.toks⟩ := by
  refine Dn.Call.body (fc := c54) rfl ?_
  have h1 : ¬ ((n : Int) < 1) := by omega
  have e1 : (σ.objs ++ [Dn.Obj.cells [v], Dn.Obj.cells [I n]])[σ.objs.length + 1]? = some (.cells [I n]) := by
    rw [List.getElem?_append_right (by omega)]
    simp
  simp -implicitDefEqProofs [c54, c54_k2, c54_k1, c54_k0, hc, h1, e1]


/-! ### sip.Hash of 32 bytes -/
def hE (t : List UInt8) : Env := [(1, .d (.list (byteRows t))), (5, .ref 2 0), (6, I 32)]
def InvH (K0 K1 : W64) (t : List UInt8) (i : Nat) (s : St) : Prop := s = ⟨[.cells [Wd K0, Wd K1], .cells (s4 (after K0 K1 t i)), .cells [.ref 1 0], .cells [.d (.list (byteRows t))], .cells [I 8], .loop (hE t) [36] c44_a8 c44_b9 .ready], []⟩
def sd : Nat → Dn.Mode := fun f => if f = 55 then .raw else .val

theorem hash_a {e : Env} {s : St} {Q : PostC} (h : Q .normal ((putE e (some 7) (e.get 36)).pick [5, 7]) s) : wcode (Dn.Call Γ cx) cx c44_a8 e s Q := by
  simp only [c44_a8, w_ops, i_p, isObj, Bool.false_eq_true, if_false, evalP, Opd.ev, i_nil, q_ops]
  exact h

theorem hash_b {s : St} {x : S4} {l : List UInt8} {Q : PostC} (h5 : s.objs[2]? = some (.cells [.ref 1 0])) (h1 : s.objs[1]? = some (.cells (s4 x))) (hl : l.length ≤ 8)
    (hQ : Q .normal [] ⟨s.objs.set 1 (.cells (s4 (x.take (word l)))), s.toks⟩) : wcode (Dn.Call Γ cx) cx c44_b9 [(5, .ref 2 0), (7, .fl (byteRows l))] s (Q) := by
  simp only [body_eq, globEnv, GB, List.map_nil, List.map_cons, List.append_nil, w_rangeF, i_next, i_makeMap, i_range, i_update, i_delete, i_entry, i_clone, entryV, cloneV, q_rndA, q_rndB_n, q_rndB_e, q_rndB_r, setAll, w_skip, w_ops, w_seq, w_cond, w_block, w_exit, w_ret, q_then_n, q_then_e, q_then_r, q_blk_n, q_blk_e, q_blk_r, q_ops, q_cont, q_end_n, q_end_r, q_end_e, q_loop_n, q_loop_e, q_loop_r, i_nil, i_p, i_alloc, i_box, i_store, i_copy, i_clear, i_call, i_callv, i_when, t_nil, t_p, t_call, t_alloc, t_box, t_store, kept_nil, t_copy, t_clear, q_tcont, gsel, List.cons_append, List.nil_append, evalP, evalE, evalF, evalB, isObj, thaw, Opd.ev, Env.get, Env.set, Env.pick, putE, initEnv, evalBin, intBin, evalUn, evalConv, goneAll, goneOne, retV, resAll, Res.ev, tupOf, byVals, byValsN, bv_d, bv_da, bv_fl, bv_tl, bn_d, bn_da, bn_fl, bn_tl, cx, Dn.newObj, St.place, St.push, St.spot, St.empty, cell_d, cell_da, cell_agg, cell_ref, cell_sl, cell_fl, cell_tl, cell_map, cell_fn, cell_ifc, loadAt, faddrV, partOf, extractV, mkAgg, ofD, splice, St.setObj, fillV, c44_b9]
  refine w_drwX sd [] (by decide +kernel) ?_
  simp -implicitDefEqProofs [room_zero, h5]
  refine use_fnN rfl rfl (s_word (.list _) hl) rfl ?_
  simp -implicitDefEqProofs
  refine use_rawN rfl (s_take h1 (word l)) ⟨.any, _, rfl⟩ fun v s' hs => ?_
  subst hs
  refine ⟨by simp [Kept], ?_⟩
  simp -implicitDefEqProofs
  exact hQ

def InvFin (K0 K1 : W64) (t : List UInt8) (x : S4) (k : Nat) (e : Env) (s : St) : Prop := ∃ i : Nat, e = [(5, .ref 2 0), (59, I i)] ∧ k = 4 - i ∧ i ≤ 4 ∧ s = ⟨[.cells [Wd K0, Wd K1], .cells (s4 (Nat.rec x (fun _ y => y.round) i)), .cells [.ref 1 0], .cells [.d (.list (byteRows t))], .cells [I 8], .dead], []⟩

theorem s_Hash (K0 K1 : W64) {t : List UInt8} (ht : t.length = 32) : Dn.Call Γ cx .val 44 [.da [.int .u64 (un K0), .int .u64 (un K1)], .d (.list (byteRows t))] St.empty fun v _ => v = Wd (hash K0 K1 t) := by
  refine Dn.Call.body (fc := c44) rfl ?_
  simp -implicitDefEqProofs [c44, c44_k13]
  refine w_drwX sd [] (by decide +kernel) ?_
  have x0 : ∀ x y : W64, bits .xor .u64 (un x) (un y) = un (x ^^^ y) := xor_u64
  simp -implicitDefEqProofs [St.room, List.replicate]
  refine use_fnN rfl rfl (s_first 0 (by omega)) rfl ?_
  simp -implicitDefEqProofs [xor_u64]
  refine use_fnN rfl rfl (s_first 1 (by omega)) rfl ?_
  simp -implicitDefEqProofs [xor_u64]
  refine use_fnN rfl rfl (s_first 2 (by omega)) rfl ?_
  simp -implicitDefEqProofs [xor_u64]
  refine use_fnN rfl rfl (s_first 3 (by omega)) rfl ?_
  simp -implicitDefEqProofs [xor_u64, newObj, St.place, St.spot, St.setObj]
  have hz : s4 (Sip.start K0 K1) = [Wd (K0 ^^^ 8317987319222330741#64), Wd (K1 ^^^ 7237128888997146477#64), Wd (K0 ^^^ 7816392313619706465#64), Wd (K1 ^^^ 8387220255154660723#64)] := rfl
  rw [← hz]
  have hbl : (byteRows t).length = 32 := by rw [byteRows_len, ht]
  have hft := fitR_iff.2 (byteRows_fit t)
  have htk : (byteRows t).take 32 = byteRows t := List.take_of_length_le (by omega)
  have e1 : IntKind.i64.wrap 32 = 32 := rfl
  simp -implicitDefEqProofs [c44_k12, lenT, lenV, hbl, e1, c44_k11, sliceX, sliceV, boundV, asIdx, hft, htk]
  refine use_raw (s_Chunk (n := 8) (by omega) rfl) fun w s ⟨hw, hs⟩ => ?_
  subst hw hs
  simp -implicitDefEqProofs [c44_k10]
  refine ⟨_, s_Chunk1 (n := 8) (by omega) (by omega) (LV.list (byteRows t)) (byteRows_fit _) (by rintro r t st s h; cases h) (by omega) (InvH K0 K1 t) ?_ ?_ ?_, ?_⟩
  · simp [InvH, hE, after]
  · rintro i s rfl
    exact ⟨rfl, rfl⟩
  · rintro i s rfl hi
    rw [hbl] at hi
    refine Call.rnd (e := hE t) (ps := [36]) (a := c44_a8) (b := c44_b9) rfl rfl ?_
    refine hash_a ?_
    simp only [q_rndA]
    refine ⟨rfl, ?_⟩
    rw [byteRows_drop, byteRows_take]
    have hbk : word ((t.drop (i * 8)).take 8) = blk t i := by rw [blk, Nat.mul_comm]
    refine hash_b (x := after K0 K1 t i) rfl rfl (by simp; omega) ?_
    rw [hbk]
    simp only [q_rndB_n]
    exact ⟨rfl, trivial, rfl⟩
  · rintro v s ⟨k, rfl, hk1, hk2⟩
    refine rfQ_ready rfl ?_
    rw [hbl] at hk1 hk2
    have hk4 : k = 4 := by
      have := hk2 (k - 1)
      rcases Nat.eq_zero_or_pos k with h | h
      · omega
      · have := this (by omega)
        omega
    subst hk4
    have hfin : hash K0 K1 t = fin (after K0 K1 t 4) := rfl
    rw [hfin]
    generalize after K0 K1 t 4 = x
    simp -implicitDefEqProofs [c44_k7, hE]
    refine w_drwX sd [] (by decide +kernel) ?_
    have hs56 : shiftBin .shl .u64 32 56 = some (.d (.int .u64 2305843009213693952)) := rfl
    have hor : bits .or .u64 (un (word [])) 2305843009213693952 = un (0x2000000000000000 : W64) := by decide +kernel
    have u32 : IntKind.u64.wrap 32 = 32 := rfl
    simp -implicitDefEqProofs [room_zero, lenT, lenV, hbl, sliceX, sliceV, boundV, asIdx, hft]
    refine use_fnN rfl rfl (s_word (l := []) (.list _) (by decide)) rfl ?_
    simp -implicitDefEqProofs [lenT, lenV, hbl, u32, hs56, hor]
    refine use_rawN rfl (s_take (x := x) rfl 0x2000000000000000) ⟨.any, _, rfl⟩ fun v s' hs => ?_
    subst hs
    refine ⟨by simp [Kept], ?_⟩
    have hff : fin x = (let s := x.take 0x2000000000000000; let s := (S4.mk s.a s.b (s.c ^^^ 255) s.d).round.round.round.round; s.a ^^^ s.b ^^^ s.c ^^^ s.d) := rfl
    rw [hff]
    simp only
    generalize x.take 0x2000000000000000 = y
    have x255 : bits .xor .u64 (un y.c) 255 = un (y.c ^^^ 255) := xor_u64 y.c 255
    simp -implicitDefEqProofs [c44_k6, nilCheckV, s4, x255, c44_k5, c44_k4]
    refine wloopI (InvFin K0 K1 t ⟨y.a, y.b, y.c ^^^ 255, y.d⟩) (m := 4) ⟨0, rfl, rfl, by omega, rfl⟩ ?_
    rintro m e s ⟨i, rfl, rfl, hi, rfl⟩
    simp -implicitDefEqProofs [c44_l3, c44_k2]
    by_cases hi4 : i < 4
    · have hi4' : (i : Int) < 4 := by omega
      simp -implicitDefEqProofs [hi4', c44_k1]
      refine use_raw (s_round (r := 1) rfl) fun v s hs => ?_
      subst hs
      simp -implicitDefEqProofs [wrap_i64 (n := (i : Int) + 1) (by omega) (by omega)]
      exact ⟨4 - (i + 1), by omega, i + 1, rfl, rfl, by omega, rfl⟩
    · obtain rfl : i = 4 := by omega
      simp -implicitDefEqProofs [c44_k0]
      refine w_drwX (fun _ => .val) [] (by decide +kernel) ?_
      simp -implicitDefEqProofs [room_zero, nilCheckV, s4, xor_u64]
      rfl
/-! ### short ids -/
theorem hash_len (l : List UInt8) : (hashD l).length = l.length := by simp [hashD]
def byV (l : List UInt8) : List V := l.map fun b => Y b.toNat
theorem byV_len (l : List UInt8) : (byV l).length = l.length := by simp [byV]
theorem hashD_byV (l : List UInt8) : (hashD l).map V.d = byV l := by simp [hashD, byV]
theorem ofD_byV (l : List UInt8) : ofD (byV l) = some (hashD l) := by
  induction l with
  | nil => rfl
  | cons a r ih => simp only [byV, hashD, List.map_cons, ofD] at ih ⊢; rw [ih]
theorem rows_byte : ∀ l : List UInt8, rowsOf 1 l.length (hashD l) = byteRows l
  | [] => rfl
  | a :: r => by
    have := rows_byte r
    simp [rowsOf, byteRows, hashD] at this ⊢
    exact this

theorem s_Short (K0 K1 : W64) {t : List UInt8} (ht : t.length = 32) : Dn.Call Γ cx .val 33 [.da [.int .u64 (un K0), .int .u64 (un K1)], .da (hashD t)] St.empty fun v _ => v = X (short K0 K1 t) := by
  refine Dn.Call.body (fc := c33) rfl ?_
  have hl := byV_len t
  rw [ht] at hl
  have htk : (byV t).take 32 = byV t := List.take_of_length_le (by omega)
  have hrw := rows_byte t
  rw [ht] at hrw
  simp -implicitDefEqProofs [c33, hashD_byV, c33_k0]
  refine w_drwX (fun _ => .val) [] (by decide +kernel) ?_
  have hbv : V.byVal ⟨[.cells [Wd K0, Wd K1], .cells (byV t)], []⟩ (.sl 1 0 32 1) = some (.d (.list (byteRows t))) := by
    simp [V.byVal, V.rows, htk, ofD_byV, hrw]
  simp -implicitDefEqProofs [room_zero, sliceArrV, boundV, asIdx, hl, mkAgg, ofD]
  refine use_fnN rfl (ds := [.da [.int .u64 (un K0), .int .u64 (un K1)], .d (.list (byteRows t))]) (by simp only [byVals, bv_da, hbv]) (s_Hash K0 K1 ht) rfl ?_
  have h1 : (un (hash K0 K1 t)).tmod 4294967295 = (((hash K0 K1 t).toNat % 4294967295 : Nat) : Int) := by
    rw [Int.tmod_eq_emod_of_nonneg (by simp [un])]
    simp [un]
  have hm : (hash K0 K1 t).toNat % 4294967295 < 4294967295 := Nat.mod_lt _ (by decide)
  have hsd : short K0 K1 t = (((hash K0 K1 t).toNat % 4294967295 + 1 : Nat) : Int) := rfl
  rw [hsd]
  generalize (hash K0 K1 t).toNat % 4294967295 = z at *
  have w1 : IntKind.u32.wrap (z : Int) = z := by
    simp only [IntKind.wrap, IntKind.signed, IntKind.bits]; simp; omega
  have w2 : IntKind.u32.wrap ((z : Int) + 1) = ((z + 1 : Nat) : Int) := by
    simp only [IntKind.wrap, IntKind.signed, IntKind.bits]; simp; omega
  simp -implicitDefEqProofs [h1, w1, w2]

theorem s_short (K0 K1 : W64) {t : List UInt8} (ht : t.length = 32) : Dn.Call Γ cx .val 35 [.da [.int .u64 (un K0), .int .u64 (un K1)], .da (hashD t)] St.empty fun v _ => v = X (short K0 K1 t) := by
  refine Dn.Call.body (fc := c35) rfl ?_
  have hl := byV_len t
  rw [ht] at hl
  have htk : (byV t).take 32 = byV t := List.take_of_length_le (by omega)
  simp -implicitDefEqProofs [c35, hashD_byV, c35_k0, mkAgg, ofD, hl, htk, ofD_byV]
  refine use_fn rfl (s_Short K0 K1 ht) rfl ?_
  simp -implicitDefEqProofs

open Sip

/-! ### the reference's SipHash -/
theorem s_turn (x : W64) (k : Nat) (h1 : 1 ≤ k) (h2 : k < 64) : Dn.Call Γ cx .val 70 [Wd x, U k] St.empty fun v _ => v = Wd (rot x k) := by
  refine Dn.Call.body (fc := c70) rfl ?_
  have e1 := shl_sh x k h2
  have e2 : IntKind.u64.wrap (64 - (k : Int)) = ((64 - k : Nat) : Int) := by rw [wrap_u64 (by omega) (by omega)]; omega
  have e3 := shr_sh x (64 - k) (by omega)
  obtain ⟨j, hj⟩ : ∃ j, 64 - k = j := ⟨_, rfl⟩
  rw [hj] at e2 e3
  simp -implicitDefEqProofs [c70, c70_k0, e1, e2, e3, or_u64, rot, hj]

def d4 (s : S4) : List D := [.int .u64 (un s.a), .int .u64 (un s.b), .int .u64 (un s.c), .int .u64 (un s.d)]
def rnds (x : S4) (n : Nat) : S4 := Nat.rec x (fun _ y => y.round) n
theorem rnds_succ (x : S4) (n : Nat) : rnds x (n + 1) = (rnds x n).round := rfl
def InvRs (x : S4) (n : Nat) (m : Nat) (e : Env) (s : St) : Prop := ∃ i : Nat, e = [(1, I n), (2, .ref 0 0), (4, .ref 1 0), (5, I i)] ∧ m = n - i ∧ i ≤ n ∧ s = ⟨[.cells (s4 (rnds x i)), .cells [U 0, U 0, U 0, U 0]], []⟩

theorem s_rounds (x : S4) (n : Nat) (hn : n ≤ 100) : Dn.Call Γ cx .val 60 [.da (d4 x), I n] St.empty fun v _ => v = .da (d4 (rnds x n)) := by
  refine Dn.Call.body (fc := c60) rfl ?_
  simp -implicitDefEqProofs [c60, d4, c60_k20, c60_k19]
  refine wloopI (InvRs x n) (m := n) ⟨0, rfl, rfl, by omega, rfl⟩ ?_
  rintro m e s ⟨i, rfl, rfl, hi, rfl⟩
  simp -implicitDefEqProofs [c60_l18]
  by_cases hin : i < n
  · have hst := rnds_succ x i
    generalize rnds x i = y at *
    obtain ⟨a, b, c, d⟩ := y
    simp -implicitDefEqProofs [hin, c60_k17, c60_k16, c60_k15, s4, iaddrArrV, asIdx, add_u64, c60_k14]
    simp only [S4.round] at hst
    generalize a + b = a1 at *
    refine use_fn rfl (s_turn b 13 (by omega) (by omega)) rfl ?_
    simp -implicitDefEqProofs [iaddrArrV, asIdx, xor_u64, c60_k13, c60_k12]
    generalize rot b 13 ^^^ a1 = b1 at *
    refine use_fn rfl (s_turn a1 32 (by omega) (by omega)) rfl ?_
    generalize rot a1 32 = a2 at *
    simp -implicitDefEqProofs [iaddrArrV, asIdx, add_u64, c60_k11, c60_k10]
    generalize c + d = c1 at *
    refine use_fn rfl (s_turn d 16 (by omega) (by omega)) rfl ?_
    simp -implicitDefEqProofs [iaddrArrV, asIdx, xor_u64, add_u64, c60_k9, c60_k8, c60_k7]
    generalize rot d 16 ^^^ c1 = d1 at *
    generalize a2 + d1 = a3 at *
    refine use_fn rfl (s_turn d1 21 (by omega) (by omega)) rfl ?_
    simp -implicitDefEqProofs [iaddrArrV, asIdx, xor_u64, add_u64, c60_k6, c60_k5, c60_k4]
    generalize rot d1 21 ^^^ a3 = d2 at *
    generalize c1 + b1 = c2 at *
    refine use_fn rfl (s_turn b1 17 (by omega) (by omega)) rfl ?_
    simp -implicitDefEqProofs [iaddrArrV, asIdx, xor_u64, c60_k3, c60_k2]
    generalize rot b1 17 ^^^ c2 = b2 at *
    refine use_fn rfl (s_turn c2 32 (by omega) (by omega)) rfl ?_
    simp -implicitDefEqProofs [iaddrArrV, asIdx, c60_k1, wrap_i64 (n := (i : Int) + 1) (by omega) (by omega)]
    exact ⟨n - (i + 1), by omega, i + 1, rfl, rfl, by omega, by rw [hst]; rfl⟩
  · obtain rfl : i = n := by omega
    simp -implicitDefEqProofs [c60_k17, c60_k0, s4, mkAgg, ofD]

def blkL (t : List UInt8) (i : Nat) : List UInt8 := (t.drop (8 * i)).take 8
def InvIn8 (t : List UInt8) (i : Nat) (s0 : St) (m : Nat) (e : Env) (s : St) : Prop := ∃ k : Nat, e = [(1, .d (.list (byteRows t))), (5, .ref 1 0), (6, I (8 * i : Nat)), (7, U (num ((blkL t i).drop k))), (8, I ((k : Int) - 1))] ∧ k = m ∧ k ≤ 8 ∧ s = s0

def aft (K0 K1 : W64) (t : List UInt8) (i : Nat) : S4 := if i ≤ 4 then after K0 K1 t i else (after K0 K1 t 4).take 0x2000000000000000
def InvRH (K0 K1 : W64) (t : List UInt8) (m : Nat) (e : Env) (s : St) : Prop := ∃ i : Nat, e = [(1, .d (.list (byteRows t))), (5, .ref 1 0), (6, I (8 * i : Nat))] ∧ m = 5 - i ∧ i ≤ 5 ∧ s = ⟨[.cells [Wd K0, Wd K1], .cells (s4 (aft K0 K1 t i))], []⟩

theorem take_rnds (x : S4) (m : W64) : x.take m = ⟨(rnds ⟨x.a, x.b, x.c, x.d ^^^ m⟩ 2).a ^^^ m, (rnds ⟨x.a, x.b, x.c, x.d ^^^ m⟩ 2).b, (rnds ⟨x.a, x.b, x.c, x.d ^^^ m⟩ 2).c, (rnds ⟨x.a, x.b, x.c, x.d ^^^ m⟩ 2).d⟩ := rfl

theorem s_rHash (K0 K1 : W64) {t : List UInt8} (ht : t.length = 32) : Dn.Call Γ cx .val 49 [.da [.int .u64 (un K0), .int .u64 (un K1)], .d (.list (byteRows t))] St.empty fun v _ => v = Wd (hash K0 K1 t) := by
  refine Dn.Call.body (fc := c49) rfl ?_
  have hbl : (byteRows t).length = 32 := by rw [byteRows_len, ht]
  have x0 : bits .xor .u64 (un K0) 8317987319222330741 = un (K0 ^^^ 0x736f6d6570736575) := xor_u64 K0 0x736f6d6570736575
  have x1 : bits .xor .u64 (un K1) 7237128888997146477 = un (K1 ^^^ 0x646f72616e646f6d) := xor_u64 K1 0x646f72616e646f6d
  have x2 : bits .xor .u64 (un K0) 7816392313619706465 = un (K0 ^^^ 0x6c7967656e657261) := xor_u64 K0 0x6c7967656e657261
  have x3 : bits .xor .u64 (un K1) 8387220255154660723 = un (K1 ^^^ 0x7465646279746573) := xor_u64 K1 0x7465646279746573
  simp -implicitDefEqProofs [c49, c49_k24, x0, x1, x2, x3, mkAgg, ofD, c49_k23, c49_k22]
  refine wloopI (InvRH K0 K1 t) (m := 5) ⟨0, rfl, rfl, by omega, rfl⟩ ?_
  rintro m e s ⟨i, rfl, rfl, hi, rfl⟩
  by_cases hi5 : i < 5
  rotate_left
  · obtain rfl : i = 5 := by omega
    have hfin : hash K0 K1 t = (let s := aft K0 K1 t 5; let s := rnds (S4.mk s.a s.b (s.c ^^^ 255) s.d) 4; s.a ^^^ s.b ^^^ s.c ^^^ s.d) := rfl
    rw [hfin]
    simp only
    generalize aft K0 K1 t 5 = y
    have x255 : bits .xor .u64 (un y.c) 255 = un (y.c ^^^ 255) := xor_u64 y.c 255
    simp -implicitDefEqProofs [c49_l21, lenT, lenV, hbl, c49_k20, c49_k2, iaddrArrV, asIdx, s4, x255, c49_k1, mkAgg, ofD]
    refine use_fn rfl (s_rounds ⟨y.a, y.b, y.c ^^^ 255, y.d⟩ 4 (by omega)) rfl ?_
    generalize rnds ⟨y.a, y.b, y.c ^^^ 255, y.d⟩ 4 = z
    simp -implicitDefEqProofs [c49_k0, iaddrArrV, asIdx, d4, xor_u64]
  have hle : ((8 * i : Nat) : Int) ≤ 32 := by omega
  obtain ⟨at8, hat8⟩ : ∃ x : Nat, 8 * i = x := ⟨_, rfl⟩
  rw [hat8] at hle
  simp only [hat8]
  simp -implicitDefEqProofs [c49_l21, lenT, lenV, hbl, hle, c49_k20, c49_k19, c49_k18, c49_k17, c49_k16]
  have hbd : (blkL t i).length ≤ 8 := by simp [blkL]; omega
  have h8 : (blkL t i).drop 8 = [] := List.drop_of_length_le hbd
  refine wloopI (InvIn8 t i ⟨[.cells [Wd K0, Wd K1], .cells (s4 (aft K0 K1 t i))], []⟩) (m := 8) ⟨8, by simp [Env.pick, Env.get, h8, num, hat8], rfl, by omega, rfl⟩ ?_
  rintro m e s ⟨k, rfl, rfl, hk, rfl⟩
  simp only [hat8]
  cases k with
  | zero =>
    simp only [List.drop_zero]
    have hw : un (word (blkL t i)) = (num (blkL t i) : Int) := un_word hbd
    have e8 : IntKind.i64.wrap ((at8 : Int) + 8) = ((at8 + 8 : Nat) : Int) := by rw [wrap_i64 (by omega) (by omega)]; omega
    have fin : ∀ (m : W64) (tl : Env), tl = [] ∨ tl = [(53, B false)] → aft K0 K1 t (i + 1) = (aft K0 K1 t i).take m → wcode (Dn.Call Γ cx) cx c49_k6 ((1, .d (.list (byteRows t))) :: (5, .ref 1 0) :: (6, I at8) :: (7, Wd m) :: tl) ⟨[.cells [Wd K0, Wd K1], .cells (s4 (aft K0 K1 t i))], []⟩
        (blkQ 1 (thenQ (Dn.Call Γ cx) cx c49_k3 (loopQ (InvRH K0 K1 t) (5 - i) [1, 5, 6] (blkQ 0 (thenQ (Dn.Call Γ cx) cx c49_k2 (endQ .val St.empty [.tmp 4] fun v _ => v = Wd (hash K0 K1 t))))))) := by
      intro m tl htl haf
      rw [take_rnds] at haf
      generalize aft K0 K1 t i = y at *
      have e9 : IntKind.i64.wrap ((at8 : Int) + 8) = ((8 * (i + 1) : Nat) : Int) := by rw [wrap_i64 (by omega) (by omega)]; omega
      rcases htl with rfl | rfl
      all_goals
        simp -implicitDefEqProofs [c49_k6, iaddrArrV, asIdx, s4, xor_u64, c49_k5, mkAgg, ofD]
        refine use_fn rfl (s_rounds ⟨y.a, y.b, y.c, y.d ^^^ m⟩ 2 (by omega)) rfl ?_
        generalize rnds ⟨y.a, y.b, y.c, y.d ^^^ m⟩ 2 = z at *
        simp -implicitDefEqProofs [d4, c49_k4, iaddrArrV, asIdx, xor_u64, c49_k3]
        rw [e9]
        exact ⟨5 - (i + 1), by omega, i + 1, rfl, rfl, by omega, by rw [haf]; rfl⟩
    by_cases hi4 : i < 4
    · have h40 : ¬ (32 : Int) < ((at8 + 8 : Nat) : Int) := by omega
      obtain ⟨a9, ha9⟩ : ∃ x : Nat, at8 + 8 = x := ⟨_, rfl⟩
      rw [ha9] at e8 h40
      have := fin (word (blkL t i)) [(53, B false)] (.inr rfl) (by simp [aft, show i + 1 ≤ 4 by omega, show i ≤ 4 by omega, after, blk, blkL])
      rw [← hw] 
      simp -implicitDefEqProofs [c49_l15, c49_k14, c49_k8, e8, lenT, lenV, hbl, h40, c49_k7]
      exact this
    · obtain rfl : i = 4 := by omega
      obtain rfl : at8 = 32 := by omega
      have hb0 : blkL t 4 = [] := by simp [blkL, List.drop_of_length_le, ht]
      have := fin 0x2000000000000000 [] (.inl rfl) rfl
      have w40 : IntKind.i64.wrap 40 = 40 := rfl
      have w32 : IntKind.u64.wrap 32 = 32 := rfl
      have wm : IntKind.u64.wrap 2305843009213693952 = 2305843009213693952 := rfl
      simp -implicitDefEqProofs [c49_l15, c49_k14, hb0, num, c49_k8, w40, lenT, lenV, hbl, c49_k7, w32, wm]
      exact this
  | succ k =>
    have g1 : (((k + 1 : Nat) : Int) - 1) = (k : Int) := by omega
    have g2 : IntKind.i64.wrap ((k : Int) - 1) = (k : Int) - 1 := wrap_i64 (by omega) (by omega)
    have g3 : IntKind.i64.wrap ((at8 : Int) + k) = ((at8 + k : Nat) : Int) := by rw [wrap_i64 (by omega) (by omega)]; omega
    have hk0 : (0 : Int) ≤ k := by omega
    have hnl := num_lt ((blkL t i).drop (k + 1))
    have hdl : ((blkL t i).drop (k + 1)).length ≤ 7 := by simp; omega
    have h2 : 256 ^ ((blkL t i).drop (k + 1)).length ≤ 256 ^ 7 := Nat.pow_le_pow_right (by decide) hdl
    have hm1 : IntKind.u64.wrap ((num ((blkL t i).drop (k + 1)) : Int) * 256) = ((num ((blkL t i).drop (k + 1)) * 256 : Nat) : Int) := by rw [wrap_u64 (by omega) (by omega)]; omega
    rw [g1]
    by_cases hin : at8 + k < 32
    · have hb : ∃ b, t[at8 + k]? = some b ∧ (blkL t i)[k]? = some b := by
        refine ⟨t[at8 + k]'(by omega), by simp, ?_⟩
        have hk8 : k < 8 := by omega
        simp [blkL, hk8, hat8]
      obtain ⟨b, hb1, hb2⟩ := hb
      have hia : ∀ σ, iaddrV σ 1 (.d (.list (byteRows t))) (I (at8 + k : Nat)) = some (.ro [.int .u8 b.toNat]) := fun σ => (LV.list (byteRows t)).iaddr σ (k := .i64) (sz := 1) (byteRows_at hb1) rfl
      have hnum : num ((blkL t i).drop k) = b.toNat + 256 * num ((blkL t i).drop (k + 1)) := by
        obtain ⟨h', rfl⟩ := List.getElem?_eq_some_iff.1 hb2
        rw [List.drop_eq_getElem_cons h']
        rfl
      have hbb := b.toNat_lt
      generalize num ((blkL t i).drop (k + 1)) = z at *
      have hm2 : IntKind.u64.wrap (((z * 256 : Nat) : Int) + b.toNat) = (num ((blkL t i).drop k) : Int) := by rw [wrap_u64 (by omega) (by omega), hnum]; omega
      have wb : IntKind.u64.wrap (b.toNat : Int) = b.toNat := wrap_u64 (by omega) (by omega)
      obtain ⟨j, hj⟩ : ∃ j : Nat, at8 + k = j := ⟨_, rfl⟩
      rw [hj] at g3 hia
      obtain ⟨z2, hz2⟩ : ∃ z2 : Nat, z * 256 = z2 := ⟨_, rfl⟩
      rw [hz2] at hm1 hm2
      have hj32 : (j : Int) < 32 := by omega
      simp -implicitDefEqProofs [c49_l15, hk0, c49_k14, c49_k13, c49_k12, hm1, c49_k11, g3, lenT, lenV, hbl, hj32, c49_k10, hia, wb, hm2, c49_k9, g2]
      exact ⟨k, by omega, k, by rw [hat8], rfl, by omega, rfl⟩
    · have hnum : num ((blkL t i).drop k) = 0 ∧ num ((blkL t i).drop (k + 1)) = 0 := by
        have : (blkL t i).length ≤ k := by simp [blkL, ht]; omega
        rw [List.drop_of_length_le this, List.drop_of_length_le (by omega)]
        exact ⟨rfl, rfl⟩
      rw [hnum.2]
      obtain ⟨j, hj⟩ : ∃ j : Nat, at8 + k = j := ⟨_, rfl⟩
      rw [hj] at g3
      have hj32 : ¬ (j : Int) < 32 := by omega
      have w0 : IntKind.u64.wrap 0 = 0 := rfl
      simp -implicitDefEqProofs [c49_l15, hk0, c49_k14, c49_k13, c49_k12, w0, c49_k11, g3, lenT, lenV, hbl, hj32, c49_k10, c49_k9, g2]
      exact ⟨k, by omega, k, by rw [hat8, hnum.1]; rfl, rfl, by omega, rfl⟩

open Sip

/-! ### the reference's short id -/
theorem App.frozen {σ : St} {sz : Nat} {v : V} {rows : List (List D)} (h : App σ sz v rows) (hne : rows ≠ []) : V.byVal σ v = some (.d (.list rows)) := by
  cases h with
  | nil => exact absurd rfl hne
  | fl => rfl
  | tl => rfl
theorem hashD_len (l : List UInt8) : (hashD l).length = l.length := by simp [hashD]
theorem iaddr_ref {r n j : Nat} (h : j < n) : iaddrArrV n 1 (.ref r 0) (.d (.int .i64 (j : Int))) = some (.ref r j) := by
  have : (j : Int) < n := by omega
  simp [iaddrArrV, asIdx, this]
def InvBytes (K0 K1 : W64) (l : List UInt8) (m : Nat) (e : Env) (σ : St) : Prop := ∃ (i : Nat) (v : V), e = [(2, .ref 0 0), (3, .ref 1 0), (5, v), (6, I i)] ∧ i ≤ 32 ∧ m = 32 - i ∧ σ.objs = [.cells [Wd K0, Wd K1], .cells (byV l)] ∧ App σ 1 v (byteRows (l.take i))

theorem s_rShort (K0 K1 : W64) {l : List UInt8} (hl : l.length = 32) : Dn.Call Γ cx .val 41 [.da [.int .u64 (un K0), .int .u64 (un K1)], .da (hashD l)] St.empty fun v _ => v = X (short K0 K1 l) := by
  refine Dn.Call.body (fc := c41) rfl ?_
  simp -implicitDefEqProofs [c41, c41_k7, c41_k6, c41_k5, hashD_byV]
  refine wloopI (InvBytes K0 K1 l) (m := 32) ⟨0, _, rfl, by omega, rfl, rfl, .nil⟩ ?_
  rintro m e σ ⟨i, v, rfl, hi, rfl, hobj, hv⟩
  simp -implicitDefEqProofs [c41_l4, c41_k3]
  by_cases hil : i < 32
  · have hii : (i : Int) < 32 := by omega
    have hb : (byV l)[i]? = some (Y (l[i]'(by omega)).toNat) := by simp [byV, List.getElem?_eq_getElem (show i < l.length by omega)]
    have hta : l.take (i + 1) = l.take i ++ [l[i]'(by omega)] := (List.take_append_getElem (by omega)).symm
    generalize l[i]'(by omega) = c at *
    obtain ⟨v2, σ2, hap2, happ2, ho2, -, -⟩ := hv.push (bytes := 1) (by decide) (byteRows_fit _) (ys := byteRows [c]) (byteRows_fit _) (by simp [byteRows_len]; omega) (by simp [byteRows_len]; omega)
    rw [← byteRows_app, ← hta] at happ2
    simp -implicitDefEqProofs [hii, c41_k2, c41_k1, iaddr_ref hil, hobj, hb, repl, rowsOf, frzV]
    refine i_app_f (v := v2) (s := σ2) ?_ ?_
    · simp -implicitDefEqProofs [V.rows]
      exact hap2 none
    simp -implicitDefEqProofs [wrap_i64 (n := (i : Int) + 1) (by omega) (by omega)]
    exact ⟨32 - (i + 1), by omega, i + 1, v2, rfl, by omega, rfl, by rw [ho2, hobj], happ2⟩
  · obtain rfl : i = 32 := by omega
    rw [List.take_of_length_le (by omega)] at hv
    have hfz := App.frozen hv (by intro e; have := congrArg List.length e; rw [byteRows_len, List.length_nil] at this; omega)
    simp -implicitDefEqProofs [c41_k0, hobj, mkAgg, ofD]
    refine use_fn (ds := [.da [.int .u64 (un K0), .int .u64 (un K1)], .d (.list (byteRows l))]) (by simp only [byVals, bv_da, hfz]) (s_rHash K0 K1 hl) (Bool.or_true _) ?_
    have h1 : (un (hash K0 K1 l)).tmod 4294967295 = (((hash K0 K1 l).toNat % 4294967295 : Nat) : Int) := by
      rw [Int.tmod_eq_emod_of_nonneg (by simp [un])]
      simp [un]
    have hm : (hash K0 K1 l).toNat % 4294967295 < 4294967295 := Nat.mod_lt _ (by decide)
    have hsd : short K0 K1 l = (((hash K0 K1 l).toNat % 4294967295 + 1 : Nat) : Int) := rfl
    rw [hsd]
    generalize (hash K0 K1 l).toNat % 4294967295 = z at *
    have w0 : IntKind.u64.wrap (z : Int) = z := wrap_u64 (by omega) (by omega)
    have w1 : IntKind.u64.wrap ((z : Int) + 1) = ((z + 1 : Nat) : Int) := by rw [wrap_u64 (by omega) (by omega)]; omega
    have w2 : IntKind.u32.wrap (((z + 1 : Nat) : Int)) = ((z + 1 : Nat) : Int) := by
      simp only [IntKind.wrap, IntKind.signed, IntKind.bits]; simp; omega
    have w3 : IntKind.u32.wrap ((z : Int) + 1) = ((z : Int) + 1) := by
      simp only [IntKind.wrap, IntKind.signed, IntKind.bits]; simp; omega
    simp -implicitDefEqProofs [h1, w0, w1, w2, w3]

/-! ### lists of items -/
def itemRow (p : Item) : List D := .int .u32 p.1 :: hashD p.2
def mRows (M : List Item) : List (List D) := M.map itemRow
def hRows (l : List (List UInt8)) : List (List D) := l.map hashD
theorem mRows_len (M : List Item) : (mRows M).length = M.length := by simp [mRows]
theorem hRows_len (M : List (List UInt8)) : (hRows M).length = M.length := by simp [hRows]
theorem uRows_len (M : List Int) : (uRows M).length = M.length := by simp [uRows]
theorem uRows_fit (l : List Int) : ∀ r ∈ uRows l, r.length = 1 := by
  intro r hr
  obtain ⟨b, _, rfl⟩ := List.mem_map.1 hr
  rfl
theorem hRows_fit {l : List (List UInt8)} (h : ∀ x ∈ l, x.length = 32) : ∀ r ∈ hRows l, r.length = 32 := by
  intro r hr
  obtain ⟨b, hb, rfl⟩ := List.mem_map.1 hr
  rw [hashD_len, h b hb]
theorem mRows_fit {M : List Item} (h : ∀ p ∈ M, p.2.length = 32) : ∀ r ∈ mRows M, r.length = 33 := by
  intro r hr
  obtain ⟨p, hp, rfl⟩ := List.mem_map.1 hr
  simp [itemRow, hashD_len, h p hp]
theorem hash_ro {σ : St} {t : List UInt8} (h : t.length = 32) : loadAt σ true 32 (.ro (hashD t)) = some (.da (hashD t)) := by
  have hl := hashD_len t
  rw [h] at hl
  simp [loadAt, hl, List.take_of_length_le, mkAgg]

theorem frz_hash (t : List UInt8) : ofD ((hashD t).map (frzV ∘ V.d)) = some (hashD t) := by
  induction t with
  | nil => rfl
  | cons a r ih => simp only [hashD, List.map_cons, Function.comp, frzV, ofD] at ih ⊢; rw [ih]

def InvRI (x : D) (M : List Item) (m : Nat) (e : Env) (σ : St) : Prop := ∃ (i : Nat) (v : V), e = [(0, .d x), (3, v), (4, I i)] ∧ i ≤ M.length ∧ m = M.length - i ∧ App σ 1 v (uRows ((M.take i).map (·.1)))
theorem s_rIDs {x : D} {M : List Item} (hx : LV (.d x) (mRows M)) (hM : ∀ p ∈ M, p.2.length = 32) (hn : M.length ≤ 1000) : Dn.Call Γ cx .val 12 [.d x] St.empty fun v _ => ∃ d, v = .d d ∧ LV (.d d) (uRows (M.map (·.1))) := by
  refine Dn.Call.body (fc := c12) rfl ?_
  simp -implicitDefEqProofs [c12, c12_k7, c12_k6, c12_k5]
  refine wloopI (InvRI x M) (m := M.length) ⟨0, _, rfl, by omega, rfl, .nil⟩ ?_
  rintro m e σ ⟨i, v, rfl, hi, rfl, hv⟩
  have hlx := hx.len σ
  rw [mRows_len] at hlx
  by_cases hil : i < M.length
  · have hii : (i : Int) < M.length := by omega
    obtain ⟨p, hp⟩ : ∃ p, M[i]? = some p := ⟨_, List.getElem?_eq_getElem hil⟩
    have hia := hx.iaddr σ (k := .i64) (sz := 33) (i := i) (row := itemRow p) (by simp [mRows, hp]) (by simp [itemRow, hashD_len, hM p (List.mem_of_getElem? hp)])
    have hta : M.take (i + 1) = M.take i ++ [p] := by rw [List.take_add_one, hp]; rfl
    obtain ⟨v2, σ2, hap2, happ2, ho2, -, -⟩ := hv.push (bytes := 4) (by decide) (uRows_fit _) (ys := uRows [p.1]) (uRows_fit _) (by simp [uRows_len]; omega) (by simp [uRows_len]; omega)
    rw [show uRows ((M.take i).map (·.1)) ++ uRows [p.1] = uRows ((M.take (i + 1)).map (·.1)) by rw [hta]; simp [uRows]] at happ2
    simp -implicitDefEqProofs [c12_l4, c12_k3, hlx, hii, hil, c12_k2, c12_k1, hia, itemRow, repl, rowsOf, frzV]
    refine i_app_f (v := v2) (s := σ2) ?_ ?_
    · simp -implicitDefEqProofs [V.rows]
      exact hap2 none
    simp -implicitDefEqProofs [wrap_i64 (n := (i : Int) + 1) (by omega) (by omega)]
    exact ⟨M.length - (i + 1), by omega, i + 1, v2, rfl, by omega, rfl, happ2⟩
  · obtain rfl : i = M.length := by omega
    rw [List.take_of_length_le (by omega)] at hv
    have hdv := hv.lv.dv σ
    obtain ⟨d, hd⟩ := hdv.2.2.1
    simp -implicitDefEqProofs [c12_l4, c12_k3, hlx, c12_k0, hdv.1]
    exact ⟨d, hd, hd ▸ hdv.2.1⟩

def InvRHs (x : D) (M : List Item) (m : Nat) (e : Env) (σ : St) : Prop := ∃ (i : Nat) (v : V), e = [(0, .d x), (3, v), (4, I i)] ∧ i ≤ M.length ∧ m = M.length - i ∧ App σ 32 v (hRows ((M.take i).map (·.2)))
theorem s_rHashes {x : D} {M : List Item} (hx : LV (.d x) (mRows M)) (hM : ∀ p ∈ M, p.2.length = 32) (hn : M.length ≤ 1000) : Dn.Call Γ cx .val 10 [.d x] St.empty fun v _ => ∃ d, v = .d d ∧ LV (.d d) (hRows (M.map (·.2))) := by
  refine Dn.Call.body (fc := c10) rfl ?_
  simp -implicitDefEqProofs [c10, c10_k7, c10_k6, c10_k5]
  refine wloopI (InvRHs x M) (m := M.length) ⟨0, _, rfl, by omega, rfl, .nil⟩ ?_
  rintro m e σ ⟨i, v, rfl, hi, rfl, hv⟩
  have hlx := hx.len σ
  rw [mRows_len] at hlx
  by_cases hil : i < M.length
  · have hii : (i : Int) < M.length := by omega
    obtain ⟨p, hp⟩ : ∃ p, M[i]? = some p := ⟨_, List.getElem?_eq_getElem hil⟩
    have hp32 := hM p (List.mem_of_getElem? hp)
    have hia := hx.iaddr σ (k := .i64) (sz := 33) (i := i) (row := itemRow p) (by simp [mRows, hp]) (by simp [itemRow, hashD_len, hp32])
    have hta : M.take (i + 1) = M.take i ++ [p] := by rw [List.take_add_one, hp]; rfl
    have hhl := hashD_len p.2
    rw [hp32] at hhl
    have htk : List.take 32 (hashD p.2) = hashD p.2 := List.take_of_length_le (by omega)
    obtain ⟨v2, σ2, hap2, happ2, ho2, -, -⟩ := hv.push (bytes := 32) (by decide) (hRows_fit (fun y hy => by obtain ⟨q, hq, rfl⟩ := List.mem_map.1 hy; exact hM _ (List.mem_of_mem_take hq))) (ys := hRows [p.2]) (hRows_fit (by simp [hp32])) (by simp [hRows_len]; omega) (by simp [hRows_len]; omega)
    rw [show hRows ((M.take i).map (·.2)) ++ hRows [p.2] = hRows ((M.take (i + 1)).map (·.2)) by rw [hta]; simp [hRows]] at happ2
    simp -implicitDefEqProofs [-List.reduceReplicate, c10_l4, c10_k3, hlx, hii, hil, c10_k2, c10_k1, hia, itemRow, repl, rowsOf, frz_hash, frzV, hhl, htk]
    refine i_app_f (v := v2) (s := σ2) ?_ ?_
    · simp -implicitDefEqProofs [V.rows]
      exact hap2 none
    simp -implicitDefEqProofs [wrap_i64 (n := (i : Int) + 1) (by omega) (by omega)]
    exact ⟨M.length - (i + 1), by omega, i + 1, v2, rfl, by omega, rfl, happ2⟩
  · obtain rfl : i = M.length := by omega
    rw [List.take_of_length_le (by omega)] at hv
    have hdv := hv.lv.dv σ
    obtain ⟨d, hd⟩ := hdv.2.2.1
    simp -implicitDefEqProofs [c10_l4, c10_k3, hlx, c10_k0, hdv.1]
    exact ⟨d, hd, hd ▸ hdv.2.1⟩
end Go.Proofs.Ytmcojkkpanijjaa.T

namespace Go.Proofs.Ytmcojkkpanijjaa.T
open Go.Dn
set_option linter.unusedSimpArgs false
set_option linter.unusedVariables false
open Sip

/-! ### what an index holds -/
def gt : List Item → Int → Option (List UInt8)
  | [], _ => none
  | p :: r, i => if p.1 = i then some p.2 else gt r i
theorem gt_none {i : Int} : ∀ {M : List Item}, gt M i = none → ∀ p ∈ M, p.1 ≠ i
  | [], _, p, hp => by cases hp
  | q :: r, h, p, hp => by
    simp only [gt] at h
    split at h
    · cases h
    · rename_i hq
      rcases List.mem_cons.1 hp with rfl | hp
      · exact hq
      · exact gt_none h p hp
theorem gt_some {i : Int} {t : List UInt8} : ∀ {M : List Item}, gt M i = some t → (i, t) ∈ M
  | [], h => by cases h
  | q :: r, h => by
    simp only [gt] at h
    split at h
    · rename_i hq
      cases h
      rw [← hq]
      exact List.mem_cons_self ..
    · exact List.mem_cons_of_mem _ (gt_some h)

theorem inj_X {a b : Int} (h : X a = X b) : a = b := by
  simp only [V.d.injEq, D.int.injEq] at h
  exact h.2
theorem keys_nodup {es : List Ent} {clock : Nat} {M : List Item} (h : Mp es clock M) (hp : Plain M) : (es.map fun x => x.2.1).Nodup := by
  refine (keys_of h).nodup_iff.2 ?_
  rw [List.map_map]
  show List.Pairwise _ _
  rw [List.pairwise_map]
  exact hp.up.imp fun {a b} h e => by have : a.1 = b.1 := inj_X e; omega
theorem ent_of {es : List Ent} {clock : Nat} {M : List Item} (h : Mp es clock M) {i : Int} {t : List UInt8} (hm : (i, t) ∈ M) : ∃ j b : Nat, es[j]? = some (b, X i, V.da (hashD t)) := by
  have : pairV (i, t) ∈ M.map pairV := List.mem_map.2 ⟨_, hm, rfl⟩
  obtain ⟨x, hx, hx2⟩ := List.mem_map.1 (h.pm.mem_iff.2 this)
  obtain ⟨j, hj, rfl⟩ := List.getElem_of_mem hx
  refine ⟨j, es[j].1, ?_⟩
  rw [List.getElem?_eq_getElem hj]
  have : es[j].2 = (X i, V.da (hashD t)) := hx2
  rw [← this]
theorem key_of_ent {es : List Ent} {clock : Nat} {M : List Item} (h : Mp es clock M) {x : Ent} (hx : x ∈ es) : ∃ p ∈ M, x.2 = pairV p := by
  have := h.pm.mem_iff.1 (List.mem_map.2 ⟨x, hx, rfl⟩)
  obtain ⟨p, hp, e⟩ := List.mem_map.1 this
  exact ⟨p, hp, e.symm⟩
theorem keys_ok {es : List Ent} {clock : Nat} {M : List Item} (h : Mp es clock M) (hp : Plain M) : keysOk false [.int .u32] es := by
  intro x hx
  obtain ⟨p, hpm, e⟩ := key_of_ent h hx
  rw [e]
  have := hp.i p hpm
  have e1 : IntKind.u32.min = 0 := rfl
  have e2 : IntKind.u32.max = 4294967295 := rfl
  simp [pairV, keyOk, fitsAll, Lf.fits, e1, e2, this.1, this.2]

theorem find_gt {es : List Ent} {clock : Nat} {M : List Item} (h : Mp es clock M) (hp : Plain M) (i : Int) : findM (X i) es = (gt M i).map fun t => V.da (hashD t) := by
  cases hg : gt M i with
  | none =>
    refine (findM_none fun x hx e => ?_).1
    obtain ⟨p, hpm, e2⟩ := key_of_ent h hx
    rw [e2] at e
    exact gt_none hg p hpm (inj_X e)
  | some t =>
    obtain ⟨j, b, hj⟩ := ent_of h (gt_some hg)
    exact (findM_at (keys_nodup h hp) hj).1

/-- What is looked up. -/
theorem look_gt {σ : St} {q : Nat} {es : List Ent} {clock : Nat} {M : List Item} (hm : σ.objs[q]? = some (.map es clock)) (h : Mp es clock M) (hp : Plain M) {i : Int} (h0 : 0 ≤ i) (h1 : i ≤ 4294967295) (z : V) (ok : Bool) :
    lookupV σ false [.int .u32] z ok (.map q) (X i) = some (match gt M i with
      | some t => if ok then .tup [.da (hashD t), B true] else .da (hashD t)
      | none => if ok then .tup [z, B false] else z) := by
  have hk : keyOk false [.int .u32] (X i) = true := by
    have e1 : IntKind.u32.min = 0 := rfl
    have e2 : IntKind.u32.max = 4294967295 := rfl
    simp [keyOk, fitsAll, Lf.fits, e1, e2, h0, h1]
  simp only [lookupV, lookM, hk, hm, keys_ok h hp, find_gt h hp]
  cases gt M i <;> simp
end Go.Proofs.Ytmcojkkpanijjaa.T
