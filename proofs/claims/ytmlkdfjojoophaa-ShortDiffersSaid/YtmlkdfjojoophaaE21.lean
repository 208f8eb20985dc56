import Derived.Test.YtmlkdfjojoophaaE7
namespace Go.Proofs.Ytmlkdfjojoophaa.T
open Go.Dn
attribute [local simp] body_eq globEnv GB List.map_nil List.map_cons List.append_nil w_rangeF i_next i_makeMap i_range i_update i_delete i_entry i_clone entryV cloneV q_rndA q_rndB_n q_rndB_e q_rndB_r setAll w_skip w_ops w_seq w_cond w_block w_exit w_ret q_then_n q_then_e q_then_r q_blk_n q_blk_e q_blk_r q_ops q_cont q_end_n q_end_r q_end_e q_loop_n q_loop_e q_loop_r i_nil i_p i_alloc i_box i_store i_copy i_clear i_call i_callv i_when t_nil t_p t_call t_alloc t_box t_store kept_nil t_copy t_clear q_tcont gsel List.cons_append List.nil_append evalP evalE evalF evalB isObj thaw Opd.ev Env.get Env.set Env.pick putE initEnv evalBin intBin evalUn evalConv goneAll goneOne retV resAll Res.ev tupOf byVals byValsN bv_d bv_da bv_fl bv_tl bn_d bn_da bn_fl bn_tl cx Dn.newObj St.place St.push St.spot St.empty cell_d cell_da cell_agg cell_ref cell_sl cell_fl cell_tl cell_map cell_fn cell_ifc loadAt faddrV partOf extractV mkAgg ofD splice St.setObj fillV
set_option linter.unusedSimpArgs false
set_option linter.unusedVariables false
open Go.Sort (swp PermIn SortedIn Below partition partitionEqual choosePivot breakPatterns bitsLen Hint)

structure Rnd (σ : St) (q n a b : Nat) (d : Array Int) (Q1 : PostC) : Prop where
 ret : ∀ (e : Env) (s : St) (R : Array Int), To σ q R s → PermIn a b d R → SortedIn lt a b R → Q1 .ret e s
 go : ∀ (a' b' l' : Nat) (wb wp : Bool) (d' : Array Int) (s : St), To σ q d' s → a' ≤ b' → b' ≤ n → b' - a' < b - a → d'.size = n → l' ≤ 1000 → Below lt a' b' d' →
  (∀ R, PermIn a' b' d' R → SortedIn lt a' b' R → PermIn a b d R ∧ SortedIn lt a b R) → Q1 .normal [(0, .sl q 0 n 1), (1, I a'), (2, I b'), (3, I l'), (8, B wb), (9, B wp)] s

def Ih (q n m : Nat) : Prop := ∀ (σ : St) (a b l : Nat) (d : Array Int), b - a < m → At σ q d → d.size = n → a ≤ b → b ≤ n → l ≤ 1000 → Below lt a b d →
 Dn.Call Γ cx .raw 114 [.sl q 0 n 1, I a, I b, I l] σ fun _ s => ∃ R, To σ q R s ∧ PermIn a b d R ∧ SortedIn lt a b R

attribute [local irreducible] Go.Sort.partition Go.Sort.partitionEqual Go.Sort.partialInsertionSort Go.Sort.insertionSort Go.Sort.heapSort Go.Sort.reverseRange Go.Sort.breakPatterns Go.Sort.choosePivot
theorem swo : Go.Sort.SWO lt := Go.Sort.swo_ltInt

theorem st10 {σ : St} {q n a b l pv lim : Nat} {d d3 : Array Int} {wb wp : Bool} {Q1 : PostC} {s : St} (hR : Rnd σ q n a b d Q1) (ih : Ih q n (b - a)) (hto : To σ q d3 s) (hn3 : d3.size = n) (hP : PermIn a b d d3) (hB : Below lt a b d3)
  (hl : b - a = l) (hN : n ≤ 90) (hb : b ≤ n) (h1 : a ≤ pv) (h2 : pv < b) (hlim : lim ≤ 1000) :
  wcode (Dn.Call Γ cx) cx c114_k10 [(0, .sl q 0 n 1), (1, I a), (2, I b), (3, I lim), (8, B wb), (9, B wp), (10, I l), (11, I pv), (87, B false)] s Q1 := by
 simp -implicitDefEqProofs [c114_k10]
 refine use_raw (s_part hto.at hn3 h1 h2 hb (by omega)) fun v s4 ⟨hv, ht4⟩ => ?_
 rcases hx : partition lt d3 a b pv with ⟨mid, ap, d4⟩
 rw [hx] at hv ht4
 have hb3 : b ≤ d3.size := by omega
 have hpt := Go.Sort.partition_holds lt
 have hm := Go.Sort.round_part swo hpt h1 h2 hb3 hB hx
 obtain ⟨m1, m2, m3, m4, m5, m6, m7⟩ := hm
 have ht4' := hto.trans ht4
 have hn4 : d4.size = n := by rw [m3, hn3]
 have e1 : IntKind.i64.wrap ((mid : Int) - a) = ((mid - a : Nat) : Int) := by rw [wrap_i64 (by omega) (by omega)]; omega
 have e2 : IntKind.i64.wrap ((b : Int) - mid) = ((b - mid : Nat) : Int) := by rw [wrap_i64 (by omega) (by omega)]; omega
 have e3 : IntKind.i64.wrap ((mid : Int) + 1) = ((mid + 1 : Nat) : Int) := by rw [wrap_i64 (by omega) (by omega)]; omega
 have e4 : IntKind.i64.wrap ((l : Int) / 8) = ((l / 8 : Nat) : Int) := by rw [wrap_i64 (by omega) (by omega)]; omega
 obtain ⟨lf, hlf⟩ : ∃ lf, mid - a = lf := ⟨_, rfl⟩
 obtain ⟨rt, hrt⟩ : ∃ rt, b - mid = rt := ⟨_, rfl⟩
 obtain ⟨th, hth⟩ : ∃ th, l / 8 = th := ⟨_, rfl⟩
 obtain ⟨mi, hmi⟩ : ∃ mi, mid + 1 = mi := ⟨_, rfl⟩
 rw [hlf] at e1
 rw [hrt] at e2
 rw [hmi] at e3
 rw [hth] at e4
 subst hv
 simp -implicitDefEqProofs [c114_k9, c114_k8, e1, e2, c114_k7, e4, c114_k6]
 by_cases hlr : lf < rt
 ·simp -implicitDefEqProofs [hlr, c114_k5, c114_k2, c114_k1]
  refine use_raw (ih s4 a mid lim d4 (by omega) ht4.at hn4 m1 (by omega) hlim m4) fun v s5 ⟨L, hL, pL, sL⟩ => ?_
  simp -implicitDefEqProofs [c114_k0, e3]
  obtain ⟨n1, n2⟩ := m6 L pL sL
  rw [hmi] at n1 n2
  exact hR.go mi b lim _ ap L s5 (ht4'.trans hL) (by omega) hb (by omega) (by rw [pL.1, hn4]) hlim n1 fun R pR sR => ⟨Go.Sort.permIn_trans _ _ _ a b hP (n2 R pR sR).1, (n2 R pR sR).2⟩
 ·simp -implicitDefEqProofs [hlr, c114_k5, c114_k4, c114_k3, e3]
  rw [hmi] at m5 m7
  refine use_raw (ih s4 mi b lim d4 (by omega) ht4.at hn4 (by omega) hb hlim m5) fun v s5 ⟨L, hL, pL, sL⟩ => ?_
  simp -implicitDefEqProofs
  obtain ⟨n1, n2⟩ := m7 L pL sL
  exact hR.go a mid lim _ ap L s5 (ht4'.trans hL) m1 (by omega) (by omega) (by rw [pL.1, hn4]) hlim n1 fun R pR sR => ⟨Go.Sort.permIn_trans _ _ _ a b hP (n2 R pR sR).1, (n2 R pR sR).2⟩

theorem st13 {σ : St} {q n a b l pv lim : Nat} {d d3 : Array Int} {wb wp : Bool} {Q1 : PostC} {s : St} {tl : Env} (htl : tl = [(72, B false)] ∨ tl = [(68, B false)]) (hR : Rnd σ q n a b d Q1) (ih : Ih q n (b - a)) (hto : To σ q d3 s) (hn3 : d3.size = n) (hP : PermIn a b d d3) (hB : Below lt a b d3)
  (hl : b - a = l) (hN : n ≤ 90) (hb : b ≤ n) (h1 : a ≤ pv) (h2 : pv < b) (hlim : lim ≤ 1000) :
  wcode (Dn.Call Γ cx) cx c114_k13 ((0, .sl q 0 n 1) :: (1, I a) :: (2, I b) :: (3, I lim) :: (8, B wb) :: (9, B wp) :: (10, I l) :: (11, I pv) :: tl) s (blkQ 1 Q1) := by
 simp only [body_eq, globEnv, GB, List.map_nil, List.map_cons, List.append_nil, w_rangeF, i_next, i_makeMap, i_range, i_update, i_delete, i_entry, i_clone, entryV, cloneV, q_rndA, q_rndB_n, q_rndB_e, q_rndB_r, setAll, w_skip, w_ops, w_seq, w_cond, w_block, w_exit, w_ret, q_then_n, q_then_e, q_then_r, q_blk_n, q_blk_e, q_blk_r, q_ops, q_cont, q_end_n, q_end_r, q_end_e, q_loop_n, q_loop_e, q_loop_r, i_nil, i_p, i_alloc, i_box, i_store, i_copy, i_clear, i_call, i_callv, i_when, t_nil, t_p, t_call, t_alloc, t_box, t_store, kept_nil, t_copy, t_clear, q_tcont, gsel, List.cons_append, List.nil_append, evalP, evalE, evalF, evalB, isObj, thaw, Opd.ev, Env.get, Env.set, Env.pick, putE, initEnv, evalBin, intBin, evalUn, evalConv, goneAll, goneOne, retV, resAll, Res.ev, tupOf, byVals, byValsN, bv_d, bv_da, bv_fl, bv_tl, bn_d, bn_da, bn_fl, bn_tl, cx, Dn.newObj, St.place, St.push, St.spot, St.empty, cell_d, cell_da, cell_agg, cell_ref, cell_sl, cell_fl, cell_tl, cell_map, cell_fn, cell_ifc, loadAt, faddrV, partOf, extractV, mkAgg, ofD, splice, St.setObj, fillV, c114_k13]
 refine w_drwX (fun _ => .val) [] (by decide +kernel) ?_
 have hat := hto.at
 have hR' : Rnd σ q n a b d (blkQ 1 Q1) := ⟨hR.ret, hR.go⟩
 have rest := st10 hR' ih hto hn3 hP hB hl hN hb h1 h2 hlim (wb := wb) (wp := wp)
 by_cases ha0 : 0 < a
 ·obtain ⟨a', rfl⟩ : ∃ a', a = a' + 1 := ⟨a - 1, by omega⟩
  have e1 : IntKind.i64.wrap (((a' + 1 : Nat) : Int) - 1) = (a' : Nat) := by rw [wrap_i64 (by omega) (by omega)]; omega
  have hsw := hat.sw (i := a') (j := pv) (by omega) (by omega)
  have ia1 := fun σ => iaddr_sl σ (q := q) (n := n) (i := a') (by omega)
  have ia2 := fun σ => iaddr_sl σ (q := q) (n := n) (i := pv) (by omega)
  obtain ⟨a, hadef⟩ : ∃ a, a' + 1 = a := ⟨_, rfl⟩
  have haa : a - 1 = a' := by omega
  rw [hadef] at e1 hR hR' ih hP hB hl h1 rest ha0 ⊢
  have ha0' : (0 : Int) < a := by omega
  rcases htl with rfl | rfl
  all_goals
   simp -implicitDefEqProofs [room_zero, ha0', ha0, e1, ia1, ia2, hsw.o, hsw.ai, hsw.aj]
   refine use_fnN rfl rfl (s_Less _ _) rfl ?_
   cases hlt : lt d3[a']! d3[pv]! with
   | true =>
    simp -implicitDefEqProofs [c114_k12]
    exact rest
   | false =>
    simp -implicitDefEqProofs [c114_k12]
    refine use_raw (s_partEq hat hn3 h1 h2 hb (by omega)) fun v s4 ⟨hv, ht4⟩ => ?_
    rcases hx : partitionEqual lt d3 a b pv with ⟨mid, d4⟩
    rw [hx] at hv ht4
    subst hv
    obtain ⟨m1, m2, m3, m4, m5⟩ := Go.Sort.round_eq swo (Go.Sort.partitionEqual_holds lt) ha0 h1 h2 (by omega) hB (by rw [haa]; exact hlt) hx
    simp -implicitDefEqProofs [c114_k11]
    exact hR.go mid b lim wb wp d4 s4 (hto.trans ht4) m2 hb (by omega) (by rw [m3, hn3]) hlim m4 fun R pR sR => ⟨Go.Sort.permIn_trans _ _ _ a b hP (m5 R pR sR).1, (m5 R pR sR).2⟩
 ·obtain rfl : a = 0 := by omega
  rcases htl with rfl | rfl
  all_goals
   simp -implicitDefEqProofs [room_zero, c114_k12]
   exact rest

theorem st16 {σ : St} {q n a b l pv lim : Nat} {d d3 : Array Int} {wb wp : Bool} {hi : Int} {Q1 : PostC} {s : St} {tl : Env} (htl : tl = [] ∨ tl = [(50, B false)]) (hR : Rnd σ q n a b d Q1) (ih : Ih q n (b - a)) (hto : To σ q d3 s) (hn3 : d3.size = n) (hP : PermIn a b d d3) (hB : Below lt a b d3)
  (hl : b - a = l) (hN : n ≤ 90) (hb : b ≤ n) (h1 : a ≤ pv) (h2 : pv < b) (hlim : lim ≤ 1000) :
  wcode (Dn.Call Γ cx) cx c114_k16 ((0, .sl q 0 n 1) :: (1, I a) :: (2, I b) :: (3, I lim) :: (8, B wb) :: (9, B wp) :: (10, I l) :: (11, I pv) :: (12, I hi) :: tl) s (blkQ 1 Q1) := by
 have rest := fun (tl : Env) (htl : tl = [(72, B false)] ∨ tl = [(68, B false)]) => st13 (wb := wb) (wp := wp) htl hR ih hto hn3 hP hB hl hN hb h1 h2 hlim
 have rest2 := fun (tl : Env) (htl : tl = [(72, B false)] ∨ tl = [(68, B false)]) (s4 : St) (d4 : Array Int) (hto4 : To σ q d4 s4) (hn4 : d4.size = n) (hP4 : PermIn a b d d4) (hB4 : Below lt a b d4) => st13 (wb := true) (wp := true) htl hR ih hto4 hn4 hP4 hB4 hl hN hb h1 h2 hlim
 by_cases hg : wb = true ∧ wp = true ∧ hi = 1
 ·obtain ⟨rfl, rfl, rfl⟩ := hg
  have hps := Go.Sort.partialInsertionSort_holds swo d3 a b (by omega) (by omega) hB
  rcases htl with rfl | rfl
  all_goals
   simp -implicitDefEqProofs [c114_k16, c114_k15]
   refine use_raw (s_pins hto.at hn3 (by omega) hb (by omega)) fun v s4 ⟨hv, ht4⟩ => ?_
   subst hv
   have hP4 := Go.Sort.permIn_trans _ _ _ a b hP hps.1
   have hn4 : (Go.Sort.partialInsertionSort lt d3 a b).1.size = n := by rw [hps.1.1, hn3]
   have hB4 : Below lt a b (Go.Sort.partialInsertionSort lt d3 a b).1 := hB.perm (by omega) hps.1
   have hto4 := hto.trans ht4
   cases hp : (Go.Sort.partialInsertionSort lt d3 a b).2 with
   | true =>
    simp -implicitDefEqProofs [c114_k14]
    exact hR.ret _ _ _ hto4 hP4 (hps.2 hp)
   | false =>
    simp -implicitDefEqProofs [c114_k14]
    exact rest2 _ (.inl rfl) _ _ hto4 hn4 hP4 hB4
 ·have hv : ∀ x : Bool, (wb = true → wp = true → x = decide (hi = 1)) → (if wb = true then (if wp = true then x else false) else false) = false := by
   intro x hx
   cases wb <;> cases wp <;> simp at hx ⊢
   rw [hx]
   simpa using hg
  rcases htl with rfl | rfl
  all_goals
   cases wb <;> cases wp <;> simp -implicitDefEqProofs [c114_k16, c114_k15] <;> first | exact rest _ (.inr rfl) | skip
  all_goals
   have h1 : ¬ hi = 1 := by simpa using hg
   simp [h1]
   exact rest _ (.inr rfl)

theorem nw_to {σ s s1 : St} {q : Nat} {d : Array Int} (h : To σ q d s) (hn : Nw s s1) : To σ q d s1 := ⟨hn.fr.get h.obj (by simp), h.fr.trans (hn.fr.mono (by simp)), hn.tk.trans h.tk⟩

theorem st21 {σ : St} {q n a b l lim : Nat} {d d3 : Array Int} {wb wp : Bool} {Q1 : PostC} {s : St} {tl : Env} (htl : tl = [] ∨ tl = [(35, B false)]) (hR : Rnd σ q n a b d Q1) (ih : Ih q n (b - a)) (hto : To σ q d3 s) (hn3 : d3.size = n) (hP : PermIn a b d d3) (hB : Below lt a b d3)
  (hl : b - a = l) (hN : n ≤ 90) (hb : b ≤ n) (hab : a < b) (hlim : lim ≤ 1000) :
  wcode (Dn.Call Γ cx) cx c114_k21 ((0, .sl q 0 n 1) :: (1, I a) :: (2, I b) :: (3, I lim) :: (8, B wb) :: (9, B wp) :: (10, I l) :: tl) s (blkQ 1 Q1) := by
 have hcp := Go.Sort.choosePivot_holds lt d3 a b hab
 have step := s_choose hto.at hn3 hab hb (by omega)
 rcases hc : choosePivot lt d3 a b with ⟨pv, h⟩
 rw [hc] at hcp step
 simp only at hcp
 rcases htl with rfl | rfl
 all_goals
  simp -implicitDefEqProofs [c114_k21]
  refine use_raw step fun v s4 ⟨hv, hnw⟩ => ?_
  have ht4 := nw_to hto hnw
  subst hv
  simp -implicitDefEqProofs [c114_k20]
  by_cases hd : h = .decreasing
  ·subst hd
   have hrv := s_reverse ht4.at hn3 hab hb (by omega)
   have hpr := Go.Sort.reverseRange_holds d3 a b (by omega) (by omega)
   have e1 : IntKind.i64.wrap ((b : Int) - 1) = ((b - 1 : Nat) : Int) := by rw [wrap_i64 (by omega) (by omega)]; omega
   have e2 : IntKind.i64.wrap ((pv : Int) - a) = ((pv - a : Nat) : Int) := by rw [wrap_i64 (by omega) (by omega)]; omega
   have e3 : IntKind.i64.wrap (((b - 1 : Nat) : Int) - ((pv - a : Nat) : Int)) = ((b - 1 - (pv - a) : Nat) : Int) := by rw [wrap_i64 (by omega) (by omega)]; omega
   obtain ⟨x, hx⟩ : ∃ x, b - 1 = x := ⟨_, rfl⟩
   obtain ⟨y, hy⟩ : ∃ y, pv - a = y := ⟨_, rfl⟩
   obtain ⟨z, hz⟩ : ∃ z, x - y = z := ⟨_, rfl⟩
   rw [hx] at e1 e3
   rw [hy] at e2 e3
   rw [hz] at e3
   have hb3 : b ≤ d3.size := by omega
   simp -implicitDefEqProofs [hintN, c114_k19, c114_k18]
   refine use_raw hrv fun v s5 ht5 => ?_
   simp -implicitDefEqProofs [c114_k17, e1, e2, e3]
   exact st16 (.inl rfl) hR ih (ht4.trans ht5) (by rw [hpr.1, hn3]) (Go.Sort.permIn_trans _ _ _ a b hP hpr) (hB.perm hb3 hpr) hl hN hb (by omega) (by omega) hlim
  ·have hh : ¬ hintN h = 2 := by cases h <;> simp [hintN] at hd ⊢
   simp -implicitDefEqProofs [hh, c114_k19]
   exact st16 (.inr rfl) hR ih ht4 hn3 hP hB hl hN hb hcp.1 hcp.2 hlim

theorem st29 {σ : St} {q n a b lim : Nat} {d : Array Int} {wb wp : Bool} {Q1 : PostC} (hR : Rnd σ q n a b d Q1) (ih : Ih q n (b - a)) (hat : At σ q d) (hn : d.size = n) (hB : Below lt a b d)
  (hN : n ≤ 90) (hb : b ≤ n) (hab : a ≤ b) (hlim : lim ≤ 1000) :
  wcode (Dn.Call Γ cx) cx c114_k29 [(0, .sl q 0 n 1), (1, I a), (2, I b), (3, I lim), (8, B wb), (9, B wp)] σ (blkQ 1 Q1) := by
 obtain ⟨l, hl⟩ : ∃ l, b - a = l := ⟨_, rfl⟩
 have e0 : IntKind.i64.wrap ((b : Int) - a) = (l : Int) := by rw [wrap_i64 (by omega) (by omega)]; omega
 simp -implicitDefEqProofs [c114_k29, e0, c114_k28]
 by_cases h12 : l ≤ 12
 ·have h12' : (l : Int) ≤ 12 := by omega
  have hin := Go.Sort.insertionSort_holds swo d a b hab (by omega)
  simp -implicitDefEqProofs [h12', c114_k27]
  refine use_raw (s_ins hat hn hab hb (by omega)) fun v s ht => ?_
  simp -implicitDefEqProofs
  exact hR.ret _ _ _ ht hin.1 hin.2
 have h12' : ¬ (l : Int) ≤ 12 := by omega
 simp -implicitDefEqProofs [h12', c114_k27, c114_k26]
 by_cases h0 : lim = 0
 ·subst h0
  have hin := Go.Sort.heapSort_holds swo d a b hab (by omega)
  simp -implicitDefEqProofs [c114_k25]
  refine use_raw (s_heap hat hn hab hb (by omega)) fun v s ht => ?_
  simp -implicitDefEqProofs
  exact hR.ret _ _ _ ht hin.1 hin.2
 have h0' : ¬ (lim : Int) = 0 := by omega
 simp -implicitDefEqProofs [h0', h0, c114_k25, c114_k24]
 have hlt : a < b := by omega
 cases wb with
 | false =>
  have hpb := Go.Sort.breakPatterns_holds (α := Int) d a b hab (by omega)
  have e1 : IntKind.i64.wrap ((lim : Int) - 1) = ((lim - 1 : Nat) : Int) := by rw [wrap_i64 (by omega) (by omega)]; omega
  obtain ⟨l1, hl1⟩ : ∃ l1, lim - 1 = l1 := ⟨_, rfl⟩
  rw [hl1] at e1
  have hb3 : b ≤ d.size := by omega
  simp -implicitDefEqProofs [c114_k23]
  refine use_raw (s_break hat hn hab hb hN) fun v s ht => ?_
  simp -implicitDefEqProofs [c114_k22, e1]
  exact st21 (.inl rfl) hR ih ht (by rw [hpb.1, hn]) hpb (hB.perm hb3 hpb) hl hN hb hlt (by omega)
 | true =>
  simp -implicitDefEqProofs [c114_k23]
  exact st21 (.inr rfl) hR ih (To.refl hat) hn (Go.Sort.permIn_refl _ _ _) hB hl hN hb hlt hlim

def InvPq (σ0 : St) (q n a0 b0 : Nat) (d0 : Array Int) (m : Nat) (e : Env) (σ : St) : Prop := ∃ (a b l : Nat) (wb wp : Bool) (d : Array Int), e = [(0, .sl q 0 n 1), (1, I a), (2, I b), (3, I l), (8, B wb), (9, B wp)] ∧ b - a = m ∧ To σ0 q d σ ∧ a ≤ b ∧ b ≤ n ∧ b - a ≤ b0 - a0 ∧ d.size = n ∧ l ≤ 1000 ∧ Below lt a b d ∧
  (∀ R, PermIn a b d R → SortedIn lt a b R → PermIn a0 b0 d0 R ∧ SortedIn lt a0 b0 R)

theorem s_pdq {q n : Nat} (hN : n ≤ 90) : ∀ m, Ih q n m := by
 intro m
 induction m with
 | zero => intro σ a b l d h; omega
 | succ m ihm =>
  intro σ a b l d hlt hat hn hab hb hlim hB
  refine Dn.Call.body (fc := c114) rfl ?_
  simp -implicitDefEqProofs [c114, c114_k32, c114_k31]
  refine wloopI (InvPq σ q n a b d) (m := b - a) ⟨a, b, l, true, true, d, rfl, rfl, To.refl hat, hab, hb, Nat.le_refl _, hn, hlim, hB, fun R h1 h2 => ⟨h1, h2⟩⟩ ?_
  rintro m' e s ⟨a1, b1, l1, wb, wp, d1, rfl, rfl, ht1, hab1, hb1, hle, hn1, hl1, hB1, hfin⟩
  simp only [body_eq, globEnv, GB, List.map_nil, List.map_cons, List.append_nil, w_rangeF, i_next, i_makeMap, i_range, i_update, i_delete, i_entry, i_clone, entryV, cloneV, q_rndA, q_rndB_n, q_rndB_e, q_rndB_r, setAll, w_skip, w_ops, w_seq, w_cond, w_block, w_exit, w_ret, q_then_n, q_then_e, q_then_r, q_blk_n, q_blk_e, q_blk_r, q_ops, q_cont, q_end_n, q_end_r, q_end_e, q_loop_n, q_loop_e, q_loop_r, i_nil, i_p, i_alloc, i_box, i_store, i_copy, i_clear, i_call, i_callv, i_when, t_nil, t_p, t_call, t_alloc, t_box, t_store, kept_nil, t_copy, t_clear, q_tcont, gsel, List.cons_append, List.nil_append, evalP, evalE, evalF, evalB, isObj, thaw, Opd.ev, Env.get, Env.set, Env.pick, putE, initEnv, evalBin, intBin, evalUn, evalConv, goneAll, goneOne, retV, resAll, Res.ev, tupOf, byVals, byValsN, bv_d, bv_da, bv_fl, bv_tl, bn_d, bn_da, bn_fl, bn_tl, cx, Dn.newObj, St.place, St.push, St.spot, St.empty, cell_d, cell_da, cell_agg, cell_ref, cell_sl, cell_fl, cell_tl, cell_map, cell_fn, cell_ifc, loadAt, faddrV, partOf, extractV, mkAgg, ofD, splice, St.setObj, fillV, c114_l30]
  refine st29 ⟨fun e s2 R hR p1 p2 => ?_, fun a' b' l' wb' wp' d' s2 ht2 h1 h2 h3 h4 h5 h6 h7 => ?_⟩ (fun σ' a' b' l' d' h => ihm σ' a' b' l' d' (by omega)) ht1.at hn1 hB1 hN hb1 hab1 hl1
  ·simp -implicitDefEqProofs
   exact ⟨R, ht1.trans hR, (hfin R p1 p2).1, (hfin R p1 p2).2⟩
  ·simp only [body_eq, globEnv, GB, List.map_nil, List.map_cons, List.append_nil, w_rangeF, i_next, i_makeMap, i_range, i_update, i_delete, i_entry, i_clone, entryV, cloneV, q_rndA, q_rndB_n, q_rndB_e, q_rndB_r, setAll, w_skip, w_ops, w_seq, w_cond, w_block, w_exit, w_ret, q_then_n, q_then_e, q_then_r, q_blk_n, q_blk_e, q_blk_r, q_ops, q_cont, q_end_n, q_end_r, q_end_e, q_loop_n, q_loop_e, q_loop_r, i_nil, i_p, i_alloc, i_box, i_store, i_copy, i_clear, i_call, i_callv, i_when, t_nil, t_p, t_call, t_alloc, t_box, t_store, kept_nil, t_copy, t_clear, q_tcont, gsel, List.cons_append, List.nil_append, evalP, evalE, evalF, evalB, isObj, thaw, Opd.ev, Env.get, Env.set, Env.pick, putE, initEnv, evalBin, intBin, evalUn, evalConv, goneAll, goneOne, retV, resAll, Res.ev, tupOf, byVals, byValsN, bv_d, bv_da, bv_fl, bv_tl, bn_d, bn_da, bn_fl, bn_tl, cx, Dn.newObj, St.place, St.push, St.spot, St.empty, cell_d, cell_da, cell_agg, cell_ref, cell_sl, cell_fl, cell_tl, cell_map, cell_fn, cell_ifc, loadAt, faddrV, partOf, extractV, mkAgg, ofD, splice, St.setObj, fillV]
   refine ⟨b' - a', h3, a', b', l', wb', wp', d', rfl, rfl, ht1.trans ht2, h1, h2, by omega, h4, h5, h6, fun R p1 p2 => ?_⟩
   obtain ⟨k1, k2⟩ := h7 R p1 p2
   exact hfin R k1 k2

theorem s_Sort {σ : St} {q n : Nat} {d : Array Int} (h : At σ q d) (hn : d.size = n) (hN : n ≤ 90) :
  Dn.Call Γ cx .raw 96 [.sl q 0 n 1] σ fun _ s => ∃ R, To σ q R s ∧ PermIn 0 n d R ∧ SortedIn lt 0 n R := by
 refine Dn.Call.body (fc := c96) rfl ?_
 have u1 : IntKind.u64.wrap (n : Int) = n := wrap_u64 (by omega) (by omega)
 have hbl := bits_256 ⟨n, by omega⟩
 simp only at hbl
 simp -implicitDefEqProofs [c96, lenT, Dn.lenV, c96_k0, u1]
 refine use_fn rfl (s_Len (x := n) (by omega)) rfl ?_
 simp -implicitDefEqProofs
 refine use_raw (s_pdq hN (n + 1) σ 0 n (bitsLen n) d (by omega) h hn (by omega) (by omega) (by omega) (.inl rfl)) fun v s hR => ?_
 simp -implicitDefEqProofs
 exact hR
end Go.Proofs.Ytmlkdfjojoophaa.T

namespace Go.Proofs.Ytmlkdfjojoophaa.T
open Go.Dn
attribute [local simp] body_eq globEnv GB List.map_nil List.map_cons List.append_nil w_rangeF i_next i_makeMap i_range i_update i_delete i_entry i_clone entryV cloneV q_rndA q_rndB_n q_rndB_e q_rndB_r setAll w_skip w_ops w_seq w_cond w_block w_exit w_ret q_then_n q_then_e q_then_r q_blk_n q_blk_e q_blk_r q_ops q_cont q_end_n q_end_r q_end_e q_loop_n q_loop_e q_loop_r i_nil i_p i_alloc i_box i_store i_copy i_clear i_call i_callv i_when t_nil t_p t_call t_alloc t_box t_store kept_nil t_copy t_clear q_tcont gsel List.cons_append List.nil_append evalP evalE evalF evalB isObj thaw Opd.ev Env.get Env.set Env.pick putE initEnv evalBin intBin evalUn evalConv goneAll goneOne retV resAll Res.ev tupOf byVals byValsN bv_d bv_da bv_fl bv_tl bn_d bn_da bn_fl bn_tl cx Dn.newObj St.place St.push St.spot St.empty cell_d cell_da cell_agg cell_ref cell_sl cell_fl cell_tl cell_map cell_fn cell_ifc loadAt faddrV partOf extractV mkAgg ofD splice St.setObj fillV
set_option linter.unusedSimpArgs false
set_option linter.unusedVariables false

abbrev Ent := Nat × V × V
structure Bn (es : List Ent) (clock : Nat) : Prop where
 nd : (es.map (·.1)).Nodup
 lt : ∀ x ∈ es, x.1 < clock

theorem find_mem {es : List Ent} (h : (es.map (·.1)).Nodup) {x : Ent} (hx : x ∈ es) : es.find? (fun e => e.1 == x.1) = some x := by
 induction es with
 | nil => cases hx
 | cons a r ih =>
  rw [List.find?_cons]
  simp only [List.map_cons, List.nodup_cons] at h
  rcases List.mem_cons.1 hx with rfl | hx
  ·simp
  ·have : ¬ a.1 = x.1 := fun e => h.1 (by rw [e]; exact List.mem_map.2 ⟨x, hx, rfl⟩)
   rw [show (a.1 == x.1) = false by simpa using this]
   exact ih h.2 hx

def InvKeys (r p q : Nat) (es : List Ent) (clock : Nat) (J : List V → St → Prop) (m : Nat) (e : Env) (s : St) : Prop := ∃ (vis rest : List Ent), e = [(0, .yld r), (5, .iter p)] ∧ rest.length = m ∧ es.Perm (vis ++ rest) ∧ s.objs[p]? = some (.iter (some q) clock (vis.map (·.1)) clock) ∧ J (vis.map (·.2.1)) s

theorem s_Keys1 {σ : St} {r rb q : Nat} {es : List Ent} {clock : Nat} (hb : σ.objs[rb]? = some (.cells [.map q])) (hm : σ.objs[q]? = some (.map es clock)) (hbn : Bn es clock) (J : List V → St → Prop)
  (h0 : J [] ⟨σ.objs ++ [.iter (some q) clock [] clock], σ.toks⟩)
  (hkeep : ∀ l s, J l s → s.objs[q]? = some (.map es clock))
  (hit : ∀ l s seen seen', J l s → s.objs[σ.objs.length]? = some (.iter (some q) clock seen clock) → J l (s.setObj σ.objs.length (.iter (some q) clock seen' clock)))
  (hround : ∀ l k s seen, J l s → s.objs[σ.objs.length]? = some (.iter (some q) clock seen clock) → k ∈ es.map (·.2.1) → l.length < es.length → Dn.Call Γ cx .rnd r [k] s fun w s' => w = B true ∧ J (l ++ [k]) s' ∧ s'.objs[σ.objs.length]? = some (.iter (some q) clock seen clock)) :
  Dn.Call Γ cx .raw 97 [.yld r, .ref rb 0] σ fun _ s => ∃ l seen, l.Perm (es.map (·.2.1)) ∧ J l s ∧ s.objs[σ.objs.length]? = some (.iter (some q) clock seen clock) := by
 refine Dn.Call.body (fc := c97) rfl ?_
 have hr : rangeV σ none (.map q) = some (.iter σ.objs.length, ⟨σ.objs ++ [.iter (some q) clock [] clock], σ.toks⟩) := by
  simp [rangeV, hm, newObj, St.place, St.push, St.spot]
 simp -implicitDefEqProofs [c97, hb, hr, c97_k6]
 generalize hp : σ.objs.length = p at *
 refine wloopI (InvKeys r p q es clock J) (m := es.length) ⟨[], es, rfl, rfl, List.Perm.refl _, by simp only; rw [← hp]; simp, h0⟩ ?_
 rintro m e s ⟨vis, rest, rfl, rfl, hperm, hiter, hJ⟩
 simp -implicitDefEqProofs [c97_l5]
 have hnd2 : ((vis ++ rest).map (·.1)).Nodup := (hperm.map (·.1)).nodup hbn.nd
 rw [List.map_append, List.nodup_append] at hnd2
 obtain ⟨d1, d2, d3⟩ := hnd2
 have hpl : p < s.objs.length := (List.getElem?_eq_some_iff.1 hiter).1
 refine nextV_at hiter (hkeep _ _ hJ) hbn.lt (fun x hx hns => ?_) (fun hall => ?_)
 ·have hxr : x ∈ rest := by
   rcases List.mem_append.1 (hperm.mem_iff.1 hx) with h | h
   ·exfalso
    have : (vis.map (·.1)).contains x.1 = true := by simpa using ⟨x.2.1, x.2.2, h⟩
    rw [this] at hns
    cases hns
   ·exact h
  obtain ⟨ra, rb', hrest⟩ := List.append_of_mem hxr
  have hJ2 := hit _ _ _ (vis.map (·.1) ++ [x.1]) hJ hiter
  have hit2 : (s.setObj p (.iter (some q) clock (vis.map (·.1) ++ [x.1]) clock)).objs[p]? = some (.iter (some q) clock (vis.map (·.1) ++ [x.1]) clock) := by simp [St.setObj, hpl]
  have hent : entryV (s.setObj p (.iter (some q) clock (vis.map (·.1) ++ [x.1]) clock)) (.iter p) = some (.tup [x.2.1, x.2.2]) := by
   simp only [entryV, hit2, hkeep _ _ hJ2, List.getLast?_append, List.getLast?_singleton]
   simp [find_mem hbn.nd hx]
  generalize s.setObj p (.iter (some q) clock (vis.map (·.1) ++ [x.1]) clock) = s2 at *
  simp -implicitDefEqProofs [-entryV, c97_k4, c97_k3, c97_k2, hent, c97_k1]
  refine ⟨_, hround _ x.2.1 s2 _ hJ2 hit2 (List.mem_map.2 ⟨x, hx, rfl⟩) (by have := hperm.length_eq; rw [hrest] at this; simp at this ⊢; omega), fun w s3 ⟨hw, hJ3, hit3⟩ => ?_⟩
  subst hw
  simp -implicitDefEqProofs [c97_k0]
  refine ⟨(ra ++ rb').length, by rw [hrest]; simp, vis ++ [x], ra ++ rb', rfl, rfl, ?_, by simpa using hit3, by simpa using hJ3⟩
  rw [hrest] at hperm
  refine hperm.trans ?_
  rw [List.append_assoc]
  exact List.Perm.append_left _ List.perm_middle
 ·have hre : rest = [] := by
   cases rest with
   | nil => rfl
   | cons y ys =>
    exfalso
    have hy : y ∈ es := hperm.mem_iff.2 (by simp)
    have := hall y hy
    have hm2 : y.1 ∈ vis.map (·.1) := by simpa using this
    exact d3 _ hm2 y.1 (by simp) rfl
  subst hre
  rw [List.append_nil] at hperm
  simp -implicitDefEqProofs [c97_k4]
  exact ⟨_, (hperm.map (·.2.1)).symm, hJ, _, hiter⟩

def Col (lo : Nat) (s : St) (v : V) (l : List Int) : Prop := (l = [] ∧ v = .d .nils) ∨ ∃ r, v = .sl r 0 l.length 1 ∧ lo ≤ r ∧ s.objs[r]? = some (.cells (l.map X)) ∧ l ≠ []

theorem Col.push {lo : Nat} {s : St} {v : V} {l : List Int} (h : Col lo s v l) (hl : l.length ≤ 1000000) (hlo : lo ≤ s.objs.length) (k : Int) : ∃ v' s', appendM s none 1 4 v [[.int .u32 k]] = some (v', s') ∧ Col lo s' v' (l ++ [k]) ∧ (∀ r, r < lo → s'.objs[r]? = s.objs[r]?) ∧ s.objs.length ≤ s'.objs.length ∧ s'.toks = s.toks := by
 rcases h with ⟨rfl, rfl⟩ | ⟨r, rfl, hr, ho, hne⟩
 ·refine ⟨.sl s.objs.length 0 1 1, ⟨s.objs ++ [.cells [X k]], s.toks⟩, by simp [appendM, fitR, newObj, St.place, St.push, St.spot], .inr ⟨s.objs.length, rfl, hlo, by simp, by simp⟩, fun r hr => by simp only; rw [List.getElem?_append_left (by omega)], by simp, rfl⟩
 ·have hrl : r < s.objs.length := (List.getElem?_eq_some_iff.1 ho).1
  have hpos : 0 < l.length := List.length_pos_iff.2 hne
  have etk : (l.map X).take l.length = l.map X := List.take_of_length_le (by simp)
  refine ⟨.sl s.objs.length 0 (l.length + 1) 1, ⟨(s.objs.set r .dead) ++ [.cells (l.map X ++ [X k])], s.toks⟩, ?_, .inr ⟨s.objs.length, by simp, hlo, by simp [List.getElem?_append], by simp⟩, fun r' hr' => ?_, by simp, rfl⟩
  ·simp only [appendM, ho, fitR, List.length_map, List.drop_zero, Nat.mul_one, etk]
   simp [newObj, St.place, St.push, St.spot, St.setObj, hpos, show (l.length + 1) * 4 ≤ 140737488355328 by omega, show l.length + 1 ≤ 9223372036854775807 by omega]
  ·simp only
   rw [List.getElem?_append_left (by simp; omega), List.getElem?_set_ne (by omega)]
end Go.Proofs.Ytmlkdfjojoophaa.T

namespace Go.Proofs.Ytmlkdfjojoophaa.T
open Go.Dn
attribute [local simp] body_eq globEnv GB List.map_nil List.map_cons List.append_nil w_rangeF i_next i_makeMap i_range i_update i_delete i_entry i_clone entryV cloneV q_rndA q_rndB_n q_rndB_e q_rndB_r setAll w_skip w_ops w_seq w_cond w_block w_exit w_ret q_then_n q_then_e q_then_r q_blk_n q_blk_e q_blk_r q_ops q_cont q_end_n q_end_r q_end_e q_loop_n q_loop_e q_loop_r i_nil i_p i_alloc i_box i_store i_copy i_clear i_call i_callv i_when t_nil t_p t_call t_alloc t_box t_store kept_nil t_copy t_clear q_tcont gsel List.cons_append List.nil_append evalP evalE evalF evalB isObj thaw Opd.ev Env.get Env.set Env.pick putE initEnv evalBin intBin evalUn evalConv goneAll goneOne retV resAll Res.ev tupOf byVals byValsN bv_d bv_da bv_fl bv_tl bn_d bn_da bn_fl bn_tl cx Dn.newObj St.place St.push St.spot St.empty cell_d cell_da cell_agg cell_ref cell_sl cell_fl cell_tl cell_map cell_fn cell_ifc loadAt faddrV partOf extractV mkAgg ofD splice St.setObj fillV
set_option linter.unusedSimpArgs false
set_option linter.unusedVariables false
open Go.Sort (PermIn SortedIn)

abbrev keysF : Fn := .func 97
def asE (n0 : Nat) : Env := [(2, .ref n0 0)]
structure JA (σ : St) (l : List V) (li : List Int) (v : V) (s : St) : Prop where
 l : l = li.map X
 b : s.objs[σ.objs.length]? = some (.cells [v])
 lp : s.objs[σ.objs.length + 1]? = some (.loop (asE σ.objs.length) [7] c113_a1 c113_b2 .ready)
 c : Col (σ.objs.length + 3) s v li
 old : ∀ r, r < σ.objs.length → s.objs[r]? = σ.objs[r]?
 len : σ.objs.length + 3 ≤ s.objs.length
 tk : s.toks = σ.toks
 n : li.length ≤ 1000

theorem Col.set {lo : Nat} {s : St} {v : V} {l : List Int} (h : Col lo s v l) {p : Nat} (hp : p < lo) (o : Dn.Obj) : Col lo (s.setObj p o) v l := by
 rcases h with ⟨h1, h2⟩ | ⟨r, h1, h2, h3, h4⟩
 ·exact .inl ⟨h1, h2⟩
 ·refine .inr ⟨r, h1, h2, ?_, h4⟩
  simp only [St.setObj]
  rw [List.getElem?_set_ne (by omega)]
  exact h3
theorem JA.set {σ : St} {l : List V} {li : List Int} {v : V} {s : St} (h : JA σ l li v s) (o : Dn.Obj) : JA σ l li v (s.setObj (σ.objs.length + 2) o) := by
 refine ⟨h.l, ?_, ?_, h.c.set (by omega) o, fun r hr => ?_, by simp [St.setObj]; exact h.len, h.tk, h.n⟩
 ·simp only [St.setObj]; rw [List.getElem?_set_ne (by omega)]; exact h.b
 ·simp only [St.setObj]; rw [List.getElem?_set_ne (by omega)]; exact h.lp
 ·simp only [St.setObj]; rw [List.getElem?_set_ne (by omega)]; exact h.old r hr

theorem as_a {e : Env} {s : St} {Q : PostC} (h : Q .normal ((putE e (some 5) (e.get 7)).pick [2, 5]) s) : wcode (Dn.Call Γ cx) cx c113_a1 e s Q := by
 simp only [c113_a1, w_ops, i_p, isObj, Bool.false_eq_true, if_false, evalP, Opd.ev, i_nil, q_ops]
 exact h
theorem as_b {n0 : Nat} {s s' : St} {v v' : V} {i : Int} {Q : PostC} (hb : s.objs[n0]? = some (.cells [v])) (hap : appendM s none 1 4 v [[.int .u32 i]] = some (v', s')) (hb' : s'.objs[n0]? = some (.cells [v])) (hc : v'.cells = some [v'])
  (hQ : Q .normal [] ⟨s'.objs.set n0 (.cells [v']), s'.toks⟩) : wcode (Dn.Call Γ cx) cx c113_b2 [(2, .ref n0 0), (5, X i)] s Q := by
 simp -implicitDefEqProofs [c113_b2, hb, repl, rowsOf, frzV]
 refine i_app_m (v := v') (s := s') ?_ ?_
 ·simp -implicitDefEqProofs [evalM, V.rows]
  exact hap
 simp -implicitDefEqProofs [hb', hc]
 exact hQ

theorem s_Collect {σ : St} {rb q : Nat} {es : List Ent} {clock : Nat} (hb : σ.objs[rb]? = some (.cells [.map q])) (hm : σ.objs[q]? = some (.map es clock)) (hbn : Bn es clock) (hk : ∀ k ∈ es.map (·.2.1), ∃ i : Int, k = X i) (hlen : es.length ≤ 1000) :
  Dn.Call Γ cx .raw 95 [.fn keysF [] [.ref rb 0]] σ fun v s => ∃ li, (li.map X).Perm (es.map (·.2.1)) ∧ Col σ.objs.length s v li ∧ (∀ r, r < σ.objs.length → s.objs[r]? = σ.objs[r]?) ∧ σ.objs.length ≤ s.objs.length ∧ s.toks = σ.toks := by
 refine Dn.Call.body (fc := c95) rfl ?_
 simp -implicitDefEqProofs [c95, c95_k0]
 have hA : Dn.Call Γ cx .raw 113 [.d .nils, .fn keysF [] [.ref rb 0]] σ fun v s => ∃ li, (li.map X).Perm (es.map (·.2.1)) ∧ Col σ.objs.length s v li ∧ (∀ r, r < σ.objs.length → s.objs[r]? = σ.objs[r]?) ∧ σ.objs.length ≤ s.objs.length ∧ s.toks = σ.toks := by
  refine Dn.Call.body (fc := c113) rfl ?_
  have hrbl : rb < σ.objs.length := (List.getElem?_eq_some_iff.1 hb).1
  have hql : q < σ.objs.length := (List.getElem?_eq_some_iff.1 hm).1
  simp -implicitDefEqProofs [c113, c113_k4, c113_k3]
  obtain ⟨σ1, hσ1⟩ : ∃ s : St, (⟨σ.objs ++ [.cells [.d .nils], .loop [(2, .ref σ.objs.length 0)] [7] c113_a1 c113_b2 .ready], σ.toks⟩ : St) = s := ⟨_, rfl⟩
  rw [hσ1]
  have hl1 : σ1.objs.length = σ.objs.length + 2 := by rw [← hσ1]; simp
  have old1 : ∀ r, r < σ.objs.length → σ1.objs[r]? = σ.objs[r]? := fun r hr => by rw [← hσ1]; simp only; rw [List.getElem?_append_left hr]
  have key := s_Keys1 (σ := σ1) (r := σ.objs.length + 1) (rb := rb) (q := q) (es := es) (clock := clock) (by rw [old1 rb hrbl]; exact hb) (by rw [old1 q hql]; exact hm) hbn
   (fun l s => ∃ li v, JA σ l li v s) ?_ ?_ ?_ ?_
  ·refine ⟨_, key, fun v s ⟨l, seen, hperm, ⟨li, w, hJ⟩, hit⟩ => ?_⟩
   refine rfQ_ready hJ.lp ?_
   have hb' : (s.setObj (σ.objs.length + 1) .dead).objs[σ.objs.length]? = some (.cells [w]) := by
    simp only [St.setObj]; rw [List.getElem?_set_ne (by omega)]; exact hJ.b
   simp only [St.setObj] at hb'
   simp -implicitDefEqProofs [c113_k0, hb']
   refine ⟨li, by rw [← hJ.l]; exact hperm, ?_, fun r hr => ?_, by have := hJ.len; omega, hJ.tk⟩
   ·rcases hJ.c with ⟨h1, h2⟩ | ⟨r, h1, h2, h3, h4⟩
    ·exact .inl ⟨h1, h2⟩
    ·refine .inr ⟨r, h1, by omega, ?_, h4⟩
     simp only
     rw [List.getElem?_set_ne (by omega)]
     exact h3
   ·rw [List.getElem?_set_ne (by omega)]
    exact hJ.old r hr
  ·refine ⟨[], .d .nils, rfl, ?_, ?_, .inl ⟨rfl, rfl⟩, fun r hr => ?_, by simp [hl1], by rw [← hσ1], by simp⟩
   ·simp only; rw [List.getElem?_append_left (by omega), ← hσ1]; simp
   ·simp only; rw [List.getElem?_append_left (by omega), ← hσ1]; simp [asE]
   ·simp only; rw [List.getElem?_append_left (by omega)]; exact old1 r hr
  ·rintro l s ⟨li, v, hJ⟩
   rw [hJ.old q hql]
   exact hm
  ·rintro l s seen seen' ⟨li, v, hJ⟩ hit
   rw [hl1]
   exact ⟨li, v, hJ.set _⟩
  ·rintro l k s seen ⟨li, v, hJ⟩ hit hkm hlt
   rw [hl1] at hit ⊢
   obtain ⟨i, rfl⟩ := hk k hkm
   have hL1 : σ.objs.length + 1 < s.objs.length := by have := hJ.len; omega
   refine Call.rnd (e := asE σ.objs.length) (ps := [7]) (a := c113_a1) (b := c113_b2) hJ.lp rfl ?_
   refine as_a ?_
   simp only [q_rndA]
   refine ⟨hJ.lp, ?_⟩
   obtain ⟨lo, hlo⟩ : ∃ o, Dn.Obj.loop (asE σ.objs.length) [7] c113_a1 c113_b2 .busy = o := ⟨_, rfl⟩
   have hc2 := hJ.c.set (p := σ.objs.length + 1) (by omega) lo
   have hb2 : (s.setObj (σ.objs.length + 1) lo).objs[σ.objs.length]? = some (.cells [v]) := by simp only [St.setObj]; rw [List.getElem?_set_ne (by omega)]; exact hJ.b
   have hn := hJ.n
   have hlen2 := hJ.len
   obtain ⟨v', s', a1, a2, a3, a4, a5⟩ := hc2.push (by omega) (by simp [St.setObj]; omega) i
   have hnn : li.length + 1 ≤ 1000 := by rw [hJ.l] at hlt; simp at hlt; omega
   have hvc : v'.cells = some [v'] := by
    rcases a2 with ⟨h1, rfl⟩ | ⟨r, rfl, _⟩ <;> rfl
   rw [hlo]
   refine as_b hb2 a1 (by rw [a3 _ (by omega)]; exact hb2) hvc ?_
   have hl1 : s'.objs[σ.objs.length + 1]? = some lo := by
    rw [a3 _ (by omega)]
    simp [St.setObj, hL1]
   have hlen3 : σ.objs.length + 3 ≤ s'.objs.length := by simp [St.setObj] at a4; omega
   simp only [q_rndB_n]
   refine ⟨by rw [List.getElem?_set_ne (by omega), hl1, hlo], trivial, ⟨li ++ [i], v', ?_, ?_, ?_, ?_, ?_, ?_, ?_, by simp; omega⟩, ?_⟩
   ·simp [hJ.l]
   ·simp only [St.setObj]; rw [List.getElem?_set_ne (by omega), List.getElem?_set_self (by omega)]
   ·simp only [St.setObj]; rw [List.getElem?_set_self (by simp; omega)]
   ·exact Col.set (p := σ.objs.length + 1) (Col.set (s := s') (p := σ.objs.length) a2 (by omega) _) (by omega) _
   ·intro r hr
    simp only [St.setObj]
    rw [List.getElem?_set_ne (by omega), List.getElem?_set_ne (by omega), a3 r (by omega)]
    simp only [St.setObj]
    rw [List.getElem?_set_ne (by omega)]
    exact hJ.old r hr
   ·simp [St.setObj]; omega
   ·simp only [St.setObj, a5]; exact hJ.tk
   ·simp only [St.setObj]
    rw [List.getElem?_set_ne (by omega), List.getElem?_set_ne (by omega), a3 _ (by omega)]
    simp only [St.setObj]
    rw [List.getElem?_set_ne (by omega)]
    exact hit
 refine use_raw hA fun v s h => ?_
 simp -implicitDefEqProofs
 exact h

theorem s_Sort0 {σ : St} : Dn.Call Γ cx .raw 96 [.d .nils] σ fun _ s => s = σ := by
 refine Dn.Call.body (fc := c96) rfl ?_
 simp -implicitDefEqProofs [c96, lenT, Dn.lenV, c96_k0]
 refine use_fn rfl (s_Len (x := 0) (by omega)) rfl ?_
 simp -implicitDefEqProofs
 have hins : Dn.Call Γ cx .raw 122 [.d .nils, I 0, I 0] σ fun _ s => s = σ := by
  refine Dn.Call.body (fc := c122) rfl ?_
  simp -implicitDefEqProofs [c122, wrap_i64 (n := 1) (by omega) (by omega), c122_k10]
  refine wloopI (fun m e s => e = [(0, .d .nils), (1, I 0), (2, I 0), (6, I 1)] ∧ s = σ) (m := 0) ⟨rfl, rfl⟩ ?_
  rintro m e s ⟨rfl, rfl⟩
  simp -implicitDefEqProofs [c122_l9, c122_k8]
 have hp : Dn.Call Γ cx .raw 114 [.d .nils, I 0, I 0, I (Go.Sort.bitsLen 0)] σ fun _ s => s = σ := by
  refine Dn.Call.body (fc := c114) rfl ?_
  have e0 : IntKind.i64.wrap 0 = 0 := rfl
  simp -implicitDefEqProofs [c114, c114_k32, c114_k31]
  refine wloopI (fun m e s => e = [(0, .d .nils), (1, I 0), (2, I 0), (3, I (Go.Sort.bitsLen 0)), (8, B true), (9, B true)] ∧ s = σ) (m := 0) ⟨rfl, rfl⟩ ?_
  rintro m e s ⟨rfl, rfl⟩
  simp -implicitDefEqProofs [c114_l30, c114_k29, e0, c114_k28, c114_k27]
  refine use_raw hins fun v s hs => ?_
  subst hs
  simp -implicitDefEqProofs
 refine use_raw hp fun v s hs => ?_
 subst hs
 simp -implicitDefEqProofs

theorem perm_of {n : Nat} {d R : Array Int} (hd : d.size = n) (h : PermIn 0 n d R) : R.toList.Perm d.toList := by
 obtain ⟨h1, -, h3⟩ := h
 have e1 : R.extract 0 n = R := by rw [← hd, ← h1]; simp
 have e2 : d.extract 0 n = d := by rw [← hd]; simp
 rw [e1, e2] at h3
 exact h3
theorem rising_of {n : Nat} {R : Array Int} (hR : R.size = n) (h : SortedIn lt 0 n R) : R.toList.Pairwise (· ≤ ·) := by
 rw [List.pairwise_iff_getElem]
 intro i j hi hj hij
 simp at hi hj
 have := h i j (by omega) hij (by omega)
 simp only [lt, Go.Sort.ltInt, decide_eq_false_iff_not, Int.not_lt] at this
 simpa [hi, hj] using this

theorem s_Sorted {σ : St} {rb q : Nat} {es : List Ent} {clock : Nat} (hb : σ.objs[rb]? = some (.cells [.map q])) (hm : σ.objs[q]? = some (.map es clock)) (hbn : Bn es clock) (hk : ∀ k ∈ es.map (·.2.1), ∃ i : Int, k = X i) (hlen : es.length ≤ 90) :
  Dn.Call Γ cx .raw 76 [.fn keysF [] [.ref rb 0]] σ fun v s => ∃ li, (li.map X).Perm (es.map (·.2.1)) ∧ li.Pairwise (· ≤ ·) ∧ Col σ.objs.length s v li ∧ (∀ r, r < σ.objs.length → s.objs[r]? = σ.objs[r]?) ∧ σ.objs.length ≤ s.objs.length ∧ s.toks = σ.toks := by
 refine Dn.Call.body (fc := c76) rfl ?_
 simp -implicitDefEqProofs [c76, c76_k2]
 refine use_raw (s_Collect hb hm hbn hk (by omega)) fun v s ⟨li, h1, h2, h3, h4, h5⟩ => ?_
 simp -implicitDefEqProofs [c76_k1]
 rcases h2 with ⟨rfl, rfl⟩ | ⟨r, rfl, hr, ho, hne⟩
 ·refine use_raw s_Sort0 fun v s2 hs => ?_
  subst hs
  simp -implicitDefEqProofs [c76_k0]
  exact ⟨[], h1, List.Pairwise.nil, .inl ⟨rfl, rfl⟩, h3, h4, h5⟩
 ·have hll : li.length ≤ 90 := by
   have := h1.length_eq
   simp at this
   omega
  have hat : At s r li.toArray := ⟨by simp [ar]; exact ho⟩
  refine use_raw (s_Sort hat (by simp) hll) fun v s2 ⟨R, hR, p1, p2⟩ => ?_
  simp -implicitDefEqProofs [c76_k0]
  have q1 := perm_of (by simp) p1
  have q2 : R.size = li.length := by have := q1.length_eq; simpa using this
  refine ⟨R.toList, (q1.map X).trans h1, rising_of q2 p2, .inr ⟨r, by simp [q2], hr, hR.obj, ?_⟩, fun r' hr' => ?_, Nat.le_trans h4 hR.fr.len, hR.tk.trans h5⟩
  ·intro e
   apply hne
   have := congrArg List.length e
   simp [q2] at this
   exact this
  ·rw [hR.fr.at_ r' (by simp; omega) (by omega)]
   exact h3 r' hr'

def hashD (l : List UInt8) : List D := l.map fun b => .int .u8 b.toNat
def uRows (l : List Int) : List (List D) := l.map fun n => [.int .u32 n]
abbrev Item := Int × List UInt8
def pairV (p : Item) : V × V := (X p.1, .da (hashD p.2))
structure Mp (es : List Ent) (clock : Nat) (M : List Item) : Prop where
 bn : Bn es clock
 pm : (es.map (·.2)).Perm (M.map pairV)
structure Plain (M : List Item) : Prop where
 up : M.Pairwise fun a b => a.1 < b.1
 h : ∀ p ∈ M, p.2.length = 32
 i : ∀ p ∈ M, 0 ≤ p.1 ∧ p.1 ≤ 4294967295
 n : M.length ≤ 90
structure Ix (σ : St) (x q : Nat) (k0 k1 : Int) (es : List Ent) (clock : Nat) (M : List Item) : Prop where
 o : σ.objs[x]? = some (.cells [U k0, U k1, .map q])
 m : σ.objs[q]? = some (.map es clock)
 mp : Mp es clock M
 pl : Plain M

theorem ofD_X (l : List Int) : ofD (l.map X) = some (l.map fun n => .int .u32 n) := by
 induction l with
 | nil => rfl
 | cons a r ih => simp only [List.map_cons, ofD, ih]
theorem rows_X : ∀ l : List Int, rowsOf 1 l.length (l.map fun n => D.int .u32 n) = uRows l
 | [] => rfl
 | a :: r => by
  have := rows_X r
  simp [rowsOf, uRows] at this ⊢
  exact this
theorem Col.lv {lo : Nat} {s : St} {v : V} {l : List Int} (h : Col lo s v l) : ∃ d, V.byValN lo s v = some (.d d) ∧ LV (.d d) (uRows l) := by
 rcases h with ⟨rfl, rfl⟩ | ⟨r, rfl, hr, ho, hne⟩
 ·exact ⟨.nils, rfl, .nil⟩
 ·refine ⟨.list (uRows l), ?_, .list _⟩
  simp [V.byValN, hr, V.byVal, V.rows, ho, List.take_of_length_le, ofD_X, rows_X]

theorem keys_of {es : List Ent} {clock : Nat} {M : List Item} (h : Mp es clock M) : (es.map (·.2.1)).Perm ((M.map (·.1)).map X) := by
 have := h.pm.map (·.1)
 simp only [List.map_map] at this ⊢
 exact this

theorem ids_of {es : List Ent} {clock : Nat} {M : List Item} (h : Mp es clock M) (hp : Plain M) {li : List Int} (h1 : (li.map X).Perm (es.map (·.2.1))) (h2 : li.Pairwise (· ≤ ·)) : li = M.map (·.1) := by
 have hX : (li.map X).Perm ((M.map (·.1)).map X) := h1.trans (keys_of h)
 have hinv : ∀ l : List Int, (l.map X).map (fun v => match v with | .d (.int _ n) => n | _ => 0) = l := fun l => by
  rw [List.map_map]
  exact List.map_id'' (fun _ => rfl) l
 have h3 := hX.map (fun v => match v with | .d (.int _ n) => n | _ => (0 : Int))
 rw [hinv, hinv] at h3
 refine List.Perm.eq_of_pairwise (le := (· ≤ ·)) (fun a b _ _ h1 h2 => by omega) h2 ?_ h3
 rw [List.pairwise_map]
 exact hp.up.imp (fun h => by omega)

theorem s_IDs {σ : St} {x q : Nat} {k0 k1 : Int} {es : List Ent} {clock : Nat} {M : List Item} (h : Ix σ x q k0 k1 es clock M) :
  Dn.Call Γ cx .rd 58 [.ref x 0] σ fun v _ => ∃ d, v = .d d ∧ LV (.d d) (uRows (M.map (·.1))) := by
 refine Dn.Call.body (fc := c58) rfl ?_
 have hql : q < σ.objs.length := (List.getElem?_eq_some_iff.1 h.m).1
 simp -implicitDefEqProofs [c58, c58_k2, eqV, V.isNil, Opd.isC, c58_k1, c58_k0, nilCheckV, h.o]
 have hK : Dn.Call Γ cx .raw 77 [.map q] σ fun v s => v = .fn keysF [] [.ref σ.objs.length 0] ∧ s = ⟨σ.objs ++ [.cells [.map q]], σ.toks⟩ := by
  refine Dn.Call.body (fc := c77) rfl ?_
  simp -implicitDefEqProofs [c77, c77_k0]
 refine use_raw hK fun v s ⟨hv, hs⟩ => ?_
 subst hv
 have hb : s.objs[σ.objs.length]? = some (.cells [.map q]) := by rw [hs]; simp
 have hm : s.objs[q]? = some (.map es clock) := by rw [hs]; simp only; rw [List.getElem?_append_left hql]; exact h.m
 have hsl : s.objs.length = σ.objs.length + 1 := by rw [hs]; simp
 have hso : ∀ r, r < σ.objs.length → s.objs[r]? = σ.objs[r]? := fun r hr => by rw [hs]; simp only; rw [List.getElem?_append_left hr]
 have hst : s.toks = σ.toks := by rw [hs]
 have hel : es.length ≤ 90 := by
  have := h.mp.pm.length_eq
  have := h.pl.n
  simp at *
  omega
 have hkx : ∀ k ∈ es.map (·.2.1), ∃ i : Int, k = X i := fun k hk => by
  have := (keys_of h.mp).mem_iff.1 hk
  obtain ⟨i, _, rfl⟩ := List.mem_map.1 this
  exact ⟨i, rfl⟩
 simp -implicitDefEqProofs
 refine use_raw (s_Sorted hb hm h.mp.bn hkx hel) fun v s2 ⟨li, h1, h2, h3, h4, h5, h6⟩ => ?_
 have hli := ids_of h.mp h.pl h1 h2
 subst hli
 have h3' : Col σ.objs.length s2 v (M.map (·.1)) := by
  rcases h3 with ⟨a, b⟩ | ⟨r, a, b, c⟩
  ·exact .inl ⟨a, b⟩
  ·exact .inr ⟨r, a, by omega, c⟩
 obtain ⟨d, d1, d2⟩ := h3'.lv
 simp -implicitDefEqProofs [d1]
 exact ⟨⟨fun i hi => by rw [h4 i (by omega)]; exact hso i hi, fun t k ht => by rw [h6, hst]; exact ht⟩, d2⟩
end Go.Proofs.Ytmlkdfjojoophaa.T

namespace Go.Proofs.Ytmlkdfjojoophaa.T
open Go.Dn
attribute [local simp] body_eq globEnv GB List.map_nil List.map_cons List.append_nil w_rangeF i_next i_makeMap i_range i_update i_delete i_entry i_clone entryV cloneV q_rndA q_rndB_n q_rndB_e q_rndB_r setAll w_skip w_ops w_seq w_cond w_block w_exit w_ret q_then_n q_then_e q_then_r q_blk_n q_blk_e q_blk_r q_ops q_cont q_end_n q_end_r q_end_e q_loop_n q_loop_e q_loop_r i_nil i_p i_alloc i_box i_store i_copy i_clear i_call i_callv i_when t_nil t_p t_call t_alloc t_box t_store kept_nil t_copy t_clear q_tcont gsel List.cons_append List.nil_append evalP evalE evalF evalB isObj thaw Opd.ev Env.get Env.set Env.pick putE initEnv evalBin intBin evalUn evalConv goneAll goneOne retV resAll Res.ev tupOf byVals byValsN bv_d bv_da bv_fl bv_tl bn_d bn_da bn_fl bn_tl cx Dn.newObj St.place St.push St.spot St.empty cell_d cell_da cell_agg cell_ref cell_sl cell_fl cell_tl cell_map cell_fn cell_ifc loadAt faddrV partOf extractV mkAgg ofD splice St.setObj fillV
set_option linter.unusedSimpArgs false
set_option linter.unusedVariables false

namespace Sip
def rot (x : W64) (k : Nat) : W64 := x <<< k ||| x >>> (64 - k)
structure S4 where
 a : W64
 b : W64
 c : W64
 d : W64
def S4.round (s : S4) : S4 :=
 let a := s.a + s.b
 let b := rot s.b 13 ^^^ a
 let a := rot a 32
 let c := s.c + s.d
 let d := rot s.d 16 ^^^ c
 let a := a + d
 let d := rot d 21 ^^^ a
 let c := c + b
 let b := rot b 17 ^^^ c
 let c := rot c 32
 ⟨a, b, c, d⟩
def S4.take (s : S4) (m : W64) : S4 :=
 let s := (S4.mk s.a s.b s.c (s.d ^^^ m)).round.round
 ⟨s.a ^^^ m, s.b, s.c, s.d⟩
def num : List UInt8 → Nat
 | [] => 0
 | b :: r => b.toNat + 256 * num r
def word (l : List UInt8) : W64 := BitVec.ofNat 64 (num l)
def start (k0 k1 : W64) : S4 := ⟨k0 ^^^ 0x736f6d6570736575, k1 ^^^ 0x646f72616e646f6d, k0 ^^^ 0x6c7967656e657261, k1 ^^^ 0x7465646279746573⟩
def blk (t : List UInt8) (i : Nat) : W64 := word ((t.drop (8 * i)).take 8)
def after (k0 k1 : W64) (t : List UInt8) : Nat → S4
 | 0 => start k0 k1
 | i + 1 => (after k0 k1 t i).take (blk t i)
def fin (s : S4) : W64 :=
 let s := (s.take 0x2000000000000000)
 let s := (S4.mk s.a s.b (s.c ^^^ 255) s.d).round.round.round.round
 s.a ^^^ s.b ^^^ s.c ^^^ s.d
def hash (k0 k1 : W64) (t : List UInt8) : W64 := fin (after k0 k1 t 4)
def short (k0 k1 : W64) (t : List UInt8) : Int := (((hash k0 k1 t).toNat % 4294967295 + 1 : Nat) : Int)
theorem num_lt : ∀ l : List UInt8, num l < 256 ^ l.length
 | [] => by decide
 | b :: r => by
  have := num_lt r
  have hb := b.toNat_lt
  simp only [num, List.length_cons, Nat.pow_succ]
  omega
theorem num_app : ∀ (l : List UInt8) (b : UInt8), num (l ++ [b]) = num l + 256 ^ l.length * b.toNat
 | [], b => by simp [num]
 | a :: r, b => by
  simp only [List.cons_append, num, num_app r b, List.length_cons, Nat.pow_succ]
  rw [Nat.mul_add, ← Nat.add_assoc]
  congr 1
  rw [← Nat.mul_assoc, Nat.mul_comm 256 (256 ^ _)]
theorem num_take {l : List UInt8} {i : Nat} {b : UInt8} (h : l[i]? = some b) : num (l.take (i + 1)) = num (l.take i) + 256 ^ i * b.toNat := by
 obtain ⟨hi, rfl⟩ := List.getElem?_eq_some_iff.1 h
 rw [← List.take_append_getElem hi, num_app]
 simp [Nat.min_eq_left (Nat.le_of_lt hi)]
end Sip
open Sip

theorem shl_sh (x : W64) (n : Nat) (h : n < 64) : shiftBin .shl .u64 (un x) (n : Int) = some (Wd (x <<< n)) := by
 have h1 : min n 64 = n := by omega
 have h2 : IntKind.u64.bits = 64 := rfl
 have h3 : ¬ ((n : Int) < 0) := by omega
 simp [shiftBin, h1, h2, h3, shl_u64]
theorem shr_sh (x : W64) (n : Nat) (h : n < 64) : shiftBin .shr .u64 (un x) (n : Int) = some (Wd (x >>> n)) := by
 have h1 : min n 64 = n := by omega
 have h2 : IntKind.u64.bits = 64 := rfl
 have h3 : ¬ ((n : Int) < 0) := by omega
 simp [shiftBin, h1, h2, h3, shr_u64]
theorem and63 : ∀ k : Fin 64, bits .and .u64 (IntKind.u64.wrap (k.val : Int)) 63 = (k.val : Int) := by decide +kernel

theorem s_rotl (x : W64) (k : Nat) (h1 : 1 ≤ k) (h2 : k < 64) : Dn.Call Γ cx .val 112 [Wd x, I k] St.empty fun v _ => v = Wd (rot x k) := by
 have ha := and63 ⟨k, h2⟩
 simp only at ha
 refine Dn.Call.body (fc := c112) rfl ?_
 have e1 := shl_sh x k h2
 have e2 : IntKind.u64.wrap (64 - (k : Int)) = ((64 - k : Nat) : Int) := by rw [wrap_u64 (by omega) (by omega)]; omega
 have e3 := shr_sh x (64 - k) (by omega)
 obtain ⟨j, hj⟩ : ∃ j, 64 - k = j := ⟨_, rfl⟩
 rw [hj] at e2 e3
 simp -implicitDefEqProofs [c112, c112_k1, ha, c112_k0, e1, e2, e3, or_u64, rot, hj]

def s4 (s : S4) : List V := [Wd s.a, Wd s.b, Wd s.c, Wd s.d]

theorem s_round {σ : St} {r : Nat} {x : S4} (h : σ.objs[r]? = some (.cells (s4 x))) : Dn.Call Γ cx .raw 94 [.ref r 0] σ fun _ s => s = ⟨σ.objs.set r (.cells (s4 x.round)), σ.toks⟩ := by
 obtain ⟨a, b, c, d⟩ := x
 refine Dn.Call.body (fc := c94) rfl ?_
 have hl : r < σ.objs.length := (List.getElem?_eq_some_iff.1 h).1
 have hst : ∀ o : Dn.Obj, (σ.objs.set r o)[r]? = some o := fun o => by simp [hl]
 simp only [s4] at h ⊢
 simp only [S4.round]
 simp -implicitDefEqProofs [c94]
 refine w_drwX (fun _ => .val) [] (by decide +kernel) ?_
 simp -implicitDefEqProofs [room_zero, nilCheckV, h, add_u64, c94_k8]
 generalize a + b = a1
 refine w_drwX (fun _ => .val) [] (by decide +kernel) ?_
 simp -implicitDefEqProofs [room_zero, nilCheckV, hst]
 refine use_fnN rfl rfl (s_rotl b 13 (by omega) (by omega)) rfl ?_
 simp -implicitDefEqProofs [nilCheckV, hst, xor_u64, c94_k7]
 generalize rot b 13 ^^^ a1 = b1
 refine use_fn rfl (s_rotl a1 32 (by omega) (by omega)) rfl ?_
 simp -implicitDefEqProofs [nilCheckV, hst, c94_k6]
 generalize rot a1 32 = a2
 refine w_drwX (fun _ => .val) [] (by decide +kernel) ?_
 simp -implicitDefEqProofs [room_zero, nilCheckV, hst, add_u64, c94_k5]
 generalize c + d = c1
 refine w_drwX (fun _ => .val) [] (by decide +kernel) ?_
 simp -implicitDefEqProofs [room_zero, nilCheckV, hst]
 refine use_fnN rfl rfl (s_rotl d 16 (by omega) (by omega)) rfl ?_
 simp -implicitDefEqProofs [nilCheckV, hst, xor_u64, c94_k4]
 generalize rot d 16 ^^^ c1 = d1
 refine w_drwX (fun _ => .val) [] (by decide +kernel) ?_
 simp -implicitDefEqProofs [room_zero, nilCheckV, hst, add_u64, c94_k3]
 generalize a2 + d1 = a3
 refine w_drwX (fun _ => .val) [] (by decide +kernel) ?_
 simp -implicitDefEqProofs [room_zero, nilCheckV, hst]
 refine use_fnN rfl rfl (s_rotl d1 21 (by omega) (by omega)) rfl ?_
 simp -implicitDefEqProofs [nilCheckV, hst, xor_u64, c94_k2]
 generalize rot d1 21 ^^^ a3 = d2
 refine w_drwX (fun _ => .val) [] (by decide +kernel) ?_
 simp -implicitDefEqProofs [room_zero, nilCheckV, hst, add_u64, c94_k1]
 generalize c1 + b1 = c2
 refine w_drwX (fun _ => .val) [] (by decide +kernel) ?_
 simp -implicitDefEqProofs [room_zero, nilCheckV, hst]
 refine use_fnN rfl rfl (s_rotl b1 17 (by omega) (by omega)) rfl ?_
 simp -implicitDefEqProofs [nilCheckV, hst, xor_u64, c94_k0]
 generalize rot b1 17 ^^^ c2 = b2
 refine use_fn rfl (s_rotl c2 32 (by omega) (by omega)) rfl ?_
 simp -implicitDefEqProofs [nilCheckV, hst]

def InvTk (r : Nat) (σ : St) (m : W64) (x : S4) (k : Nat) (e : Env) (s : St) : Prop := ∃ i : Nat, e = [(0, .ref r 0), (1, Wd m), (12, I i)] ∧ k = 2 - i ∧ i ≤ 2 ∧ s = ⟨σ.objs.set r (.cells (s4 (Nat.rec x (fun _ y => y.round) i))), σ.toks⟩

theorem s_take {σ : St} {r : Nat} {x : S4} (h : σ.objs[r]? = some (.cells (s4 x))) (m : W64) : Dn.Call Γ cx .raw 92 [.ref r 0, Wd m] σ fun _ s => s = ⟨σ.objs.set r (.cells (s4 (x.take m))), σ.toks⟩ := by
 refine Dn.Call.body (fc := c92) rfl ?_
 have hl : r < σ.objs.length := (List.getElem?_eq_some_iff.1 h).1
 have hst : ∀ o : Dn.Obj, (σ.objs.set r o)[r]? = some o := fun o => by simp [hl]
 simp only [s4] at h
 simp -implicitDefEqProofs [c92, nilCheckV, h, xor_u64, c92_k5, c92_k4]
 refine wloopI (InvTk r σ m ⟨x.a, x.b, x.c, x.d ^^^ m⟩) (m := 2) ⟨0, rfl, rfl, by omega, rfl⟩ ?_
 rintro k e s ⟨i, rfl, rfl, hi, rfl⟩
 simp -implicitDefEqProofs [c92_l3, c92_k2]
 by_cases hi2 : i < 2
 ·have hi2' : (i : Int) < 2 := by omega
  simp -implicitDefEqProofs [hi2', c92_k1]
  refine use_raw (s_round (hst _)) fun v s hs => ?_
  subst hs
  simp -implicitDefEqProofs [wrap_i64 (n := (i : Int) + 1) (by omega) (by omega)]
  exact ⟨2 - (i + 1), by omega, i + 1, rfl, rfl, by omega, rfl⟩
 ·obtain rfl : i = 2 := by omega
  simp -implicitDefEqProofs [c92_k0, nilCheckV, hst, s4, xor_u64, S4.take]
  rfl

theorem or_nat (m c i : Nat) (hm : m < 2 ^ (8 * i)) (hi : i < 8) (hc : c < 256) : bits .or .u64 (m : Int) ((c * 2 ^ (8 * i) : Nat) : Int) = ((m + c * 2 ^ (8 * i) : Nat) : Int) := by
 have hp : 2 ^ (8 * i) * 256 ≤ 2 ^ 64 := by
  have : 2 ^ (8 * i) * 2 ^ 8 = 2 ^ (8 * i + 8) := by rw [← Nat.pow_add]
  have h2 : 2 ^ (8 * i + 8) ≤ 2 ^ 64 := Nat.pow_le_pow_right (by decide) (by omega)
  omega
 have hcm : c * 2 ^ (8 * i) ≤ 255 * 2 ^ (8 * i) := Nat.mul_le_mul_right _ (by omega)
 have e1 : (m : Int) = un (BitVec.ofNat 64 m) := by
  simp only [un, BitVec.toNat_ofNat]
  rw [Nat.mod_eq_of_lt (by omega)]
 have e2 : ((c * 2 ^ (8 * i) : Nat) : Int) = un (BitVec.ofNat 64 (c * 2 ^ (8 * i))) := by
  simp only [un, BitVec.toNat_ofNat]
  rw [Nat.mod_eq_of_lt (by omega)]
 rw [e1, e2, or_u64]
 simp only [un, BitVec.toNat_or, BitVec.toNat_ofNat]
 rw [Nat.mod_eq_of_lt (by omega), Nat.mod_eq_of_lt (by omega)]
 have := Nat.two_pow_add_eq_or_of_lt hm c
 rw [Nat.or_comm, Nat.mul_comm c, ← this, Nat.add_comm]

abbrev Y (n : Int) : V := .d (.int .u8 n)
def InvWord (v : V) (l : List UInt8) (m : Nat) (e : Env) (σ : St) : Prop := ∃ i : Nat, e = [(3, U (num (l.take i))), (6, v), (7, I l.length), (8, I i)] ∧ i ≤ l.length ∧ m = l.length - i ∧ σ = St.empty

theorem un_word {l : List UInt8} (h : l.length ≤ 8) : un (word l) = (num l : Int) := by
 have := num_lt l
 have h2 : 256 ^ l.length ≤ 256 ^ 8 := Nat.pow_le_pow_right (by decide) h
 simp only [un, word, BitVec.toNat_ofNat]
 rw [Nat.mod_eq_of_lt (by omega)]

theorem s_word {v : V} {l : List UInt8} (hv : LV v (byteRows l)) (hl : l.length ≤ 8) : Dn.Call Γ cx .val 93 [v] St.empty fun r _ => r = Wd (word l) := by
 refine Dn.Call.body (fc := c93) rfl ?_
 have hlen : ∀ σ, lenT σ .slice v = some l.length := fun σ => by rw [hv.len, byteRows_len]
 simp -implicitDefEqProofs [c93, c93_k8, c93_k7, c93_k6, hlen]
 refine wloopI (InvWord v l) (m := l.length) ⟨0, rfl, by omega, by omega, rfl⟩ ?_
 rintro m e σ ⟨i, rfl, hi, rfl, rfl⟩
 simp -implicitDefEqProofs [c93_l5, c93_k4]
 by_cases hil : i < l.length
 rotate_left
 ·obtain rfl : i = l.length := by omega
  have := un_word hl
  simp -implicitDefEqProofs [c93_k0, this]
 obtain ⟨b, hb⟩ : ∃ b, l[i]? = some b := ⟨l[i], by simp [hil]⟩
 have hia := fun σ => hv.iaddr σ (k := .i64) (i := i) (byteRows_at hb) (sz := 1) rfl
 have hbl := b.toNat_lt
 have hnt := num_take hb
 have hnl := num_lt (l.take i)
 have e256 : 256 ^ i = 2 ^ (8 * i) := by rw [show 256 = 2 ^ 8 from rfl, ← Nat.pow_mul]
 rw [List.length_take, Nat.min_eq_left hi, e256] at hnl
 rw [e256] at hnt
 have hor := or_nat (num (l.take i)) b.toNat i hnl (by omega) hbl
 have w1 : IntKind.u64.wrap (b.toNat : Int) = (b.toNat : Int) := wrap_u64 (by omega) (by omega)
 have w2 : IntKind.i64.wrap (8 * (i : Int)) = ((8 * i : Nat) : Int) := by rw [wrap_i64 (by omega) (by omega)]; omega
 have hsh : shiftBin .shl .u64 (b.toNat : Int) ((8 * i : Nat) : Int) = some (U ((b.toNat * 2 ^ (8 * i) : Nat) : Int)) := by
  have e1 : (b.toNat : Int) = un (BitVec.ofNat 64 b.toNat) := by
   simp only [un, BitVec.toNat_ofNat]
   rw [Nat.mod_eq_of_lt (by omega)]
  rw [e1, shl_sh _ _ (by omega)]
  have hp : 2 ^ (8 * i) * 256 ≤ 2 ^ 64 := by
   have : 2 ^ (8 * i) * 2 ^ 8 = 2 ^ (8 * i + 8) := by rw [← Nat.pow_add]
   have h2 : 2 ^ (8 * i + 8) ≤ 2 ^ 64 := Nat.pow_le_pow_right (by decide) (by omega)
   omega
  have hcm : b.toNat * 2 ^ (8 * i) ≤ 255 * 2 ^ (8 * i) := Nat.mul_le_mul_right _ (by omega)
  simp only [Wd, U, un, BitVec.toNat_shiftLeft, BitVec.toNat_ofNat, Nat.shiftLeft_eq]
  rw [Nat.mod_eq_of_lt (a := b.toNat) (by omega), Nat.mod_eq_of_lt (by omega)]
 obtain ⟨sh, hshd⟩ : ∃ sh : Nat, 8 * i = sh := ⟨_, rfl⟩
 rw [hshd] at w2 hsh hor hnt
 obtain ⟨y, hy⟩ : ∃ y : Nat, b.toNat * 2 ^ sh = y := ⟨_, rfl⟩
 rw [hy] at hsh hor
 rw [Nat.mul_comm, hy] at hnt
 rw [← hnt] at hor
 simp -implicitDefEqProofs [hil, c93_k3, c93_k2, hia, c93_k1, w1, w2, hsh, hor, wrap_i64 (n := (i : Int) + 1) (by omega) (by omega)]
 exact ⟨l.length - (i + 1), by omega, i + 1, rfl, by omega, rfl, rfl⟩

def rev (x : W64) : W64 :=
 let x := ((x >>> 8) &&& 71777214294589695) ||| ((x &&& 71777214294589695) <<< 8)
 let x := ((x >>> 16) &&& 281470681808895) ||| ((x &&& 281470681808895) <<< 16)
 (x >>> 32) ||| (x <<< 32)
theorem s_rev (x : W64) : Dn.Call Γ cx .val 111 [Wd x] St.empty fun v _ => v = Wd (rev x) := by
 refine Dn.Call.body (fc := c111) rfl ?_
 have s8 : ∀ x : W64, shiftBin .shr .u64 (un x) 8 = some (Wd (x >>> 8)) := fun x => shr_sh x 8 (by omega)
 have l8 : ∀ x : W64, shiftBin .shl .u64 (un x) 8 = some (Wd (x <<< 8)) := fun x => shl_sh x 8 (by omega)
 have s16 : ∀ x : W64, shiftBin .shr .u64 (un x) 16 = some (Wd (x >>> 16)) := fun x => shr_sh x 16 (by omega)
 have l16 : ∀ x : W64, shiftBin .shl .u64 (un x) 16 = some (Wd (x <<< 16)) := fun x => shl_sh x 16 (by omega)
 have s32 : ∀ x : W64, shiftBin .shr .u64 (un x) 32 = some (Wd (x >>> 32)) := fun x => shr_sh x 32 (by omega)
 have l32 : ∀ x : W64, shiftBin .shl .u64 (un x) 32 = some (Wd (x <<< 32)) := fun x => shl_sh x 32 (by omega)
 have a1 : ∀ x : W64, bits .and .u64 (un x) 71777214294589695 = un (x &&& 71777214294589695) := fun x => and_u64 x 71777214294589695
 have a2 : ∀ x : W64, bits .and .u64 (un x) 281470681808895 = un (x &&& 281470681808895) := fun x => and_u64 x 281470681808895
 simp -implicitDefEqProofs [c111, c111_k2, s8, l8, a1, or_u64, c111_k1, s16, l16, a2, c111_k0, s32, l32, rev]

theorem s_first (i : Nat) (hi : i < 4) : Dn.Call Γ cx .val 91 [I i] St.empty fun v _ => v = Wd ((([0x736f6d6570736575, 0x646f72616e646f6d, 0x6c7967656e657261, 0x7465646279746573] : List W64).getD i 0)) := by
 have hcase : i = 0 ∨ i = 1 ∨ i = 2 ∨ i = 3 := by omega
 refine Dn.Call.body (fc := c91) rfl ?_
 rcases hcase with rfl | rfl | rfl | rfl
 all_goals
  simp -implicitDefEqProofs [c91, c91_k0, sliceStrV, boundV, asIdx, wrap_i64 (n := 8) (by omega) (by omega), wrap_i64 (n := 0) (by omega) (by omega), wrap_i64 (n := 16) (by omega) (by omega), wrap_i64 (n := 24) (by omega) (by omega), wrap_i64 (n := 32) (by omega) (by omega)]
  refine use_fn rfl (s_word (.list _) (by decide)) rfl ?_
  try simp -implicitDefEqProofs
  refine use_fn rfl (s_rev _) rfl ?_
  simp -implicitDefEqProofs
  decide +kernel
end Go.Proofs.Ytmlkdfjojoophaa.T

namespace Go.Proofs.Ytmlkdfjojoophaa.T
open Go.Dn
attribute [local simp] body_eq globEnv GB List.map_nil List.map_cons List.append_nil w_rangeF i_next i_makeMap i_range i_update i_delete i_entry i_clone entryV cloneV q_rndA q_rndB_n q_rndB_e q_rndB_r setAll w_skip w_ops w_seq w_cond w_block w_exit w_ret q_then_n q_then_e q_then_r q_blk_n q_blk_e q_blk_r q_ops q_cont q_end_n q_end_r q_end_e q_loop_n q_loop_e q_loop_r i_nil i_p i_alloc i_box i_store i_copy i_clear i_call i_callv i_when t_nil t_p t_call t_alloc t_box t_store kept_nil t_copy t_clear q_tcont gsel List.cons_append List.nil_append evalP evalE evalF evalB isObj thaw Opd.ev Env.get Env.set Env.pick putE initEnv evalBin intBin evalUn evalConv goneAll goneOne retV resAll Res.ev tupOf byVals byValsN bv_d bv_da bv_fl bv_tl bn_d bn_da bn_fl bn_tl cx Dn.newObj St.place St.push St.spot St.empty cell_d cell_da cell_agg cell_ref cell_sl cell_fl cell_tl cell_map cell_fn cell_ifc loadAt faddrV partOf extractV mkAgg ofD splice St.setObj fillV
set_option linter.unusedSimpArgs false
set_option linter.unusedVariables false
open Sip

def InvChunk (r rs rn n : Nat) (rows : List (List D)) (J : Nat → St → Prop) (m : Nat) (e : Env) (σ : St) : Prop := ∃ i : Nat, e = [(0, .yld r), (1, .ref rs 0), (2, .ref rn 0), (4, I ((i * n : Nat) : Int))] ∧ m = rows.length - i * n ∧ J i σ ∧ ∀ j, j < i → j * n < rows.length

theorem sliceV_max {v : V} {rows : List (List D)} (hv : LV v rows) {sz lo hi : Nat} (hf : ∀ r ∈ rows, r.length = sz) (h1 : lo < hi) (h2 : hi ≤ rows.length) : sliceV sz v lo hi (some hi) = some (.fl ((rows.drop lo).take (hi - lo))) := by
 have hf' := fitR_iff.2 hf
 cases hv with
 | nil => simp at h2; omega
 | list rows => simp [sliceV, hf', h2]
 | fl rows => simp [sliceV, hf', h2]
 | tl rows t st s => simp [sliceV, hf', h2]

theorem s_Chunk1 {σ : St} {r rs rn n : Nat} {v : V} {rows : List (List D)} (hn : 0 < n) (hnb : n ≤ 1000000) (hv : LV v rows) (hfit : ∀ x ∈ rows, x.length = 1) (hts : ∀ r t st s, v = .tl r t st s → s = 1) (hl : rows.length ≤ 1000000000000)
  (J : Nat → St → Prop) (h0 : J 0 σ) (hst : ∀ i s, J i s → s.objs[rs]? = some (.cells [v]) ∧ s.objs[rn]? = some (.cells [I n]))
  (hround : ∀ i s, J i s → i * n < rows.length → Dn.Call Γ cx .rnd r [.fl ((rows.drop (i * n)).take n)] s fun w s' => w = B true ∧ J (i + 1) s') :
  Dn.Call Γ cx .raw 83 [.yld r, .ref rs 0, .ref rn 0] σ fun _ s => ∃ k, J k s ∧ rows.length ≤ k * n ∧ ∀ j, j < k → j * n < rows.length := by
 refine Dn.Call.body (fc := c83) rfl ?_
 simp -implicitDefEqProofs [c83, c83_k7]
 refine wloopI (InvChunk r rs rn n rows J) (m := rows.length) ⟨0, by simp [Env.pick, Env.get], by simp, h0, fun j hj => by omega⟩ ?_
 rintro m e σ ⟨i, rfl, rfl, hJ, hlt⟩
 obtain ⟨hs, hnn⟩ := hst i σ hJ
 have hlen := hv.len σ
 obtain ⟨p, hp⟩ : ∃ p, i * n = p := ⟨_, rfl⟩
 have hr1 := hround i σ hJ
 rw [hp] at hr1 ⊢
 simp -implicitDefEqProofs [c83_l6, c83_k5, hs, hnn, hlen]
 by_cases hil : p < rows.length
 rotate_left
 ·have h1 : ¬ ((p : Int) < (rows.length : Int)) := by omega
  simp -implicitDefEqProofs [h1, hil]
  exact ⟨i, hJ, by omega, hlt⟩
 have h1 : ((p : Int) < (rows.length : Int)) := by omega
 simp -implicitDefEqProofs [h1, hil, c83_k4, c83_k3]
 refine w_drw (fun _ => .val) [2, 1] (by decide +kernel) ?_
 obtain ⟨z, hz, hzl, -⟩ := hv.slice σ hfit hts (lo := p) (hi := rows.length) (by omega) (Nat.le_refl _)
 have hlv := hv.lenV σ
 have hsx : sliceX σ 1 v (some (I p)) none none = some z := by simp [sliceX, hlv, boundV, asIdx, hz, show p ≤ rows.length by omega]
 have hzlen := hzl.len σ
 have hdl : (List.take (rows.length - p) (rows.drop p)).length = rows.length - p := by simp
 rw [hdl] at hzlen
 obtain ⟨t, ht⟩ : ∃ t, min n (rows.length - p) = t := ⟨_, rfl⟩
 have hmin : minAll [I n, I ((rows.length - p : Nat) : Int)] = some (I t) := by
  have : minInts (n : Int) [I ((rows.length - p : Nat) : Int)] .i64 = some (min (n : Int) ((rows.length - p : Nat) : Int)) := by
   simp [minInts]
   split <;> omega
  simp only [minAll, this]
  congr 3
  omega
 have htk : (rows.drop p).take t = (rows.drop p).take n := by
  rcases Nat.le_total n (rows.length - p) with h | h
  ·rw [Nat.min_eq_left h] at ht; rw [← ht]
  ·rw [Nat.min_eq_right h] at ht
   rw [List.take_of_length_le (i := n) (by simp; omega), ← ht, List.take_of_length_le (by simp)]
 have hsx3 : sliceX σ 1 v (some (I p)) (some (.d (.int .i64 ((p : Int) + (t : Int))))) (some (.d (.int .i64 ((p : Int) + (t : Int))))) = some (.fl ((rows.drop p).take n)) := by
  have h3 := sliceV_max hv (lo := p) (hi := p + t) hfit (by omega) (by omega)
  rw [Nat.add_sub_cancel_left, htk] at h3
  have e1 : ((p : Int) + (t : Int)).toNat = p + t := by omega
  have e2 : (p : Int) + (t : Int) ≤ rows.length := by omega
  have e3 : (0 : Int) ≤ (p : Int) + t := by omega
  simp [sliceX, hlv, boundV, asIdx, h3, e1, e2, e3]
  try omega
 simp -implicitDefEqProofs [room_zero, hs, hnn, hsx, hzlen, hmin, hsx3, c83_k2, wrap_i64 (n := (p : Int) + t) (by omega) (by omega)]
 refine ⟨_, hr1 hil, fun w s ⟨hw, hJ'⟩ => ?_⟩
 obtain ⟨-, hn2⟩ := hst (i + 1) s hJ'
 subst hw
 have hp1 : (i + 1) * n = p + n := by rw [Nat.add_mul, hp, Nat.one_mul]
 simp -implicitDefEqProofs [c83_k1, c83_k0, hn2, wrap_i64 (n := (p : Int) + n) (by omega) (by omega)]
 refine ⟨rows.length - (p + n), by omega, i + 1, by rw [hp1]; rfl, by rw [hp1], hJ', fun j hj => ?_⟩
 rcases Nat.lt_or_ge j i with h | h
 ·exact hlt j h
 ·obtain rfl : j = i := by omega
  omega
theorem s_Chunk {σ : St} {v : V} {n : Nat} (hn : 0 < n) (hc : v.cells = some [v]) : Dn.Call Γ cx .raw 64 [v, I n] σ fun w s => w = .fn (.func 83) [] [.ref σ.objs.length 0, .ref (σ.objs.length + 1) 0] ∧ s = ⟨σ.objs ++ [.cells [v], .cells [I n]], σ.toks⟩ := by
 refine Dn.Call.body (fc := c64) rfl ?_
 have h1 : ¬ ((n : Int) < 1) := by omega
 have e1 : (σ.objs ++ [Dn.Obj.cells [v], Dn.Obj.cells [I n]])[σ.objs.length + 1]? = some (.cells [I n]) := by
  rw [List.getElem?_append_right (by omega)]
  simp
 simp -implicitDefEqProofs [c64, c64_k2, c64_k1, c64_k0, hc, h1, e1]

def hE (t : List UInt8) : Env := [(1, .d (.list (byteRows t))), (5, .ref 2 0), (6, I 32)]
def InvH (K0 K1 : W64) (t : List UInt8) (i : Nat) (s : St) : Prop := s = ⟨[.cells [Wd K0, Wd K1], .cells (s4 (after K0 K1 t i)), .cells [.ref 1 0], .cells [.d (.list (byteRows t))], .cells [I 8], .loop (hE t) [36] c74_a8 c74_b9 .ready], []⟩
def sd : Nat → Dn.Mode := fun f => if f = 92 then .raw else .val

theorem hash_a {e : Env} {s : St} {Q : PostC} (h : Q .normal ((putE e (some 7) (e.get 36)).pick [5, 7]) s) : wcode (Dn.Call Γ cx) cx c74_a8 e s Q := by
 simp only [c74_a8, w_ops, i_p, isObj, Bool.false_eq_true, if_false, evalP, Opd.ev, i_nil, q_ops]
 exact h

theorem hash_b {s : St} {x : S4} {l : List UInt8} {Q : PostC} (h5 : s.objs[2]? = some (.cells [.ref 1 0])) (h1 : s.objs[1]? = some (.cells (s4 x))) (hl : l.length ≤ 8)
  (hQ : Q .normal [] ⟨s.objs.set 1 (.cells (s4 (x.take (word l)))), s.toks⟩) : wcode (Dn.Call Γ cx) cx c74_b9 [(5, .ref 2 0), (7, .fl (byteRows l))] s (Q) := by
 simp only [body_eq, globEnv, GB, List.map_nil, List.map_cons, List.append_nil, w_rangeF, i_next, i_makeMap, i_range, i_update, i_delete, i_entry, i_clone, entryV, cloneV, q_rndA, q_rndB_n, q_rndB_e, q_rndB_r, setAll, w_skip, w_ops, w_seq, w_cond, w_block, w_exit, w_ret, q_then_n, q_then_e, q_then_r, q_blk_n, q_blk_e, q_blk_r, q_ops, q_cont, q_end_n, q_end_r, q_end_e, q_loop_n, q_loop_e, q_loop_r, i_nil, i_p, i_alloc, i_box, i_store, i_copy, i_clear, i_call, i_callv, i_when, t_nil, t_p, t_call, t_alloc, t_box, t_store, kept_nil, t_copy, t_clear, q_tcont, gsel, List.cons_append, List.nil_append, evalP, evalE, evalF, evalB, isObj, thaw, Opd.ev, Env.get, Env.set, Env.pick, putE, initEnv, evalBin, intBin, evalUn, evalConv, goneAll, goneOne, retV, resAll, Res.ev, tupOf, byVals, byValsN, bv_d, bv_da, bv_fl, bv_tl, bn_d, bn_da, bn_fl, bn_tl, cx, Dn.newObj, St.place, St.push, St.spot, St.empty, cell_d, cell_da, cell_agg, cell_ref, cell_sl, cell_fl, cell_tl, cell_map, cell_fn, cell_ifc, loadAt, faddrV, partOf, extractV, mkAgg, ofD, splice, St.setObj, fillV, c74_b9]
 refine w_drwX sd [] (by decide +kernel) ?_
 simp -implicitDefEqProofs [room_zero, h5]
 refine use_fnN rfl rfl (s_word (.list _) hl) rfl ?_
 simp -implicitDefEqProofs
 refine use_rawN rfl (s_take h1 (word l)) ⟨.any, _, rfl⟩ fun v s' hs => ?_
 subst hs
 refine ⟨by simp [Kept], ?_⟩
 simp -implicitDefEqProofs
 exact hQ

def InvFin (K0 K1 : W64) (t : List UInt8) (x : S4) (k : Nat) (e : Env) (s : St) : Prop := ∃ i : Nat, e = [(5, .ref 2 0), (59, I i)] ∧ k = 4 - i ∧ i ≤ 4 ∧ s = ⟨[.cells [Wd K0, Wd K1], .cells (s4 (Nat.rec x (fun _ y => y.round) i)), .cells [.ref 1 0], .cells [.d (.list (byteRows t))], .cells [I 8], .dead], []⟩

theorem s_Hash (K0 K1 : W64) {t : List UInt8} (ht : t.length = 32) : Dn.Call Γ cx .val 74 [.da [.int .u64 (un K0), .int .u64 (un K1)], .d (.list (byteRows t))] St.empty fun v _ => v = Wd (hash K0 K1 t) := by
 refine Dn.Call.body (fc := c74) rfl ?_
 simp -implicitDefEqProofs [c74, c74_k13]
 refine w_drwX sd [] (by decide +kernel) ?_
 have x0 : ∀ x y : W64, bits .xor .u64 (un x) (un y) = un (x ^^^ y) := xor_u64
 simp -implicitDefEqProofs [St.room, List.replicate]
 refine use_fnN rfl rfl (s_first 0 (by omega)) rfl ?_
 simp -implicitDefEqProofs [xor_u64]
 refine use_fnN rfl rfl (s_first 1 (by omega)) rfl ?_
 simp -implicitDefEqProofs [xor_u64]
 refine use_fnN rfl rfl (s_first 2 (by omega)) rfl ?_
 simp -implicitDefEqProofs [xor_u64]
 refine use_fnN rfl rfl (s_first 3 (by omega)) rfl ?_
 simp -implicitDefEqProofs [xor_u64, newObj, St.place, St.spot, St.setObj]
 have hz : s4 (Sip.start K0 K1) = [Wd (K0 ^^^ 8317987319222330741#64), Wd (K1 ^^^ 7237128888997146477#64), Wd (K0 ^^^ 7816392313619706465#64), Wd (K1 ^^^ 8387220255154660723#64)] := rfl
 rw [← hz]
 have hbl : (byteRows t).length = 32 := by rw [byteRows_len, ht]
 have hft := fitR_iff.2 (byteRows_fit t)
 have htk : (byteRows t).take 32 = byteRows t := List.take_of_length_le (by omega)
 have e1 : IntKind.i64.wrap 32 = 32 := rfl
 simp -implicitDefEqProofs [c74_k12, lenT, lenV, hbl, e1, c74_k11, sliceX, sliceV, boundV, asIdx, hft, htk]
 refine use_raw (s_Chunk (n := 8) (by omega) rfl) fun w s ⟨hw, hs⟩ => ?_
 subst hw hs
 simp -implicitDefEqProofs [c74_k10]
 refine ⟨_, s_Chunk1 (n := 8) (by omega) (by omega) (LV.list (byteRows t)) (byteRows_fit _) (by rintro r t st s h; cases h) (by omega) (InvH K0 K1 t) ?_ ?_ ?_, ?_⟩
 ·simp [InvH, hE, after]
 ·rintro i s rfl
  exact ⟨rfl, rfl⟩
 ·rintro i s rfl hi
  rw [hbl] at hi
  refine Call.rnd (e := hE t) (ps := [36]) (a := c74_a8) (b := c74_b9) rfl rfl ?_
  refine hash_a ?_
  simp only [q_rndA]
  refine ⟨rfl, ?_⟩
  rw [byteRows_drop, byteRows_take]
  have hbk : word ((t.drop (i * 8)).take 8) = blk t i := by rw [blk, Nat.mul_comm]
  refine hash_b (x := after K0 K1 t i) rfl rfl (by simp; omega) ?_
  rw [hbk]
  simp only [q_rndB_n]
  exact ⟨rfl, trivial, rfl⟩
 ·rintro v s ⟨k, rfl, hk1, hk2⟩
  refine rfQ_ready rfl ?_
  rw [hbl] at hk1 hk2
  have hk4 : k = 4 := by
   have := hk2 (k - 1)
   rcases Nat.eq_zero_or_pos k with h | h
   ·omega
   ·have := this (by omega)
    omega
  subst hk4
  have hfin : hash K0 K1 t = fin (after K0 K1 t 4) := rfl
  rw [hfin]
  generalize after K0 K1 t 4 = x
  simp -implicitDefEqProofs [c74_k7, hE]
  refine w_drwX sd [] (by decide +kernel) ?_
  have hs56 : shiftBin .shl .u64 32 56 = some (.d (.int .u64 2305843009213693952)) := rfl
  have hor : bits .or .u64 (un (word [])) 2305843009213693952 = un (0x2000000000000000 : W64) := by decide +kernel
  have u32 : IntKind.u64.wrap 32 = 32 := rfl
  simp -implicitDefEqProofs [room_zero, lenT, lenV, hbl, sliceX, sliceV, boundV, asIdx, hft]
  refine use_fnN rfl rfl (s_word (l := []) (.list _) (by decide)) rfl ?_
  simp -implicitDefEqProofs [lenT, lenV, hbl, u32, hs56, hor]
  refine use_rawN rfl (s_take (x := x) rfl 0x2000000000000000) ⟨.any, _, rfl⟩ fun v s' hs => ?_
  subst hs
  refine ⟨by simp [Kept], ?_⟩
  have hff : fin x = (let s := x.take 0x2000000000000000; let s := (S4.mk s.a s.b (s.c ^^^ 255) s.d).round.round.round.round; s.a ^^^ s.b ^^^ s.c ^^^ s.d) := rfl
  rw [hff]
  simp only
  generalize x.take 0x2000000000000000 = y
  have x255 : bits .xor .u64 (un y.c) 255 = un (y.c ^^^ 255) := xor_u64 y.c 255
  simp -implicitDefEqProofs [c74_k6, nilCheckV, s4, x255, c74_k5, c74_k4]
  refine wloopI (InvFin K0 K1 t ⟨y.a, y.b, y.c ^^^ 255, y.d⟩) (m := 4) ⟨0, rfl, rfl, by omega, rfl⟩ ?_
  rintro m e s ⟨i, rfl, rfl, hi, rfl⟩
  simp -implicitDefEqProofs [c74_l3, c74_k2]
  by_cases hi4 : i < 4
  ·have hi4' : (i : Int) < 4 := by omega
   simp -implicitDefEqProofs [hi4', c74_k1]
   refine use_raw (s_round (r := 1) rfl) fun v s hs => ?_
   subst hs
   simp -implicitDefEqProofs [wrap_i64 (n := (i : Int) + 1) (by omega) (by omega)]
   exact ⟨4 - (i + 1), by omega, i + 1, rfl, rfl, by omega, rfl⟩
  ·obtain rfl : i = 4 := by omega
   simp -implicitDefEqProofs [c74_k0]
   refine w_drwX (fun _ => .val) [] (by decide +kernel) ?_
   simp -implicitDefEqProofs [room_zero, nilCheckV, s4, xor_u64]
   rfl
def byV (l : List UInt8) : List V := l.map fun b => Y b.toNat
theorem byV_len (l : List UInt8) : (byV l).length = l.length := by simp [byV]
theorem hashD_byV (l : List UInt8) : (hashD l).map V.d = byV l := by simp [hashD, byV]
theorem ofD_byV (l : List UInt8) : ofD (byV l) = some (hashD l) := by
 induction l with
 | nil => rfl
 | cons a r ih => simp only [byV, hashD, List.map_cons, ofD] at ih ⊢; rw [ih]
theorem rows_byte : ∀ l : List UInt8, rowsOf 1 l.length (hashD l) = byteRows l
 | [] => rfl
 | a :: r => by
  have := rows_byte r
  simp [rowsOf, byteRows, hashD] at this ⊢
  exact this

theorem s_Short (K0 K1 : W64) {t : List UInt8} (ht : t.length = 32) : Dn.Call Γ cx .val 56 [.da [.int .u64 (un K0), .int .u64 (un K1)], .da (hashD t)] St.empty fun v _ => v = X (short K0 K1 t) := by
 refine Dn.Call.body (fc := c56) rfl ?_
 have hl := byV_len t
 rw [ht] at hl
 have htk : (byV t).take 32 = byV t := List.take_of_length_le (by omega)
 have hrw := rows_byte t
 rw [ht] at hrw
 simp -implicitDefEqProofs [c56, hashD_byV, c56_k0]
 refine w_drwX (fun _ => .val) [] (by decide +kernel) ?_
 have hbv : V.byVal ⟨[.cells [Wd K0, Wd K1], .cells (byV t)], []⟩ (.sl 1 0 32 1) = some (.d (.list (byteRows t))) := by
  simp [V.byVal, V.rows, htk, ofD_byV, hrw]
 simp -implicitDefEqProofs [room_zero, sliceArrV, boundV, asIdx, hl, mkAgg, ofD]
 refine use_fnN rfl (ds := [.da [.int .u64 (un K0), .int .u64 (un K1)], .d (.list (byteRows t))]) (by simp only [byVals, bv_da, hbv]) (s_Hash K0 K1 ht) rfl ?_
 have h1 : (un (hash K0 K1 t)).tmod 4294967295 = (((hash K0 K1 t).toNat % 4294967295 : Nat) : Int) := by
  rw [Int.tmod_eq_emod_of_nonneg (by simp [un])]
  simp [un]
 have hm : (hash K0 K1 t).toNat % 4294967295 < 4294967295 := Nat.mod_lt _ (by decide)
 have hsd : short K0 K1 t = (((hash K0 K1 t).toNat % 4294967295 + 1 : Nat) : Int) := rfl
 rw [hsd]
 generalize (hash K0 K1 t).toNat % 4294967295 = z at *
 have w1 : IntKind.u32.wrap (z : Int) = z := by
  simp only [IntKind.wrap, IntKind.signed, IntKind.bits]; simp; omega
 have w2 : IntKind.u32.wrap ((z : Int) + 1) = ((z + 1 : Nat) : Int) := by
  simp only [IntKind.wrap, IntKind.signed, IntKind.bits]; simp; omega
 simp -implicitDefEqProofs [h1, w1, w2]

theorem s_short (K0 K1 : W64) {t : List UInt8} (ht : t.length = 32) : Dn.Call Γ cx .val 75 [.da [.int .u64 (un K0), .int .u64 (un K1)], .da (hashD t)] St.empty fun v _ => v = X (short K0 K1 t) := by
 refine Dn.Call.body (fc := c75) rfl ?_
 have hl := byV_len t
 rw [ht] at hl
 have htk : (byV t).take 32 = byV t := List.take_of_length_le (by omega)
 simp -implicitDefEqProofs [c75, hashD_byV, c75_k0, mkAgg, ofD, hl, htk, ofD_byV]
 refine use_fn rfl (s_Short K0 K1 ht) rfl ?_
 simp -implicitDefEqProofs
end Go.Proofs.Ytmlkdfjojoophaa.T

namespace Go.Proofs.Ytmlkdfjojoophaa.T
open Go.Dn
set_option linter.unusedSimpArgs false
set_option linter.unusedVariables false
open Sip

theorem hashD_len (l : List UInt8) : (hashD l).length = l.length := by simp [hashD]
def hRows (l : List (List UInt8)) : List (List D) := l.map hashD
theorem hRows_len (M : List (List UInt8)) : (hRows M).length = M.length := by simp [hRows]
theorem uRows_len (M : List Int) : (uRows M).length = M.length := by simp [uRows]
theorem uRows_fit (l : List Int) : ∀ r ∈ uRows l, r.length = 1 := by
 intro r hr
 obtain ⟨b, _, rfl⟩ := List.mem_map.1 hr
 rfl
theorem hRows_fit {l : List (List UInt8)} (h : ∀ x ∈ l, x.length = 32) : ∀ r ∈ hRows l, r.length = 32 := by
 intro r hr
 obtain ⟨b, hb, rfl⟩ := List.mem_map.1 hr
 rw [hashD_len, h b hb]
theorem frz_hash (t : List UInt8) : ofD ((hashD t).map (frzV ∘ V.d)) = some (hashD t) := by
 induction t with
 | nil => rfl
 | cons a r ih => simp only [hashD, List.map_cons, Function.comp, frzV, ofD] at ih ⊢; rw [ih]

def gt : List Item → Int → Option (List UInt8)
 | [], _ => none
 | p :: r, i => if p.1 = i then some p.2 else gt r i
theorem gt_none {i : Int} : ∀ {M : List Item}, gt M i = none → ∀ p ∈ M, p.1 ≠ i
 | [], _, p, hp => by cases hp
 | q :: r, h, p, hp => by
  simp only [gt] at h
  split at h
  ·cases h
  ·rename_i hq
   rcases List.mem_cons.1 hp with rfl | hp
   ·exact hq
   ·exact gt_none h p hp
theorem gt_some {i : Int} {t : List UInt8} : ∀ {M : List Item}, gt M i = some t → (i, t) ∈ M
 | [], h => by cases h
 | q :: r, h => by
  simp only [gt] at h
  split at h
  ·rename_i hq
   cases h
   rw [← hq]
   exact List.mem_cons_self ..
  ·exact List.mem_cons_of_mem _ (gt_some h)

theorem inj_X {a b : Int} (h : X a = X b) : a = b := by
 simp only [V.d.injEq, D.int.injEq] at h
 exact h.2
theorem keys_nodup {es : List Ent} {clock : Nat} {M : List Item} (h : Mp es clock M) (hp : Plain M) : (es.map fun x => x.2.1).Nodup := by
 refine (keys_of h).nodup_iff.2 ?_
 rw [List.map_map]
 show List.Pairwise _ _
 rw [List.pairwise_map]
 exact hp.up.imp fun {a b} h e => by have : a.1 = b.1 := inj_X e; omega
theorem ent_of {es : List Ent} {clock : Nat} {M : List Item} (h : Mp es clock M) {i : Int} {t : List UInt8} (hm : (i, t) ∈ M) : ∃ j b : Nat, es[j]? = some (b, X i, V.da (hashD t)) := by
 have : pairV (i, t) ∈ M.map pairV := List.mem_map.2 ⟨_, hm, rfl⟩
 obtain ⟨x, hx, hx2⟩ := List.mem_map.1 (h.pm.mem_iff.2 this)
 obtain ⟨j, hj, rfl⟩ := List.getElem_of_mem hx
 refine ⟨j, es[j].1, ?_⟩
 rw [List.getElem?_eq_getElem hj]
 have : es[j].2 = (X i, V.da (hashD t)) := hx2
 rw [← this]
theorem key_of_ent {es : List Ent} {clock : Nat} {M : List Item} (h : Mp es clock M) {x : Ent} (hx : x ∈ es) : ∃ p ∈ M, x.2 = pairV p := by
 have := h.pm.mem_iff.1 (List.mem_map.2 ⟨x, hx, rfl⟩)
 obtain ⟨p, hp, e⟩ := List.mem_map.1 this
 exact ⟨p, hp, e.symm⟩
theorem keys_ok {es : List Ent} {clock : Nat} {M : List Item} (h : Mp es clock M) (hp : Plain M) : keysOk false [.int .u32] es := by
 intro x hx
 obtain ⟨p, hpm, e⟩ := key_of_ent h hx
 rw [e]
 have := hp.i p hpm
 have e1 : IntKind.u32.min = 0 := rfl
 have e2 : IntKind.u32.max = 4294967295 := rfl
 simp [pairV, keyOk, fitsAll, Lf.fits, e1, e2, this.1, this.2]

theorem find_gt {es : List Ent} {clock : Nat} {M : List Item} (h : Mp es clock M) (hp : Plain M) (i : Int) : findM (X i) es = (gt M i).map fun t => V.da (hashD t) := by
 cases hg : gt M i with
 | none =>
  refine (findM_none fun x hx e => ?_).1
  obtain ⟨p, hpm, e2⟩ := key_of_ent h hx
  rw [e2] at e
  exact gt_none hg p hpm (inj_X e)
 | some t =>
  obtain ⟨j, b, hj⟩ := ent_of h (gt_some hg)
  exact (findM_at (keys_nodup h hp) hj).1

theorem look_gt {σ : St} {q : Nat} {es : List Ent} {clock : Nat} {M : List Item} (hm : σ.objs[q]? = some (.map es clock)) (h : Mp es clock M) (hp : Plain M) {i : Int} (h0 : 0 ≤ i) (h1 : i ≤ 4294967295) (z : V) (ok : Bool) :
  lookupV σ false [.int .u32] z ok (.map q) (X i) = some (match gt M i with
   | some t => if ok then .tup [.da (hashD t), B true] else .da (hashD t)
   | none => if ok then .tup [z, B false] else z) := by
 have hk : keyOk false [.int .u32] (X i) = true := by
  have e1 : IntKind.u32.min = 0 := rfl
  have e2 : IntKind.u32.max = 4294967295 := rfl
  simp [keyOk, fitsAll, Lf.fits, e1, e2, h0, h1]
 simp only [lookupV, lookM, hk, hm, keys_ok h hp, find_gt h hp]
 cases gt M i <;> simp
end Go.Proofs.Ytmlkdfjojoophaa.T

namespace Go.Proofs.Ytmlkdfjojoophaa.T
open Go.Dn
attribute [local simp] body_eq globEnv GB List.map_nil List.map_cons List.append_nil w_rangeF i_next i_makeMap i_range i_update i_delete i_entry i_clone entryV cloneV q_rndA q_rndB_n q_rndB_e q_rndB_r setAll w_skip w_ops w_seq w_cond w_block w_exit w_ret q_then_n q_then_e q_then_r q_blk_n q_blk_e q_blk_r q_ops q_cont q_end_n q_end_r q_end_e q_loop_n q_loop_e q_loop_r i_nil i_p i_alloc i_box i_store i_copy i_clear i_call i_callv i_when t_nil t_p t_call t_alloc t_box t_store kept_nil t_copy t_clear q_tcont gsel List.cons_append List.nil_append evalP evalE evalF evalB isObj thaw Opd.ev Env.get Env.set Env.pick putE initEnv evalBin intBin evalUn evalConv goneAll goneOne retV resAll Res.ev tupOf byVals byValsN bv_d bv_da bv_fl bv_tl bn_d bn_da bn_fl bn_tl cx Dn.newObj St.place St.push St.spot St.empty cell_d cell_da cell_agg cell_ref cell_sl cell_fl cell_tl cell_map cell_fn cell_ifc loadAt faddrV partOf extractV mkAgg ofD splice St.setObj fillV
set_option linter.unusedSimpArgs false
set_option linter.unusedVariables false
open Sip

theorem short_bound (K0 K1 : W64) (t : List UInt8) : 1 ≤ short K0 K1 t ∧ short K0 K1 t ≤ 4294967295 := by
 have hm : (hash K0 K1 t).toNat % 4294967295 < 4294967295 := Nat.mod_lt _ (by decide)
 have hsd : short K0 K1 t = (((hash K0 K1 t).toNat % 4294967295 + 1 : Nat) : Int) := rfl
 rw [hsd]
 omega
theorem byV_take {t : List UInt8} (h : t.length = 32) : (byV t).take 32 = byV t := List.take_of_length_le (by rw [byV_len]; omega)

theorem s_ixLen {σ : St} {x q : Nat} {k0 k1 : Int} {es : List Ent} {clock : Nat} {M : List Item} (h : Ix σ x q k0 k1 es clock M) : Dn.Call Γ cx .rd 31 [.ref x 0] σ fun v _ => v = I M.length := by
 refine Dn.Call.body (fc := c31) rfl ?_
 have hel : es.length = M.length := by simpa using h.mp.pm.length_eq
 simp -implicitDefEqProofs [c31, c31_k2, eqV, V.isNil, Opd.isC, c31_k1, c31_k0, nilCheckV, h.o, lenT, h.m, hel]
 exact ⟨fun i hi => rfl, fun t k ht => ht⟩

theorem ofD_z : ofD (List.replicate 32 (V.d (.int .u8 0))) = some (List.replicate 32 (.int .u8 0)) := rfl
theorem hz_map : (List.replicate 32 (D.int .u8 0)).map V.d = List.replicate 32 (V.d (.int .u8 0)) := by rw [List.map_replicate]
def gotV (o : Option (List UInt8)) : V := match o with
 | some t => .tup [.da (hashD t), B true]
 | none => .tup [.da (List.replicate 32 (.int .u8 0)), B false]

theorem s_ixGet {σ : St} {x q : Nat} {k0 k1 : Int} {es : List Ent} {clock : Nat} {M : List Item} (h : Ix σ x q k0 k1 es clock M) {i : Int} (h0 : 0 ≤ i) (h1 : i ≤ 4294967295) : Dn.Call Γ cx .rd 59 [.ref x 0, X i] σ fun v _ => v = gotV (gt M i) := by
 refine Dn.Call.body (fc := c59) rfl ?_
 have hxl : x < σ.objs.length := (List.getElem?_eq_some_iff.1 h.o).1
 have ox : ∀ l : List Dn.Obj, (σ.objs ++ l)[x]? = some (.cells [U k0, U k1, .map q]) := fun l => by rw [List.getElem?_append_left hxl]; exact h.o
 have hql : q < σ.objs.length := (List.getElem?_eq_some_iff.1 h.m).1
 have hz : (List.replicate 32 (D.int .u8 0)).map V.d = List.replicate 32 (V.d (.int .u8 0)) := by rw [List.map_replicate]
 have hlk := fun o => look_gt (σ := ⟨σ.objs ++ [o], σ.toks⟩) (q := q) (by simp only; rw [List.getElem?_append_left hql]; exact h.m) h.mp h.pl h0 h1 (.da (List.replicate 32 (.int .u8 0))) true
 simp -implicitDefEqProofs [-List.reduceReplicate, c59, c59_k3, eqV, V.isNil, Opd.isC, c59_k2, c59_k1, nilCheckV, ox, hlk]
 have kp : ∀ l : List Dn.Obj, Keeps σ ⟨σ.objs ++ l, σ.toks⟩ := fun l => ⟨fun i hi => by simp [List.getElem?_append_left hi], fun t k ht => ht⟩
 cases hg : gt M i with
 | none =>
  simp -implicitDefEqProofs [-List.reduceReplicate, c59_k0, gotV, ofD_z, hz_map]
  exact kp _
 | some t =>
  have h32 : t.length = 32 := h.pl.h _ (gt_some hg)
  simp -implicitDefEqProofs [-List.reduceReplicate, c59_k0, gotV, hashD_byV, byV_len, h32, byV_take h32, ofD_byV]
  exact kp _

theorem hashD_inj {a b : List UInt8} (h : hashD a = hashD b) : a = b := by
 induction a generalizing b with
 | nil => cases b with
  | nil => rfl
  | cons => simp [hashD] at h
 | cons x r ih => cases b with
  | nil => simp [hashD] at h
  | cons y s =>
   simp only [hashD, List.map_cons, List.cons.injEq, D.int.injEq, true_and] at h
   obtain ⟨h1, h2⟩ := h
   have : x = y := UInt8.toNat_inj.1 (by omega)
   rw [this, ih h2]
theorem fits_hash : ∀ l : List UInt8, fitsAll (List.replicate l.length (.int .u8)) (hashD l) = true
 | [] => rfl
 | b :: r => by
  have h1 : b.toNat < 256 := b.toNat_lt
  have h2 : Lf.fits (.int .u8) (.int .u8 (b.toNat : Int)) = true := by
   have h0 : IntKind.u8.min ≤ (b.toNat : Int) := by have : IntKind.u8.min = 0 := rfl; omega
   have h3 : (b.toNat : Int) ≤ IntKind.u8.max := by have : IntKind.u8.max = 255 := rfl; omega
   simp [Lf.fits, h0, h3]
  have ih := fits_hash r
  simp only [hashD, List.map_cons, List.length_cons, List.replicate_succ, fitsAll, h2, Bool.true_and] at ih ⊢
  exact ih
theorem eq_hash {a b : List UInt8} (ha : a.length = 32) (hb : b.length = 32) (x y : Bool) : eqV .flat (List.replicate 32 (.int .u8)) (.da (hashD a)) (.da (hashD b)) x y = some (decide (a = b)) := by
 have h1 := fits_hash a
 have h2 := fits_hash b
 rw [ha] at h1
 rw [hb] at h2
 simp only [eqV, h1, h2, Bool.and_self, if_true]
 congr 1
 by_cases h : a = b
 ·subst h; simp
 ·have : hashD a ≠ hashD b := fun e => h (hashD_inj e)
  simp [h, this]

end Go.Proofs.Ytmlkdfjojoophaa.T

namespace Go.Proofs.Ytmlkdfjojoophaa.T
open Go.Dn
set_option linter.unusedSimpArgs false
set_option linter.unusedVariables false
open Sip

def Hon (K0 K1 : W64) (M : List Item) : Prop := ∀ p ∈ M, p.1 = short K0 K1 p.2
def ins (i : Int) (t : List UInt8) : List Item → List Item
 | [] => [(i, t)]
 | p :: r => if i < p.1 then (i, t) :: p :: r else p :: ins i t r
def putI (i : Int) (t : List UInt8) (M : List Item) : List Item × Int := match gt M i with
 | some u => (M, if u = t then 6 else 5)
 | none => (ins i t M, 0)
theorem ins_perm (i : Int) (t : List UInt8) : ∀ M : List Item, (ins i t M).Perm ((i, t) :: M)
 | [] => List.Perm.refl _
 | p :: r => by
  simp only [ins]
  split
  ·exact List.Perm.refl _
  ·exact ((ins_perm i t r).cons p).trans (List.Perm.swap _ _ _)
theorem ins_up {i : Int} {t : List UInt8} : ∀ {M : List Item}, M.Pairwise (fun a b => a.1 < b.1) → (∀ p ∈ M, p.1 ≠ i) → (ins i t M).Pairwise fun a b => a.1 < b.1
 | [], _, _ => by simp [ins]
 | p :: r, h, hn => by
  simp only [List.pairwise_cons] at h
  have hp := hn p (by simp)
  simp only [ins]
  split
  ·rename_i hlt
   simp only [List.pairwise_cons]
   refine ⟨fun a ha => ?_, h⟩
   rcases List.mem_cons.1 ha with rfl | ha
   ·exact hlt
   ·have := h.1 a ha
    omega
  ·rename_i hlt
   simp only [List.pairwise_cons]
   refine ⟨fun a ha => ?_, ins_up h.2 fun q hq => hn q (by simp [hq])⟩
   rcases List.mem_cons.1 ((ins_perm i t r).mem_iff.1 ha) with rfl | ha
   ·simp only
    omega
   ·exact h.1 a ha
theorem Plain.ins {M : List Item} (h : Plain M) {i : Int} {t : List UInt8} (ht : t.length = 32) (h0 : 0 ≤ i) (h1 : i ≤ 4294967295) (hg : gt M i = none) (hn : M.length ≤ 89) : Plain (ins i t M) := by
 have hp := ins_perm i t M
 refine ⟨ins_up h.up (gt_none hg), fun p hm => ?_, fun p hm => ?_, by rw [hp.length_eq]; simp; omega⟩
 ·rcases List.mem_cons.1 (hp.mem_iff.1 hm) with rfl | hm
  ·exact ht
  ·exact h.h p hm
 ·rcases List.mem_cons.1 (hp.mem_iff.1 hm) with rfl | hm
  ·exact ⟨h0, h1⟩
  ·exact h.i p hm
theorem Hon.ins {K0 K1 : W64} {M : List Item} (h : Hon K0 K1 M) (t : List UInt8) : Hon K0 K1 (ins (short K0 K1 t) t M) := by
 intro p hm
 rcases List.mem_cons.1 ((ins_perm _ t M).mem_iff.1 hm) with rfl | hm
 ·rfl
 ·exact h p hm
theorem Mp.put {es : List Ent} {clock : Nat} {M : List Item} (h : Mp es clock M) (i : Int) (t : List UInt8) : Mp (es ++ [(clock, X i, .da (hashD t))]) (clock + 1) (ins i t M) := by
 refine ⟨⟨?_, fun x hx => ?_⟩, ?_⟩
 ·rw [List.map_append, List.nodup_append]
  refine ⟨h.bn.nd, by simp, ?_⟩
  intro a ha b hb
  simp at hb
  obtain ⟨x, hx, rfl⟩ := List.mem_map.1 ha
  have := h.bn.lt x hx
  omega
 ·rcases List.mem_append.1 hx with hx | hx
  ·have := h.bn.lt x hx
   omega
  ·simp at hx
   subst hx
   simp
 ·rw [List.map_append]
  refine (List.perm_append_comm).trans ?_
  refine (h.pm.cons (pairV (i, t))).trans ?_
  exact ((ins_perm i t M).map pairV).symm
end Go.Proofs.Ytmlkdfjojoophaa.T

namespace Go.Proofs.Ytmlkdfjojoophaa.T
open Go.Dn
attribute [local simp] body_eq globEnv GB List.map_nil List.map_cons List.append_nil w_rangeF i_next i_makeMap i_range i_update i_delete i_entry i_clone entryV cloneV q_rndA q_rndB_n q_rndB_e q_rndB_r setAll w_skip w_ops w_seq w_cond w_block w_exit w_ret q_then_n q_then_e q_then_r q_blk_n q_blk_e q_blk_r q_ops q_cont q_end_n q_end_r q_end_e q_loop_n q_loop_e q_loop_r i_nil i_p i_alloc i_box i_store i_copy i_clear i_call i_callv i_when t_nil t_p t_call t_alloc t_box t_store kept_nil t_copy t_clear q_tcont gsel List.cons_append List.nil_append evalP evalE evalF evalB isObj thaw Opd.ev Env.get Env.set Env.pick putE initEnv evalBin intBin evalUn evalConv goneAll goneOne retV resAll Res.ev tupOf byVals byValsN bv_d bv_da bv_fl bv_tl bn_d bn_da bn_fl bn_tl cx Dn.newObj St.place St.push St.spot St.empty cell_d cell_da cell_agg cell_ref cell_sl cell_fl cell_tl cell_map cell_fn cell_ifc loadAt faddrV partOf extractV mkAgg ofD splice St.setObj fillV
set_option linter.unusedSimpArgs false
set_option linter.unusedVariables false
open Sip

def errV (c : Int) : V := if c = 0 then .d .nili else .d (.iface 39 (.int .i64 c))

theorem Ix.mono {σ s : St} {x q : Nat} {k0 k1 : Int} {es : List Ent} {clock : Nat} {M : List Item} (h : Ix σ x q k0 k1 es clock M) (hf : Fr [] σ s) : Ix s x q k0 k1 es clock M := ⟨hf.get h.o (by simp), hf.get h.m (by simp), h.mp, h.pl⟩
theorem Ix.ne {σ : St} {x q : Nat} {k0 k1 : Int} {es : List Ent} {clock : Nat} {M : List Item} (h : Ix σ x q k0 k1 es clock M) : x ≠ q := fun e => by
 have h1 := h.o
 have h2 := h.m
 rw [e, h2] at h1
 cases h1

theorem put_k0 {σ0 σ1 : St} {x q n : Nat} {k0 k1 : Int} {es : List Ent} {clock : Nat} {M : List Item} (h : Ix σ1 x q k0 k1 es clock M) (hf : Fr [] σ0 σ1) (htk : σ1.toks = σ0.toks) (hn : M.length ≤ 89) {t : List UInt8} (ht : t.length = 32) {i : Int} (b1 : 0 ≤ i) (b2 : i ≤ 4294967295) (ot : σ1.objs[n]? = some (.cells (byV t))) (hg : gt M i = none) :
  wcode (Dn.Call Γ cx) cx c57_k0 [(0, .ref x 0), (3, .ref n 0), (5, X i), (34, B false)] σ1 (endQ .raw σ0 [.tmp 4] fun v s => v = errV 0 ∧ (∃ es' clock', Ix s x q k0 k1 es' clock' (ins i t M)) ∧ Fr [q] σ0 s ∧ s.toks = σ0.toks) := by
 have hk : keyOk false [.int .u32] (X i) = true := by
  have e1 : IntKind.u32.min = 0 := rfl
  have e2 : IntKind.u32.max = 4294967295 := rfl
  simp [keyOk, fitsAll, Lf.fits, e1, e2, b1, b2]
 have hup : updateV σ1 false [.int .u32] (.map q) (X i) (.da (hashD t)) = some (.gone, σ1.setObj q (.map (es ++ [(clock, X i, .da (hashD t))]) (clock + 1))) := by
  have : findM (X i) es = none := by rw [find_gt h.mp h.pl, hg]; rfl
  simp [updateV, h.m, hk, keys_ok h.mp h.pl, this, V.cells]
 simp only [c57_k0, w_seq]
 refine w_drw (fun _ => .val) [3] (by decide +kernel) ?_
 simp only [room_zero]
 simp -implicitDefEqProofs [-List.reduceReplicate, nilCheckV, h.o, ot, byV_len, ht, byV_take ht, ofD_byV]
 refine t_app_f (v := .gone) (s := σ1.setObj q (.map (es ++ [(clock, X i, .da (hashD t))]) (clock + 1))) ?_ ?_
 ·simp -implicitDefEqProofs [hup]
 have hql : q < σ1.objs.length := (List.getElem?_eq_some_iff.1 h.m).1
 have hix : Ix (σ1.setObj q (.map (es ++ [(clock, X i, .da (hashD t))]) (clock + 1))) x q k0 k1 (es ++ [(clock, X i, .da (hashD t))]) (clock + 1) (ins i t M) :=
  ⟨by simp only [St.setObj]; rw [List.getElem?_set_ne (fun e => h.ne e.symm)]; exact h.o, by simp only [St.setObj]; rw [List.getElem?_set_self hql], h.mp.put i t, h.pl.ins ht b1 b2 hg hn⟩
 have hfr : Fr [q] σ0 (σ1.setObj q (.map (es ++ [(clock, X i, .da (hashD t))]) (clock + 1))) := (hf.mono (F' := [q]) (by simp)).trans ⟨by simp [St.setObj], fun r hr _ => by simp only [St.setObj]; rw [List.getElem?_set_ne (fun e => hr (by simp [e]))]⟩
 have htk2 : (σ1.setObj q (.map (es ++ [(clock, X i, .da (hashD t))]) (clock + 1))).toks = σ0.toks := htk
 generalize σ1.setObj q (.map (es ++ [(clock, X i, .da (hashD t))]) (clock + 1)) = s2 at *
 simp -implicitDefEqProofs [errV]
 exact ⟨⟨_, _, hix⟩, hfr, htk2⟩

theorem put_rest {σ0 σ1 : St} {x q n : Nat} {k0 k1 : Int} {es : List Ent} {clock : Nat} {M : List Item} (h : Ix σ1 x q k0 k1 es clock M) (hf : Fr [] σ0 σ1) (htk : σ1.toks = σ0.toks) (hq0 : q < σ0.objs.length) (hn : M.length ≤ 89) {t : List UInt8} (ht : t.length = 32) {i : Int} (b1 : 0 ≤ i) (b2 : i ≤ 4294967295) (ot : σ1.objs[n]? = some (.cells (byV t))) :
  wcode (Dn.Call Γ cx) cx c57_k5 [(0, .ref x 0), (3, .ref n 0), (5, X i)] σ1 (endQ .raw σ0 [.tmp 4] fun v s => v = errV (putI i t M).2 ∧ (∃ es' clock', Ix s x q k0 k1 es' clock' (putI i t M).1) ∧ Fr [q] σ0 s ∧ s.toks = σ0.toks) := by
 have hzm := hz_map
 have hzl : (List.replicate 32 (V.d (.int .u8 0))).length = 32 := List.length_replicate
 have hzd : (List.replicate 32 (V.d (.int .u8 0))).drop 32 = [] := List.drop_of_length_le (by rw [hzl]; omega)
 have hlk := look_gt h.m h.mp h.pl (i := i) b1 b2 (.da (List.replicate 32 (.int .u8 0))) true
 have hnl : n < σ1.objs.length := (List.getElem?_eq_some_iff.1 ot).1
 have ot2 : ∀ o, (σ1.objs ++ [o])[n]? = some (.cells (byV t)) := fun o => by rw [List.getElem?_append_left hnl]; exact ot
 have f2 : ∀ o, Fr [] σ1 ⟨σ1.objs ++ [o], σ1.toks⟩ := fun o => ⟨by simp, fun r _ hr => by simp only; rw [List.getElem?_append_left hr]⟩
 cases hg : gt M i with
 | some u =>
  have hu : u.length = 32 := h.pl.h _ (gt_some hg)
  rw [hg] at hlk
  have hput : putI i t M = (M, if u = t then 6 else 5) := by simp [putI, hg]
  have hix := h.mono (f2 (.cells (byV u)))
  have hfr := (hf.trans (f2 (.cells (byV u)))).mono (F' := [q]) (by simp)
  clear hnl
  simp -implicitDefEqProofs [-List.reduceReplicate, c57_k5, nilCheckV, h.o, hlk, hashD_byV, byV_len, hu, hzd]
  simp -implicitDefEqProofs [-List.reduceReplicate, c57_k4, c57_k3, ot2, byV_len, hu, ht, byV_take ht, byV_take hu, ofD_byV, eq_hash hu ht]
  by_cases hut : u = t
  ·simp -implicitDefEqProofs [hut, c57_k2, mkifV, hput, errV]
   rw [hut] at hix hfr
   exact ⟨⟨_, _, hix⟩, hfr, htk⟩
  ·simp -implicitDefEqProofs [hut, c57_k2, c57_k1, mkifV, hput, errV]
   exact ⟨⟨_, _, hix⟩, hfr, htk⟩
 | none =>
  rw [hg] at hlk
  have hput : putI i t M = (ins i t M, 0) := by simp [putI, hg]
  simp -implicitDefEqProofs [-List.reduceReplicate, c57_k5, nilCheckV, h.o, hlk, hzm, hzl, hzd]
  simp -implicitDefEqProofs [-List.reduceReplicate, c57_k4, c57_k3, c57_k2, c57_k1]
  rw [hput]
  exact put_k0 (h.mono (f2 _)) (hf.trans (f2 _)) htk hn ht b1 b2 (ot2 _) hg
theorem s_ixPut {σ : St} {x q : Nat} {K0 K1 : W64} {es : List Ent} {clock : Nat} {M : List Item} (h : Ix σ x q (un K0) (un K1) es clock M) (hn : M.length ≤ 89) {t : List UInt8} (ht : t.length = 32) :
  Dn.Call Γ cx .raw 57 [.ref x 0, .da (hashD t)] σ fun v s => v = errV (putI (short K0 K1 t) t M).2 ∧ (∃ es' clock', Ix s x q (un K0) (un K1) es' clock' (putI (short K0 K1 t) t M).1) ∧ Fr [q] σ s ∧ s.toks = σ.toks := by
 refine Dn.Call.body (fc := c57) rfl ?_
 have hxl : x < σ.objs.length := (List.getElem?_eq_some_iff.1 h.o).1
 have hql : q < σ.objs.length := (List.getElem?_eq_some_iff.1 h.m).1
 simp -implicitDefEqProofs [-List.reduceReplicate, c57, c57_k8, eqV, V.isNil, Opd.isC, c57_k7, c57_k6, hashD_byV]
 obtain ⟨σ1, hσ1⟩ : ∃ s : St, (⟨σ.objs ++ [.cells (byV t)], σ.toks⟩ : St) = s := ⟨_, rfl⟩
 rw [hσ1]
 have f1 : Fr [] σ σ1 := ⟨by rw [← hσ1]; simp, fun r _ hr => by rw [← hσ1]; simp only; rw [List.getElem?_append_left hr]⟩
 have h1 := h.mono f1
 have ot : σ1.objs[σ.objs.length]? = some (.cells (byV t)) := by rw [← hσ1]; simp
 have hl1 : σ1.objs.length = σ.objs.length + 1 := by rw [← hσ1]; simp
 have tk1 : σ1.toks = σ.toks := by rw [← hσ1]
 clear hσ1
 obtain ⟨b1, b2⟩ := short_bound K0 K1 t
 have hsh := s_short K0 K1 ht
 generalize short K0 K1 t = id at *
 refine w_drw (fun _ => .val) [3] (by decide +kernel) ?_
 simp -implicitDefEqProofs [-List.reduceReplicate, nilCheckV, room_zero, h1.o, ot, byV_len, ht, byV_take ht, ofD_byV, mkAgg, ofD]
 refine use_fnN rfl (ds := [.da [.int .u64 (un K0), .int .u64 (un K1)], .da (hashD t)]) (by simp only [byVals, bv_da]) hsh rfl ?_
 simp only [q_tcont, putE, Env.set, t_p, gsel, evalP, Opd.ev, Env.get]
 simp only [t_nil]
 simp only [q_ops]
 simp -implicitDefEqProofs [-List.reduceReplicate]
 exact put_rest h1 f1 tk1 hql hn ht (by omega) b2 ot

structure Two (σ0 s : St) (sa sb : Nat) (a b : V) (ra rb : List (List D)) : Prop where
 pa : App s sa a ra
 pb : App s sb b rb
 oa : ∀ t, Dn.own a = some t → σ0.toks.length ≤ t
 ob : ∀ t, Dn.own b = some t → σ0.toks.length ≤ t
 ne : ∀ t, Dn.own a = some t → Dn.own b ≠ some t
 kp : ∀ (t k : Nat), σ0.toks[t]? = some k → s.toks[t]? = some k
 fr : Fr [] σ0 s
theorem Two.nil (σ : St) (sa sb : Nat) : Two σ σ sa sb (.d .nils) (.d .nils) [] [] := ⟨.nil, .nil, (fun t h => nomatch h), (fun t h => nomatch h), (fun t h => nomatch h), fun t k h => h, Fr.refl _ _⟩
theorem Two.swap {σ0 s : St} {sa sb : Nat} {a b : V} {ra rb : List (List D)} (h : Two σ0 s sa sb a b ra rb) : Two σ0 s sb sa b a rb ra := ⟨h.pb, h.pa, h.ob, h.oa, fun t h1 h2 => h.ne t h2 h1, h.kp, h.fr⟩
theorem own_lt {σ : St} {sz : Nat} {v : V} {rows : List (List D)} (h : App σ sz v rows) {t : Nat} (ho : Dn.own v = some t) : t < σ.toks.length := by
 cases h with
 | nil => cases ho
 | fl => cases ho
 | tl rows t' st h => cases ho; exact (List.getElem?_eq_some_iff.1 h).1
theorem Two.push {σ0 s : St} {sa sb : Nat} {a b : V} {ra rb : List (List D)} (h : Two σ0 s sa sb a b ra rb) {bytes : Nat} (hpos : 0 < sa) (hfr : ∀ r ∈ ra, r.length = sa) {y : List D} (hy : y.length = sa) (hb : (ra.length + 1) * bytes ≤ 140737488355328) (h63 : ra.length + 1 ≤ 9223372036854775807) :
  ∃ a' s', (∀ tg, appendV s tg sa bytes a [y] = some (a', s')) ∧ Two σ0 s' sa sb a' b (ra ++ [y]) rb ∧ s'.objs = s.objs := by
 obtain ⟨a', s', hap, happ, ho, ht, _⟩ := h.pa.push (bytes := bytes) hpos hfr (ys := [y]) (by simp [hy]) (by simpa using hb) (by simpa using h63)
 refine ⟨a', s', hap, ⟨happ, h.pb.other ht (fun t hb ha => h.ne t ha hb), fun t hn => ?_, h.ob, fun t hn hb => ?_, fun t k hk => ?_, ⟨by rw [ho]; exact h.fr.len, fun r hr hl => by rw [ho]; exact h.fr.at_ r hr hl⟩⟩, ho⟩
 ·rcases ht.own with e | ⟨t', e, hl⟩
  ·rw [e] at hn; exact h.oa t hn
  ·rw [e] at hn
   cases hn
   have : σ0.toks.length ≤ s.toks.length := by
    refine Nat.le_of_not_lt fun hlt => ?_
    have h1 : σ0.toks[s.toks.length]? = some σ0.toks[s.toks.length] := by simp [hlt]
    have h2 := (List.getElem?_eq_some_iff.1 (h.kp _ _ h1)).1
    omega
   omega
 ·rcases ht.own with e | ⟨t', e, hl⟩
  ·rw [e] at hn; exact h.ne t hn hb
  ·rw [e] at hn
   cases hn
   have := own_lt h.pb hb
   omega
 ·refine ht.other t k (h.kp t k hk) fun e => ?_
  have := h.oa t e
  have := (List.getElem?_eq_some_iff.1 hk).1
  omega
theorem Two.grow {σ0 s s' : St} {sa sb : Nat} {a b : V} {ra rb : List (List D)} (h : Two σ0 s sa sb a b ra rb) (hf : Fr [] s s') (ht : s'.toks = s.toks) : Two σ0 s' sa sb a b ra rb :=
 ⟨h.pa.toks ht, h.pb.toks ht, h.oa, h.ob, h.ne, fun t k hk => by rw [ht]; exact h.kp t k hk, h.fr.trans hf⟩
theorem Two.keeps {σ0 s : St} {sa sb : Nat} {a b : V} {ra rb : List (List D)} (h : Two σ0 s sa sb a b ra rb) : Keeps σ0 s := ⟨fun i hi => h.fr.at_ i (by simp) hi, h.kp⟩

theorem uRows_at {l : List Int} {i : Nat} {h : Int} (hi : l[i]? = some h) : (uRows l)[i]? = some [.int .u32 h] := by simp [uRows, hi]
theorem hRows_at {l : List (List UInt8)} {i : Nat} {h : List UInt8} (hi : l[i]? = some h) : (hRows l)[i]? = some (hashD h) := by simp [hRows, hi]
def InvIdx (x : D) (L : List Int) (h : Int) (m : Nat) (e : Env) (σ : St) : Prop := ∃ i : Nat, e = [(0, .d x), (1, X h), (7, I L.length), (8, I i)] ∧ i ≤ L.length ∧ m = L.length - i ∧ σ = St.empty ∧ h ∉ L.take i
theorem s_Index {x : D} {L : List Int} (hx : LV (.d x) (uRows L)) {h : Int} (hlen : L.length ≤ 1000000) : Dn.Call Γ cx .val 71 [.d x, X h] St.empty fun v _ => ∃ n : Int, v = I n ∧ (0 ≤ n ↔ h ∈ L) := by
 refine Dn.Call.body (fc := c71) rfl ?_
 have hlx : ∀ σ, lenT σ .slice (.d x) = some L.length := fun σ => by rw [hx.len, uRows_len]
 simp -implicitDefEqProofs [c71, c71_k7, c71_k6, hlx]
 refine wloopI (InvIdx x L h) (m := L.length) ⟨0, rfl, by omega, rfl, rfl, by simp⟩ ?_
 rintro m e σ ⟨i, rfl, hi, rfl, rfl, hni⟩
 by_cases hil : i < L.length
 ·obtain ⟨g, hg⟩ : ∃ g, L[i]? = some g := ⟨L[i], by simp [hil]⟩
  have hia := fun σ => hx.iaddr σ (k := .i64) (sz := 1) (uRows_at hg) rfl
  have hii : (i : Int) < L.length := by omega
  have hgm := List.mem_of_getElem? hg
  have htk : L.take (i + 1) = L.take i ++ [g] := by rw [List.take_add_one, hg]; rfl
  clear hil
  simp -implicitDefEqProofs [c71_l5, c71_k4, hii, c71_k3, c71_k2, c71_k1, hia, c71_k0]
  by_cases hhg : h = g
  ·subst hhg
   simp -implicitDefEqProofs
   exact hgm
  ·simp -implicitDefEqProofs [hhg, wrap_i64 (n := (i : Int) + 1) (by omega) (by omega)]
   refine ⟨L.length - (i + 1), by omega, i + 1, rfl, by omega, rfl, rfl, ?_⟩
   rw [htk]
   simp [hni, hhg]
 ·obtain rfl : i = L.length := by omega
  rw [List.take_length] at hni
  simp -implicitDefEqProofs [c71_l5, c71_k4]
  exact hni

theorem s_Contains {x : D} {L : List Int} (hx : LV (.d x) (uRows L)) {h : Int} (hlen : L.length ≤ 1000000) : Dn.Call Γ cx .val 54 [.d x, X h] St.empty fun v _ => v = B (decide (h ∈ L)) := by
 refine Dn.Call.body (fc := c54) rfl ?_
 simp -implicitDefEqProofs [c54, c54_k0]
 refine use_val rfl (s_Index hx hlen) fun v s ⟨n, hv, hn⟩ => ?_
 subst hv
 refine ⟨rfl, fun _ => rfl, ?_⟩
 simp -implicitDefEqProofs
 by_cases hm : h ∈ L
 ·simp [hm, hn.2 hm]
 ·have : ¬ (0 ≤ n) := fun e => hm (hn.1 e)
  simp [hm, this]

end Go.Proofs.Ytmlkdfjojoophaa.T
