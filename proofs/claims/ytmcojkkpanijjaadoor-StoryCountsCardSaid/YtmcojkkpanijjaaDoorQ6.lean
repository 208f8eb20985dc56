import Derived.Test.YtmcojkkpanijjaaDoorQ1
import Derived.Test.YtmcojkkpanijjaaDoorP6
namespace Go.Proofs.YtmcojkkpanijjaaDoor.T
open Go.Dn
attribute [local simp] body_eq globEnv GB List.map_nil List.map_cons List.append_nil w_rangeF i_next i_makeMap i_range i_update i_delete q_rndA q_rndB_n q_rndB_e q_rndB_r setAll w_skip w_ops w_seq w_cond w_block w_exit w_ret q_then_n q_then_e q_then_r q_blk_n q_blk_e q_blk_r q_ops q_cont q_end_n q_end_r q_end_e q_loop_n q_loop_e q_loop_r i_nil i_p i_alloc i_box i_store i_copy i_clear i_call i_callv i_when t_nil t_p t_call t_alloc t_box t_store kept_nil t_copy t_clear q_tcont gsel List.cons_append List.nil_append evalP evalE evalF evalB isObj thaw Opd.ev Env.get Env.set Env.pick putE initEnv evalBin intBin evalUn evalConv goneAll goneOne retV resAll Res.ev tupOf byVals byValsN bv_d bv_da bv_fl bv_tl bn_d bn_da bn_fl bn_tl cx Dn.newObj St.place St.push St.spot St.empty cell_d cell_da cell_agg cell_ref cell_sl cell_fl cell_tl cell_map cell_fn cell_ifc loadAt faddrV partOf extractV mkAgg ofD splice St.setObj fillV
set_option linter.unusedSimpArgs false
set_option linter.unusedVariables false

theorem txB_len (w : Bool) {ins : List SpG} {outs : List CoG} (f : Bool) (hli : ins.length ≤ 30) (hlo : outs.length ≤ 30) (hoi : ∀ s ∈ ins, s.Ok) : 0 < (txB w ins outs f).length ∧ (txB w ins outs f).length ≤ 200000 := by
  have h1 : ∀ l : List SpG, (∀ s ∈ l, s.Ok) → (l.flatMap (spB w)).length ≤ 5060 * l.length := by
    intro l
    induction l with
    | nil => intro _; simp
    | cons s r ih =>
      intro h
      have a := spB_len w (h s (by simp))
      have b := ih fun x hx => h x (by simp [hx])
      simp only [List.flatMap_cons, List.length_append, List.length_cons] at b ⊢
      omega
  have h2 : ∀ l : List CoG, (l.flatMap coB).length = 16 * l.length := by
    intro l
    induction l with
    | nil => rfl
    | cons c r ih => simp only [List.flatMap_cons, List.length_append, List.length_cons, coB_len, ih]; omega
  have a := h1 ins hoi
  have b := h2 outs
  have c := countB_len ins.length
  have d := countB_len outs.length
  unfold txB
  simp only [List.length_append, List.length_singleton]
  omega

theorem s_txBytes {i o : D} {f : Bool} {ins : List SpG} {outs : List CoG} (hi : LV (.d i) (spRows ins)) (ho : LV (.d o) (coRows outs)) (hli : ins.length ≤ 30) (hlo : outs.length ≤ 30) (hoi : ∀ s ∈ ins, s.Ok) (hoo : ∀ c ∈ outs, c.Ok) :
    Dn.Call Γ cx .val 34 [.da [i, o, .bool f]] St.empty fun v _ => v = .d (.list (byteRows (txB true ins outs f))) := by
  refine Dn.Call.body (fc := c34) rfl ?_
  simp -implicitDefEqProofs [c34, c34_k0, mkAgg]
  refine use_fn rfl (s_put (w := true) hi ho hli hlo hoi hoo) rfl ?_
  simp -implicitDefEqProofs

theorem s_txWide {i o : D} {f : Bool} {ins : List SpG} {outs : List CoG} (hi : LV (.d i) (spRows ins)) (ho : LV (.d o) (coRows outs)) (hli : ins.length ≤ 30) (hlo : outs.length ≤ 30) (hoi : ∀ s ∈ ins, s.Ok) (hoo : ∀ c ∈ outs, c.Ok) :
    Dn.Call Γ cx .val 20 [.da [i, o, .bool f]] St.empty fun v _ => v = .da (hashD (Sha.dbl (txB true ins outs f))) := by
  refine Dn.Call.body (fc := c20) rfl ?_
  simp -implicitDefEqProofs [-List.reduceReplicate, c20, c20_k0, mkAgg]
  refine use_fn rfl (s_txBytes hi ho hli hlo hoi hoo) rfl ?_
  obtain ⟨l0, l1⟩ := txB_len true f hli hlo hoi (outs := outs)
  generalize txB true ins outs f = a at *
  simp -implicitDefEqProofs [-List.reduceReplicate, repl, row11, frzV]
  have hxs : LV (.d (.list [[.list (byteRows a)]])) (partRows [(.list (byteRows a), a)]) := .list _
  have hj : joined [((.list (byteRows a) : D), a)] = a := by simp [joined]
  have h2 := s_Double (ps := [(.list (byteRows a), a)]) hxs (by intro p hp; simp at hp; subst hp; exact .list _) (by rw [hj]; omega) (by simp)
  rw [hj] at h2
  refine use_fn rfl h2 (hashD_ps _) ?_
  have hl2 : (Sha.dbl a).length = 32 := Sha.sha_len _
  generalize Sha.dbl a = z at *
  simp -implicitDefEqProofs [-List.reduceReplicate, hashD_byV, byV_len, hashD_len, hl2, V.byVal, ofD_hashD, List.take_of_length_le]

/-! ### gossamerref10 -/
theorem as_list {Γ' : Nat → Option FnC} {f : Nat} {fc : FnC} (hf : Γ' f = some fc) (h1 : fc.res.length = 1) {vs : List V} {l : List UInt8} (h : Dn.Call Γ' cx .raw f vs St.empty fun v s => Own St.empty s v l) : Dn.Call Γ' cx .val f vs St.empty fun v _ => ∃ x, v = .d x ∧ LV (.d x) (byteRows l) :=
  Call.as_val hf h1 h fun v s hv => by
    obtain ⟨d, h1, h2⟩ := hv.app.lv.byVal s
    exact ⟨.d d, h1, d, rfl, h2⟩
theorem n_num {n : Int} (h0 : 0 ≤ n) (h1 : n ≤ 18446744073709551615) (k : Nat) (hk : k = 4 ∨ k = 8) : Dn.Call Γ cx .val 25 [U n, I k] St.empty fun v _ => ∃ x, v = .d x ∧ LV (.d x) (byteRows (low n k)) := by
  refine as_list rfl rfl ?_
  have := s_rNum St.empty n h0 h1 k
  have hn : numB n k = low n k := by
    rcases hk with rfl | rfl <;> rfl
  rw [hn] at this
  exact this
theorem n_hash {t : List UInt8} (h : t.length = 32) : Dn.Call Γ cx .val 26 [.da (hd t)] St.empty fun v _ => ∃ x, v = .d x ∧ LV (.d x) (byteRows t) := as_list rfl rfl (s_rHash St.empty t h)
theorem n_text {t : List UInt8} (h : t.length ≤ 1000000) : Dn.Call Γ cx .val 38 [.d (.str t)] St.empty fun v _ => ∃ x, v = .d x ∧ LV (.d x) (byteRows (countB t.length ++ t)) := as_list rfl rfl (s_rText St.empty t h)
theorem n_count {n : Int} (h : n ≤ 9223372036854775807) : Dn.Call Γ cx .val 39 [I n] St.empty fun v _ => ∃ x, v = .d x ∧ LV (.d x) (byteRows (countB n)) := as_list rfl rfl (s_rCount St.empty n h)

theorem app_more {σ : St} {v : V} {l t : List UInt8} {x : D} (hv : App σ 1 v (byteRows l)) (hx : LV (.d x) (byteRows t)) (hl : l.length + t.length ≤ 100000000) :
    ∃ v' σ', (∀ tg, appendV σ tg 1 1 v (byteRows t) = some (v', σ')) ∧ App σ' 1 v' (byteRows (l ++ t)) ∧ σ'.objs = σ.objs := by
  obtain ⟨v', σ', h1, h2, h3, -, -⟩ := hv.push (bytes := 1) (by decide) (byteRows_fit _) (ys := byteRows t) (byteRows_fit _) (by simp [byteRows_len]; omega) (by simp [byteRows_len]; omega)
  rw [← byteRows_app] at h2
  exact ⟨v', σ', h1, h2, h3⟩
def InvRI (w : Bool) (i o : D) (f : Bool) (ins : List SpG) (pre : List UInt8) (m : Nat) (e : Env) (σ : St) : Prop := ∃ (j : Nat) (v : V), e = [(1, B w), (2, .ref 0 0), (5, v), (6, I j)] ∧ j ≤ ins.length ∧ m = ins.length - j ∧
  σ.objs[0]? = some (.cells [.d i, .d o, .d (.bool f)]) ∧ App σ 1 v (byteRows (pre ++ (ins.take j).flatMap (spB w))) ∧ (pre ++ (ins.take j).flatMap (spB w)).length ≤ 10 + 5060 * j
def InvRO2 (i o : D) (f : Bool) (outs : List CoG) (pre : List UInt8) (N : Nat) (m : Nat) (e : Env) (σ : St) : Prop := ∃ (j : Nat) (v : V), e = [(2, .ref 0 0), (5, v), (8, I j)] ∧ j ≤ outs.length ∧ m = outs.length - j ∧
  σ.objs[0]? = some (.cells [.d i, .d o, .d (.bool f)]) ∧ App σ 1 v (byteRows (pre ++ (outs.take j).flatMap coB)) ∧ (pre ++ (outs.take j).flatMap coB).length ≤ N + 16 * j

theorem s_rput {i o : D} {f w : Bool} {ins : List SpG} {outs : List CoG} (hi : LV (.d i) (spRows ins)) (ho : LV (.d o) (coRows outs)) (hli : ins.length ≤ 30) (hlo : outs.length ≤ 30) (hoi : ∀ s ∈ ins, s.Ok) (hoo : ∀ c ∈ outs, c.Ok) :
    Dn.Call Γ cx .val 55 [.da [i, o, .bool f], B w] St.empty fun v _ => v = .d (.list (byteRows (txB w ins outs f))) := by
  refine Dn.Call.body (fc := c55) rfl ?_
  have hil : ∀ σ, lenT σ .slice (.d i) = some ins.length := fun σ => by rw [hi.len]; simp [spRows]
  have hol : ∀ σ, lenT σ .slice (.d o) = some outs.length := fun σ => by rw [ho.len]; simp [coRows]
  simp -implicitDefEqProofs [c55, c55_k25, hil, mkAgg]
  refine use_raw (s_rCount ⟨[.cells [.d i, .d o, .d (.bool f)]], []⟩ ins.length (by omega)) fun v σ hown => ?_
  have hcl := countB_len ins.length
  have g0 : σ.objs[0]? = some (.cells [.d i, .d o, .d (.bool f)]) := by rw [hown.fr.at_ 0 (by simp) (by simp)]; rfl
  simp -implicitDefEqProofs [c55_k24, c55_k23]
  refine wloopI (InvRI w i o f ins (countB ins.length)) (m := ins.length) ⟨0, v, rfl, by omega, rfl, g0, by simpa using hown.app, by simp; omega⟩ ?_
  rintro m e σ1 ⟨j, v1, rfl, hj, rfl, g1, h1, hlen⟩
  simp -implicitDefEqProofs [c55_l22, c55_k21, g1, hil]
  by_cases hji : j < ins.length
  · obtain ⟨s, hs⟩ : ∃ s, ins[j]? = some s := ⟨ins[j], by simp [hji]⟩
    have hok := hoi s (List.mem_of_getElem? hs)
    have hrow : (spRows ins)[j]? = some s.row := by simp [spRows, hs]
    have hia := fun σ => hi.iaddr σ (k := .i64) (sz := 35) hrow (sp_row_len hok)
    have hft := flat_take (spB w) ins hs
    have hjj : (j : Int) < ins.length := by omega
    obtain ⟨a32, a33, a34⟩ := sp_at hok
    have s35 : List.take 35 (List.map V.d s.row) = List.map V.d s.row := List.take_of_length_le (by simp [sp_row_len hok])
    have s32 := sp_take hok
    simp -implicitDefEqProofs [hjj, hji, c55_k20, c55_k19, g1, hia, sp_row_len hok, s35]
    have g2 : (σ1.objs ++ [Dn.Obj.cells (List.map V.d s.row)])[0]? = some (.cells [.d i, .d o, .d (.bool f)]) := by rw [List.getElem?_append_left (List.getElem?_eq_some_iff.1 g1).1]; exact g1
    have q2 : (σ1.objs ++ [Dn.Obj.cells (List.map V.d s.row)])[σ1.objs.length]? = some (.cells (List.map V.d s.row)) := by simp
    have h2 : App ⟨σ1.objs ++ [Dn.Obj.cells (List.map V.d s.row)], σ1.toks⟩ 1 v1 _ := h1.toks rfl
    obtain ⟨σ2, hσ2⟩ : ∃ σ2 : St, (⟨σ1.objs ++ [.cells (List.map V.d s.row)], σ1.toks⟩ : St) = σ2 := ⟨_, rfl⟩
    have e2 : σ1.objs ++ [Dn.Obj.cells (List.map V.d s.row)] = σ2.objs := by rw [← hσ2]
    rw [e2] at g2 q2
    rw [hσ2] at h2 ⊢
    generalize σ1.objs.length = q at *
    have a32' : (List.map V.d s.row)[32]? = some (.d (.int .i64 s.n)) := by simp [a32]
    have a33' : (List.map V.d s.row)[33]? = some (.d (.str s.key)) := by simp [a33]
    have a34' : (List.map V.d s.row)[34]? = some (.d (.int .u64 s.sl)) := by simp [a34]
    have hml : (List.map V.d s.row).length = 35 := by simp [sp_row_len hok]
    generalize List.map V.d s.row = rw_ at *
    have u3 : IntKind.u64.wrap s.n = u64 s.n := rfl
    have l3 := hok.tx
    have l4 := hok.key
    have l5 := countB_len s.key.length
    have l6 := low_len (u64 s.n) 4
    have l7 := low_len s.sl 8
    simp -implicitDefEqProofs [c55_k18, q2, hml, s32, mkAgg, ofD_hd]
    refine use_val rfl (n_hash hok.tx) fun x3 _ ⟨y3, hx3, hy3⟩ => ?_
    subst hx3
    refine ⟨rfl, fun _ => by simp_all [V.borrows], ?_⟩
    obtain ⟨v3, σ3, ap3, h3, o3⟩ := app_more h2 hy3 (by omega)
    simp -implicitDefEqProofs
    refine i_app_f (v := v3) (s := σ3) ?_ ?_
    · simp -implicitDefEqProofs [hy3.rows]
      exact ap3 none
    simp -implicitDefEqProofs [c55_k17, o3, q2, a32', u3]
    refine use_val rfl (n_num (u64_0 _) (u64_1 _) 4 (.inl rfl)) fun x4 _ ⟨y4, hx4, hy4⟩ => ?_
    subst hx4
    refine ⟨rfl, fun _ => by simp_all [V.borrows], ?_⟩
    obtain ⟨v4, σ4, ap4, h4, o4⟩ := app_more h3 hy4 (by simp only [List.length_append] at hlen ⊢; omega)
    simp -implicitDefEqProofs
    refine i_app_f (v := v4) (s := σ4) ?_ ?_
    · simp -implicitDefEqProofs [hy4.rows]
      exact ap4 none
    have fin : ∀ {σ' : St} {v' : V}, σ'.objs = σ2.objs → App σ' 1 v' (byteRows (countB ins.length ++ (ins.take (j + 1)).flatMap (spB w))) → ∃ m', m' < ins.length - j ∧ InvRI w i o f ins (countB ins.length) m' [(1, B w), (2, .ref 0 0), (5, v'), (6, .d (.int .i64 ((j : Int) + 1)))] σ' := fun {σ' v'} ho' hp' =>
      ⟨ins.length - (j + 1), by omega, j + 1, v', rfl, by omega, rfl, by rw [ho']; exact g2, hp', by
        rw [hft]
        have := spB_len w hok
        simp only [List.length_append] at hlen ⊢
        omega⟩
    cases w with
    | false =>
      simp -implicitDefEqProofs [c55_k16, c55_k15, c55_k12, wrap_i64 (n := (j : Int) + 1) (by omega) (by omega)]
      refine fin (v' := v4) (by rw [o4, o3]) ?_
      rw [hft]
      simpa [spB] using h4
    | true =>
      simp -implicitDefEqProofs [c55_k16, c55_k15, c55_k14, o4, o3, q2, a33']
      refine use_val rfl (n_text (t := s.key) (by omega)) fun x5 _ ⟨y5, hx5, hy5⟩ => ?_
      subst hx5
      refine ⟨rfl, fun _ => by simp_all [V.borrows], ?_⟩
      obtain ⟨v5, σ5, ap5, h5, o5⟩ := app_more h4 hy5 (by simp only [List.length_append] at hlen ⊢; omega)
      simp -implicitDefEqProofs
      refine i_app_f (v := v5) (s := σ5) ?_ ?_
      · simp -implicitDefEqProofs [hy5.rows]
        exact ap5 none
      simp -implicitDefEqProofs [c55_k13, o5, o4, o3, q2, a34']
      refine use_val rfl (n_num hok.sl0 hok.sl1 8 (.inr rfl)) fun x6 _ ⟨y6, hx6, hy6⟩ => ?_
      subst hx6
      refine ⟨rfl, fun _ => by simp_all [V.borrows], ?_⟩
      obtain ⟨v6, σ6, ap6, h6, o6⟩ := app_more h5 hy6 (by simp only [List.length_append] at hlen ⊢; omega)
      simp -implicitDefEqProofs
      refine i_app_f (v := v6) (s := σ6) ?_ ?_
      · simp -implicitDefEqProofs [hy6.rows]
        exact ap6 none
      simp -implicitDefEqProofs [c55_k12, wrap_i64 (n := (j : Int) + 1) (by omega) (by omega)]
      refine fin (v' := v6) (by rw [o6, o5, o4, o3]) ?_
      rw [hft]
      simpa [spB] using h6
  · obtain rfl : j = ins.length := by omega
    rw [List.take_length] at h1 hlen
    simp -implicitDefEqProofs [c55_k11, g1, hol]
    have hcl2 := countB_len outs.length
    refine use_val rfl (n_count (n := outs.length) (by omega)) fun x2 _ ⟨y2, hx2, hy2⟩ => ?_
    subst hx2
    refine ⟨rfl, fun _ => by simp_all [V.borrows], ?_⟩
    obtain ⟨v2, σ2, ap2, o2, ob2⟩ := app_more h1 hy2 (by omega)
    simp -implicitDefEqProofs
    refine i_app_f (v := v2) (s := σ2) ?_ ?_
    · simp -implicitDefEqProofs [hy2.rows]
      exact ap2 none
    have g2 : σ2.objs[0]? = some (.cells [.d i, .d o, .d (.bool f)]) := by rw [ob2]; exact g1
    simp -implicitDefEqProofs [c55_k10, c55_k9]
    generalize hpre : (countB ins.length ++ ins.flatMap (spB w)) ++ countB outs.length = pre at *
    have hprel : pre.length ≤ 152000 := by rw [← hpre]; simp only [List.length_append] at hlen ⊢; omega
    refine wloopI (InvRO2 i o f outs pre 152000) (m := outs.length) ⟨0, v2, rfl, by omega, rfl, g2, by simpa using o2, by simpa using hprel⟩ ?_
    rintro m e σ3 ⟨j, v3, rfl, hj, rfl, g3, h3, hlen3⟩
    simp -implicitDefEqProofs [c55_l8, c55_k7, g3, hol]
    by_cases hjo : j < outs.length
    · obtain ⟨c, hc⟩ : ∃ c, outs[j]? = some c := ⟨outs[j], by simp [hjo]⟩
      have hcok := hoo c (List.mem_of_getElem? hc)
      have hrow : (coRows outs)[j]? = some c.row := by simp [coRows, hc]
      have hia := fun σ => ho.iaddr σ (k := .i64) (sz := 2) hrow rfl
      have hft := flat_take coB outs hc
      have hjj : (j : Int) < outs.length := by omega
      have u3 : IntKind.u64.wrap c.value = u64 c.value := rfl
      have l6 := low_len (u64 c.value) 8
      have l7 := low_len c.lock 8
      simp -implicitDefEqProofs [hjj, hjo, c55_k6, c55_k5, g3, hia, CoG.row, u3]
      refine use_val rfl (n_num (u64_0 _) (u64_1 _) 8 (.inr rfl)) fun x4 _ ⟨y4, hx4, hy4⟩ => ?_
      subst hx4
      refine ⟨rfl, fun _ => by simp_all [V.borrows], ?_⟩
      obtain ⟨v4, σ4, ap4, h4, o4⟩ := app_more h3 hy4 (by omega)
      simp -implicitDefEqProofs
      refine i_app_f (v := v4) (s := σ4) ?_ ?_
      · simp -implicitDefEqProofs [hy4.rows]
        exact ap4 none
      simp -implicitDefEqProofs [c55_k4, o4, g3, hia, CoG.row]
      refine use_val rfl (n_num hcok.1 hcok.2 8 (.inr rfl)) fun x5 _ ⟨y5, hx5, hy5⟩ => ?_
      subst hx5
      refine ⟨rfl, fun _ => by simp_all [V.borrows], ?_⟩
      obtain ⟨v5, σ5, ap5, h5, o5⟩ := app_more h4 hy5 (by simp only [List.length_append] at hlen3 ⊢; omega)
      simp -implicitDefEqProofs
      refine i_app_f (v := v5) (s := σ5) ?_ ?_
      · simp -implicitDefEqProofs [hy5.rows]
        exact ap5 none
      simp -implicitDefEqProofs [c55_k3, wrap_i64 (n := (j : Int) + 1) (by omega) (by omega)]
      refine ⟨outs.length - (j + 1), by omega, j + 1, v5, rfl, by omega, rfl, by rw [o5, o4]; exact g3, ?_, ?_⟩
      · rw [hft]
        simpa [coB] using h5
      · rw [hft]
        have := coB_len c
        simp only [List.length_append] at hlen3 ⊢
        omega
    · obtain rfl : j = outs.length := by omega
      rw [List.take_length] at h3 hlen3
      have hfin : ∀ (b : UInt8) (σ' : St) (v' : V), App σ' 1 v' (byteRows (pre ++ outs.flatMap coB ++ [b])) → b = (if f then 1 else 0) → V.byVal σ' v' = some (.d (.list (byteRows (txB w ins outs f)))) := by
        intro b σ' v' ho' hb
        have hfz := App.frozen ho' (by intro e; have := congrArg List.length e; rw [byteRows_len] at this; simp at this)
        have : pre ++ outs.flatMap coB ++ [b] = txB w ins outs f := by rw [← hpre, hb]; rfl
        rw [this] at hfz
        exact hfz
      cases f with
      | true =>
        simp -implicitDefEqProofs [c55_k2, c55_k1, g3, repl, rowsOf, frzV]
        obtain ⟨v5, σ5, ap5, h5, o5⟩ := app_more h3 (LV.list (byteRows [1])) (by simp only [List.length_append, List.length_singleton] at hlen3 ⊢; omega)
        have hb5 := hfin 1 σ5 v5 h5 rfl
        refine i_app_f (v := v5) (s := σ5) ?_ ?_
        · simp -implicitDefEqProofs [V.rows]
          exact ap5 none
        simp -implicitDefEqProofs [hb5]
      | false =>
        simp -implicitDefEqProofs [c55_k2, c55_k1, c55_k0, g3, repl, rowsOf, frzV]
        obtain ⟨v5, σ5, ap5, h5, o5⟩ := app_more h3 (LV.list (byteRows [0])) (by simp only [List.length_append, List.length_singleton] at hlen3 ⊢; omega)
        have hb5 := hfin 0 σ5 v5 h5 rfl
        refine i_app_f (v := v5) (s := σ5) ?_ ?_
        · simp -implicitDefEqProofs [V.rows]
          exact ap5 none
        simp -implicitDefEqProofs [hb5]

theorem s_rWide {i o : D} {f : Bool} {ins : List SpG} {outs : List CoG} (hi : LV (.d i) (spRows ins)) (ho : LV (.d o) (coRows outs)) (hli : ins.length ≤ 30) (hlo : outs.length ≤ 30) (hoi : ∀ s ∈ ins, s.Ok) (hoo : ∀ c ∈ outs, c.Ok) :
    Dn.Call Γ cx .val 21 [.da [i, o, .bool f]] St.empty fun v _ => v = .da (hashD (Sha.dbl (txB true ins outs f))) := by
  refine Dn.Call.body (fc := c21) rfl ?_
  have hB : Dn.Call Γ cx .val 35 [.da [i, o, .bool f]] St.empty fun v _ => v = .d (.list (byteRows (txB true ins outs f))) := by
    refine Dn.Call.body (fc := c35) rfl ?_
    simp -implicitDefEqProofs [c35, c35_k0, mkAgg]
    refine use_fn rfl (s_rput (w := true) hi ho hli hlo hoi hoo) rfl ?_
    simp -implicitDefEqProofs
  obtain ⟨l0, l1⟩ := txB_len true f hli hlo hoi (outs := outs)
  simp -implicitDefEqProofs [-List.reduceReplicate, c21, c21_k0, mkAgg]
  refine use_fn rfl hB rfl ?_
  generalize txB true ins outs f = a at *
  simp -implicitDefEqProofs [-List.reduceReplicate]
  refine use_fn rfl (s_rDouble (.list _) (by omega)) (hashD_ps _) ?_
  have hl2 : (Sha.dbl a).length = 32 := Sha.sha_len _
  generalize Sha.dbl a = z at *
  simp -implicitDefEqProofs [-List.reduceReplicate, hashD_byV, byV_len, hashD_len, hl2, V.byVal, ofD_hashD, List.take_of_length_le]


/-! ### lists of digests -/
def hRows (l : List (List UInt8)) : List (List D) := l.map hashD
theorem hRows_len (l : List (List UInt8)) : (hRows l).length = l.length := by simp [hRows]
theorem hashD_inj {a b : List UInt8} (h : hashD a = hashD b) : a = b := by
  induction a generalizing b with
  | nil => cases b with
    | nil => rfl
    | cons => simp [hashD] at h
  | cons x r ih => cases b with
    | nil => simp [hashD] at h
    | cons y s =>
      simp only [hashD, List.map_cons, List.cons.injEq, D.int.injEq, true_and] at h
      obtain ⟨h1, h2⟩ := h
      have : x = y := UInt8.toNat_inj.1 (by omega)
      rw [this, ih h2]
theorem hRows_at {l : List (List UInt8)} {i : Nat} {h : List UInt8} (hi : l[i]? = some h) : (hRows l)[i]? = some (hashD h) := by simp [hRows, hi]
def H32 (l : List (List UInt8)) : Prop := ∀ h ∈ l, h.length = 32
theorem hRows_fit {l : List (List UInt8)} (h : H32 l) : ∀ r ∈ hRows l, r.length = 32 := by
  intro r hr
  simp only [hRows, List.mem_map] at hr
  obtain ⟨a, ha, rfl⟩ := hr
  rw [hashD_len, h a ha]

theorem fits_hash : ∀ l : List UInt8, fitsAll (List.replicate l.length (.int .u8)) (hashD l) = true
  | [] => rfl
  | b :: r => by
    have h1 : b.toNat < 256 := b.toNat_lt
    have h2 : Lf.fits (.int .u8) (.int .u8 (b.toNat : Int)) = true := by
      have h0 : IntKind.u8.min ≤ (b.toNat : Int) := by have : IntKind.u8.min = 0 := rfl; omega
      have h3 : (b.toNat : Int) ≤ IntKind.u8.max := by have : IntKind.u8.max = 255 := rfl; omega
      simp [Lf.fits, h0, h3]
    have ih := fits_hash r
    simp only [hashD, List.map_cons, List.length_cons, List.replicate_succ, fitsAll, h2, Bool.true_and] at ih ⊢
    exact ih
theorem eq_hash {a b : List UInt8} (ha : a.length = 32) (hb : b.length = 32) (x y : Bool) : eqV .flat (List.replicate 32 (.int .u8)) (.da (hashD a)) (.da (hashD b)) x y = some (decide (a = b)) := by
  have h1 := fits_hash a
  have h2 := fits_hash b
  rw [ha] at h1
  rw [hb] at h2
  simp only [eqV, h1, h2, Bool.and_self, if_true]
  congr 1
  by_cases h : a = b
  · subst h; simp
  · have : hashD a ≠ hashD b := fun e => h (hashD_inj e)
    simp [h, this]

def InvIdx (x : D) (L : List (List UInt8)) (h : List UInt8) (m : Nat) (e : Env) (σ : St) : Prop := ∃ i : Nat, e = [(0, .d x), (3, .ref 0 0), (7, I L.length), (8, I i)] ∧ i ≤ L.length ∧ m = L.length - i ∧ σ = ⟨[.cells (byV h)], []⟩ ∧ h ∉ L.take i

theorem s_Index {x : D} {L : List (List UInt8)} (hx : LV (.d x) (hRows L)) (hL : H32 L) {h : List UInt8} (hh : h.length = 32) (hlen : L.length ≤ 1000000) : Dn.Call Γ cx .val 36 [.d x, .da (hashD h)] St.empty fun v _ => ∃ n : Int, v = I n ∧ (0 ≤ n ↔ h ∈ L) := by
  refine Dn.Call.body (fc := c36) rfl ?_
  have hlx : ∀ σ, lenT σ .slice (.d x) = some L.length := fun σ => by rw [hx.len, hRows_len]
  simp -implicitDefEqProofs [c36, c36_k7, c36_k6, hlx, hashD_byV]
  refine wloopI (InvIdx x L h) (m := L.length) ⟨0, rfl, by omega, rfl, rfl, by simp⟩ ?_
  rintro m e σ ⟨i, rfl, hi, rfl, rfl, hni⟩
  simp -implicitDefEqProofs [c36_l5, c36_k4]
  by_cases hil : i < L.length
  · obtain ⟨g, hg⟩ : ∃ g, L[i]? = some g := ⟨L[i], by simp [hil]⟩
    have hgm := List.mem_of_getElem? hg
    have hg32 := hL g hgm
    have hia := fun σ => hx.iaddr σ (k := .i64) (sz := 32) (hRows_at hg) (by rw [hashD_len, hg32])
    have hii : (i : Int) < L.length := by omega
    simp -implicitDefEqProofs [-List.reduceReplicate, hii, hil, c36_k3, c36_k2, c36_k1]
    refine w_drw (fun _ => .val) [3] (by decide +kernel) ?_
    simp -implicitDefEqProofs [-List.reduceReplicate, room_zero, hia, byV_len, hh, hashD_take, hashD_len, hg32, List.take_of_length_le, ofD_hashD, mkAgg, eq_hash hh hg32, c36_k0]
    have htk : L.take (i + 1) = L.take i ++ [g] := by
      obtain ⟨hi', rfl⟩ := List.getElem?_eq_some_iff.1 hg
      exact (List.take_append_getElem hi').symm
    by_cases hhg : h = g
    · subst hhg
      simp -implicitDefEqProofs
      exact hgm
    · simp -implicitDefEqProofs [hhg, wrap_i64 (n := (i : Int) + 1) (by omega) (by omega)]
      refine ⟨L.length - (i + 1), by omega, i + 1, rfl, by omega, rfl, rfl, ?_⟩
      rw [htk]
      simp [hni, hhg]
  · obtain rfl : i = L.length := by omega
    rw [List.take_length] at hni
    simp -implicitDefEqProofs
    exact hni

theorem s_Contains {x : D} {L : List (List UInt8)} (hx : LV (.d x) (hRows L)) (hL : H32 L) {h : List UInt8} (hh : h.length = 32) (hlen : L.length ≤ 1000000) : Dn.Call Γ cx .val 22 [.d x, .da (hashD h)] St.empty fun v _ => v = B (decide (h ∈ L)) := by
  refine Dn.Call.body (fc := c22) rfl ?_
  simp -implicitDefEqProofs [c22, c22_k0, hashD_byV, byV_len, hh, hashD_take, List.take_of_length_le, ofD_hashD, mkAgg]
  refine use_val rfl (s_Index hx hL hh hlen) fun v s ⟨n, hv, hn⟩ => ?_
  subst hv
  refine ⟨rfl, fun _ => rfl, ?_⟩
  simp -implicitDefEqProofs
  by_cases hm : h ∈ L
  · simp [hm, hn.2 hm]
  · have : ¬ (0 ≤ n) := fun e => hm (hn.1 e)
    simp [hm, this]

def InvHs (x y : D) (L : List (List UInt8)) (m : Nat) (e : Env) (σ : St) : Prop := ∃ i : Nat, e = [(0, .d x), (1, .d y), (12, I L.length), (13, I i)] ∧ i ≤ L.length ∧ m = L.length - i ∧ σ = St.empty

/-- gossamernum.Hashes of the same digests. -/
theorem s_Hashes {x y : D} {L : List (List UInt8)} (hx : LV (.d x) (hRows L)) (hy : LV (.d y) (hRows L)) (hL : H32 L) (hlen : L.length ≤ 1000000) : Dn.Call Γ cx .val 7 [.d x, .d y] St.empty fun v _ => v = B true := by
  refine Dn.Call.body (fc := c7) rfl ?_
  have hlx : ∀ σ, lenT σ .slice (.d x) = some L.length := fun σ => by rw [hx.len, hRows_len]
  have hly : ∀ σ, lenT σ .slice (.d y) = some L.length := fun σ => by rw [hy.len, hRows_len]
  simp -implicitDefEqProofs [c7, c7_k9, c7_k8, c7_k7, c7_k6, hlx, hly]
  refine wloopI (InvHs x y L) (m := L.length) ⟨0, rfl, by omega, rfl, rfl⟩ ?_
  rintro m e σ ⟨i, rfl, hi, rfl, rfl⟩
  simp -implicitDefEqProofs [c7_l5, c7_k4]
  by_cases hil : i < L.length
  · obtain ⟨g, hg⟩ : ∃ g, L[i]? = some g := ⟨L[i], by simp [hil]⟩
    have hg32 := hL g (List.mem_of_getElem? hg)
    have hia := fun σ => hx.iaddr σ (k := .i64) (sz := 32) (hRows_at hg) (by rw [hashD_len, hg32])
    have hib := fun σ => hy.iaddr σ (k := .i64) (sz := 32) (hRows_at hg) (by rw [hashD_len, hg32])
    have hii : (i : Int) < L.length := by omega
    simp -implicitDefEqProofs [-List.reduceReplicate, hii, hil, c7_k3, c7_k2, c7_k1]
    refine w_drw (fun _ => .val) [] (by decide +kernel) ?_
    simp -implicitDefEqProofs [-List.reduceReplicate, room_zero, hia, hib, hashD_len, hg32, List.take_of_length_le, eq_hash hg32 hg32, c7_k0, wrap_i64 (n := (i : Int) + 1) (by omega) (by omega)]
    exact ⟨L.length - (i + 1), by omega, i + 1, rfl, by omega, rfl, rfl⟩
  · obtain rfl : i = L.length := by omega
    simp -implicitDefEqProofs


/-- A message, and what its transaction holds. -/
structure MT where
  m : MG
  ins : List SpG
  outs : List CoG
structure MT.Ok (t : MT) : Prop where
  i : LV (.d t.m.ti) (spRows t.ins)
  o : LV (.d t.m.to) (coRows t.outs)
  li : t.ins.length ≤ 30
  lo : t.outs.length ≤ 30
  oi : ∀ s ∈ t.ins, s.Ok
  oo : ∀ c ∈ t.outs, c.Ok
def MT.wide (t : MT) : List UInt8 := Sha.dbl (txB true t.ins t.outs t.m.tb)
theorem MT.wide_len (t : MT) : t.wide.length = 32 := Sha.sha_len _
def bodiesS (l : List MT) : List (List UInt8) := l.flatMap fun t => if t.m.kind = 8 then [t.wide] else []
theorem bodiesS_32 (l : List MT) : H32 (bodiesS l) := by
  intro h hh
  simp only [bodiesS, List.mem_flatMap] at hh
  obtain ⟨t, _, ht⟩ := hh
  split at ht
  · simp at ht; rw [ht]; exact t.wide_len
  · simp at ht
theorem bodiesS_len (l : List MT) : (bodiesS l).length ≤ l.length := by
  induction l with
  | nil => simp [bodiesS]
  | cons t r ih =>
    simp only [bodiesS, List.flatMap_cons, List.length_append, List.length_cons] at ih ⊢
    by_cases h : t.m.kind = 8
    · simp only [h, if_true, List.length_singleton]; omega
    · simp only [h, if_false, List.length_nil]; omega
theorem bodiesS_take (l : List MT) {i : Nat} {t : MT} (h : l[i]? = some t) : bodiesS (l.take (i + 1)) = bodiesS (l.take i) ++ (if t.m.kind = 8 then [t.wide] else []) := by
  obtain ⟨hi, rfl⟩ := List.getElem?_eq_some_iff.1 h
  unfold bodiesS
  rw [← List.take_append_getElem hi, List.flatMap_append]
  simp
def mtRows (l : List MT) : List (List D) := l.map fun t => t.m.row
theorem mtRows_len (l : List MT) : (mtRows l).length = l.length := by simp [mtRows]

theorem hash_push {σ : St} {v : V} {L : List (List UInt8)} (hv : App σ 32 v (hRows L)) (hL : H32 L) {h : List UInt8} (hh : h.length = 32) (hlen : L.length ≤ 1000000) :
    ∃ v' σ', (∀ tg, appendV σ tg 32 32 v [hashD h] = some (v', σ')) ∧ App σ' 32 v' (hRows (L ++ [h])) ∧ σ'.objs = σ.objs := by
  obtain ⟨v', σ', h1, h2, h3, -, -⟩ := hv.push (bytes := 32) (by decide) (hRows_fit hL) (ys := [hashD h]) (by intro r hr; simp at hr; subst hr; rw [hashD_len, hh]) (by rw [hRows_len]; simp; omega) (by rw [hRows_len]; simp; omega)
  have : hRows L ++ [hashD h] = hRows (L ++ [h]) := by simp [hRows]
  rw [this] at h2
  exact ⟨v', σ', h1, h2, h3⟩
theorem bslice_hash {h : List UInt8} (hh : h.length = 32) : rowsOf 32 1 (hashD h) = [hashD h] := by
  simp [rowsOf, List.take_of_length_le, hashD_len, hh]

theorem fill_hash {h : List UInt8} (hh : h.length = 32) : fillV (repl 1 (List.replicate 32 (.int .u8 0))) [(0, 32, .da (hashD h))] = some (byV h) := by
  have h1 : (V.da (hashD h)).cells = some (byV h) := by simp [V.cells, hashD_byV]
  have h2 : (repl 1 (List.replicate 32 (D.int .u8 0))).length = 32 := by simp [repl]
  have h3 : (byV h).length = 32 := by rw [byV_len, hh]
  simp only [fillV, h1, h3, h2]
  simp [splice, h3, h2, -List.reduceReplicate]
theorem frz_byV (h : List UInt8) : (byV h).map frzV = byV h := by simp [byV, frzV]

def InvBo (x : D) (l : List MT) (m : Nat) (e : Env) (σ : St) : Prop := ∃ (i : Nat) (v : V), e = [(3, v), (6, .d x), (7, I l.length), (8, I i)] ∧ i ≤ l.length ∧ m = l.length - i ∧ App σ 32 v (hRows (bodiesS (l.take i)))

theorem s_Bodies {x : D} {l : List MT} (hx : LV (.d x) (mtRows l)) (hok : ∀ t ∈ l, t.Ok) (hl : l.length ≤ 1000) : Dn.Call Γ cx .val 8 [.d x] St.empty fun v _ => ∃ y, v = .d y ∧ LV (.d y) (hRows (bodiesS l)) := by
  refine Dn.Call.body (fc := c8) rfl ?_
  have hlx : ∀ σ, lenT σ .slice (.d x) = some l.length := fun σ => by rw [hx.len, mtRows_len]
  simp -implicitDefEqProofs [c8, c8_k9, c8_k8, c8_k7, hlx]
  refine wloopI (InvBo x l) (m := l.length) ⟨0, _, rfl, by omega, rfl, .nil⟩ ?_
  rintro m e σ ⟨i, v, rfl, hi, rfl, hv⟩
  simp -implicitDefEqProofs [c8_l6, c8_k5]
  by_cases hil : i < l.length
  · obtain ⟨t, ht⟩ : ∃ t, l[i]? = some t := ⟨l[i], by simp [hil]⟩
    have hto := hok t (List.mem_of_getElem? ht)
    have hia := fun σ => hx.iaddr σ (k := .i64) (sz := 11) (show (mtRows l)[i]? = some t.m.row by simp [mtRows, ht]) rfl
    have hii : (i : Int) < l.length := by omega
    have hbt := bodiesS_take l ht
    have hbl := bodiesS_len (l.take i)
    simp -implicitDefEqProofs [-List.reduceReplicate, hii, hil, c8_k4, c8_k3, hia, MG.row, c8_k2]
    by_cases h8 : t.m.kind = 8
    · simp -implicitDefEqProofs [-List.reduceReplicate, h8, c8_k1, mkAgg, ofD]
      refine use_fn rfl (s_txWide hto.i hto.o hto.li hto.lo hto.oi hto.oo) (hashD_ps _) ?_
      have hw := t.wide_len
      have hwe : Sha.dbl (txB true t.ins t.outs t.m.tb) = t.wide := rfl
      rw [hwe]
      simp only [h8, if_true] at hbt
      generalize t.wide = h at *
      simp -implicitDefEqProofs [-List.reduceReplicate, fill_hash hw, frz_byV, ofD_hashD, bslice_hash hw]
      obtain ⟨v2, σ2, ap2, h2, o2⟩ := hash_push (σ := ⟨σ.objs ++ [.cells [V.d (D.int IntKind.i64 8), V.d (D.int IntKind.u64 t.m.half), V.d (D.int IntKind.i64 t.m.size), V.d (D.int IntKind.i64 t.m.q), V.d t.m.data, V.d (D.bool t.m.ok), V.d t.m.ids, V.d t.m.hs, V.d t.m.ti, V.d t.m.to, V.d (D.bool t.m.tb)]], σ.toks⟩) (hv.toks rfl) (bodiesS_32 _) hw (by simp at hbl; omega)
      rw [← hbt] at h2
      refine i_app_f (v := v2) (s := σ2) ?_ ?_
      · simp -implicitDefEqProofs [V.rows]
        exact ap2 none
      simp -implicitDefEqProofs [wrap_i64 (n := (i : Int) + 1) (by omega) (by omega)]
      exact ⟨l.length - (i + 1), by omega, i + 1, v2, rfl, by omega, rfl, h2⟩
    · simp -implicitDefEqProofs [-List.reduceReplicate, h8, c8_k1, wrap_i64 (n := (i : Int) + 1) (by omega) (by omega)]
      simp only [h8, if_false, List.append_nil] at hbt
      exact ⟨l.length - (i + 1), by omega, i + 1, v, rfl, by omega, rfl, by rw [hbt]; exact hv.toks rfl⟩
  · obtain rfl : i = l.length := by omega
    rw [List.take_length] at hv
    obtain ⟨d1, d2, ⟨y, dx⟩, d4, d5⟩ := hv.lv.dv σ
    rw [dx] at d1 d2
    simp -implicitDefEqProofs [c8_k0, d1]
    exact d2


def InvRBo (x : D) (l : List MT) (m : Nat) (e : Env) (σ : St) : Prop := ∃ (i : Nat) (v : V), e = [(0, .d x), (3, v), (4, I i)] ∧ i ≤ l.length ∧ m = l.length - i ∧ App σ 32 v (hRows (bodiesS (l.take i)))

theorem s_rBodies {x : D} {l : List MT} (hx : LV (.d x) (mtRows l)) (hok : ∀ t ∈ l, t.Ok) (hl : l.length ≤ 1000) : Dn.Call Γ cx .val 9 [.d x] St.empty fun v _ => ∃ y, v = .d y ∧ LV (.d y) (hRows (bodiesS l)) := by
  refine Dn.Call.body (fc := c9) rfl ?_
  have hlx : ∀ σ, lenT σ .slice (.d x) = some l.length := fun σ => by rw [hx.len, mtRows_len]
  simp -implicitDefEqProofs [c9, c9_k9, c9_k8, c9_k7, hlx]
  refine wloopI (InvRBo x l) (m := l.length) ⟨0, _, rfl, by omega, rfl, .nil⟩ ?_
  rintro m e σ ⟨i, v, rfl, hi, rfl, hv⟩
  simp -implicitDefEqProofs [c9_l6, c9_k5, hlx]
  by_cases hil : i < l.length
  · obtain ⟨t, ht⟩ : ∃ t, l[i]? = some t := ⟨l[i], by simp [hil]⟩
    have hto := hok t (List.mem_of_getElem? ht)
    have hia := fun σ => hx.iaddr σ (k := .i64) (sz := 11) (show (mtRows l)[i]? = some t.m.row by simp [mtRows, ht]) rfl
    have hii : (i : Int) < l.length := by omega
    have hbt := bodiesS_take l ht
    have hbl := bodiesS_len (l.take i)
    simp -implicitDefEqProofs [-List.reduceReplicate, hii, hil, c9_k4, c9_k3, hia, MG.row]
    by_cases h8 : t.m.kind = 8
    · simp -implicitDefEqProofs [-List.reduceReplicate, h8, c9_k2, hia, MG.row]
      refine use_fn rfl (s_rWide hto.i hto.o hto.li hto.lo hto.oi hto.oo) (hashD_ps _) ?_
      have hw := t.wide_len
      have hwe : Sha.dbl (txB true t.ins t.outs t.m.tb) = t.wide := rfl
      rw [hwe]
      simp only [h8, if_true] at hbt
      generalize t.wide = h at *
      simp -implicitDefEqProofs [-List.reduceReplicate, fill_hash hw, frz_byV, ofD_hashD, bslice_hash hw]
      obtain ⟨v2, σ2, ap2, h2, o2⟩ := hash_push hv (bodiesS_32 _) hw (by simp at hbl; omega)
      rw [← hbt] at h2
      refine i_app_f (v := v2) (s := σ2) ?_ ?_
      · simp -implicitDefEqProofs [V.rows]
        exact ap2 none
      simp -implicitDefEqProofs [c9_k1, wrap_i64 (n := (i : Int) + 1) (by omega) (by omega)]
      exact ⟨l.length - (i + 1), by omega, i + 1, v2, rfl, by omega, rfl, h2⟩
    · simp -implicitDefEqProofs [-List.reduceReplicate, h8, c9_k2, c9_k1, wrap_i64 (n := (i : Int) + 1) (by omega) (by omega)]
      simp only [h8, if_false, List.append_nil] at hbt
      exact ⟨l.length - (i + 1), by omega, i + 1, v, rfl, by omega, rfl, by rw [hbt]; exact hv⟩
  · obtain rfl : i = l.length := by omega
    rw [List.take_length] at hv
    obtain ⟨d1, d2, ⟨y, dx⟩, d4, d5⟩ := hv.lv.dv σ
    rw [dx] at d1 d2
    simp -implicitDefEqProofs [c9_k0, d1]
    exact d2

/-! ### twice -/
def tw (L : List (List UInt8)) : Nat → List (List UInt8)
  | 0 => []
  | i + 1 => tw L i ++ match L[i]? with
    | some h => if (L.take i).count h = 1 then [h] else []
    | none => []
theorem tw_mem (L : List (List UInt8)) : ∀ i, i ≤ L.length → ∀ h, h ∈ tw L i ↔ 2 ≤ (L.take i).count h
  | 0, _, h => by simp [tw]
  | i + 1, hi, h => by
    have hlt : i < L.length := by omega
    have ih := tw_mem L i (by omega) h
    have hg : L[i]? = some L[i] := by simp [hlt]
    simp only [tw, hg]
    rw [← List.take_append_getElem hlt, List.count_append, List.mem_append, ih]
    generalize L[i] = g
    by_cases hh : g = h
    · subst hh
      have : List.count g [g] = 1 := by simp
      rw [this]
      by_cases h1 : (L.take i).count g = 1
      · simp [h1]
      · simp only [h1, if_false, List.not_mem_nil, or_false]; omega
    · have : List.count h [g] = 0 := by simp [hh]
      rw [this]
      by_cases h1 : (L.take i).count g = 1
      · simp [h1, Ne.symm hh]
      · simp [h1]
theorem tw_sub (L : List (List UInt8)) : ∀ i, ∀ h ∈ tw L i, h ∈ L
  | 0, h, hh => by simp [tw] at hh
  | i + 1, h, hh => by
    simp only [tw, List.mem_append] at hh
    rcases hh with hh | hh
    · exact tw_sub L i h hh
    · split at hh
      · rename_i g hg
        split at hh
        · simp at hh; subst hh; exact List.mem_of_getElem? hg
        · simp at hh
      · simp at hh
theorem tw_32 {L : List (List UInt8)} (hL : H32 L) (i : Nat) : H32 (tw L i) := fun h hh => hL h (tw_sub L i h hh)
theorem tw_len (L : List (List UInt8)) : ∀ i, (tw L i).length ≤ i
  | 0 => by simp [tw]
  | i + 1 => by
    have := tw_len L i
    simp only [tw, List.length_append]
    split
    · split
      · simp; omega
      · simp; omega
    · simp; omega

def InvTw (y : D) (L : List (List UInt8)) (m : Nat) (e : Env) (σ : St) : Prop := ∃ (i : Nat) (v a b c d : V), e = [(3, v), (4, .d y), (9, .d y), (10, I L.length), (11, I i), (22, a), (23, b), (24, c), (25, d)] ∧ i ≤ L.length ∧ m = L.length - i ∧ App σ 32 v (hRows (tw L i))

theorem s_Twice {x : D} {l : List MT} (hx : LV (.d x) (mtRows l)) (hok : ∀ t ∈ l, t.Ok) (hl : l.length ≤ 1000) : Dn.Call Γ cx .val 10 [.d x] St.empty fun v _ => ∃ y, v = .d y ∧ LV (.d y) (hRows (tw (bodiesS l) (bodiesS l).length)) := by
  refine Dn.Call.body (fc := c10) rfl ?_
  simp -implicitDefEqProofs [c10, c10_k10, c10_k9]
  refine use_val rfl (s_Bodies hx hok hl) fun v s ⟨y, hv, hy⟩ => ?_
  subst hv
  refine ⟨rfl, fun _ => by simp_all [V.borrows], ?_⟩
  have hL := bodiesS_32 l
  have hLl := bodiesS_len l
  generalize bodiesS l = L at *
  have hly : ∀ σ, lenT σ .slice (.d y) = some L.length := fun σ => by rw [hy.len, hRows_len]
  simp -implicitDefEqProofs [c10_k8, c10_k7, hly]
  refine wloopI (InvTw y L) (m := L.length) ⟨0, _, _, _, _, _, rfl, by omega, rfl, .nil⟩ ?_
  rintro m e σ ⟨i, v, a, b, c, d, rfl, hi, rfl, hv⟩
  simp -implicitDefEqProofs [c10_l6, c10_k5]
  by_cases hil : i < L.length
  · obtain ⟨g, hg⟩ : ∃ g, L[i]? = some g := ⟨L[i], by simp [hil]⟩
    have hg32 := hL g (List.mem_of_getElem? hg)
    have hia := fun σ => hy.iaddr σ (k := .i64) (sz := 32) (hRows_at hg) (by rw [hashD_len, hg32])
    have hii : (i : Int) < L.length := by omega
    simp -implicitDefEqProofs [-List.reduceReplicate, hii, hil, c10_k4, c10_k3, hia, hashD_len, hg32, List.take_of_length_le, hashD_byV, byV_len, c10_k2]
    refine w_drw (fun _ => .val) [6] (by decide +kernel) ?_
    obtain ⟨z, hz, hzl, -⟩ := hy.slice σ (hRows_fit hL) (by rintro r t st s h; cases h) (lo := 0) (hi := i) (by omega) (by rw [hRows_len]; omega)
    have hzr : ((hRows L).drop 0).take (i - 0) = hRows (L.take i) := by simp [hRows]
    rw [hzr] at hzl
    have hzd : ∀ {rows : List (List D)}, LV (.d y) rows → ∃ z', z = .d z' := fun h => by
      cases h with
      | nil => simp [sliceV] at hz; exact ⟨_, hz.2.symm⟩
      | list rows => simp [sliceV] at hz; exact ⟨_, hz.2.symm⟩
    obtain ⟨z', rfl⟩ := hzd hy
    have hlv := hy.lenV σ
    rw [hRows_len] at hlv
    have hlv' : ∀ s, Dn.lenV s (.d y) = some L.length := fun s => by rw [hy.lenV, hRows_len]
    have hsx : ∀ s, sliceX s 32 (.d y) none (some (I i)) none = some (.d z') := fun s => by
      simp [sliceX, hlv', boundV, asIdx, hz, show i ≤ L.length by omega]
    have htl : H32 (L.take i) := fun h hh => hL h (List.mem_of_mem_take hh)
    simp -implicitDefEqProofs [-List.reduceReplicate, room_zero, hsx, byV_len, hg32, hashD_take, ofD_hashD, List.take_of_length_le]
    refine use_fnN rfl rfl (s_Contains hzl htl hg32 (by simp; omega)) rfl ?_
    have htw := tw_mem L i (by omega) g
    have hcm : g ∈ L.take i ↔ 1 ≤ (L.take i).count g := by rw [List.one_le_count_iff]
    have htw1 : tw L (i + 1) = tw L i ++ (if (L.take i).count g = 1 then [g] else []) := by simp only [tw, hg]
    have hn : ∀ (v' a b c d : V) (σ' : St), App σ' 32 v' (hRows (tw L (i + 1))) → ∃ m', m' < L.length - i ∧ InvTw y L m' [(3, v'), (4, .d y), (9, .d y), (10, I L.length), (11, .d (.int .i64 ((i : Int) + 1))), (22, a), (23, b), (24, c), (25, d)] σ' := fun v' a b c d σ' h =>
      ⟨L.length - (i + 1), by omega, i + 1, v', a, b, c, d, rfl, by omega, rfl, h⟩
    by_cases hm : g ∈ L.take i
    · obtain ⟨e1, e2, ⟨u, eu⟩, e4, e5⟩ := hv.lv.dv (⟨σ.objs ++ [.cells (byV g)], σ.toks⟩ : St)
      rw [eu] at e1 e2
      have htl2 := tw_len L i
      simp -implicitDefEqProofs [-List.reduceReplicate, room_zero, hm, byV_len, hg32, hashD_take, ofD_hashD, List.take_of_length_le]
      refine use_fnN rfl (ds := [.d u, .da (hashD g)]) (by simp only [byVals, e1]; rfl) (s_Contains e2 (tw_32 hL i) hg32 (by omega)) (by simp [V.pure, V.flatv, V.scalars, V.scalar, D.scalar]) ?_
      by_cases hc1 : (L.take i).count g = 1
      · have hnt : g ∉ tw L i := fun h => by have := htw.1 h; omega
        simp only [hc1, if_true] at htw1
        simp -implicitDefEqProofs [-List.reduceReplicate, room_zero, hnt, c10_k1, byV_len, hg32, hashD_take, ofD_hashD, List.take_of_length_le, fill_hash hg32, frz_byV, bslice_hash hg32]
        obtain ⟨v2, σ2, ap2, h2, o2⟩ := hash_push (σ := ⟨σ.objs ++ [.cells (byV g)], σ.toks⟩) (hv.toks rfl) (tw_32 hL i) hg32 (by omega)
        rw [← htw1] at h2
        refine i_app_f (v := v2) (s := σ2) ?_ ?_
        · simp -implicitDefEqProofs [V.rows]
          exact ap2 none
        simp -implicitDefEqProofs [wrap_i64 (n := (i : Int) + 1) (by omega) (by omega)]
        exact hn _ _ _ _ _ _ h2
      · have hin : g ∈ tw L i := htw.2 (by have := hcm.1 hm; omega)
        simp only [hc1, if_false, List.append_nil] at htw1
        simp -implicitDefEqProofs [-List.reduceReplicate, room_zero, hin, c10_k1, wrap_i64 (n := (i : Int) + 1) (by omega) (by omega)]
        exact hn _ _ _ _ _ _ (by rw [htw1]; exact hv.toks rfl)
    · have hc1 : ¬ (L.take i).count g = 1 := fun e => hm (hcm.2 (by omega))
      simp only [hc1, if_false, List.append_nil] at htw1
      simp -implicitDefEqProofs [-List.reduceReplicate, room_zero, hm, c10_k1, wrap_i64 (n := (i : Int) + 1) (by omega) (by omega)]
      exact hn _ _ _ _ _ _ (by rw [htw1]; exact hv.toks rfl)
  · obtain rfl : i = L.length := by omega
    obtain ⟨d1, d2, ⟨z, dx⟩, d4, d5⟩ := hv.lv.dv σ
    rw [dx] at d1 d2
    simp -implicitDefEqProofs [c10_k0, d1]
    exact d2

/-! ### the reference's -/
def InvRT (y : D) (L : List (List UInt8)) (m : Nat) (e : Env) (σ : St) : Prop := ∃ (i : Nat) (v : V), e = [(3, v), (4, .d y), (5, I i)] ∧ i ≤ L.length ∧ m = L.length - i ∧ App σ 32 v (hRows (tw L i))
def InvRK (y : D) (v : V) (σ0 : St) (i : Nat) (L : List (List UInt8)) (g : List UInt8) (m : Nat) (e : Env) (σ : St) : Prop := ∃ k : Nat, e = [(3, v), (4, .d y), (5, I i), (6, I ((L.take k).count g : Nat)), (7, I k)] ∧ k ≤ i ∧ m = i - k ∧ σ = σ0

theorem s_rTwice {x : D} {l : List MT} (hx : LV (.d x) (mtRows l)) (hok : ∀ t ∈ l, t.Ok) (hl : l.length ≤ 1000) : Dn.Call Γ cx .val 11 [.d x] St.empty fun v _ => ∃ y, v = .d y ∧ LV (.d y) (hRows (tw (bodiesS l) (bodiesS l).length)) := by
  refine Dn.Call.body (fc := c11) rfl ?_
  simp -implicitDefEqProofs [c11, c11_k19, c11_k18]
  refine use_val rfl (s_rBodies hx hok hl) fun v s ⟨y, hv, hy⟩ => ?_
  subst hv
  refine ⟨rfl, fun _ => by simp_all [V.borrows], ?_⟩
  have hL := bodiesS_32 l
  have hLl := bodiesS_len l
  generalize bodiesS l = L at *
  have hly : ∀ σ, lenT σ .slice (.d y) = some L.length := fun σ => by rw [hy.len, hRows_len]
  simp -implicitDefEqProofs [c11_k17, c11_k16]
  refine wloopI (InvRT y L) (m := L.length) ⟨0, _, rfl, by omega, rfl, .nil⟩ ?_
  rintro m e σ ⟨i, v, rfl, hi, rfl, hv⟩
  simp -implicitDefEqProofs [c11_l15, c11_k14, hly]
  by_cases hil : i < L.length
  · obtain ⟨g, hg⟩ : ∃ g, L[i]? = some g := ⟨L[i], by simp [hil]⟩
    have hg32 := hL g (List.mem_of_getElem? hg)
    have hia := fun σ => hy.iaddr σ (k := .i64) (sz := 32) (hRows_at hg) (by rw [hashD_len, hg32])
    have hii : (i : Int) < L.length := by omega
    have htl2 := tw_len L i
    have htw1 : tw L (i + 1) = tw L i ++ (if (L.take i).count g = 1 then [g] else []) := by simp only [tw, hg]
    simp -implicitDefEqProofs [hii, hil, c11_k13, c11_k12, c11_k11, c11_k10]
    refine wloopI (InvRK y v σ i L g) (m := i) ⟨0, by simp [Env.pick, Env.get], by omega, rfl, rfl⟩ ?_
    rintro m e σ' ⟨k, rfl, hk, rfl, rfl⟩
    simp -implicitDefEqProofs [-List.reduceReplicate, c11_l9, c11_k8]
    by_cases hki : k < i
    · obtain ⟨u, hu⟩ : ∃ u, L[k]? = some u := ⟨L[k]'(by omega), by simp⟩
      have hu32 := hL u (List.mem_of_getElem? hu)
      have hib := fun σ => hy.iaddr σ (k := .i64) (sz := 32) (hRows_at hu) (by rw [hashD_len, hu32])
      have hct : (L.take (k + 1)).count g = (L.take k).count g + (if u = g then 1 else 0) := by
        obtain ⟨hk', rfl⟩ := List.getElem?_eq_some_iff.1 hu
        rw [← List.take_append_getElem hk', List.count_append]
        congr 1
        by_cases h : L[k] = g
        · simp [h]
        · simp [h]
      have hcl : (L.take k).count g ≤ 1000 := Nat.le_trans List.count_le_length (by simp; omega)
      simp -implicitDefEqProofs [-List.reduceReplicate, hki, c11_k7, c11_k6]
      refine w_drw (fun _ => .val) [] (by decide +kernel) ?_
      simp -implicitDefEqProofs [-List.reduceReplicate, room_zero, hia, hib, hashD_len, hg32, hu32, List.take_of_length_le, eq_hash hu32 hg32]
      by_cases hug : u = g
      · simp only [hug, if_true] at hct
        simp -implicitDefEqProofs [hug, c11_k5, c11_k4, wrap_i64 (n := (k : Int) + 1) (by omega) (by omega), wrap_i64 (n := ((L.take k).count g : Int) + 1) (by omega) (by omega)]
        exact ⟨i - (k + 1), by omega, k + 1, by rw [hct]; rfl, by omega, rfl, rfl⟩
      · simp only [hug, if_false, Nat.add_zero] at hct
        simp -implicitDefEqProofs [hug, c11_k5, c11_k4, wrap_i64 (n := (k : Int) + 1) (by omega) (by omega)]
        exact ⟨i - (k + 1), by omega, k + 1, by rw [hct]; rfl, by omega, rfl, rfl⟩
    · obtain rfl : k = i := by omega
      simp -implicitDefEqProofs [-List.reduceReplicate, c11_k3]
      by_cases hc1 : (L.take k).count g = 1
      · simp only [hc1, if_true] at htw1
        have hc1' : (((L.take k).count g : Nat) : Int) = 1 := by omega
        simp -implicitDefEqProofs [-List.reduceReplicate, hc1, hc1', c11_k2, hia, hashD_len, hg32, List.take_of_length_le, fill_hash hg32, frz_byV, ofD_hashD, bslice_hash hg32]
        obtain ⟨v2, σ2, ap2, h2, o2⟩ := hash_push hv (tw_32 hL k) hg32 (by omega)
        rw [← htw1] at h2
        refine i_app_f (v := v2) (s := σ2) ?_ ?_
        · simp -implicitDefEqProofs [V.rows]
          exact ap2 none
        simp -implicitDefEqProofs [c11_k1, wrap_i64 (n := (k : Int) + 1) (by omega) (by omega)]
        exact ⟨L.length - (k + 1), by omega, k + 1, v2, rfl, by omega, rfl, h2⟩
      · simp only [hc1, if_false, List.append_nil] at htw1
        have hc1' : ¬ (((L.take k).count g : Nat) : Int) = 1 := by omega
        simp -implicitDefEqProofs [-List.reduceReplicate, hc1, hc1', c11_k2, c11_k1, wrap_i64 (n := (k : Int) + 1) (by omega) (by omega)]
        exact ⟨L.length - (k + 1), by omega, k + 1, v, rfl, by omega, rfl, by rw [htw1]; exact hv⟩
  · obtain rfl : i = L.length := by omega
    obtain ⟨d1, d2, ⟨z, dx⟩, d4, d5⟩ := hv.lv.dv σ
    rw [dx] at d1 d2
    simp -implicitDefEqProofs [c11_k0, d1]
    exact d2


def byteK32 : List Lk := List.replicate 32 (.int .u8)
def inK : List Lk := byteK32 ++ [.int .i64, .str, .int .u64]
def outK : List Lk := [.int .i64, .int .u64]
def msgK : List Lk := [.int .i64, .int .u64, .int .i64, .int .i64, .list [.int .u8], .bool, .list [.int .u32], .list byteK32, .list inK, .list outK, .bool]

theorem lk_list {ls : List Lk} {d : D} (h : (Lk.list ls).fits d) : ∃ rows, LV (.d d) rows ∧ ∀ r ∈ rows, Lks ls r := by
  simp only [Lk.fits] at h
  rcases h with rfl | ⟨rows, rfl, _, h⟩
  · exact ⟨[], .nil, by simp⟩
  · exact ⟨rows, .list _, h⟩

theorem Lks.split : ∀ {a b : List Lk} {x : List D}, Lks (a ++ b) x → ∃ y z, x = y ++ z ∧ Lks a y ∧ Lks b z
  | [], b, x, h => ⟨[], x, rfl, rfl, h⟩
  | k :: a, b, x, h => by
    simp only [List.cons_append, Lks] at h
    obtain ⟨d, r, rfl, h1, h2⟩ := h
    obtain ⟨y, z, rfl, h3, h4⟩ := Lks.split h2
    exact ⟨d :: y, z, rfl, ⟨d, y, rfl, h1, h3⟩, h4⟩
theorem Lks.bytes : ∀ {n : Nat} {x : List D}, Lks (List.replicate n (.int .u8)) x → ∃ l : List UInt8, x = hd l ∧ l.length = n
  | 0, x, h => by
    simp only [List.replicate, Lks] at h
    subst h
    exact ⟨[], rfl, rfl⟩
  | n + 1, x, h => by
    simp only [List.replicate_succ, Lks, Lk.fits] at h
    obtain ⟨d, r, rfl, ⟨v, rfl, h1, h2⟩, h3⟩ := h
    obtain ⟨l, rfl, hl⟩ := Lks.bytes h3
    have e1 : IntKind.u8.min = 0 := rfl
    have e2 : IntKind.u8.max = 255 := rfl
    refine ⟨UInt8.ofNat v.toNat :: l, ?_, by simp [hl]⟩
    simp only [hd, List.map_cons]
    congr 2
    simp [UInt8.toNat_ofNat]
    omega

theorem spend_of {r : List D} (h : Lks inK r) : ∃ s : SpG, r = s.row ∧ s.tx.length = 32 ∧ 0 ≤ s.sl ∧ s.sl ≤ 18446744073709551615 ∧ -9223372036854775808 ≤ s.n ∧ s.n ≤ 9223372036854775807 := by
  obtain ⟨y, z, rfl, h1, h2⟩ := Lks.split h
  obtain ⟨l, rfl, hl⟩ := Lks.bytes h1
  simp only [Lks, Lk.fits] at h2
  obtain ⟨_, _, rfl, ⟨n, rfl, n0, n1⟩, _, _, rfl, ⟨k, rfl, _⟩, _, _, rfl, ⟨q, rfl, h3, h4⟩, rfl⟩ := h2
  have e1 : IntKind.u64.min = 0 := rfl
  have e2 : IntKind.u64.max = 18446744073709551615 := rfl
  have e3 : IntKind.i64.min = -9223372036854775808 := rfl
  have e4 : IntKind.i64.max = 9223372036854775807 := rfl
  exact ⟨⟨l, n, k, q⟩, rfl, hl, by simp only; omega, by simp only; omega, by simp only; omega, by simp only; omega⟩
theorem spends_of : ∀ {rows : List (List D)}, (∀ r ∈ rows, Lks inK r) → ∃ l : List SpG, rows = spRows l ∧ ∀ s ∈ l, s.tx.length = 32 ∧ 0 ≤ s.sl ∧ s.sl ≤ 18446744073709551615 ∧ -9223372036854775808 ≤ s.n ∧ s.n ≤ 9223372036854775807
  | [], _ => ⟨[], rfl, by simp⟩
  | r :: rows, h => by
    obtain ⟨s, rfl, hs⟩ := spend_of (h r (by simp))
    obtain ⟨l, rfl, hl⟩ := spends_of (rows := rows) fun r hr => h r (by simp [hr])
    exact ⟨s :: l, rfl, fun x hx => by
      simp at hx
      rcases hx with rfl | hx
      · exact hs
      · exact hl x hx⟩
theorem coin_of {r : List D} (h : Lks outK r) : ∃ c : CoG, r = c.row ∧ c.Ok := by
  simp only [outK, Lks, Lk.fits] at h
  obtain ⟨_, _, rfl, ⟨n, rfl, _, _⟩, _, _, rfl, ⟨q, rfl, h3, h4⟩, rfl⟩ := h
  have e1 : IntKind.u64.min = 0 := rfl
  have e2 : IntKind.u64.max = 18446744073709551615 := rfl
  exact ⟨⟨n, q⟩, rfl, by constructor <;> simp only <;> omega⟩
theorem coins_of : ∀ {rows : List (List D)}, (∀ r ∈ rows, Lks outK r) → ∃ l : List CoG, rows = coRows l ∧ ∀ c ∈ l, c.Ok
  | [], _ => ⟨[], rfl, by simp⟩
  | r :: rows, h => by
    obtain ⟨s, rfl, hs⟩ := coin_of (h r (by simp))
    obtain ⟨l, rfl, hl⟩ := coins_of (rows := rows) fun r hr => h r (by simp [hr])
    exact ⟨s :: l, rfl, fun x hx => by
      simp at hx
      rcases hx with rfl | hx
      · exact hs
      · exact hl x hx⟩

/-- What an argument's message holds. -/
structure MT.Raw (t : MT) : Prop where
  ok : MsgOk t.m
  i : LV (.d t.m.ti) (spRows t.ins)
  o : LV (.d t.m.to) (coRows t.outs)
  s : ∀ s ∈ t.ins, s.tx.length = 32 ∧ 0 ≤ s.sl ∧ s.sl ≤ 18446744073709551615 ∧ -9223372036854775808 ≤ s.n ∧ s.n ≤ 9223372036854775807
  c : ∀ c ∈ t.outs, c.Ok
theorem sp_key (s : SpG) (h : s.tx.length = 32) : s.row[33]? = some (.str s.key) := by
  have : (hd s.tx).length = 32 := by simp [hd_len, h]
  simp only [SpG.row]
  rw [List.getElem?_append_right (by omega), this]
  rfl
theorem msg_of {r : List D} (h : Lks msgK r) : ∃ t : MT, r = t.m.row ∧ t.Raw := by
  simp only [msgK, Lks] at h
  obtain ⟨_, _, rfl, h1, _, _, rfl, h2, _, _, rfl, h3, _, _, rfl, h4, d5, _, rfl, h5, _, _, rfl, h6, d7, _, rfl, h7, d8, _, rfl, h8, d9, _, rfl, h9, d10, _, rfl, h10, _, _, rfl, h11, rfl⟩ := h
  obtain ⟨r5, l5, f5⟩ := lk_list h5
  obtain ⟨r7, l7, f7⟩ := lk_list h7
  obtain ⟨r8, l8, f8⟩ := lk_list h8
  obtain ⟨r9, l9, f9⟩ := lk_list h9
  obtain ⟨r10, l10, f10⟩ := lk_list h10
  simp only [Lk.fits] at h1 h2 h3 h4 h6 h11
  obtain ⟨n1, rfl, _⟩ := h1
  obtain ⟨n2, rfl, _⟩ := h2
  obtain ⟨n3, rfl, _⟩ := h3
  obtain ⟨n4, rfl, _⟩ := h4
  obtain ⟨b6, rfl⟩ := h6
  obtain ⟨b11, rfl⟩ := h11
  have g9 := fun r hr => (f9 r hr).length
  have g10 := fun r hr => (f10 r hr).length
  obtain ⟨ins, rfl, hi⟩ := spends_of f9
  obtain ⟨outs, rfl, ho⟩ := coins_of f10
  refine ⟨⟨⟨n1, n2, n3, n4, d5, b6, d7, d8, d9, d10, b11⟩, ins, outs⟩, rfl, ⟨r5, r7, r8, spRows ins, coRows outs, ⟨l5, l7, l8, ⟨l9, l10, g9, g10⟩, fun r hr => (f5 r hr).length, fun r hr => (f7 r hr).length, fun r hr => (f8 r hr).length⟩, fun r hr => ?_⟩, l9, l10, hi, ho⟩
  simp only [spRows, List.mem_map] at hr
  obtain ⟨s, hs, rfl⟩ := hr
  exact ⟨s.key, sp_key s (hi s hs).1⟩
theorem msgs_of : ∀ {rows : List (List D)}, (∀ r ∈ rows, Lks msgK r) → ∃ l : List MT, rows = mtRows l ∧ ∀ t ∈ l, t.Raw
  | [], _ => ⟨[], rfl, by simp⟩
  | r :: rows, h => by
    obtain ⟨s, rfl, hs⟩ := msg_of (h r (by simp))
    obtain ⟨l, rfl, hl⟩ := msgs_of (rows := rows) fun r hr => h r (by simp [hr])
    exact ⟨s :: l, rfl, fun x hx => by
      simp at hx
      rcases hx with rfl | hx
      · exact hs
      · exact hl x hx⟩
theorem MT.Raw.good {t : MT} (h : t.Raw) (h2 : Small2 t.m) : t.Ok := by
  obtain ⟨a, b, c, d⟩ := h2
  rw [lenD_eq h.i] at b
  rw [lenD_eq h.o] at c
  simp only [spRows, coRows, List.length_map] at b c
  refine ⟨h.i, h.o, b, c, fun s hs => ⟨(h.s s hs).1, ?_, (h.s s hs).2.1, (h.s s hs).2.2.1, (h.s s hs).2.2.2.1, (h.s s hs).2.2.2.2⟩, h.c⟩
  rcases d _ h.i s.row (List.mem_map.2 ⟨s, hs, rfl⟩) s.key (sp_key s (h.s s hs).1) with h | h <;> omega

theorem mt_rows (l : List MT) : mtRows l = msgRows (l.map (·.m)) := by simp [mtRows, msgRows]

theorem s_StoryBodies {x : D} {l : List MT} (hx : LV (.d x) (mtRows l)) (hr : ∀ t ∈ l, t.Raw) : Dn.Call Γ cx .val 3 [.d x] St.empty fun v _ => v = B true := by
  refine Dn.Call.body (fc := c3) rfl ?_
  simp -implicitDefEqProofs [c3, c3_k5]
  refine use_fn rfl s_alive31 rfl ?_
  simp -implicitDefEqProofs [c3_k4, c3_k3]
  have hx' : LV (.d x) (msgRows (l.map (·.m))) := by rw [← mt_rows]; exact hx
  refine use_val (ds := [.d x]) rfl (s_program hx' (by simp; exact fun t ht => (hr t ht).ok)) ?_
  rintro v s ⟨y, bb, rfl, hb⟩
  refine ⟨rfl, fun h => by simp [V.borrows] at h, ?_⟩
  cases bb with
  | false => simp -implicitDefEqProofs [c3_k2, c3_k1]
  | true =>
    obtain ⟨hy, hl21, hsm⟩ := hb rfl
    rw [← mt_rows] at hy
    simp at hl21
    have hok : ∀ t ∈ l, t.Ok := fun t ht => (hr t ht).good (hsm t.m (List.mem_map.2 ⟨t, ht, rfl⟩)).2
    have hbl := bodiesS_len l
    have hb32 := bodiesS_32 l
    have ht32 := tw_32 hb32 (bodiesS l).length
    have htl := tw_len (bodiesS l) (bodiesS l).length
    simp -implicitDefEqProofs [c3_k2, c3_k1, c3_k0]
    refine use_val rfl (s_Bodies hy hok (by omega)) fun v1 _ ⟨y1, e1, hy1⟩ => ?_
    subst e1
    refine ⟨rfl, fun h => by simp [V.borrows] at h, ?_⟩
    simp -implicitDefEqProofs
    refine use_val rfl (s_rBodies hx hok (by omega)) fun v2 _ ⟨y2, e2, hy2⟩ => ?_
    subst e2
    refine ⟨rfl, fun h => by simp [V.borrows] at h, ?_⟩
    simp -implicitDefEqProofs
    refine use_fn rfl (s_Hashes hy1 hy2 hb32 (by omega)) rfl ?_
    simp -implicitDefEqProofs
    refine use_val rfl (s_Twice hy hok (by omega)) fun v3 _ ⟨y3, e3, hy3⟩ => ?_
    subst e3
    refine ⟨rfl, fun h => by simp [V.borrows] at h, ?_⟩
    simp -implicitDefEqProofs
    refine use_val rfl (s_rTwice hx hok (by omega)) fun v4 _ ⟨y4, e4, hy4⟩ => ?_
    subst e4
    refine ⟨rfl, fun h => by simp [V.borrows] at h, ?_⟩
    simp -implicitDefEqProofs
    refine use_fn rfl (s_Hashes hy3 hy4 ht32 (by omega)) rfl ?_
    simp -implicitDefEqProofs

theorem lawB {x : D} (hx : (Lk.list msgK).fits x) : Dn.Call Γ cx .val 3 [.d x] St.empty fun v _ => v = .d (.bool true) := by
  obtain ⟨rx, lx, fx⟩ := lk_list hx
  obtain ⟨a, rfl, ha⟩ := msgs_of fx
  exact s_StoryBodies lx ha
end Go.Proofs.YtmcojkkpanijjaaDoor.T
