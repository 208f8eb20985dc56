import Derived.Test.YtmcojkkpanijjaaDoorP6
import Derived.Test.YtmcojkkpanijjaaDoorP6
namespace Go.Proofs.YtmcojkkpanijjaaDoor.T
open Go.Dn
attribute [local simp] body_eq globEnv GB List.map_nil List.map_cons List.append_nil w_rangeF i_next i_makeMap i_range i_update i_delete q_rndA q_rndB_n q_rndB_e q_rndB_r setAll w_skip w_ops w_seq w_cond w_block w_exit w_ret q_then_n q_then_e q_then_r q_blk_n q_blk_e q_blk_r q_ops q_cont q_end_n q_end_r q_end_e q_loop_n q_loop_e q_loop_r i_nil i_p i_alloc i_box i_store i_copy i_clear i_call i_callv i_when t_nil t_p t_call t_alloc t_box t_store kept_nil t_copy t_clear q_tcont gsel List.cons_append List.nil_append evalP evalE evalF evalB isObj thaw Opd.ev Env.get Env.set Env.pick putE initEnv evalBin intBin evalUn evalConv goneAll goneOne retV resAll Res.ev tupOf byVals byValsN bv_d bv_da bv_fl bv_tl bn_d bn_da bn_fl bn_tl cx Dn.newObj St.place St.push St.spot St.empty cell_d cell_da cell_agg cell_ref cell_sl cell_fl cell_tl cell_map cell_fn cell_ifc loadAt faddrV partOf extractV mkAgg ofD splice St.setObj fillV
set_option linter.unusedSimpArgs false
set_option linter.unusedVariables false

/-! ### transactions, plain -/
structure SpG where
  tx : List UInt8
  n : Int
  key : List UInt8
  sl : Int
structure CoG where
  value : Int
  lock : Int
def SpG.row (s : SpG) : List D := hd s.tx ++ [.int .i64 s.n, .str s.key, .int .u64 s.sl]
def CoG.row (c : CoG) : List D := [.int .i64 c.value, .int .u64 c.lock]
structure SpG.Ok (s : SpG) : Prop where
  tx : s.tx.length = 32
  key : s.key.length ≤ 5000
  sl0 : 0 ≤ s.sl
  sl1 : s.sl ≤ 18446744073709551615
  n0 : -9223372036854775808 ≤ s.n
  n1 : s.n ≤ 9223372036854775807
def CoG.Ok (c : CoG) : Prop := 0 ≤ c.lock ∧ c.lock ≤ 18446744073709551615
def u64 (n : Int) : Int := IntKind.u64.wrap n
theorem u64_0 (n : Int) : 0 ≤ u64 n := by unfold u64; simp only [IntKind.wrap, IntKind.signed, IntKind.bits]; simp; omega
theorem u64_1 (n : Int) : u64 n ≤ 18446744073709551615 := by unfold u64; simp only [IntKind.wrap, IntKind.signed, IntKind.bits]; simp; omega
def spB (w : Bool) (s : SpG) : List UInt8 := s.tx ++ low (u64 s.n) 4 ++ (if w then countB s.key.length ++ s.key ++ low s.sl 8 else [])
def coB (c : CoG) : List UInt8 := low (u64 c.value) 8 ++ low c.lock 8
def txB (w : Bool) (ins : List SpG) (outs : List CoG) (f : Bool) : List UInt8 := countB ins.length ++ ins.flatMap (spB w) ++ countB outs.length ++ outs.flatMap coB ++ [if f then 1 else 0]

theorem spB_len (w : Bool) {s : SpG} (h : s.Ok) : (spB w s).length ≤ 5060 := by
  have h1 := h.tx
  have h2 := h.key
  have h3 := countB_len s.key.length
  unfold spB
  cases w <;> simp [low_len] <;> omega
theorem coB_len (c : CoG) : (coB c).length = 16 := by simp [coB, low_len]
theorem sp_row_len {s : SpG} (h : s.Ok) : s.row.length = 35 := by simp [SpG.row, hd_len, h.tx]
theorem sp_take {s : SpG} (h : s.Ok) : List.take 32 (List.map V.d s.row) = (hd s.tx).map V.d := by
  have : (List.map V.d (hd s.tx)).length = 32 := by simp [hd_len, h.tx]
  simp only [SpG.row, List.map_append]
  rw [List.take_append_of_le_length (by omega), List.take_of_length_le (by omega)]
theorem sp_at {s : SpG} (h : s.Ok) : s.row[32]? = some (.int .i64 s.n) ∧ s.row[33]? = some (.str s.key) ∧ s.row[34]? = some (.int .u64 s.sl) := by
  have : (hd s.tx).length = 32 := by simp [hd_len, h.tx]
  simp only [SpG.row]
  refine ⟨?_, ?_, ?_⟩
  · rw [List.getElem?_append_right (by omega), this]; rfl
  · rw [List.getElem?_append_right (by omega), this]; rfl
  · rw [List.getElem?_append_right (by omega), this]; rfl
def spRows (l : List SpG) : List (List D) := l.map SpG.row
def coRows (l : List CoG) : List (List D) := l.map CoG.row
theorem flat_take {α : Type} (f : α → List UInt8) (l : List α) {i : Nat} {a : α} (h : l[i]? = some a) : (l.take (i + 1)).flatMap f = (l.take i).flatMap f ++ f a := by
  obtain ⟨hi, rfl⟩ := List.getElem?_eq_some_iff.1 h
  rw [← List.take_append_getElem hi, List.flatMap_append]
  simp

theorem OutAt.push {σ : St} {r : Nat} {l : List UInt8} {v : V} (h : OutAt σ r l v) (o : Dn.Obj) : OutAt ⟨σ.objs ++ [o], σ.toks⟩ r l v :=
  ⟨by simp only; rw [List.getElem?_append_left (List.getElem?_eq_some_iff.1 h.obj).1]; exact h.obj, h.app.toks rfl⟩

def InvTI (w : Bool) (i o : D) (f : Bool) (ins : List SpG) (pre : List UInt8) (m : Nat) (e : Env) (σ : St) : Prop := ∃ (j : Nat) (v : V), e = [(1, B w), (2, .ref 0 0), (5, .ref 1 0), (19, .d i), (20, I ins.length), (21, I j)] ∧ j ≤ ins.length ∧ m = ins.length - j ∧
  σ.objs[0]? = some (.cells [.d i, .d o, .d (.bool f)]) ∧ OutAt σ 1 (pre ++ (ins.take j).flatMap (spB w)) v ∧ (pre ++ (ins.take j).flatMap (spB w)).length ≤ 10 + 5060 * j

def InvTO (i o : D) (f : Bool) (outs : List CoG) (pre : List UInt8) (N : Nat) (m : Nat) (e : Env) (σ : St) : Prop := ∃ (j : Nat) (v : V), e = [(2, .ref 0 0), (5, .ref 1 0), (52, .d o), (53, I outs.length), (54, I j)] ∧ j ≤ outs.length ∧ m = outs.length - j ∧
  σ.objs[0]? = some (.cells [.d i, .d o, .d (.bool f)]) ∧ OutAt σ 1 (pre ++ (outs.take j).flatMap coB) v ∧ (pre ++ (outs.take j).flatMap coB).length ≤ N + 16 * j

theorem s_put {i o : D} {f w : Bool} {ins : List SpG} {outs : List CoG} (hi : LV (.d i) (spRows ins)) (ho : LV (.d o) (coRows outs)) (hli : ins.length ≤ 30) (hlo : outs.length ≤ 30) (hoi : ∀ s ∈ ins, s.Ok) (hoo : ∀ c ∈ outs, c.Ok) :
    Dn.Call Γ cx .val 54 [.da [i, o, .bool f], B w] St.empty fun v _ => v = .d (.list (byteRows (txB w ins outs f))) := by
  refine Dn.Call.body (fc := c54) rfl ?_
  have hil : ∀ σ, lenT σ .slice (.d i) = some ins.length := fun σ => by rw [hi.len]; simp [spRows]
  have hol : ∀ σ, lenT σ .slice (.d o) = some outs.length := fun σ => by rw [ho.len]; simp [coRows]
  simp -implicitDefEqProofs [c54, c54_k26, c54_k25, hil, mkAgg]
  have h00 : OutAt ⟨[.cells [.d i, .d o, .d (.bool f)], .cells [.d .nils]], []⟩ 1 [] (.d .nils) := ⟨rfl, .nil⟩
  refine use_raw (s_Count h00 (by simp) ins.length (by omega)) fun x σ ⟨v, hp⟩ => ?_
  have g0 : σ.objs[0]? = some (.cells [.d i, .d o, .d (.bool f)]) := by rw [hp.fr.2 0 (by simp) (by simp)]; rfl
  simp -implicitDefEqProofs [c54_k24, c54_k23, g0, hil]
  have hcl := countB_len ins.length
  refine wloopI (InvTI w i o f ins (countB ins.length)) (m := ins.length) ⟨0, v, rfl, by omega, rfl, g0, by simpa using hp.out, by simp; omega⟩ ?_
  rintro m e σ1 ⟨j, v1, rfl, hj, rfl, g1, h1, hlen⟩
  simp -implicitDefEqProofs [c54_l22, c54_k21]
  by_cases hji : j < ins.length
  · obtain ⟨s, hs⟩ : ∃ s, ins[j]? = some s := ⟨ins[j], by simp [hji]⟩
    have hok := hoi s (List.mem_of_getElem? hs)
    have hrow : (spRows ins)[j]? = some s.row := by simp [spRows, hs]
    have hia := hi.iaddr σ1 (k := .i64) (sz := 35) hrow (sp_row_len hok)
    have hft := flat_take (spB w) ins hs
    have hjj : (j : Int) < ins.length := by omega
    obtain ⟨a32, a33, a34⟩ := sp_at hok
    have s35 : List.take 35 (List.map V.d s.row) = List.map V.d s.row := List.take_of_length_le (by simp [sp_row_len hok])
    have s32 := sp_take hok
    simp -implicitDefEqProofs [hjj, hji, c54_k20, c54_k19, hia, sp_row_len hok, s35]
    have hl2 : 1 < σ1.objs.length := (List.getElem?_eq_some_iff.1 h1.obj).1
    have h2 := h1.push (.cells (List.map V.d s.row))
    have g2 : (σ1.objs ++ [Dn.Obj.cells (List.map V.d s.row)])[0]? = some (.cells [.d i, .d o, .d (.bool f)]) := by rw [List.getElem?_append_left (by omega)]; exact g1
    have q2 : (σ1.objs ++ [Dn.Obj.cells (List.map V.d s.row)])[σ1.objs.length]? = some (.cells (List.map V.d s.row)) := by simp
    have hq2 : σ1.objs.length < (σ1.objs ++ [Dn.Obj.cells (List.map V.d s.row)]).length := by simp
    obtain ⟨σ2, hσ2⟩ : ∃ σ2 : St, (⟨σ1.objs ++ [.cells (List.map V.d s.row)], σ1.toks⟩ : St) = σ2 := ⟨_, rfl⟩
    have e2 : σ1.objs ++ [Dn.Obj.cells (List.map V.d s.row)] = σ2.objs := by rw [← hσ2]
    rw [e2] at g2 q2 hq2
    rw [hσ2] at h2 ⊢
    generalize σ1.objs.length = q at *
    have a32' : (List.map V.d s.row)[32]? = some (.d (.int .i64 s.n)) := by simp [a32]
    have a33' : (List.map V.d s.row)[33]? = some (.d (.str s.key)) := by simp [a33]
    have a34' : (List.map V.d s.row)[34]? = some (.d (.int .u64 s.sl)) := by simp [a34]
    have hml : (List.map V.d s.row).length = 35 := by simp [sp_row_len hok]
    generalize List.map V.d s.row = rw_ at *
    simp -implicitDefEqProofs [c54_k18, q2, hml, s32, mkAgg, ofD_hd]
    refine use_raw (s_Hash h2 (by omega) s.tx hok.tx) fun x3 σ3 ⟨v3, p3⟩ => ?_
    have q3 : σ3.objs[q]? = some (.cells rw_) := by rw [p3.fr.at_ q (by simp; omega) hq2]; exact q2
    have u3 : IntKind.u64.wrap s.n = u64 s.n := rfl
    simp -implicitDefEqProofs [c54_k17, q3, a32', u3]
    have l3 : ((countB ins.length ++ (ins.take j).flatMap (spB w)) ++ s.tx).length ≤ 10 + 5060 * j + 32 := by rw [List.length_append, hok.tx]; omega
    refine use_raw (s_Num p3.out (by omega) (u64 s.n) 4) fun x4 σ4 ⟨v4, p4⟩ => ?_
    have hq3 : q < σ3.objs.length := Nat.lt_of_lt_of_le hq2 p3.fr.len
    have q4 : σ4.objs[q]? = some (.cells rw_) := by rw [p4.fr.at_ q (by simp; omega) hq3]; exact q3
    have n4 : numB (u64 s.n) 4 = low (u64 s.n) 4 := rfl
    have p24 := p3.trans p4
    rw [n4] at p24 p4
    have l4 : ((countB ins.length ++ (ins.take j).flatMap (spB w)) ++ s.tx ++ low (u64 s.n) 4).length ≤ 10 + 5060 * j + 36 := by rw [List.length_append, low_len]; omega
    have hq4 : q < σ4.objs.length := Nat.lt_of_lt_of_le hq3 p4.fr.len
    have h02 : 0 < σ2.objs.length := (List.getElem?_eq_some_iff.1 g2).1
    have fin : ∀ {σ' : St} {v' : V}, Put σ2 1 v1 (countB ins.length ++ (ins.take (j + 1)).flatMap (spB w)) σ' v' → ∃ m', m' < ins.length - j ∧ InvTI w i o f ins (countB ins.length) m' [(1, B w), (2, .ref 0 0), (5, .ref 1 0), (19, .d i), (20, I ins.length), (21, .d (.int .i64 ((j : Int) + 1)))] σ' := fun {σ' v'} hp' =>
      ⟨ins.length - (j + 1), by omega, j + 1, v', rfl, by omega, rfl, by rw [hp'.fr.at_ 0 (by simp) h02]; exact g2, hp'.out, by
        rw [hft]
        have := spB_len w hok
        simp only [List.length_append] at hlen ⊢
        omega⟩
    cases w with
    | false =>
      simp -implicitDefEqProofs [c54_k16, c54_k15, wrap_i64 (n := (j : Int) + 1) (by omega) (by omega)]
      refine fin (v' := v4) ?_
      rw [hft]
      simpa [spB] using p24
    | true =>
      simp -implicitDefEqProofs [c54_k16, c54_k15, q4, a33']
      have hkey := hok.key
      have hckl := countB_len s.key.length
      refine use_raw (s_Text p4.out (by omega) s.key (by omega)) fun x5 σ5 ⟨v5, p5⟩ => ?_
      have q5 : σ5.objs[q]? = some (.cells rw_) := by rw [p5.fr.at_ q (by simp; omega) hq4]; exact q4
      simp -implicitDefEqProofs [c54_k14, q5, a34']
      have l5 : ((countB ins.length ++ (ins.take j).flatMap (spB true)) ++ s.tx ++ low (u64 s.n) 4 ++ (countB s.key.length ++ s.key)).length ≤ 10 + 5060 * j + 36 + 5010 := by
        simp only [List.length_append] at l4 ⊢
        omega
      refine use_raw (s_Num p5.out (by omega) s.sl 8) fun x6 σ6 ⟨v6, p6⟩ => ?_
      have n6 : numB s.sl 8 = low s.sl 8 := rfl
      have p26 := (p24.trans p5).trans p6
      rw [n6] at p26
      simp -implicitDefEqProofs [wrap_i64 (n := (j : Int) + 1) (by omega) (by omega)]
      refine fin (v' := v6) ?_
      rw [hft]
      simpa [spB] using p26
  · obtain rfl : j = ins.length := by omega
    rw [List.take_length] at h1 hlen
    simp -implicitDefEqProofs [c54_k13, g1, hol]
    have hcl2 := countB_len outs.length
    refine use_raw (s_Count h1 (by omega) outs.length (by omega)) fun x2 σ2 ⟨v2, p2⟩ => ?_
    have hl2 : 1 < σ1.objs.length := (List.getElem?_eq_some_iff.1 h1.obj).1
    have g2 : σ2.objs[0]? = some (.cells [.d i, .d o, .d (.bool f)]) := by rw [p2.fr.at_ 0 (by simp) (by omega)]; exact g1
    simp -implicitDefEqProofs [c54_k12, c54_k11, g2, hol]
    have o2 := p2.out
    generalize hpre : (countB ins.length ++ ins.flatMap (spB w)) ++ countB outs.length = pre at *
    have hprel : pre.length ≤ 152000 := by rw [← hpre]; simp only [List.length_append] at hlen ⊢; omega
    refine wloopI (InvTO i o f outs pre 152000) (m := outs.length) ⟨0, v2, rfl, by omega, rfl, g2, by simpa using o2, by simpa using hprel⟩ ?_
    rintro m e σ3 ⟨j, v3, rfl, hj, rfl, g3, h3, hlen3⟩
    simp -implicitDefEqProofs [c54_l10, c54_k9]
    by_cases hjo : j < outs.length
    · obtain ⟨c, hc⟩ : ∃ c, outs[j]? = some c := ⟨outs[j], by simp [hjo]⟩
      have hrow : (coRows outs)[j]? = some c.row := by simp [coRows, hc]
      have hia := ho.iaddr σ3 (k := .i64) (sz := 2) hrow rfl
      have hft := flat_take coB outs hc
      have hjj : (j : Int) < outs.length := by omega
      simp -implicitDefEqProofs [hjj, hjo, c54_k8, c54_k7, hia, CoG.row]
      have hl3 : 1 < σ3.objs.length := (List.getElem?_eq_some_iff.1 h3.obj).1
      generalize hcs : [V.d (.int .i64 c.value), V.d (.int .u64 c.lock)] = cs at *
      have h4 := h3.push (.cells cs)
      have g4 : (σ3.objs ++ [Dn.Obj.cells cs])[0]? = some (.cells [.d i, .d o, .d (.bool f)]) := by rw [List.getElem?_append_left (by omega)]; exact g3
      have q4 : (σ3.objs ++ [Dn.Obj.cells cs])[σ3.objs.length]? = some (.cells cs) := by simp
      have hq4 : σ3.objs.length < (σ3.objs ++ [Dn.Obj.cells cs]).length := by simp
      obtain ⟨σ4, hσ4⟩ : ∃ σ4 : St, (⟨σ3.objs ++ [.cells cs], σ3.toks⟩ : St) = σ4 := ⟨_, rfl⟩
      have e4 : σ3.objs ++ [Dn.Obj.cells cs] = σ4.objs := by rw [← hσ4]
      rw [e4] at g4 q4 hq4
      rw [hσ4] at h4 ⊢
      generalize σ3.objs.length = q at *
      have hc0 : cs[0]? = some (.d (.int .i64 c.value)) := by rw [← hcs]; rfl
      have hc1 : cs[1]? = some (.d (.int .u64 c.lock)) := by rw [← hcs]; rfl
      have u3 : IntKind.u64.wrap c.value = u64 c.value := rfl
      have h04 : 0 < σ4.objs.length := (List.getElem?_eq_some_iff.1 g4).1
      simp -implicitDefEqProofs [c54_k6, q4, hc0, u3]
      refine use_raw (s_Num h4 (by omega) (u64 c.value) 8) fun x5 σ5 ⟨v5, p5⟩ => ?_
      have q5 : σ5.objs[q]? = some (.cells cs) := by rw [p5.fr.at_ q (by simp; omega) hq4]; exact q4
      simp -implicitDefEqProofs [c54_k5, q5, hc1]
      have n5 : numB (u64 c.value) 8 = low (u64 c.value) 8 := rfl
      have n6 : numB c.lock 8 = low c.lock 8 := rfl
      rw [n5] at p5
      refine use_raw (s_Num p5.out (by rw [List.length_append, low_len]; omega) c.lock 8) fun x6 σ6 ⟨v6, p6⟩ => ?_
      have p46 := p5.trans p6
      rw [n6] at p46
      simp -implicitDefEqProofs [wrap_i64 (n := (j : Int) + 1) (by omega) (by omega)]
      refine ⟨outs.length - (j + 1), by omega, j + 1, v6, rfl, by omega, rfl, by rw [p46.fr.at_ 0 (by simp) h04]; exact g4, ?_, ?_⟩
      · rw [hft]
        simpa [coB] using p46.out
      · rw [hft]
        have := coB_len c
        simp only [List.length_append] at hlen3 ⊢
        omega
    · obtain rfl : j = outs.length := by omega
      rw [List.take_length] at h3 hlen3
      have hfin : ∀ (b : UInt8) (σ' : St) (v' : V), OutAt σ' 1 (pre ++ outs.flatMap coB ++ [b]) v' → b = (if f then 1 else 0) → dv v' = .d (.list (byteRows (txB w ins outs f))) := by
        intro b σ' v' ho' hb
        have hfz := App.frozen ho'.app (by intro e; have := congrArg List.length e; rw [byteRows_len] at this; simp at this)
        obtain ⟨d1, -, -, -, -⟩ := ho'.app.lv.dv σ'
        rw [hfz] at d1
        have : pre ++ outs.flatMap coB ++ [b] = txB w ins outs f := by rw [← hpre, hb]; rfl
        rw [this] at d1
        exact (Option.some.inj d1).symm
      cases f with
      | true =>
        simp -implicitDefEqProofs [c54_k4, c54_k3, c54_k2, c54_k1, g3]
        refine use_raw (s_Num h3 (by omega) 1 1) fun x5 σ5 ⟨v5, p5⟩ => ?_
        have nb : numB 1 1 = [1] := by decide
        have hdv := hfin 1 σ5 v5 (by have := p5.out; rw [nb] at this; exact this) rfl
        simp -implicitDefEqProofs [c54_k0]
        refine use_rd (s_Bytes p5.out (by rw [nb]; simp only [List.length_append, List.length_singleton] at hlen3 ⊢; omega)) ?_
        rw [hdv]
        simp -implicitDefEqProofs
      | false =>
        simp -implicitDefEqProofs [c54_k4, c54_k3, c54_k2, c54_k1, g3]
        refine use_raw (s_Num h3 (by omega) 0 1) fun x5 σ5 ⟨v5, p5⟩ => ?_
        have nb : numB 0 1 = [0] := by decide
        have hdv := hfin 0 σ5 v5 (by have := p5.out; rw [nb] at this; exact this) rfl
        simp -implicitDefEqProofs [c54_k0]
        refine use_rd (s_Bytes p5.out (by rw [nb]; simp only [List.length_append, List.length_singleton] at hlen3 ⊢; omega)) ?_
        rw [hdv]
        simp -implicitDefEqProofs
end Go.Proofs.YtmcojkkpanijjaaDoor.T
