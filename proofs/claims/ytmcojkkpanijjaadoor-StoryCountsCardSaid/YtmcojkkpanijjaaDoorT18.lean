import Derived.Test.YtmcojkkpanijjaaDoorT9
namespace Go.Proofs.YtmcojkkpanijjaaDoor.T
open Go.Dn
attribute [local simp] body_eq globEnv GB List.map_nil List.map_cons List.append_nil w_rangeF i_next i_makeMap i_range i_update i_delete q_rndA q_rndB_n q_rndB_e q_rndB_r setAll w_skip w_ops w_seq w_cond w_block w_exit w_ret q_then_n q_then_e q_then_r q_blk_n q_blk_e q_blk_r q_ops q_cont q_end_n q_end_r q_end_e q_loop_n q_loop_e q_loop_r i_nil i_p i_alloc i_box i_store i_copy i_clear i_call i_callv i_when t_nil t_p t_call t_alloc t_box t_store kept_nil t_copy t_clear q_tcont gsel List.cons_append List.nil_append evalP evalE evalF evalB isObj thaw Opd.ev Env.get Env.set Env.pick putE initEnv evalBin intBin evalUn evalConv goneAll goneOne retV resAll Res.ev tupOf byVals byValsN bv_d bv_da bv_fl bv_tl bn_d bn_da bn_fl bn_tl cx Dn.newObj St.place St.push St.spot St.empty cell_d cell_da cell_agg cell_ref cell_sl cell_fl cell_tl cell_map cell_fn cell_ifc loadAt faddrV partOf extractV mkAgg ofD splice St.setObj fillV
set_option linter.unusedSimpArgs false
set_option linter.unusedVariables false

def InvIds (x : MX) (pre : List UInt8) (m : Nat) (e : Env) (σ : St) : Prop := ∃ (j : Nat) (v : V), e = [(3, .ref 1 0), (51, .d x.t.m.ids), (52, I x.ids.length), (53, I j)] ∧ j ≤ x.ids.length ∧ m = x.ids.length - j ∧ OutAt σ 1 (pre ++ (x.ids.take j).flatMap fun n => low n 4) v ∧ (pre ++ (x.ids.take j).flatMap fun n => low n 4).length ≤ 20 + 4 * j

theorem flat_takeI (f : Int → List UInt8) (l : List Int) {i : Nat} {a : Int} (h : l[i]? = some a) : (l.take (i + 1)).flatMap f = (l.take i).flatMap f ++ f a := flat_take f l h

theorem ids_loop {x : MX} (h : x.Ok) (hs : x.Small) {σ : St} {v : V} {pre : List UInt8} (ho : OutAt σ 1 pre v) (hp : pre.length ≤ 20) : wcode (Dn.Call Γ cx) cx c58_k6 [(3, .ref 1 0), (51, .d x.t.m.ids), (52, I x.ids.length), (53, I 0)] σ
    (blkQ 0 (thenQ (Dn.Call Γ cx) cx c58_k0 (endQ .val St.empty [.tmp 2] fun v _ => ∃ d, v = .d d ∧ LV (.d d) (byteRows (pre ++ x.ids.flatMap fun n => low n 4))))) := by
  simp only [body_eq, globEnv, GB, List.map_nil, List.map_cons, List.append_nil, w_rangeF, i_next, i_makeMap, i_range, i_update, i_delete, q_rndA, q_rndB_n, q_rndB_e, q_rndB_r, setAll, w_skip, w_ops, w_seq, w_cond, w_block, w_exit, w_ret, q_then_n, q_then_e, q_then_r, q_blk_n, q_blk_e, q_blk_r, q_ops, q_cont, q_end_n, q_end_r, q_end_e, q_loop_n, q_loop_e, q_loop_r, i_nil, i_p, i_alloc, i_box, i_store, i_copy, i_clear, i_call, i_callv, i_when, t_nil, t_p, t_call, t_alloc, t_box, t_store, kept_nil, t_copy, t_clear, q_tcont, gsel, List.cons_append, List.nil_append, evalP, evalE, evalF, evalB, isObj, thaw, Opd.ev, Env.get, Env.set, Env.pick, putE, initEnv, evalBin, intBin, evalUn, evalConv, goneAll, goneOne, retV, resAll, Res.ev, tupOf, byVals, byValsN, bv_d, bv_da, bv_fl, bv_tl, bn_d, bn_da, bn_fl, bn_tl, cx, Dn.newObj, St.place, St.push, St.spot, St.empty, cell_d, cell_da, cell_agg, cell_ref, cell_sl, cell_fl, cell_tl, cell_map, cell_fn, cell_ifc, loadAt, faddrV, partOf, extractV, mkAgg, ofD, splice, St.setObj, fillV, c58_k6]
  refine wloopI (InvIds x pre) (m := x.ids.length) ⟨0, v, rfl, by omega, rfl, by simpa using ho, by simpa using hp⟩ ?_
  rintro m e σ' ⟨j, v', rfl, hj, rfl, hout, hlen⟩
  simp -implicitDefEqProofs [c58_l5, c58_k4]
  have hsi := hs.i
  by_cases hji : j < x.ids.length
  · obtain ⟨n, hn⟩ : ∃ n, x.ids[j]? = some n := ⟨x.ids[j], by simp [hji]⟩
    have hbn := h.bi n (List.mem_of_getElem? hn)
    have hia := fun σ => h.i.iaddr σ (k := .i64) (sz := 1) (show (uRows x.ids)[j]? = some [.int .u32 n] by simp [uRows, hn]) rfl
    have hjj : (j : Int) < x.ids.length := by omega
    have hft := flat_takeI (fun n => low n 4) x.ids hn
    have u1 : IntKind.u64.wrap n = n := by simp only [IntKind.wrap, IntKind.signed, IntKind.bits]; simp; omega
    simp -implicitDefEqProofs [hjj, hji, c58_k3, c58_k2, hia, u1]
    refine use_raw (s_Num hout (by omega) n 4) fun w σ2 ⟨v2, hp2⟩ => ?_
    simp -implicitDefEqProofs [wrap_i64 (n := (j : Int) + 1) (by omega) (by omega)]
    have n4 : numB n 4 = low n 4 := rfl
    refine ⟨x.ids.length - (j + 1), by omega, j + 1, v2, rfl, by omega, rfl, ?_, ?_⟩
    · rw [hft, ← List.append_assoc]
      have := hp2.out
      rw [n4] at this
      exact this
    · rw [hft]
      simp only [List.length_append, low_len] at hlen ⊢
      omega
  · obtain rfl : j = x.ids.length := by omega
    rw [List.take_length] at hout hlen
    obtain ⟨d, dv1, dl⟩ := out_bytes hout
    simp -implicitDefEqProofs [c58_k0]
    refine use_rd (s_Bytes hout (by omega)) ?_
    rw [dv1]
    simp -implicitDefEqProofs
    exact dl

theorem s_body5 {x : MX} (h : x.Ok) (hs : x.Small) (hk : x.t.m.kind = 5) : Dn.Call Γ cx .val 58 [.da x.t.m.row] St.empty fun v _ => ∃ d, v = .d d ∧ LV (.d d) (byteRows (bodyS x)) := by
  refine Dn.Call.body (fc := c58) rfl ?_
  have h00 : OutAt ⟨[.cells (mCells x.t.m), .cells [.d .nils]], []⟩ 1 [] (.d .nils) := ⟨rfl, .nil⟩
  have hil : ∀ σ, lenT σ .slice (.d x.t.m.ids) = some x.ids.length := fun σ => by rw [h.i.len]; simp [uRows]
  have hsi := hs.i
  have hcl := countB_len x.ids.length
  unfold mCells at h00
  rw [hk] at h00
  simp -implicitDefEqProofs [c58, MG.row, hk, c58_k35, c58_k34, c58_k33, c58_k32, c58_k31, c58_k30, c58_k29, c58_k28, c58_k27, c58_k26, c58_k25, c58_k12, c58_k11, mkAgg, ofD]
  have fin : ∀ b : Int, numB b 1 = [if x.t.m.ok then 1 else 0] → ∀ (w : V) (σ : St), (∃ v, Put ⟨[.cells [.d (.int .i64 5), .d (.int .u64 x.t.m.half), .d (.int .i64 x.t.m.size), .d (.int .i64 x.t.m.q), .d x.t.m.data, .d (.bool x.t.m.ok), .d x.t.m.ids, .d x.t.m.hs, .d x.t.m.ti, .d x.t.m.to, .d (.bool x.t.m.tb)], .cells [.d .nils]], []⟩ 1 (.d .nils) ([] ++ numB b 1) σ v) → wcode (Dn.Call Γ cx) cx c58_k8 [(1, .ref 0 0), (3, .ref 1 0)] σ (blkQ 0 (thenQ (Dn.Call Γ cx) cx c58_k0 (endQ .val St.empty [.tmp 2] fun v _ => ∃ d, v = .d d ∧ LV (.d d) (byteRows (bodyS x))))) := by
    rintro b hb w σ ⟨v, hp⟩
    have hbody : bodyS x = (numB b 1 ++ countB x.ids.length) ++ x.ids.flatMap fun n => low n 4 := by rw [hb]; simp [bodyS, hk]
    have hnl := numB_len b 1
    have g0 := hp.fr.at_ 0 (by simp) (by simp)
    simp at g0
    simp -implicitDefEqProofs [c58_k8, g0, hil]
    refine use_raw (s_Count hp.out (by simp; omega) x.ids.length (by omega)) fun w2 σ2 ⟨v2, hp2⟩ => ?_
    have g2 : σ2.objs[0]? = σ.objs[0]? := hp2.fr.at_ 0 (by simp) (by have := (List.getElem?_eq_some_iff.1 g0).1; exact this)
    rw [g0] at g2
    have ho2 : OutAt σ2 1 (numB b 1 ++ countB x.ids.length) v2 := hp2.out
    have hl2 : (numB b 1 ++ countB x.ids.length).length ≤ 20 := by simp; omega
    generalize numB b 1 ++ countB x.ids.length = pre at *
    have key := ids_loop h hs ho2 hl2
    simp -implicitDefEqProofs [c58_k7, g2, hil]
    rw [hbody]
    exact key
  cases hok : x.t.m.ok with
  | true =>
    rw [hok] at h00 fin
    simp -implicitDefEqProofs [c58_k10, c58_k9]
    refine use_raw (s_Num h00 (by simp) 1 1) fun w σ hp => ?_
    simp -implicitDefEqProofs
    exact fin 1 (by decide) w σ hp
  | false =>
    rw [hok] at h00 fin
    simp -implicitDefEqProofs [c58_k10, c58_k9]
    refine use_raw (s_Num h00 (by simp) 0 1) fun w σ hp => ?_
    simp -implicitDefEqProofs
    exact fin 0 (by decide) w σ hp


def InvHss (x : MX) (pre : List UInt8) (m : Nat) (e : Env) (σ : St) : Prop := ∃ (j : Nat) (v : V), e = [(3, .ref 1 0), (72, .d x.t.m.hs), (73, I x.hs.length), (74, I j)] ∧ j ≤ x.hs.length ∧ m = x.hs.length - j ∧ OutAt σ 1 (pre ++ (x.hs.take j).flatten) v ∧ (pre ++ (x.hs.take j).flatten).length ≤ 20 + 32 * j

theorem hss_loop {x : MX} (h : x.Ok) (hs : x.Small) {σ : St} {v : V} {pre : List UInt8} (ho : OutAt σ 1 pre v) (hp : pre.length ≤ 20) {body : List UInt8} (hbody : body = pre ++ x.hs.flatten) : wcode (Dn.Call Γ cx) cx c58_k17 [(3, .ref 1 0), (72, .d x.t.m.hs), (73, I x.hs.length), (74, I 0)] σ
    (blkQ 0 (thenQ (Dn.Call Γ cx) cx c58_k0 (endQ .val St.empty [.tmp 2] fun v _ => ∃ d, v = .d d ∧ LV (.d d) (byteRows body)))) := by
  simp only [body_eq, globEnv, GB, List.map_nil, List.map_cons, List.append_nil, w_rangeF, i_next, i_makeMap, i_range, i_update, i_delete, q_rndA, q_rndB_n, q_rndB_e, q_rndB_r, setAll, w_skip, w_ops, w_seq, w_cond, w_block, w_exit, w_ret, q_then_n, q_then_e, q_then_r, q_blk_n, q_blk_e, q_blk_r, q_ops, q_cont, q_end_n, q_end_r, q_end_e, q_loop_n, q_loop_e, q_loop_r, i_nil, i_p, i_alloc, i_box, i_store, i_copy, i_clear, i_call, i_callv, i_when, t_nil, t_p, t_call, t_alloc, t_box, t_store, kept_nil, t_copy, t_clear, q_tcont, gsel, List.cons_append, List.nil_append, evalP, evalE, evalF, evalB, isObj, thaw, Opd.ev, Env.get, Env.set, Env.pick, putE, initEnv, evalBin, intBin, evalUn, evalConv, goneAll, goneOne, retV, resAll, Res.ev, tupOf, byVals, byValsN, bv_d, bv_da, bv_fl, bv_tl, bn_d, bn_da, bn_fl, bn_tl, cx, Dn.newObj, St.place, St.push, St.spot, St.empty, cell_d, cell_da, cell_agg, cell_ref, cell_sl, cell_fl, cell_tl, cell_map, cell_fn, cell_ifc, loadAt, faddrV, partOf, extractV, mkAgg, ofD, splice, St.setObj, fillV, c58_k17]
  refine wloopI (InvHss x pre) (m := x.hs.length) ⟨0, v, rfl, by omega, rfl, by simpa using ho, by simpa using hp⟩ ?_
  rintro m e σ' ⟨j, v', rfl, hj, rfl, hout, hlen⟩
  simp -implicitDefEqProofs [c58_l16, c58_k15]
  have hsi := hs.h
  by_cases hji : j < x.hs.length
  · obtain ⟨g, hg⟩ : ∃ g, x.hs[j]? = some g := ⟨x.hs[j], by simp [hji]⟩
    have hg32 := h.bh g (List.mem_of_getElem? hg)
    have hia := fun σ => h.h.iaddr σ (k := .i64) (sz := 32) (hRows_at hg) (by rw [hashD_len, hg32])
    have hjj : (j : Int) < x.hs.length := by omega
    have hft : (x.hs.take (j + 1)).flatten = (x.hs.take j).flatten ++ g := by
      obtain ⟨h', rfl⟩ := List.getElem?_eq_some_iff.1 hg
      rw [← List.take_append_getElem h', List.flatten_append]
      simp
    have ho2 := hout.push (.cells (byV g))
    simp -implicitDefEqProofs [-List.reduceReplicate, hjj, hji, c58_k14, c58_k13, hia, hashD_len, hg32, hashD_byV, byV_len, List.take_of_length_le, mkAgg, ofD_hashD]
    have hH := s_Hash ho2 (by omega) g hg32
    refine use_raw hH fun w σ2 ⟨v2, hp2⟩ => ?_
    simp -implicitDefEqProofs [wrap_i64 (n := (j : Int) + 1) (by omega) (by omega)]
    refine ⟨x.hs.length - (j + 1), by omega, j + 1, v2, rfl, by omega, rfl, ?_, ?_⟩
    · rw [hft, ← List.append_assoc]
      exact hp2.out
    · rw [hft]
      simp only [List.length_append, hg32] at hlen ⊢
      omega
  · obtain rfl : j = x.hs.length := by omega
    rw [List.take_length] at hout hlen
    obtain ⟨d, dv1, dl⟩ := out_bytes hout
    simp -implicitDefEqProofs [c58_k0]
    refine use_rd (s_Bytes hout (by omega)) ?_
    rw [dv1]
    simp -implicitDefEqProofs
    rw [hbody]
    exact dl

theorem s_body6 {x : MX} (h : x.Ok) (hs : x.Small) (hk : x.t.m.kind = 6) : Dn.Call Γ cx .val 58 [.da x.t.m.row] St.empty fun v _ => ∃ d, v = .d d ∧ LV (.d d) (byteRows (bodyS x)) := by
  refine Dn.Call.body (fc := c58) rfl ?_
  have h00 : OutAt ⟨[.cells (mCells x.t.m), .cells [.d .nils]], []⟩ 1 [] (.d .nils) := ⟨rfl, .nil⟩
  have hhl : ∀ σ, lenT σ .slice (.d x.t.m.hs) = some x.hs.length := fun σ => by rw [h.h.len, hRows_len]
  have hsi := hs.h
  have hcl := countB_len x.hs.length
  have hbody : bodyS x = countB x.hs.length ++ x.hs.flatten := by simp [bodyS, hk]
  unfold mCells at h00
  rw [hk] at h00
  simp -implicitDefEqProofs [c58, MG.row, hk, c58_k35, c58_k34, c58_k33, c58_k32, c58_k31, c58_k30, c58_k29, c58_k28, c58_k27, c58_k26, c58_k25, c58_k24, c58_k23, c58_k22, c58_k21, c58_k19, mkAgg, ofD, hhl]
  refine use_raw (s_Count h00 (by simp) x.hs.length (by omega)) fun w σ ⟨v, hp⟩ => ?_
  have g0 := hp.fr.at_ 0 (by simp) (by simp)
  simp at g0
  have key := hss_loop h hs (pre := countB x.hs.length) (by simpa using hp.out) (by omega) hbody
  simp -implicitDefEqProofs [c58_k18, g0, hhl]
  exact key
theorem s_body7 {x : MX} (h : x.Ok) (hs : x.Small) (hk : x.t.m.kind = 7) : Dn.Call Γ cx .val 58 [.da x.t.m.row] St.empty fun v _ => ∃ d, v = .d d ∧ LV (.d d) (byteRows (bodyS x)) := by
  refine Dn.Call.body (fc := c58) rfl ?_
  have h00 : OutAt ⟨[.cells (mCells x.t.m), .cells [.d .nils]], []⟩ 1 [] (.d .nils) := ⟨rfl, .nil⟩
  have hhl : ∀ σ, lenT σ .slice (.d x.t.m.hs) = some x.hs.length := fun σ => by rw [h.h.len, hRows_len]
  have hsi := hs.h
  have hcl := countB_len x.hs.length
  have hbody : bodyS x = countB x.hs.length ++ x.hs.flatten := by simp [bodyS, hk]
  unfold mCells at h00
  rw [hk] at h00
  simp -implicitDefEqProofs [c58, MG.row, hk, c58_k35, c58_k34, c58_k33, c58_k32, c58_k31, c58_k30, c58_k29, c58_k28, c58_k27, c58_k26, c58_k25, c58_k24, c58_k23, c58_k22, c58_k21, c58_k19, mkAgg, ofD, hhl]
  refine use_raw (s_Count h00 (by simp) x.hs.length (by omega)) fun w σ ⟨v, hp⟩ => ?_
  have g0 := hp.fr.at_ 0 (by simp) (by simp)
  simp at g0
  have key := hss_loop h hs (pre := countB x.hs.length) (by simpa using hp.out) (by omega) hbody
  simp -implicitDefEqProofs [c58_k18, g0, hhl]
  exact key
theorem s_body9 {x : MX} (h : x.Ok) (hs : x.Small) (hk : x.t.m.kind = 9) : Dn.Call Γ cx .val 58 [.da x.t.m.row] St.empty fun v _ => ∃ d, v = .d d ∧ LV (.d d) (byteRows (bodyS x)) := by
  refine Dn.Call.body (fc := c58) rfl ?_
  have h00 : OutAt ⟨[.cells (mCells x.t.m), .cells [.d .nils]], []⟩ 1 [] (.d .nils) := ⟨rfl, .nil⟩
  have hhl : ∀ σ, lenT σ .slice (.d x.t.m.hs) = some x.hs.length := fun σ => by rw [h.h.len, hRows_len]
  have hsi := hs.h
  have hcl := countB_len x.hs.length
  have hbody : bodyS x = countB x.hs.length ++ x.hs.flatten := by simp [bodyS, hk]
  unfold mCells at h00
  rw [hk] at h00
  simp -implicitDefEqProofs [c58, MG.row, hk, c58_k35, c58_k34, c58_k33, c58_k32, c58_k31, c58_k30, c58_k29, c58_k28, c58_k27, c58_k26, c58_k25, c58_k24, c58_k23, c58_k22, c58_k21, c58_k19, mkAgg, ofD, hhl]
  refine use_raw (s_Count h00 (by simp) x.hs.length (by omega)) fun w σ ⟨v, hp⟩ => ?_
  have g0 := hp.fr.at_ 0 (by simp) (by simp)
  simp at g0
  have key := hss_loop h hs (pre := countB x.hs.length) (by simpa using hp.out) (by omega) hbody
  simp -implicitDefEqProofs [c58_k18, g0, hhl]
  exact key

theorem s_wbody {x : MX} (h : x.Ok) (hs : x.Small) (hk : 1 ≤ x.t.m.kind ∧ x.t.m.kind ≤ 9) : Dn.Call Γ cx .val 58 [.da x.t.m.row] St.empty fun v _ => ∃ d, v = .d d ∧ LV (.d d) (byteRows (bodyS x)) := by
  have hcase : x.t.m.kind = 1 ∨ x.t.m.kind = 2 ∨ x.t.m.kind = 3 ∨ x.t.m.kind = 4 ∨ x.t.m.kind = 5 ∨ x.t.m.kind = 6 ∨ x.t.m.kind = 7 ∨ x.t.m.kind = 8 ∨ x.t.m.kind = 9 := by omega
  rcases hcase with hc | hc | hc | hc | hc | hc | hc | hc | hc
  · exact s_body1 h hs hc
  · exact s_body2 h hs hc
  · exact s_body3 h hs hc
  · exact s_body4 h hs hc
  · exact s_body5 h hs hc
  · exact s_body6 h hs hc
  · exact s_body7 h hs hc
  · exact s_body8 h hs hc
  · exact s_body9 h hs hc


theorem r_num {n : Int} (h0 : 0 ≤ n) (h1 : n ≤ 18446744073709551615) (k : Int) : Dn.Call Γ cx .val 25 [U n, I k] St.empty fun v _ => ∃ x, v = .d x ∧ LV (.d x) (byteRows (numB n k)) := as_list rfl rfl (s_rNum St.empty n h0 h1 k)

theorem s_rbody1 {x : MX} (h : x.Ok) (hs : x.Small) (hk : x.t.m.kind = 1) : Dn.Call Γ cx .val 24 [.da x.t.m.row] St.empty fun v _ => ∃ d, v = .d d ∧ LV (.d d) (byteRows (bodyS x)) := by
  refine Dn.Call.body (fc := c24) rfl ?_
  have hb : bodyS x = numB x.t.m.half 8 := by simp only [bodyS, hk, if_true]; rfl
  rw [hb]
  simp -implicitDefEqProofs [c24, MG.row, hk, c24_k31, c24_k30, c24_k29, c24_k28, mkAgg, ofD]
  refine use_val rfl (r_num h.half.1 h.half.2 8) fun v s ⟨y, hv, hy⟩ => ?_
  subst hv
  refine ⟨rfl, fun e => by simp [V.borrows] at e, ?_⟩
  simp -implicitDefEqProofs
  exact hy

theorem s_rbody3 {x : MX} (h : x.Ok) (hs : x.Small) (hk : x.t.m.kind = 3) : Dn.Call Γ cx .val 24 [.da x.t.m.row] St.empty fun v _ => ∃ d, v = .d d ∧ LV (.d d) (byteRows (bodyS x)) := by
  refine Dn.Call.body (fc := c24) rfl ?_
  have hb : bodyS x = countB x.data.length ++ x.data := by simp [bodyS, hk]
  rw [hb]
  have hd := hs.d
  have hr := fun σ => h.d.rows σ
  simp -implicitDefEqProofs [c24, MG.row, hk, c24_k31, c24_k30, c24_k29, c24_k28, c24_k27, c24_k26, c24_k25, c24_k24, mkAgg, ofD, hr, rowBytes_byteRows]
  refine use_val rfl (n_text (t := x.data) (by omega)) fun v s ⟨y, hv, hy⟩ => ?_
  subst hv
  refine ⟨rfl, fun e => by simp [V.borrows] at e, ?_⟩
  simp -implicitDefEqProofs
  exact hy

theorem s_rbody4 {x : MX} (h : x.Ok) (hs : x.Small) (hk : x.t.m.kind = 4) : Dn.Call Γ cx .val 24 [.da x.t.m.row] St.empty fun v _ => ∃ d, v = .d d ∧ LV (.d d) (byteRows (bodyS x)) := by
  refine Dn.Call.body (fc := c24) rfl ?_
  have hb : bodyS x = [] := by simp [bodyS, hk]
  rw [hb]
  simp -implicitDefEqProofs [c24, MG.row, hk, c24_k31, c24_k30, c24_k29, c24_k28, c24_k27, c24_k26, c24_k25, c24_k24, c24_k23, c24_k22, mkAgg, ofD]
  exact .nil

theorem s_rbody8 {x : MX} (h : x.Ok) (hs : x.Small) (hk : x.t.m.kind = 8) : Dn.Call Γ cx .val 24 [.da x.t.m.row] St.empty fun v _ => ∃ d, v = .d d ∧ LV (.d d) (byteRows (bodyS x)) := by
  refine Dn.Call.body (fc := c24) rfl ?_
  have hb : bodyS x = txB true x.t.ins x.t.outs x.t.m.tb := by simp [bodyS, hk]
  rw [hb]
  have hB : Dn.Call Γ cx .val 35 [.da [x.t.m.ti, x.t.m.to, .bool x.t.m.tb]] St.empty fun v _ => v = .d (.list (byteRows (txB true x.t.ins x.t.outs x.t.m.tb))) := by
    refine Dn.Call.body (fc := c35) rfl ?_
    simp -implicitDefEqProofs [c35, c35_k0, mkAgg]
    refine use_fn rfl (s_rput (w := true) h.ti h.to hs.li hs.lo hs.oi hs.oo) rfl ?_
    simp -implicitDefEqProofs
  simp -implicitDefEqProofs [c24, MG.row, hk, c24_k31, c24_k30, c24_k29, c24_k28, c24_k27, c24_k26, c24_k25, c24_k24, c24_k23, c24_k22, c24_k21, c24_k20, c24_k19, mkAgg, ofD]
  refine use_fn rfl hB rfl ?_
  simp -implicitDefEqProofs
  exact .list _


theorem s_rbody2 {x : MX} (h : x.Ok) (hs : x.Small) (hk : x.t.m.kind = 2) : Dn.Call Γ cx .val 24 [.da x.t.m.row] St.empty fun v _ => ∃ d, v = .d d ∧ LV (.d d) (byteRows (bodyS x)) := by
  refine Dn.Call.body (fc := c24) rfl ?_
  have hb : bodyS x = numB (u64 x.t.m.size) 2 ++ numB (u64 x.t.m.q) 2 := by simp [bodyS, hk]; rfl
  rw [hb]
  simp -implicitDefEqProofs [c24, MG.row, hk, c24_k31, c24_k30, c24_k29, c24_k28, c24_k27, c24_k26, mkAgg, ofD]
  refine w_drw (fun _ => .raw) [1, 1] (by decide +kernel) ?_
  simp -implicitDefEqProofs [St.room]
  have u1 : IntKind.u64.wrap x.t.m.size = u64 x.t.m.size := rfl
  have u2 : IntKind.u64.wrap x.t.m.q = u64 x.t.m.q := rfl
  have n1 := numB_len (u64 x.t.m.size) 2
  have n2 := numB_len (u64 x.t.m.q) 2
  rw [u1]
  have hex : ∀ (σ : St) (l : List UInt8), ∃ v s, Own σ s v l := fun σ l => ⟨.fl (byteRows l), σ, .fl _, Fr.refl _ _, Toks.refl _ _⟩
  refine use_rawN rfl (s_rNum _ (u64 x.t.m.size) (u64_0 _) (u64_1 _) 2) (hex _ _) fun v1 s1 hp1 => ?_
  have g1 := hp1.fr.at_ 0 (by simp) (by simp)
  refine ⟨fun t ht r hr => ?_, ?_⟩
  · simp at ht
    subst ht
    simp [dref, Env.get] at hr
    subst hr
    exact g1
  simp at g1
  simp -implicitDefEqProofs [g1, u2]
  refine use_rawN rfl (s_rNum _ (u64 x.t.m.q) (u64_0 _) (u64_1 _) 2) (hex _ _) fun v2 s2 hp2 => ?_
  have h1len : 0 < s1.objs.length := (List.getElem?_eq_some_iff.1 g1).1
  refine ⟨fun t ht r hr => ?_, ?_⟩
  · simp at ht
    subst ht
    simp [dref, Env.get] at hr
    subst hr
    exact hp2.fr.at_ 0 (by simp) h1len
  have ha := hp1.app.other hp2.tk (fun t _ e => by cases e)
  obtain ⟨d1, dl1, ⟨y, dx⟩, d4, d5⟩ := hp2.app.lv.dv s2
  rw [dx] at dl1
  obtain ⟨v3, s3, ap3, h3, o3⟩ := app_more ha dl1 (by omega)
  simp -implicitDefEqProofs
  refine t_app_f (v := v3) (s := s3) ?_ ?_
  · simp -implicitDefEqProofs [hp2.app.lv.rows]
    exact ap3 _
  obtain ⟨e1, e2, ⟨z, ez⟩, e4, e5⟩ := h3.lv.dv s3
  rw [ez] at e1 e2
  simp -implicitDefEqProofs [e1]
  exact e2


def InvRHs (x : MX) (c0 : V) (m : Nat) (e : Env) (σ : St) : Prop := ∃ (j : Nat) (v : V), e = [(1, .ref 0 0), (5, v), (6, I j)] ∧ j ≤ x.hs.length ∧ m = x.hs.length - j ∧ σ.objs[0]? = some (.cells (mCells x.t.m)) ∧ App σ 1 v (byteRows (countB x.hs.length ++ (x.hs.take j).flatten)) ∧ (countB x.hs.length ++ (x.hs.take j).flatten).length ≤ 20 + 32 * j

theorem rhs_tail {x : MX} (h : x.Ok) (hs : x.Small) (hb : bodyS x = countB x.hs.length ++ x.hs.flatten) {σ : St} (hobj : σ.objs[0]? = some (.cells (mCells x.t.m))) : wcode (Dn.Call Γ cx) cx c24_k7 [(1, .ref 0 0)] σ
    (endQ .val St.empty [.tmp 2] fun v _ => ∃ d, v = .d d ∧ LV (.d d) (byteRows (bodyS x))) := by
  have hhl : ∀ σ, lenT σ .slice (.d x.t.m.hs) = some x.hs.length := fun σ => by rw [h.h.len, hRows_len]
  have hsi := hs.h
  have hcl := countB_len x.hs.length
  have g7 : (mCells x.t.m)[7]? = some (.d x.t.m.hs) := rfl
  simp -implicitDefEqProofs [c24_k7, hobj, g7, hhl]
  refine use_raw (s_rCount σ x.hs.length (by omega)) fun v s hown => ?_
  have g0 : s.objs[0]? = some (.cells (mCells x.t.m)) := by rw [hown.fr.at_ 0 (by simp) (List.getElem?_eq_some_iff.1 hobj).1]; exact hobj
  simp -implicitDefEqProofs [c24_k6, c24_k5]
  refine wloopI (InvRHs x v) (m := x.hs.length) ⟨0, v, rfl, by omega, rfl, g0, by simpa using hown.app, by simp; omega⟩ ?_
  rintro m e σ' ⟨j, v', rfl, hj, rfl, g1, hv, hlen⟩
  simp -implicitDefEqProofs [c24_l4, c24_k3, g1, g7, hhl]
  by_cases hji : j < x.hs.length
  · obtain ⟨g, hg⟩ : ∃ g, x.hs[j]? = some g := ⟨x.hs[j], by simp [hji]⟩
    have hg32 := h.bh g (List.mem_of_getElem? hg)
    have hia := fun σ => h.h.iaddr σ (k := .i64) (sz := 32) (hRows_at hg) (by rw [hashD_len, hg32])
    have hjj : (j : Int) < x.hs.length := by omega
    have hft : (x.hs.take (j + 1)).flatten = (x.hs.take j).flatten ++ g := by
      obtain ⟨h', rfl⟩ := List.getElem?_eq_some_iff.1 hg
      rw [← List.take_append_getElem h', List.flatten_append]
      simp
    simp -implicitDefEqProofs [hjj, hji, c24_k2, g1, g7, hia, hashD_len, hg32, List.take_of_length_le]
    refine use_val rfl (n_hash hg32) fun w _ ⟨y, hw, hy⟩ => ?_
    subst hw
    refine ⟨rfl, fun e => by simp_all [V.borrows], ?_⟩
    obtain ⟨v2, s2, ap2, h2, o2⟩ := app_more hv hy (by omega)
    simp -implicitDefEqProofs
    refine i_app_f (v := v2) (s := s2) ?_ ?_
    · simp -implicitDefEqProofs [hy.rows]
      exact ap2 none
    simp -implicitDefEqProofs [c24_k1, wrap_i64 (n := (j : Int) + 1) (by omega) (by omega)]
    refine ⟨x.hs.length - (j + 1), by omega, j + 1, v2, rfl, by omega, rfl, by rw [o2]; exact g1, ?_, ?_⟩
    · rw [hft, ← List.append_assoc]
      exact h2
    · rw [hft]
      simp only [List.length_append, hg32] at hlen ⊢
      omega
  · obtain rfl : j = x.hs.length := by omega
    rw [List.take_length, ← hb] at hv
    obtain ⟨e1, e2, ⟨z, ez⟩, e4, e5⟩ := hv.lv.dv σ'
    rw [ez] at e1 e2
    simp -implicitDefEqProofs [c24_k0, e1]
    exact e2

theorem s_rbody6 {x : MX} (h : x.Ok) (hs : x.Small) (hk : x.t.m.kind = 6) : Dn.Call Γ cx .val 24 [.da x.t.m.row] St.empty fun v _ => ∃ d, v = .d d ∧ LV (.d d) (byteRows (bodyS x)) := by
  refine Dn.Call.body (fc := c24) rfl ?_
  have hb : bodyS x = countB x.hs.length ++ x.hs.flatten := by simp [bodyS, hk]
  have key := rhs_tail h hs hb (σ := ⟨[.cells (mCells x.t.m)], []⟩) rfl
  simp only [mCells, hk] at key
  simp -implicitDefEqProofs [c24, MG.row, hk, c24_k31, c24_k30, c24_k29, c24_k28, c24_k27, c24_k26, c24_k25, c24_k24, c24_k23, c24_k22, c24_k21, c24_k20, c24_k19, mkAgg, ofD]
  exact key

theorem s_rbody7 {x : MX} (h : x.Ok) (hs : x.Small) (hk : x.t.m.kind = 7) : Dn.Call Γ cx .val 24 [.da x.t.m.row] St.empty fun v _ => ∃ d, v = .d d ∧ LV (.d d) (byteRows (bodyS x)) := by
  refine Dn.Call.body (fc := c24) rfl ?_
  have hb : bodyS x = countB x.hs.length ++ x.hs.flatten := by simp [bodyS, hk]
  have key := rhs_tail h hs hb (σ := ⟨[.cells (mCells x.t.m)], []⟩) rfl
  simp only [mCells, hk] at key
  simp -implicitDefEqProofs [c24, MG.row, hk, c24_k31, c24_k30, c24_k29, c24_k28, c24_k27, c24_k26, c24_k25, c24_k24, c24_k23, c24_k22, c24_k21, c24_k20, c24_k19, mkAgg, ofD]
  exact key

theorem s_rbody9 {x : MX} (h : x.Ok) (hs : x.Small) (hk : x.t.m.kind = 9) : Dn.Call Γ cx .val 24 [.da x.t.m.row] St.empty fun v _ => ∃ d, v = .d d ∧ LV (.d d) (byteRows (bodyS x)) := by
  refine Dn.Call.body (fc := c24) rfl ?_
  have hb : bodyS x = countB x.hs.length ++ x.hs.flatten := by simp [bodyS, hk]
  have key := rhs_tail h hs hb (σ := ⟨[.cells (mCells x.t.m)], []⟩) rfl
  simp only [mCells, hk] at key
  simp -implicitDefEqProofs [c24, MG.row, hk, c24_k31, c24_k30, c24_k29, c24_k28, c24_k27, c24_k26, c24_k25, c24_k24, c24_k23, c24_k22, c24_k21, c24_k20, c24_k19, mkAgg, ofD]
  exact key


theorem app_sl {σ : St} {r : Nat} {L l : List UInt8} (h : σ.objs[r]? = some (.cells (byV L))) (h0 : L ≠ []) (h1 : l ≠ []) (hb : (L ++ l).length ≤ 1000000) :
    appendM σ none 1 1 (.sl r 0 L.length 1) (byteRows l) = some (.sl σ.objs.length 0 (L ++ l).length 1, (σ.setObj r .dead).push (.cells (byV (L ++ l)))) := by
  have hp : 0 < L.length := List.length_pos_iff.2 h0
  have hne : byteRows l ≠ [] := fun e => h1 (by have := congrArg List.length e; rw [byteRows_len] at this; exact List.eq_nil_of_length_eq_zero this)
  have e1 : (byV L).take L.length = byV L := List.take_of_length_le (by simp [byV_len])
  have e2 : (L ++ l).length = L.length + l.length := List.length_append
  rw [e2] at hb
  have e3 : (byteRows l).flatten.map V.d = byV l := byV_rows l
  simp only [appendM, fitR_iff.2 (byteRows_fit l), hne, h, byteRows_len, byV_len, List.drop_zero, Nat.mul_one, e1, e2, e3, byV_app, newObj, St.place, St.spot, Nat.zero_add]
  simp [hp, show L.length + l.length ≤ 140737488355328 by omega, show L.length + l.length ≤ 9223372036854775807 by omega, St.setObj, St.push]

theorem grow_at {σ : St} {r i : Nat} {o o' : Dn.Obj} (h : σ.objs[i]? = some o) (hne : r ≠ i) : ((σ.setObj r .dead).push o').objs[i]? = some o := by
  have hl : i < σ.objs.length := (List.getElem?_eq_some_iff.1 h).1
  have e : (σ.objs.set r .dead)[i]? = some o := by rw [List.getElem?_set_ne hne]; exact h
  simp only [St.push, St.setObj]
  rw [List.getElem?_append_left (by simpa using hl)]
  exact e
theorem grow_new {σ : St} {r : Nat} {o' : Dn.Obj} : ((σ.setObj r .dead).push o').objs[σ.objs.length]? = some o' := by
  simp [St.push, St.setObj, List.getElem?_append]
theorem byVal_sl {σ : St} {r : Nat} {L : List UInt8} (h : σ.objs[r]? = some (.cells (byV L))) : V.byVal σ (.sl r 0 L.length 1) = some (.d (.list (byteRows L))) := by
  simp [V.byVal, V.rows, h, byV_len, ofD_byV, List.take_of_length_le, rows_byte]

def InvRids (x : MX) (m : Nat) (e : Env) (σ : St) : Prop := ∃ (j r : Nat) (L : List UInt8), e = [(1, .ref 0 0), (3, .sl r 0 L.length 1), (4, I j)] ∧ j ≤ x.ids.length ∧ m = x.ids.length - j ∧ L = [if x.t.m.ok then 1 else 0] ++ countB x.ids.length ++ (x.ids.take j).flatMap (fun n => low n 4) ∧ 0 < r ∧ σ.objs[0]? = some (.cells (mCells x.t.m)) ∧ σ.objs[r]? = some (.cells (byV L)) ∧ L.length ≤ 20 + 4 * j

theorem rids_tail {x : MX} (h : x.Ok) (hs : x.Small) (hk : x.t.m.kind = 5) {σ : St} (h0 : σ.objs[0]? = some (.cells (mCells x.t.m))) (h1 : σ.objs[1]? = some (.cells (byV [if x.t.m.ok then 1 else 0]))) : wcode (Dn.Call Γ cx) cx c24_k15 [(1, .ref 0 0), (3, .sl 1 0 1 1)] σ
    (endQ .val St.empty [.tmp 2] fun v _ => ∃ d, v = .d d ∧ LV (.d d) (byteRows (bodyS x))) := by
  have hil : ∀ σ, lenT σ .slice (.d x.t.m.ids) = some x.ids.length := fun σ => by rw [h.i.len]; simp [uRows]
  have hsi := hs.i
  have hcl := countB_len x.ids.length
  have hbody : bodyS x = [if x.t.m.ok then 1 else 0] ++ countB x.ids.length ++ x.ids.flatMap (fun n => low n 4) := by simp [bodyS, hk]
  have g6 : (mCells x.t.m)[6]? = some (.d x.t.m.ids) := rfl
  have hcne : countB x.ids.length ≠ [] := fun e => by simp [countB, low, show x.ids.length ≤ 252 by omega, show ¬ (x.ids.length : Int) < 0 by omega, show (x.ids.length : Int) ≤ 252 by omega] at e
  simp -implicitDefEqProofs [c24_k15, h0, g6, hil]
  refine use_val rfl (n_count (n := x.ids.length) (by omega)) fun w _ ⟨y, hw, hy⟩ => ?_
  subst hw
  refine ⟨rfl, fun e => by simp_all [V.borrows], ?_⟩
  have ha := app_sl (l := countB x.ids.length) h1 (by simp) hcne (by simp; omega)
  have hl1 : σ.objs.length ≠ 0 := by have := (List.getElem?_eq_some_iff.1 h0).1; omega
  refine i_app_m (v := _) (s := _) (by simp -implicitDefEqProofs [evalM, hy.rows]; exact ha) ?_
  obtain ⟨σ1, hσ1⟩ : ∃ s, (σ.setObj 1 .dead).push (.cells (byV ([if x.t.m.ok then 1 else 0] ++ countB x.ids.length))) = s := ⟨_, rfl⟩
  rw [hσ1]
  have g0 : σ1.objs[0]? = some (.cells (mCells x.t.m)) := by rw [← hσ1]; exact grow_at h0 (by omega)
  have g1 : σ1.objs[σ.objs.length]? = some (.cells (byV ([if x.t.m.ok = true then 1 else 0] ++ countB x.ids.length))) := by rw [← hσ1]; exact grow_new
  simp -implicitDefEqProofs [c24_k14, c24_k13]
  refine wloopI (InvRids x) (m := x.ids.length) ⟨0, σ.objs.length, _, by simp only [List.length_append, List.length_singleton, Nat.add_comm]; rfl, by omega, rfl, by simp, by omega, g0, g1, by simp; omega⟩ ?_
  rintro m e σ' ⟨j, r, L, rfl, hj, rfl, hL, hr, g0, g1, hlen⟩
  simp -implicitDefEqProofs [c24_l12, c24_k11, g0, g6, hil]
  by_cases hji : j < x.ids.length
  · obtain ⟨n, hn⟩ : ∃ n, x.ids[j]? = some n := ⟨x.ids[j], by simp [hji]⟩
    have hbn := h.bi n (List.mem_of_getElem? hn)
    have hia := fun σ => h.i.iaddr σ (k := .i64) (sz := 1) (show (uRows x.ids)[j]? = some [.int .u32 n] by simp [uRows, hn]) rfl
    have hjj : (j : Int) < x.ids.length := by omega
    have hft := flat_takeI (fun n => low n 4) x.ids hn
    have u1 : IntKind.u64.wrap n = n := by simp only [IntKind.wrap, IntKind.signed, IntKind.bits]; simp; omega
    have n4 : numB n 4 = low n 4 := rfl
    simp -implicitDefEqProofs [hjj, hji, c24_k10, g0, g6, hia, u1]
    refine use_val rfl (r_num (n := n) (by omega) (by omega) 4) fun w s ⟨y, hw, hy⟩ => ?_
    subst hw
    refine ⟨rfl, fun e => by simp_all [V.borrows], ?_⟩
    rw [n4] at hy
    have hl4 := low_len n 4
    have hrl : r < σ'.objs.length := (List.getElem?_eq_some_iff.1 g1).1
    have hLn : L ≠ [] := fun e => by simp [e] at hL
    have ha := app_sl (l := low n 4) g1 hLn (fun e => by simp [e] at hl4) (by simp [hl4]; omega)
    refine i_app_m (v := _) (s := _) (by simp -implicitDefEqProofs [evalM, hy.rows]; exact ha) ?_
    obtain ⟨σ2, hσ2⟩ : ∃ s, (σ'.setObj r .dead).push (.cells (byV (L ++ low n 4))) = s := ⟨_, rfl⟩
    rw [hσ2]
    have k0 : σ2.objs[0]? = some (.cells (mCells x.t.m)) := by rw [← hσ2]; exact grow_at g0 (by omega)
    have k1 : σ2.objs[σ'.objs.length]? = some (.cells (byV (L ++ low n 4))) := by rw [← hσ2]; exact grow_new
    simp -implicitDefEqProofs [c24_k9, wrap_i64 (n := (j : Int) + 1) (by omega) (by omega)]
    refine ⟨x.ids.length - (j + 1), by omega, j + 1, σ'.objs.length, L ++ low n 4, by simp, by omega, rfl, by rw [hL, hft]; simp, by omega, k0, k1, by simp [hl4]; omega⟩
  · obtain rfl : j = x.ids.length := by omega
    rw [List.take_length, ← hbody] at hL
    subst hL
    simp -implicitDefEqProofs [c24_k8, byVal_sl g1]
    exact .list _

theorem s_rbody5 {x : MX} (h : x.Ok) (hs : x.Small) (hk : x.t.m.kind = 5) : Dn.Call Γ cx .val 24 [.da x.t.m.row] St.empty fun v _ => ∃ d, v = .d d ∧ LV (.d d) (byteRows (bodyS x)) := by
  refine Dn.Call.body (fc := c24) rfl ?_
  have key := fun (b : UInt8) (hb : b = if x.t.m.ok then 1 else 0) => rids_tail h hs hk (σ := ⟨[.cells (mCells x.t.m), .cells [.d (.int .u8 b.toNat)]], []⟩) rfl (by subst hb; rfl)
  simp only [mCells, hk] at key
  simp -implicitDefEqProofs [c24, MG.row, hk, c24_k31, c24_k30, c24_k29, c24_k28, c24_k27, c24_k26, c24_k25, c24_k24, c24_k23, c24_k22, c24_k21, c24_k20, c24_k18, c24_k17, mkAgg, ofD, repl, newObj, St.spot, St.place, St.push]
  cases hok : x.t.m.ok with
  | true =>
    simp -implicitDefEqProofs [c24_k16]
    have := key 1 (by simp [hok])
    rw [hok] at this
    exact this
  | false =>
    simp -implicitDefEqProofs [c24_k16]
    have := key 0 (by simp [hok])
    rw [hok] at this
    exact this

theorem s_rbody {x : MX} (h : x.Ok) (hs : x.Small) (hk : 1 ≤ x.t.m.kind ∧ x.t.m.kind ≤ 9) : Dn.Call Γ cx .val 24 [.da x.t.m.row] St.empty fun v _ => ∃ d, v = .d d ∧ LV (.d d) (byteRows (bodyS x)) := by
  have hcase : x.t.m.kind = 1 ∨ x.t.m.kind = 2 ∨ x.t.m.kind = 3 ∨ x.t.m.kind = 4 ∨ x.t.m.kind = 5 ∨ x.t.m.kind = 6 ∨ x.t.m.kind = 7 ∨ x.t.m.kind = 8 ∨ x.t.m.kind = 9 := by omega
  rcases hcase with hc | hc | hc | hc | hc | hc | hc | hc | hc
  · exact s_rbody1 h hs hc
  · exact s_rbody2 h hs hc
  · exact s_rbody3 h hs hc
  · exact s_rbody4 h hs hc
  · exact s_rbody5 h hs hc
  · exact s_rbody6 h hs hc
  · exact s_rbody7 h hs hc
  · exact s_rbody8 h hs hc
  · exact s_rbody9 h hs hc


/-! ### frames -/
def goodX (x : MX) : Bool := goodB x.t.m.kind x.t.m.half x.t.m.size x.t.m.q x.data.length x.t.m.ok x.ids.length x.hs.length x.t.ins.length x.t.outs.length x.t.m.tb (checkS x.t.ins x.t.outs)
structure MX.In (x : MX) : Prop where
  li : x.t.ins.length ≤ 30
  lo : x.t.outs.length ≤ 30
  oi : ∀ s ∈ x.t.ins, s.Ok
  oo : ∀ c ∈ x.t.outs, c.Ok
theorem goodX_small {x : MX} (h : x.In) (hg : goodX x = true) : x.Small ∧ 1 ≤ x.t.m.kind ∧ x.t.m.kind ≤ 9 := by
  simp only [goodX, goodB, Bool.and_eq_true, decide_eq_true_eq] at hg
  obtain ⟨⟨⟨⟨⟨⟨⟨hk, _⟩, _⟩, _⟩, hd⟩, hi⟩, hh⟩, _⟩ := hg
  exact ⟨⟨hd, hi, hh, h.li, h.lo, h.oi, h.oo⟩, hk⟩
theorem MX.Ok.lens {x : MX} (h : x.Ok) : (∀ σ, lenT σ .slice (.d x.t.m.data) = some x.data.length) ∧ (∀ σ, lenT σ .slice (.d x.t.m.ids) = some x.ids.length) ∧ (∀ σ, lenT σ .slice (.d x.t.m.hs) = some x.hs.length) ∧ (∀ σ, lenT σ .slice (.d x.t.m.ti) = some x.t.ins.length) ∧ (∀ σ, lenT σ .slice (.d x.t.m.to) = some x.t.outs.length) :=
  ⟨fun σ => by rw [h.d.len, byteRows_len], fun σ => by rw [h.i.len]; simp [uRows], fun σ => by rw [h.h.len, hRows_len], fun σ => by rw [h.ti.len]; simp [spRows], fun σ => by rw [h.to.len]; simp [coRows]⟩
theorem x_wGood {x : MX} (h : x.Ok) (hi : x.In) : Dn.Call Γ cx .val 29 [.da x.t.m.row] St.empty fun v _ => v = B (goodX x) := by
  obtain ⟨l1, l2, l3, l4, l5⟩ := h.lens
  have h1 := hi.li
  have h2 := hi.lo
  exact s_wGood x.t.m.kind x.t.m.half x.t.m.size x.t.m.q x.t.m.ok x.t.m.tb l1 l2 l3 l4 l5 ⟨by omega, by omega⟩ _ (s_Check h.ti h.to (by omega) (by omega) hi.oi)
theorem x_rGood {x : MX} (h : x.Ok) (hi : x.In) : Dn.Call Γ cx .val 12 [.da x.t.m.row] St.empty fun v _ => v = B (goodX x) := by
  obtain ⟨l1, l2, l3, l4, l5⟩ := h.lens
  have h1 := hi.li
  have h2 := hi.lo
  exact s_rGood x.t.m.kind x.t.m.half x.t.m.size x.t.m.q x.t.m.ok x.t.m.tb l1 l2 l3 l4 l5 ⟨by omega, by omega⟩ _ (s_rCheck h.ti h.to (by omega) (by omega) hi.oi)

theorem flat32 : ∀ {l : List (List UInt8)}, H32 l → l.flatten.length = 32 * l.length
  | [], _ => rfl
  | a :: r, h => by
    have h1 := h a (by simp)
    have h2 := flat32 (l := r) fun x hx => h x (by simp [hx])
    simp only [List.flatten_cons, List.length_append, List.length_cons, h1, h2]
    omega
theorem lv_list {y : D} {rows : List (List D)} (h : LV (.d y) rows) (hn : rows ≠ []) : y = .list rows := by
  cases h with
  | nil => exact absurd rfl hn
  | list => rfl

theorem bodyS_len {x : MX} (h : x.Ok) (hs : x.Small) : (bodyS x).length ≤ 1000000 := by
  have h1 := hs.d
  have h2 := hs.i
  have h3 := hs.h
  unfold bodyS
  have c1 := countB_len x.data.length
  have c2 := countB_len x.ids.length
  have c3 := countB_len x.hs.length
  have f1 : (x.ids.flatMap fun n => low n 4).length = 4 * x.ids.length := by
    generalize x.ids = l
    induction l with
    | nil => rfl
    | cons a r ih => simp only [List.flatMap_cons, List.length_append, low_len, ih, List.length_cons]; omega
  split
  · simp [low_len]
  split
  · simp [low_len]
  split
  · simp; omega
  split
  · simp
  split
  · simp only [List.length_append, List.length_cons, List.length_nil]; omega
  split
  · have := txB_len true x.t.m.tb hs.li hs.lo hs.oi (outs := x.t.outs)
    omega
  · have := flat32 h.bh
    simp only [List.length_append]
    omega

theorem s_sum {y : D} {l : List UInt8} (hy : LV (.d y) (byteRows l)) (hl : l.length ≤ 1000000000) : Dn.Call Γ cx .val 62 [.d y] St.empty fun v _ => v = .d (.list (byteRows ((Sha.dbl l).take 4))) := by
  refine Dn.Call.body (fc := c62) rfl ?_
  simp -implicitDefEqProofs [-List.reduceReplicate, c62, c62_k1, repl, row11, frzV, ofD]
  have hxs : LV (.d (.list [[y]])) (partRows [(y, l)]) := .list _
  have hj : joined [(y, l)] = l := by simp [joined]
  have h2 := s_Double (ps := [(y, l)]) hxs (by intro p hp; simp at hp; subst hp; exact hy) (by rw [hj]; omega) (by simp)
  rw [hj] at h2
  refine use_fn rfl h2 (hashD_ps _) ?_
  have hl2 : (Sha.dbl l).length = 32 := Sha.sha_len _
  generalize Sha.dbl l = z at *
  have e1 : (byV z).take 4 = byV (z.take 4) := by simp [byV]
  have e2 : (z.take 4).length = 4 := by simp [hl2]
  have e3 : rowsOf 1 4 (List.take 4 (z.map fun b => D.int .u8 b.toNat)) = byteRows (z.take 4) := by
    have := rows_byte (z.take 4)
    rw [e2] at this
    rw [← List.map_take]
    exact this
  simp -implicitDefEqProofs [-List.reduceReplicate, c62_k0, hashD_byV, byV_len, hashD_len, hl2, sliceArrV, boundV, asIdx, V.byVal, V.rows, e1, ofD_byV, e3, List.take_of_length_le]

def frameS (x : MX) : List UInt8 := low x.t.m.kind 1 ++ low (bodyS x).length 4 ++ (Sha.dbl (bodyS x)).take 4 ++ bodyS x

theorem s_wFrame {x : MX} (h : x.Ok) (hi : x.In) : Dn.Call Γ cx .val 42 [.da x.t.m.row] St.empty fun v _ =>
    if goodX x = true then ∃ d, v = .tup [.d d, .d .nili] ∧ LV (.d d) (byteRows (frameS x)) else v = .tup [.d .nils, .d (.iface 50 (.int .i64 2))] := by
  refine Dn.Call.body (fc := c42) rfl ?_
  simp -implicitDefEqProofs [c42, MG.row, c42_k6, mkAgg, ofD]
  refine use_fn rfl (x_wGood h hi) rfl ?_
  by_cases hg : goodX x = true
  · obtain ⟨hs, k1, k9⟩ := goodX_small hi hg
    simp -implicitDefEqProofs [hg, c42_k5, c42_k4, mkAgg, ofD]
    refine use_val rfl (s_wbody h hs ⟨k1, k9⟩) fun w _ ⟨y, hw, hy⟩ => ?_
    subst hw
    refine ⟨rfl, fun e => by simp [V.borrows] at e, ?_⟩
    have u1 : IntKind.u64.wrap x.t.m.kind = x.t.m.kind := wrap_u64 (by omega) (by omega)
    have hbl := bodyS_len h hs
    have u2 : IntKind.u64.wrap (bodyS x).length = (bodyS x).length := wrap_u64 (by omega) (by omega)
    have hyl : ∀ σ, lenT σ .slice (.d y) = some (bodyS x).length := fun σ => by rw [hy.len, byteRows_len]
    have h00 : OutAt ⟨[.cells (mCells x.t.m), .cells [.d .nils]], []⟩ 1 [] (.d .nils) := ⟨rfl, .nil⟩
    unfold mCells at h00
    simp -implicitDefEqProofs [c42_k3, c42_k2, mkAgg, ofD, u1]
    refine use_raw (s_Num h00 (by simp) x.t.m.kind 1) fun w σ ⟨v, hp⟩ => ?_
    have n1 : numB x.t.m.kind 1 = low x.t.m.kind 1 := rfl
    rw [n1, List.nil_append] at hp
    simp -implicitDefEqProofs [c42_k1, hyl, u2]
    refine use_raw (s_Num hp.out (by simp [low_len]) (bodyS x).length 4) fun w2 σ2 ⟨v2, hp2⟩ => ?_
    have n2 : numB (bodyS x).length 4 = low (bodyS x).length 4 := rfl
    rw [n2] at hp2
    obtain ⟨d, dv1, dl⟩ := out_bytes hp2.out
    simp -implicitDefEqProofs [c42_k0]
    refine use_rd (s_Bytes hp2.out (by simp [low_len])) ?_
    rw [dv1]
    simp -implicitDefEqProofs
    refine use_fn rfl (s_sum hy (by omega)) rfl ?_
    simp -implicitDefEqProofs [repl, frzV, ofD, rowsOf]
    have hd32 : (Sha.dbl (bodyS x)).length = 32 := Sha.sha_len _
    have hxs : LV (.d (.list [[d], [.list (byteRows ((Sha.dbl (bodyS x)).take 4))], [y]])) (partRows [(d, low x.t.m.kind 1 ++ low (bodyS x).length 4), (.list (byteRows ((Sha.dbl (bodyS x)).take 4)), (Sha.dbl (bodyS x)).take 4), (y, bodyS x)]) := .list _
    have hj : joined [(d, low x.t.m.kind 1 ++ low (bodyS x).length 4), (.list (byteRows ((Sha.dbl (bodyS x)).take 4)), (Sha.dbl (bodyS x)).take 4), (y, bodyS x)] = frameS x := by simp [joined, frameS]
    have hfl : (frameS x).length ≤ 1000000000 := by simp [frameS, low_len, hd32]; omega
    have hc := s_Concat hxs (by intro p hp; simp at hp; rcases hp with rfl | rfl | rfl <;> first | exact dl | exact hy | exact .list _) (by rw [hj]; exact hfl) (by simp)
    rw [hj] at hc
    refine use_val rfl hc fun w _ ⟨z, hw, hz⟩ => ?_
    subst hw
    refine ⟨rfl, fun e => by simp [V.borrows] at e, ?_⟩
    simp -implicitDefEqProofs
    exact hz
  · simp -implicitDefEqProofs [hg, c42_k5, mkifV]

theorem s_rFrame {x : MX} (h : x.Ok) (hi : x.In) (hg : goodX x = true) : Dn.Call Γ cx .val 13 [.da x.t.m.row] St.empty fun v _ => ∃ d, v = .d d ∧ LV (.d d) (byteRows (frameS x)) := by
  refine Dn.Call.body (fc := c13) rfl ?_
  obtain ⟨hs, k1, k9⟩ := goodX_small hi hg
  simp -implicitDefEqProofs [c13, MG.row, c13_k3, mkAgg, ofD]
  refine use_val rfl (s_rbody h hs ⟨k1, k9⟩) fun w _ ⟨y, hw, hy⟩ => ?_
  subst hw
  refine ⟨rfl, fun e => by simp [V.borrows] at e, ?_⟩
  have u1 : IntKind.u64.wrap x.t.m.kind = x.t.m.kind := wrap_u64 (by omega) (by omega)
  have hbl := bodyS_len h hs
  have u2 : IntKind.u64.wrap (bodyS x).length = (bodyS x).length := wrap_u64 (by omega) (by omega)
  have hyl : ∀ σ, lenT σ .slice (.d y) = some (bodyS x).length := fun σ => by rw [hy.len, byteRows_len]
  simp -implicitDefEqProofs [c13_k2, mkAgg, ofD, u1]
  refine use_raw (s_rNum _ x.t.m.kind (by omega) (by omega) 1) fun v1 s1 hp1 => ?_
  have n1 : numB x.t.m.kind 1 = low x.t.m.kind 1 := rfl
  rw [n1] at hp1
  simp -implicitDefEqProofs [hyl, u2]
  refine use_val rfl (r_num (n := (bodyS x).length) (by omega) (by omega) 4) fun w _ ⟨y2, hw, hy2⟩ => ?_
  subst hw
  refine ⟨rfl, fun e => by simp_all [V.borrows], ?_⟩
  have n2 : numB (bodyS x).length 4 = low (bodyS x).length 4 := rfl
  rw [n2] at hy2
  obtain ⟨v2, s2, ap2, h2, o2⟩ := app_more hp1.app hy2 (by simp [low_len])
  simp -implicitDefEqProofs
  refine i_app_f (v := v2) (s := s2) ?_ ?_
  · simp -implicitDefEqProofs [hy2.rows]
    exact ap2 none
  simp -implicitDefEqProofs [c13_k1]
  refine use_fn rfl (s_rDouble hy (by omega)) (hashD_ps _) ?_
  have hz32 : (Sha.dbl (bodyS x)).length = 32 := Sha.sha_len _
  have hfr : frameS x = low x.t.m.kind 1 ++ low (bodyS x).length 4 ++ (Sha.dbl (bodyS x)).take 4 ++ bodyS x := rfl
  rw [hfr]
  clear hfr
  generalize Sha.dbl (bodyS x) = z at *
  simp -implicitDefEqProofs
  refine use_val rfl (n_hash (t := z) hz32) fun w _ ⟨y3, hw, hy3⟩ => ?_
  subst hw
  refine ⟨rfl, fun e => by simp_all [V.borrows], ?_⟩
  have hzn : byteRows z ≠ [] := fun e => by have := congrArg List.length e; rw [byteRows_len, hz32] at this; cases this
  obtain rfl := lv_list hy3 hzn
  have hft := fitR_iff.2 (byteRows_fit z)
  have htk := byteRows_take z 4
  simp -implicitDefEqProofs [sliceX, sliceV, boundV, asIdx, lenV, hft, byteRows_len, hz32, htk]
  obtain ⟨v3, s3, ap3, h3, o3⟩ := app_more (t := z.take 4) h2 (LV.list (byteRows (z.take 4))) (by simp [low_len]; omega)
  refine i_app_f (v := v3) (s := s3) ?_ ?_
  · simp -implicitDefEqProofs [V.rows]
    exact ap3 none
  simp -implicitDefEqProofs [c13_k0]
  obtain ⟨v4, s4, ap4, h4, o4⟩ := app_more h3 hy (by simp [low_len, hz32]; omega)
  refine i_app_f (v := v4) (s := s4) ?_ ?_
  · simp -implicitDefEqProofs [hy.rows]
    exact ap4 none
  obtain ⟨e1, e2, ⟨q, eq⟩, e4, e5⟩ := h4.lv.dv s4
  rw [eq] at e1 e2
  simp -implicitDefEqProofs [e1]
  simpa using e2


/-! ### lists of frames, counts -/
def mxRows (l : List MX) : List (List D) := l.map fun x => x.t.m.row
theorem mxRows_len (l : List MX) : (mxRows l).length = l.length := by simp [mxRows]
def frames (l : List MX) : List UInt8 := l.flatMap frameS
theorem frameS_len {x : MX} (h : x.Ok) (hs : x.Small) : (frameS x).length ≤ 1000009 := by
  have := bodyS_len h hs
  have h2 : (Sha.dbl (bodyS x)).length = 32 := Sha.sha_len _
  simp only [frameS, List.length_append, low_len, List.length_take, h2]
  omega
theorem frames_take {l : List MX} {i : Nat} {x : MX} (h : l[i]? = some x) : frames (l.take (i + 1)) = frames (l.take i) ++ frameS x := flat_take frameS l h
theorem all_take {l : List MX} {i : Nat} {x : MX} (h : l[i]? = some x) : (l.take (i + 1)).all goodX = ((l.take i).all goodX && goodX x) := by
  obtain ⟨hi, rfl⟩ := List.getElem?_eq_some_iff.1 h
  rw [← List.take_append_getElem hi, List.all_append]
  simp

structure MXs (l : List MX) : Prop where
  ok : ∀ x ∈ l, x.Ok
  i : ∀ x ∈ l, x.In
  len : l.length ≤ 21

def InvFrs (y : D) (l : List MX) (m : Nat) (e : Env) (σ : St) : Prop := ∃ (i : Nat) (v : V), e = [(4, v), (9, .d y), (10, I l.length), (11, I i)] ∧ i ≤ l.length ∧ m = l.length - i ∧ App σ 1 v (byteRows (frames (l.take i))) ∧ (frames (l.take i)).length ≤ 1000009 * i ∧ (l.take i).all goodX = true

def framesV (l : List MX) (v : V) : Prop := if l.all goodX = true then ∃ d, v = .tup [.d d, .d .nili] ∧ LV (.d d) (byteRows (frames l)) else v = .tup [.d .nils, .d (.iface 50 (.int .i64 2))]

theorem s_Frames {y : D} {l : List MX} (hy : LV (.d y) (mxRows l)) (hl : MXs l) : Dn.Call Γ cx .val 28 [.d y] St.empty fun v _ => framesV l v := by
  refine Dn.Call.body (fc := c28) rfl ?_
  have hyl : ∀ σ, lenT σ .slice (.d y) = some l.length := fun σ => by rw [hy.len, mxRows_len]
  have h21 := hl.len
  simp -implicitDefEqProofs [c28, c28_k11, c28_k10, c28_k9, hyl]
  refine wloopI (InvFrs y l) (m := l.length) ⟨0, _, rfl, by omega, rfl, .nil, by simp [frames], rfl⟩ ?_
  rintro m e σ ⟨i, v, rfl, hi, rfl, hv, hlen, hall⟩
  simp -implicitDefEqProofs [c28_l8, c28_k7]
  by_cases hil : i < l.length
  · obtain ⟨x, hx⟩ : ∃ x, l[i]? = some x := ⟨l[i], by simp [hil]⟩
    have hxm := List.mem_of_getElem? hx
    have hok := hl.ok x hxm
    have hin := hl.i x hxm
    have hia := fun σ => hy.iaddr σ (k := .i64) (sz := 11) (show (mxRows l)[i]? = some x.t.m.row by simp [mxRows, hx]) rfl
    have hii : (i : Int) < l.length := by omega
    have hft := frames_take hx
    have hat := all_take hx
    simp -implicitDefEqProofs [hii, hil, c28_k6, c28_k5, hia, MG.row, c28_k4, mkAgg, ofD]
    have hF := s_wFrame hok hin
    by_cases hg : goodX x = true
    · obtain ⟨hs, -, -⟩ := goodX_small hin hg
      have hfl := frameS_len hok hs
      simp only [hg, if_true] at hF
      refine use_val rfl hF fun w _ ⟨d, hw, hd⟩ => ?_
      subst hw
      refine ⟨rfl, fun e => by simp [V.borrows] at e, ?_⟩
      simp -implicitDefEqProofs [c28_k3, eqV, V.isNil, Opd.isC, c28_k2, c28_k1]
      obtain ⟨v2, s2, ap2, h2, o2⟩ := app_more (σ := ⟨σ.objs ++ [.cells [V.d (D.int IntKind.i64 x.t.m.kind), V.d (D.int IntKind.u64 x.t.m.half), V.d (D.int IntKind.i64 x.t.m.size), V.d (D.int IntKind.i64 x.t.m.q), V.d x.t.m.data, V.d (D.bool x.t.m.ok), V.d x.t.m.ids, V.d x.t.m.hs, V.d x.t.m.ti, V.d x.t.m.to, V.d (D.bool x.t.m.tb)]], σ.toks⟩) (hv.toks rfl) hd (by omega)
      rw [← hft] at h2
      refine i_app_f (v := v2) (s := s2) ?_ ?_
      · simp -implicitDefEqProofs [hd.rows]
        exact ap2 none
      simp -implicitDefEqProofs [wrap_i64 (n := (i : Int) + 1) (by omega) (by omega)]
      exact ⟨l.length - (i + 1), by omega, i + 1, v2, rfl, by omega, rfl, h2, by rw [hft, List.length_append]; omega, by rw [hat, hall, hg]; rfl⟩
    · simp only [hg, Bool.false_eq_true, if_false] at hF
      have hna : l.all goodX ≠ true := fun ha => hg (List.all_eq_true.1 ha x hxm)
      refine use_fn rfl hF rfl ?_
      simp -implicitDefEqProofs [c28_k3, eqV, V.isNil, Opd.isC, c28_k2, framesV, hna]
  · obtain rfl : i = l.length := by omega
    rw [List.take_length] at hv hall
    obtain ⟨d1, d2, ⟨q, dx⟩, d4, d5⟩ := hv.lv.dv σ
    rw [dx] at d1 d2
    simp -implicitDefEqProofs [c28_k0, d1, framesV, hall]
    exact d2

def bytesV (l : List MX) : V := if l.all goodX = true then .tup [I (frames l).length, .d .nili] else .tup [I 0, .d (.iface 50 (.int .i64 2))]

theorem s_storyBytes {y : D} {l : List MX} (hy : LV (.d y) (mxRows l)) (hl : MXs l) : Dn.Call Γ cx .val 14 [.d y] St.empty fun v _ => v = bytesV l := by
  refine Dn.Call.body (fc := c14) rfl ?_
  simp -implicitDefEqProofs [c14, c14_k1]
  have hF := s_Frames hy hl
  simp only [framesV] at hF
  by_cases hg : l.all goodX = true
  · simp only [hg, if_true] at hF
    refine use_val rfl hF fun w _ ⟨d, hw, hd⟩ => ?_
    subst hw
    refine ⟨rfl, fun e => by simp [V.borrows] at e, ?_⟩
    have hdl : ∀ σ, lenT σ .slice (.d d) = some (frames l).length := fun σ => by rw [hd.len, byteRows_len]
    simp -implicitDefEqProofs [c14_k0, hdl, bytesV, hg]
  · simp only [hg, if_false] at hF
    refine use_fn rfl hF rfl ?_
    simp -implicitDefEqProofs [c14_k0, bytesV, hg, lenT, Dn.lenV]

/-! ### counts -/
def slotX (x : MX) : Nat := if goodX x = true then x.t.m.kind.toNat else 0
def incAt (c : List Int) (k : Nat) : List Int := c.set k (c.getD k 0 + 1)
def cntS (l : List MX) : List Int := l.foldl (fun c x => incAt c (slotX x)) (List.replicate 10 0)
theorem cnt_take {l : List MX} {i : Nat} {x : MX} (h : l[i]? = some x) : cntS (l.take (i + 1)) = incAt (cntS (l.take i)) (slotX x) := by
  obtain ⟨hi, rfl⟩ := List.getElem?_eq_some_iff.1 h
  rw [← List.take_append_getElem hi]
  simp only [cntS, List.foldl_append, List.foldl_cons, List.foldl_nil]
theorem slotX_lt {x : MX} (hi : x.In) : slotX x < 10 := by
  unfold slotX
  split
  · rename_i h
    obtain ⟨_, h1, h2⟩ := goodX_small hi h
    omega
  · omega
/-- Ten counts of at most so many. -/
def Ten (c : List Int) (n : Nat) : Prop := c.length = 10 ∧ ∀ k, k < 10 → 0 ≤ c.getD k 0 ∧ c.getD k 0 ≤ n
theorem Ten.inc {c : List Int} {n k : Nat} (h : Ten c n) (hk : k < 10) : Ten (incAt c k) (n + 1) := by
  refine ⟨by simp [incAt, h.1], fun j hj => ?_⟩
  have h1 := h.2 k hk
  have h2 := h.2 j hj
  have hl := h.1
  unfold incAt
  by_cases e : k = j
  · subst e
    have : (c.set k (c.getD k 0 + 1)).getD k 0 = c.getD k 0 + 1 := by
      rw [List.getD_eq_getElem?_getD, List.getElem?_set_self (by omega)]
      rfl
    rw [this]
    omega
  · have : (c.set k (c.getD k 0 + 1)).getD j 0 = c.getD j 0 := by
      rw [List.getD_eq_getElem?_getD, List.getElem?_set_ne e, ← List.getD_eq_getElem?_getD]
    rw [this]
    omega
theorem ten_zero : Ten (List.replicate 10 0) 0 := by
  refine ⟨rfl, fun k hk => ?_⟩
  have : (List.replicate 10 (0 : Int)).getD k 0 = 0 := by
    rw [List.getD_eq_getElem?_getD, List.getElem?_replicate]
    split <;> simp
  rw [this]
  omega
def tenV (c : List Int) : List V := c.map fun n => I n
theorem tenV_len (c : List Int) : (tenV c).length = c.length := by simp [tenV]
theorem tenV_at {c : List Int} {n k : Nat} (h : Ten c n) (hk : k < 10) : (tenV c)[k]? = some (I (c.getD k 0)) := by
  have : k < c.length := by rw [h.1]; exact hk
  simp [tenV, List.getElem?_eq_getElem this, List.getD_eq_getElem?_getD]
theorem tenV_set {c : List Int} {n k : Nat} (h : Ten c n) (hk : k < 10) : splice (tenV c) k [I (c.getD k 0 + 1)] = tenV (incAt c k) := by
  have : k < c.length := by rw [h.1]; exact hk
  unfold splice incAt tenV
  rw [List.map_set, List.set_eq_take_append_cons_drop]
  simp [this]
theorem tenV_of {c : List Int} : ofD (tenV c) = some (c.map fun n => D.int .i64 n) := by
  induction c with
  | nil => rfl
  | cons a r ih => simp only [tenV, List.map_cons, ofD] at ih ⊢; rw [ih]

def tenD (c : List Int) : List D := c.map fun n => .int .i64 n

def InvKinds (y : D) (l : List MX) (m : Nat) (e : Env) (σ : St) : Prop := ∃ (i : Nat), e = [(2, .ref 0 0), (3, .ref 1 0), (6, .d y), (7, I l.length), (8, I i)] ∧ i ≤ l.length ∧ m = l.length - i ∧ σ.objs[0]? = some (.cells (tenV (List.replicate 10 0))) ∧ σ.objs[1]? = some (.cells (tenV (cntS (l.take i)))) ∧ Ten (cntS (l.take i)) i

theorem s_Kinds {y : D} {l : List MX} (hy : LV (.d y) (mxRows l)) (hl : MXs l) : Dn.Call Γ cx .val 15 [.d y] St.empty fun v _ => v = .da (tenD (cntS l)) := by
  refine Dn.Call.body (fc := c15) rfl ?_
  have hyl : ∀ σ, lenT σ .slice (.d y) = some l.length := fun σ => by rw [hy.len, mxRows_len]
  have h21 := hl.len
  simp -implicitDefEqProofs [-List.reduceReplicate, c15, c15_k9, c15_k8, c15_k7, hyl]
  refine wloopI (InvKinds y l) (m := l.length) ⟨0, rfl, by omega, rfl, rfl, rfl, ten_zero⟩ ?_
  rintro m e σ ⟨i, rfl, hi, rfl, g0, g1, hten⟩
  simp -implicitDefEqProofs [c15_l6, c15_k5]
  by_cases hil : i < l.length
  · obtain ⟨x, hx⟩ : ∃ x, l[i]? = some x := ⟨l[i], by simp [hil]⟩
    have hxm := List.mem_of_getElem? hx
    have hok := hl.ok x hxm
    have hin := hl.i x hxm
    have hia := fun σ => hy.iaddr σ (k := .i64) (sz := 11) (show (mxRows l)[i]? = some x.t.m.row by simp [mxRows, hx]) rfl
    have hii : (i : Int) < l.length := by omega
    have hct := cnt_take hx
    have hsl := slotX_lt hin
    have hinc := hten.inc hsl
    rw [← hct] at hinc
    have hset := tenV_set hten hsl
    rw [← hct] at hset
    have hat := tenV_at hten hsl
    have hbd := hten.2 _ hsl
    have hcl : (tenV (cntS (l.take i))).length = 10 := by rw [tenV_len, hten.1]
    obtain ⟨c, hc⟩ : ∃ c, cntS (l.take i) = c := ⟨_, rfl⟩
    obtain ⟨c2, hc2⟩ : ∃ c, cntS (l.take (i + 1)) = c := ⟨_, rfl⟩
    rw [hc] at hten hat hbd hcl g1
    rw [hc2] at hinc hset
    rw [hc] at hset
    obtain ⟨n, hn⟩ : ∃ n, c.getD (slotX x) 0 = n := ⟨_, rfl⟩
    rw [hn] at hat hbd hset
    have hset' : ∀ kk, slotX x = kk → List.take kk (tenV c) ++ I (n + 1) :: List.drop (kk + 1) (tenV c) = tenV c2 := by
      rintro kk rfl
      rw [← hset]
      simp [splice]
    simp -implicitDefEqProofs [hii, hil, c15_k4, c15_k3, hia, MG.row, c15_k2, mkAgg, ofD]
    refine use_fn rfl (x_wGood hok hin) rfl ?_
    have hl1 : 1 < σ.objs.length := (List.getElem?_eq_some_iff.1 g1).1
    obtain ⟨σ1, hσ1⟩ : ∃ s : St, (⟨σ.objs ++ [.cells [V.d (D.int IntKind.i64 x.t.m.kind), V.d (D.int IntKind.u64 x.t.m.half), V.d (D.int IntKind.i64 x.t.m.size), V.d (D.int IntKind.i64 x.t.m.q), V.d x.t.m.data, V.d (D.bool x.t.m.ok), V.d x.t.m.ids, V.d x.t.m.hs, V.d x.t.m.ti, V.d x.t.m.to, V.d (D.bool x.t.m.tb)]], σ.toks⟩ : St) = s := ⟨_, rfl⟩
    have k0 : σ1.objs[0]? = some (.cells (tenV (List.replicate 10 0))) := by rw [← hσ1]; simp only; rw [List.getElem?_append_left (by omega)]; exact g0
    have k1 : σ1.objs[1]? = some (.cells (tenV c)) := by rw [← hσ1]; simp only; rw [List.getElem?_append_left (by omega)]; exact g1
    have kx : σ1.objs[σ.objs.length]? = some (.cells [V.d (D.int IntKind.i64 x.t.m.kind), V.d (D.int IntKind.u64 x.t.m.half), V.d (D.int IntKind.i64 x.t.m.size), V.d (D.int IntKind.i64 x.t.m.q), V.d x.t.m.data, V.d (D.bool x.t.m.ok), V.d x.t.m.ids, V.d x.t.m.hs, V.d x.t.m.ti, V.d x.t.m.to, V.d (D.bool x.t.m.tb)]) := by rw [← hσ1]; simp
    rw [hσ1]
    have hl1' : 1 < σ1.objs.length := (List.getElem?_eq_some_iff.1 k1).1
    have fin : ∀ s : St, s = ⟨σ1.objs.set 1 (.cells (tenV c2)), σ1.toks⟩ → s.objs[0]? = some (.cells (tenV (List.replicate 10 0))) ∧ s.objs[1]? = some (.cells (tenV c2)) := by
      rintro s rfl
      exact ⟨by simp only; rw [List.getElem?_set_ne (by decide)]; exact k0, by simp [hl1']⟩
    cases hg : goodX x with
    | true =>
      obtain ⟨-, h1, h9⟩ := goodX_small hin hg
      have hs : slotX x = x.t.m.kind.toNat := by simp [slotX, hg]
      have hst := hset' _ hs
      rw [hs] at hat hsl
      have hkk : ((x.t.m.kind.toNat : Nat) : Int) = x.t.m.kind := by omega
      generalize x.t.m.kind.toNat = kk at *
      rw [← hkk] at kx
      have e10 : kk + 1 ≤ 10 := by omega
      have ew : IntKind.i64.wrap (n + 1) = n + 1 := wrap_i64 (by omega) (by omega)
      simp -implicitDefEqProofs [c15_k1, kx, iaddrArrV, asIdx, show (kk : Int) < 10 by omega, k1, hat, ew]
      simp only [hcl, e10, and_true, if_true, hst]
      simp -implicitDefEqProofs [wrap_i64 (n := (i : Int) + 1) (by omega) (by omega)]
      obtain ⟨f0, f1⟩ := fin _ rfl
      exact ⟨l.length - (i + 1), by omega, i + 1, rfl, by omega, rfl, f0, by rw [hc2]; exact f1, by rw [hc2]; exact hinc⟩
    | false =>
      have hs : slotX x = 0 := by simp [slotX, hg]
      have hst := hset' _ hs
      rw [hs] at hat
      have ew : IntKind.i64.wrap (n + 1) = n + 1 := wrap_i64 (by omega) (by omega)
      simp only [List.take_zero, List.nil_append, Nat.zero_add, List.drop_one] at hst
      simp -implicitDefEqProofs [c15_k1, kx, iaddrArrV, asIdx, k1, hat, ew]
      simp only [hcl, if_true, hst, show (1 : Nat) ≤ 10 by omega]
      simp -implicitDefEqProofs [wrap_i64 (n := (i : Int) + 1) (by omega) (by omega)]
      obtain ⟨f0, f1⟩ := fin _ rfl
      exact ⟨l.length - (i + 1), by omega, i + 1, rfl, by omega, rfl, f0, by rw [hc2]; exact f1, by rw [hc2]; exact hinc⟩
  · obtain rfl : i = l.length := by omega
    rw [List.take_length] at g1 hten
    have hcl : (tenV (cntS l)).length = 10 := by rw [tenV_len, hten.1]
    have htk : List.take 10 (tenV (cntS l)) = tenV (cntS l) := List.take_of_length_le (by omega)
    have hz : (tenV (List.replicate 10 0)).length = 10 := rfl
    have hdn : (tenD (cntS l)).map V.d = tenV (cntS l) := by simp [tenD, tenV]
    have hof : ofD (tenV (cntS l)) = some (tenD (cntS l)) := tenV_of
    have hl0 : 0 < σ.objs.length := (List.getElem?_eq_some_iff.1 g0).1
    simp -implicitDefEqProofs [-List.reduceReplicate, c15_k0, g0, g1, hcl, htk, hz, mkAgg, hof, hdn]
    have hd10 : List.drop 10 (tenV (List.replicate 10 0)) = [] := rfl
    have hso : ∀ o : Dn.Obj, (σ.objs.set 0 o)[0]? = some o := fun o => by simp [hl0]
    rw [hd10, List.append_nil, hso]
    simp [hcl, htk, hof, byVals, V.byVal]


theorem n_Num0 : Dn.Call Γ cx .val 30 [.d .nili] St.empty fun v _ => v = I 0 := by
  refine Dn.Call.body (fc := c30) rfl ?_
  simp -implicitDefEqProofs [c30, c30_k4, c30_k3, eqV, V.isNil, Opd.isC]
theorem n_NumE {n : Int} (h : n ≠ 0) : Dn.Call Γ cx .val 30 [.d (.iface 50 (.int .i64 n))] St.empty fun v _ => v = I n := by
  refine Dn.Call.body (fc := c30) rfl ?_
  simp -implicitDefEqProofs [c30, c30_k4, c30_k3, c30_k2, c30_k1, c30_k0, eqV, V.isNil, Opd.isC, assertV, unwrapD, h]
theorem n_IsE {n m : Int} (h : n ≠ 0) : Dn.Call Γ cx .val 16 [.d (.iface 50 (.int .i64 n)), I m] St.empty fun v _ => v = B (decide (n = m)) := by
  refine Dn.Call.body (fc := c16) rfl ?_
  simp -implicitDefEqProofs [c16, c16_k0]
  refine use_fn rfl (n_NumE h) rfl ?_
  simp -implicitDefEqProofs

/-! ### what an argument's messages hold -/
theorem u32s_of : ∀ {rows : List (List D)}, (∀ row ∈ rows, Lks [.int .u32] row) → ∃ l, rows = uRows l ∧ ∀ n ∈ l, 0 ≤ n ∧ n ≤ 4294967295
  | [], _ => ⟨[], rfl, by simp⟩
  | r :: rows, h => by
    obtain ⟨l, rfl, hl⟩ := u32s_of (rows := rows) fun row hr => h row (by simp [hr])
    have h0 := h r (by simp)
    simp only [Lks, Lk.fits] at h0
    obtain ⟨d, _, rfl, ⟨n, rfl, h1, h2⟩, rfl⟩ := h0
    have e1 : IntKind.u32.min = 0 := rfl
    have e2 : IntKind.u32.max = 4294967295 := rfl
    exact ⟨n :: l, rfl, fun x hx => by
      simp at hx
      rcases hx with rfl | hx
      · omega
      · exact hl x hx⟩
theorem hs_of : ∀ {rows : List (List D)}, (∀ row ∈ rows, Lks byteK32 row) → ∃ l, rows = hRows l ∧ H32 l
  | [], _ => ⟨[], rfl, fun x hx => by cases hx⟩
  | r :: rows, h => by
    obtain ⟨l, rfl, hl⟩ := hs_of (rows := rows) fun row hr => h row (by simp [hr])
    obtain ⟨b, rfl, hb⟩ := Lks.bytes (h r (by simp))
    exact ⟨b :: l, rfl, fun x hx => by
      simp at hx
      rcases hx with rfl | hx
      · exact hb
      · exact hl x hx⟩
theorem mx_of {r : List D} (h : Lks msgK r) : ∃ x : MX, r = x.t.m.row ∧ x.t.Raw ∧ x.Ok := by
  obtain ⟨t, rfl, hr⟩ := msg_of h
  simp only [msgK, MG.row, Lks] at h
  obtain ⟨_, _, h1, _, _, _, h2, k2, _, _, h3, _, _, _, h4, _, d5, _, h5, k5, _, _, h6, _, d7, _, h7, k7, d8, _, h8, k8, d9, _, h9, _, d10, _, h10, _, _, _, h11, _, rfl⟩ := h
  simp only [List.cons.injEq] at h1 h2 h3 h4 h5 h6 h7 h8 h9 h10 h11
  obtain ⟨rfl, rfl⟩ := h1
  obtain ⟨rfl, rfl⟩ := h2
  obtain ⟨rfl, rfl⟩ := h3
  obtain ⟨rfl, rfl⟩ := h4
  obtain ⟨rfl, rfl⟩ := h5
  obtain ⟨rfl, rfl⟩ := h6
  obtain ⟨rfl, rfl⟩ := h7
  obtain ⟨rfl, rfl⟩ := h8
  obtain ⟨r5, l5, f5⟩ := lk_list k5
  obtain ⟨r7, l7, f7⟩ := lk_list k7
  obtain ⟨r8, l8, f8⟩ := lk_list k8
  obtain ⟨b5, rfl⟩ := bytes_of_fits f5
  obtain ⟨b7, rfl, q7⟩ := u32s_of f7
  obtain ⟨b8, rfl, q8⟩ := hs_of f8
  simp only [Lk.fits] at k2
  obtain ⟨n2, e2, m2, m2'⟩ := k2
  have e1 : IntKind.u64.min = 0 := rfl
  have e3 : IntKind.u64.max = 18446744073709551615 := rfl
  cases e2
  exact ⟨⟨t, b5, b7, b8⟩, rfl, hr, ⟨l5, l7, l8, hr.i, hr.o, q7, q8, ⟨by simp only; omega, by simp only; omega⟩⟩⟩
theorem mxs_of : ∀ {rows : List (List D)}, (∀ r ∈ rows, Lks msgK r) → ∃ l : List MX, rows = mxRows l ∧ ∀ x ∈ l, x.t.Raw ∧ x.Ok
  | [], _ => ⟨[], rfl, by simp⟩
  | r :: rows, h => by
    obtain ⟨s, rfl, hs⟩ := mx_of (h r (by simp))
    obtain ⟨l, rfl, hl⟩ := mxs_of (rows := rows) fun r hr => h r (by simp [hr])
    exact ⟨s :: l, rfl, fun x hx => by
      simp at hx
      rcases hx with rfl | hx
      · exact hs
      · exact hl x hx⟩
theorem mx_rows (l : List MX) : mxRows l = msgRows (l.map (·.t.m)) := by simp [mxRows, msgRows]

/-! ### the law -/
def gl (l : List MX) : Nat := (frames (l.filter goodX)).length
theorem gl_take {l : List MX} {i : Nat} {x : MX} (h : l[i]? = some x) : gl (l.take (i + 1)) = gl (l.take i) + if goodX x = true then (frameS x).length else 0 := by
  obtain ⟨hi, rfl⟩ := List.getElem?_eq_some_iff.1 h
  rw [← List.take_append_getElem hi]
  simp only [gl, frames, List.filter_append, List.flatMap_append, List.length_append]
  by_cases hg : goodX l[i] = true
  · simp [hg]
  · simp [hg]
theorem gl_all {l : List MX} (h : l.all goodX = true) : gl l = (frames l).length := by
  unfold gl
  rw [List.filter_eq_self.2 (fun a ha => List.all_eq_true.1 h a ha)]

theorem fits_i64 : ∀ {l : List Int}, (∀ n ∈ l, -9223372036854775808 ≤ n ∧ n ≤ 9223372036854775807) → fitsAll (List.replicate l.length (.int .i64)) (tenD l) = true
  | [], _ => rfl
  | a :: r, h => by
    have h1 := h a (by simp)
    have h2 := fits_i64 (l := r) fun n hn => h n (by simp [hn])
    have e3 : IntKind.i64.min = -9223372036854775808 := rfl
    have e4 : IntKind.i64.max = 9223372036854775807 := rfl
    simp only [tenD, List.map_cons, List.length_cons, List.replicate_succ, fitsAll, Lf.fits] at h2 ⊢
    rw [h2]
    simp [e3, e4, h1]
theorem fits_ten {c : List Int} {n : Nat} (h : Ten c n) (hn : n ≤ 1000000) : fitsAll (List.replicate 10 (.int .i64)) (tenD c) = true := by
  have := fits_i64 (l := c) fun m hm => by
    obtain ⟨k, hk, rfl⟩ := List.getElem_of_mem hm
    rw [h.1] at hk
    have h2 := h.2 k hk
    rw [List.getD_eq_getElem?_getD, List.getElem?_eq_getElem (by rw [h.1]; exact hk)] at h2
    simp only [Option.getD_some] at h2
    omega
  rw [h.1] at this
  exact this
def InvSC (x y : D) (l : List MX) (m : Nat) (e : Env) (σ : St) : Prop := ∃ (i : Nat), e = [(3, .d x), (5, .ref 0 0), (6, I (gl (l.take i))), (7, B ((l.take i).all goodX)), (22, .d y), (23, I l.length), (24, I i), (58, .any), (59, .any), (62, .any), (63, .any), (70, .any), (71, .any), (74, .any), (75, .any), (76, .any)] ∧ i ≤ l.length ∧ m = l.length - i ∧ σ.objs[0]? = some (.cells (tenV (cntS (l.take i)))) ∧ Ten (cntS (l.take i)) i ∧ gl (l.take i) ≤ 1000009 * i

theorem s_StoryCounts {y : D} {l : List MX} (hy : LV (.d y) (mxRows l)) (hr : ∀ x ∈ l, x.t.Raw ∧ x.Ok) : Dn.Call Γ cx .val 4 [.d y] St.empty fun v _ => v = B true := by
  refine Dn.Call.body (fc := c4) rfl ?_
  have hyl : ∀ σ, lenT σ .slice (.d y) = some l.length := fun σ => by rw [hy.len, mxRows_len]
  simp -implicitDefEqProofs [c4, c4_k20]
  refine use_fn rfl s_alive31 rfl ?_
  simp -implicitDefEqProofs [c4_k19, c4_k18]
  have hy' : LV (.d y) (msgRows (l.map (·.t.m))) := by rw [← mx_rows]; exact hy
  refine use_val (ds := [.d y]) rfl (s_program hy' (by simp; exact fun x hx => (hr x hx).1.ok)) ?_
  rintro v s ⟨z, bb, rfl, hb⟩
  refine ⟨rfl, fun h => by simp [V.borrows] at h, ?_⟩
  cases bb with
  | false => simp -implicitDefEqProofs [c4_k17, c4_k16]
  | true =>
    obtain ⟨hz, hl21, hsm⟩ := hb rfl
    rw [← mx_rows] at hz
    simp at hl21
    have hin : ∀ x ∈ l, x.In := fun x hx => by
      have := (hr x hx).1.good (hsm x.t.m (List.mem_map.2 ⟨x, hx, rfl⟩)).2
      exact ⟨this.li, this.lo, this.oi, this.oo⟩
    have hl : MXs l := ⟨fun x hx => (hr x hx).2, hin, hl21⟩
    simp -implicitDefEqProofs [-List.reduceReplicate, c4_k17, c4_k16, c4_k15, mkAgg, ofD, c4_k14, c4_k13, hyl]
    refine wloopI (InvSC z y l) (m := l.length) ⟨0, rfl, by omega, rfl, rfl, ten_zero, by simp [gl, frames]⟩ ?_
    rintro m e σ ⟨i, rfl, hi, rfl, g0, hten, hgl⟩
    simp -implicitDefEqProofs [c4_l12, c4_k11]
    by_cases hil : i < l.length
    · obtain ⟨x, hx⟩ : ∃ x, l[i]? = some x := ⟨l[i], by simp [hil]⟩
      have hxm := List.mem_of_getElem? hx
      have hok := hl.ok x hxm
      have hin := hl.i x hxm
      have hia := fun σ => hy.iaddr σ (k := .i64) (sz := 11) (show (mxRows l)[i]? = some x.t.m.row by simp [mxRows, hx]) rfl
      have hii : (i : Int) < l.length := by omega
      have hct := cnt_take hx
      have hgt := gl_take hx
      have hat2 := all_take hx
      have hsl := slotX_lt hin
      have hinc := hten.inc hsl
      rw [← hct] at hinc
      have hset := tenV_set hten hsl
      rw [← hct] at hset
      have hat := tenV_at hten hsl
      have hbd := hten.2 _ hsl
      have hcl : (tenV (cntS (l.take i))).length = 10 := by rw [tenV_len, hten.1]
      obtain ⟨c, hc⟩ : ∃ c, cntS (l.take i) = c := ⟨_, rfl⟩
      obtain ⟨c2, hc2⟩ : ∃ c, cntS (l.take (i + 1)) = c := ⟨_, rfl⟩
      rw [hc] at hten hat hbd hcl g0
      rw [hc2] at hinc hset
      rw [hc] at hset
      obtain ⟨n, hn⟩ : ∃ n, c.getD (slotX x) 0 = n := ⟨_, rfl⟩
      rw [hn] at hat hbd hset
      have hset' : ∀ kk, slotX x = kk → List.take kk (tenV c) ++ I (n + 1) :: List.drop (kk + 1) (tenV c) = tenV c2 := by
        rintro kk rfl
        rw [← hset]
        simp [splice]
      simp -implicitDefEqProofs [hii, hil, c4_k10, c4_k9, hia, MG.row, c4_k8, mkAgg, ofD]
      refine use_fn rfl (x_rGood hok hin) rfl ?_
      have hl1 : 0 < σ.objs.length := (List.getElem?_eq_some_iff.1 g0).1
      obtain ⟨σ1, hσ1⟩ : ∃ s : St, (⟨σ.objs ++ [.cells [V.d (D.int IntKind.i64 x.t.m.kind), V.d (D.int IntKind.u64 x.t.m.half), V.d (D.int IntKind.i64 x.t.m.size), V.d (D.int IntKind.i64 x.t.m.q), V.d x.t.m.data, V.d (D.bool x.t.m.ok), V.d x.t.m.ids, V.d x.t.m.hs, V.d x.t.m.ti, V.d x.t.m.to, V.d (D.bool x.t.m.tb)]], σ.toks⟩ : St) = s := ⟨_, rfl⟩
      have k0 : σ1.objs[0]? = some (.cells (tenV c)) := by rw [← hσ1]; simp only; rw [List.getElem?_append_left (by omega)]; exact g0
      have kx : σ1.objs[σ.objs.length]? = some (.cells (mCells x.t.m)) := by rw [← hσ1]; simp [mCells]
      rw [hσ1]
      have hl1' : 0 < σ1.objs.length := (List.getElem?_eq_some_iff.1 k0).1
      have hl2' : σ.objs.length < σ1.objs.length := (List.getElem?_eq_some_iff.1 kx).1
      have hne : (0 : Nat) ≠ σ.objs.length := by omega
      have fin : ∀ s : St, s = ⟨σ1.objs.set 0 (.cells (tenV c2)), σ1.toks⟩ → s.objs[0]? = some (.cells (tenV c2)) ∧ s.objs[σ.objs.length]? = some (.cells (mCells x.t.m)) := by
        rintro s rfl
        exact ⟨by simp [hl1'], by simp only; rw [List.getElem?_set_ne hne]; exact kx⟩
      cases hg : goodX x with
      | true =>
        obtain ⟨hs9, h1, h9⟩ := goodX_small hin hg
        have hs : slotX x = x.t.m.kind.toNat := by simp [slotX, hg]
        have hst := hset' _ hs
        rw [hs] at hat hsl
        have hkk : ((x.t.m.kind.toNat : Nat) : Int) = x.t.m.kind := by omega
        have hkx : (mCells x.t.m)[0]? = some (I x.t.m.kind) := rfl
        have hmk : (mCells x.t.m).length = 11 := rfl
        have hmt : List.take 11 (mCells x.t.m) = mCells x.t.m := rfl
        have hma : ofD (mCells x.t.m) = some x.t.m.row := rfl
        generalize mCells x.t.m = mc at *
        rw [← hkk] at hkx
        obtain ⟨kk, hkk'⟩ : ∃ kk, x.t.m.kind.toNat = kk := ⟨_, rfl⟩
        rw [hkk'] at hkx hst hat hsl
        have e10 : kk + 1 ≤ 10 := by omega
        have ew : IntKind.i64.wrap (n + 1) = n + 1 := wrap_i64 (by omega) (by omega)
        simp -implicitDefEqProofs [c4_k7, c4_k6, kx, hkx, iaddrArrV, asIdx, show (kk : Int) < 10 by omega, k0, hat, ew]
        simp only [hcl, e10, and_true, if_true, hst]
        obtain ⟨σ2, hσ2⟩ : ∃ s : St, (⟨σ1.objs.set 0 (.cells (tenV c2)), σ1.toks⟩ : St) = s := ⟨_, rfl⟩
        obtain ⟨f0, f1⟩ := fin _ rfl
        rw [hσ2] at f0 f1
        have hft := s_rFrame hok hin hg
        simp -implicitDefEqProofs [c4_k5, hσ2, f1, hmk, hmt, mkAgg, hma]
        refine use_val rfl hft fun w _ ⟨d, hw, hd⟩ => ?_
        subst hw
        refine ⟨rfl, fun e => by simp [V.borrows] at e, ?_⟩
        have hdl : ∀ σ, lenT σ .slice (.d d) = some (frameS x).length := fun σ => by rw [hd.len, byteRows_len]
        have hfl := frameS_len hok hs9
        simp only [hg, if_true] at hgt
        have ew2 : IntKind.i64.wrap ((gl (l.take i) : Int) + (frameS x).length) = (gl (l.take (i + 1)) : Int) := by rw [hgt, wrap_i64 (by omega) (by omega)]; omega
        simp -implicitDefEqProofs [hdl, ew2, wrap_i64 (n := (i : Int) + 1) (by omega) (by omega)]
        exact ⟨l.length - (i + 1), by omega, i + 1, by rw [hat2, hg, Bool.and_true]; rfl, by omega, rfl, by rw [hc2]; exact f0, by rw [hc2]; exact hinc, by omega⟩
      | false =>
        have hs : slotX x = 0 := by simp [slotX, hg]
        have hst := hset' _ hs
        rw [hs] at hat
        have ew : IntKind.i64.wrap (n + 1) = n + 1 := wrap_i64 (by omega) (by omega)
        simp only [List.take_zero, List.nil_append, Nat.zero_add, List.drop_one] at hst
        simp -implicitDefEqProofs [c4_k7, iaddrArrV, asIdx, k0, hat, ew]
        simp only [hcl, if_true, hst, show (1 : Nat) ≤ 10 by omega]
        simp only [hg, Bool.false_eq_true, if_false, Nat.add_zero] at hgt
        simp -implicitDefEqProofs [wrap_i64 (n := (i : Int) + 1) (by omega) (by omega)]
        obtain ⟨f0, f1⟩ := fin _ rfl
        exact ⟨l.length - (i + 1), by omega, i + 1, by rw [hat2, hg, hgt, Bool.and_false]; rfl, by omega, rfl, by rw [hc2]; exact f0, by rw [hc2]; exact hinc, by omega⟩
    · obtain rfl : i = l.length := by omega
      rw [List.take_length] at g0 hten
      have hcl : (tenV (cntS l)).length = 10 := by rw [tenV_len, hten.1]
      have htk : List.take 10 (tenV (cntS l)) = tenV (cntS l) := List.take_of_length_le (by omega)
      have hof : ofD (tenV (cntS l)) = some (tenD (cntS l)) := tenV_of
      have hfit := fits_ten hten (by omega)
      simp only [List.reduceReplicate] at hfit
      have hpd : (V.da (tenD (cntS l))).pure = true := rfl
      have hsc : (V.da (tenD (cntS l))).scalars = true := by simp [V.scalars, V.scalar, tenD, D.scalar]
      simp -implicitDefEqProofs [c4_k4]
      refine use_fn rfl (s_storyBytes hz hl) (by unfold bytesV; split <;> rfl) ?_
      by_cases hg : l.all goodX = true
      · have hgl := gl_all hg
        simp only [bytesV, hg, if_true]
        simp -implicitDefEqProofs [c4_k3, c4_k2, hg, c4_k0]
        refine w_drw (fun _ => .val) [5] (by decide +kernel) ?_
        simp -implicitDefEqProofs [room_zero]
        refine use_fnN rfl rfl (s_Kinds hz hl) (by rw [hpd, hsc]; simp) ?_
        simp -implicitDefEqProofs [g0, hcl, htk, mkAgg, hof, eqV, hfit, V.isNil, Opd.isC, hgl]
      · simp only [bytesV, hg, Bool.false_eq_true, if_false]
        have hg' : l.all goodX = false := by simpa using hg
        simp -implicitDefEqProofs [c4_k3, c4_k2, hg', c4_k1]
        refine w_drw (fun _ => .val) [5] (by decide +kernel) ?_
        simp -implicitDefEqProofs [room_zero]
        refine use_fnN rfl rfl (s_Kinds hz hl) (by rw [hpd, hsc]; simp) ?_
        simp -implicitDefEqProofs [g0, hcl, htk, mkAgg, hof, eqV, hfit, V.isNil, Opd.isC]
        refine use_fnN rfl rfl (n_IsE (n := 2) (m := 2) (by decide)) rfl ?_
        simp -implicitDefEqProofs [V.byVal]

theorem lawC {x : D} (hx : (Lk.list msgK).fits x) : Dn.Call Γ cx .val 4 [.d x] St.empty fun v _ => v = .d (.bool true) := by
  obtain ⟨rx, lx, fx⟩ := lk_list hx
  obtain ⟨a, rfl, ha⟩ := mxs_of fx
  exact s_StoryCounts lx ha
end Go.Proofs.YtmcojkkpanijjaaDoor.T
