import Derived.Test.YtjkedjjahjlmfaaS7
namespace Go.Proofs.Ytjkedjjahjlmfaa.T
open Go.Dn
set_option linter.unusedSimpArgs false
set_option linter.unusedVariables false

def takeS (s : RS) (m : MG) : Bool × RS := if m.kind = 2 then askS s m else if m.kind = 4 then moreS s else if m.kind = 5 then diffS s m else (decide (m.kind ≠ 3), s)

theorem RAt.fr {σ σ' : St} {r : Nat} {s : RS} (h : RAt σ r s) (hf : Fr [] σ σ') (ht : σ'.toks = σ.toks) : RAt σ' r s := by
  obtain ⟨v, w, hT, hA⟩ := h.ex
  exact ⟨v, w, ⟨hf.get hT.obj (by simp), hT.lv, hT.tl⟩, hA.toks ht⟩

theorem s_take {σ : St} {r : Nat} {s : RS} (h : RAt σ r s) (hok : RSOk s) {m : MG} (hm : MsgOk m) :
    Dn.Call Γ cx .raw 37 [.ref r 0, .da m.row] σ fun w σ' => w = B (takeS s m).1 ∧ RAt σ' r (takeS s m).2 ∧ Fr [r] σ σ' := by
  refine Dn.Call.body (fc := c37) rfl ?_
  simp -implicitDefEqProofs [body_eq, w_skip, w_ops, w_seq, w_cond, w_block, w_exit, w_ret, q_then_n, q_then_e, q_then_r, q_blk_n, q_blk_e, q_blk_r, q_ops, q_cont, q_end_n, q_end_r, q_end_e, q_loop_n, q_loop_e, q_loop_r, i_nil, i_p, i_alloc, i_box, i_store, i_copy, i_clear, i_call, i_callv, i_when, t_nil, t_p, t_call, t_alloc, t_box, t_store, kept_nil, t_copy, t_clear, q_tcont, gsel, List.cons_append, List.nil_append, evalP, evalE, Opd.ev, Env.get, Env.set, Env.pick, putE, initEnv, evalBin, intBin, evalUn, evalConv, goneAll, goneOne, retV, resAll, Res.ev, tupOf, byVals, byValsN, bv_d, bv_da, bv_fl, bv_tl, bn_d, bn_da, bn_fl, bn_tl, cx, Dn.newObj, St.place, St.push, St.spot, St.empty, cell_d, cell_da, cell_agg, cell_ref, cell_sl, cell_fl, cell_tl, cell_map, cell_fn, cell_ifc, loadAt, faddrV, partOf, extractV, mkAgg, ofD, splice, St.setObj, fillV, MG.row, c37]
  obtain ⟨σ1, hσ1, htk1⟩ : ∃ s1 : St, (⟨σ.objs ++ [.cells [V.d (.int .i64 m.kind), V.d (.int .u64 m.half), V.d (.int .i64 m.size), V.d (.int .i64 m.q), V.d m.data, V.d (.bool m.ok), V.d m.ids, V.d m.hs, V.d m.ti, V.d m.to, V.d (.bool m.tb)]], σ.toks⟩ : St) = s1 ∧ s1.toks = σ.toks := ⟨⟨σ.objs ++ _, σ.toks⟩, rfl, rfl⟩
  rw [hσ1]
  have f1 : Fr [] σ σ1 := ⟨by rw [← hσ1]; simp, fun q _ hq => by rw [← hσ1]; simp [List.getElem?_append_left hq]⟩
  have g1 : σ1.objs[σ.objs.length]? = some (.cells [V.d (.int .i64 m.kind), V.d (.int .u64 m.half), V.d (.int .i64 m.size), V.d (.int .i64 m.q), V.d m.data, V.d (.bool m.ok), V.d m.ids, V.d m.hs, V.d m.ti, V.d m.to, V.d (.bool m.tb)]) := by rw [← hσ1]; simp
  have hR1 := h.fr f1 htk1
  have f1r : Fr [r] σ σ1 := f1.mono (by simp)
  simp -implicitDefEqProofs [body_eq, w_skip, w_ops, w_seq, w_cond, w_block, w_exit, w_ret, q_then_n, q_then_e, q_then_r, q_blk_n, q_blk_e, q_blk_r, q_ops, q_cont, q_end_n, q_end_r, q_end_e, q_loop_n, q_loop_e, q_loop_r, i_nil, i_p, i_alloc, i_box, i_store, i_copy, i_clear, i_call, i_callv, i_when, t_nil, t_p, t_call, t_alloc, t_box, t_store, kept_nil, t_copy, t_clear, q_tcont, gsel, List.cons_append, List.nil_append, evalP, evalE, Opd.ev, Env.get, Env.set, Env.pick, putE, initEnv, evalBin, intBin, evalUn, evalConv, goneAll, goneOne, retV, resAll, Res.ev, tupOf, byVals, byValsN, bv_d, bv_da, bv_fl, bv_tl, bn_d, bn_da, bn_fl, bn_tl, cx, Dn.newObj, St.place, St.push, St.spot, St.empty, cell_d, cell_da, cell_agg, cell_ref, cell_sl, cell_fl, cell_tl, cell_map, cell_fn, cell_ifc, loadAt, faddrV, partOf, extractV, mkAgg, ofD, splice, St.setObj, fillV, c37_k7, g1, c37_k6, c37_k5]
  unfold takeS
  by_cases h2 : m.kind = 2
  · rw [if_pos h2]
    simp -implicitDefEqProofs [body_eq, w_skip, w_ops, w_seq, w_cond, w_block, w_exit, w_ret, q_then_n, q_then_e, q_then_r, q_blk_n, q_blk_e, q_blk_r, q_ops, q_cont, q_end_n, q_end_r, q_end_e, q_loop_n, q_loop_e, q_loop_r, i_nil, i_p, i_alloc, i_box, i_store, i_copy, i_clear, i_call, i_callv, i_when, t_nil, t_p, t_call, t_alloc, t_box, t_store, kept_nil, t_copy, t_clear, q_tcont, gsel, List.cons_append, List.nil_append, evalP, evalE, Opd.ev, Env.get, Env.set, Env.pick, putE, initEnv, evalBin, intBin, evalUn, evalConv, goneAll, goneOne, retV, resAll, Res.ev, tupOf, byVals, byValsN, bv_d, bv_da, bv_fl, bv_tl, bn_d, bn_da, bn_fl, bn_tl, cx, Dn.newObj, St.place, St.push, St.spot, St.empty, cell_d, cell_da, cell_agg, cell_ref, cell_sl, cell_fl, cell_tl, cell_map, cell_fn, cell_ifc, loadAt, faddrV, partOf, extractV, mkAgg, ofD, splice, St.setObj, fillV, h2, c37_k4, g1, ofD]
    have hc := s_ask hR1 hok m
    simp only [MG.row, h2] at hc
    refine use_raw hc fun z σ2 ⟨hz, hR, hf⟩ => ?_
    subst hz
    simp -implicitDefEqProofs [body_eq, w_skip, w_ops, w_seq, w_cond, w_block, w_exit, w_ret, q_then_n, q_then_e, q_then_r, q_blk_n, q_blk_e, q_blk_r, q_ops, q_cont, q_end_n, q_end_r, q_end_e, q_loop_n, q_loop_e, q_loop_r, i_nil, i_p, i_alloc, i_box, i_store, i_copy, i_clear, i_call, i_callv, i_when, t_nil, t_p, t_call, t_alloc, t_box, t_store, kept_nil, t_copy, t_clear, q_tcont, gsel, List.cons_append, List.nil_append, evalP, evalE, Opd.ev, Env.get, Env.set, Env.pick, putE, initEnv, evalBin, intBin, evalUn, evalConv, goneAll, goneOne, retV, resAll, Res.ev, tupOf, byVals, byValsN, bv_d, bv_da, bv_fl, bv_tl, bn_d, bn_da, bn_fl, bn_tl, cx, Dn.newObj, St.place, St.push, St.spot, St.empty, cell_d, cell_da, cell_agg, cell_ref, cell_sl, cell_fl, cell_tl, cell_map, cell_fn, cell_ifc, loadAt, faddrV, partOf, extractV, mkAgg, ofD, splice, St.setObj, fillV]
    exact ⟨hR, f1r.trans hf⟩
  rw [if_neg h2]
  by_cases h4 : m.kind = 4
  · rw [if_pos h4]
    simp -implicitDefEqProofs [body_eq, w_skip, w_ops, w_seq, w_cond, w_block, w_exit, w_ret, q_then_n, q_then_e, q_then_r, q_blk_n, q_blk_e, q_blk_r, q_ops, q_cont, q_end_n, q_end_r, q_end_e, q_loop_n, q_loop_e, q_loop_r, i_nil, i_p, i_alloc, i_box, i_store, i_copy, i_clear, i_call, i_callv, i_when, t_nil, t_p, t_call, t_alloc, t_box, t_store, kept_nil, t_copy, t_clear, q_tcont, gsel, List.cons_append, List.nil_append, evalP, evalE, Opd.ev, Env.get, Env.set, Env.pick, putE, initEnv, evalBin, intBin, evalUn, evalConv, goneAll, goneOne, retV, resAll, Res.ev, tupOf, byVals, byValsN, bv_d, bv_da, bv_fl, bv_tl, bn_d, bn_da, bn_fl, bn_tl, cx, Dn.newObj, St.place, St.push, St.spot, St.empty, cell_d, cell_da, cell_agg, cell_ref, cell_sl, cell_fl, cell_tl, cell_map, cell_fn, cell_ifc, loadAt, faddrV, partOf, extractV, mkAgg, ofD, splice, St.setObj, fillV, h2, h4, c37_k4, c37_k3, c37_k2]
    refine use_raw (s_more hR1 hok) fun z σ2 ⟨hz, hR, hf⟩ => ?_
    subst hz
    simp -implicitDefEqProofs [body_eq, w_skip, w_ops, w_seq, w_cond, w_block, w_exit, w_ret, q_then_n, q_then_e, q_then_r, q_blk_n, q_blk_e, q_blk_r, q_ops, q_cont, q_end_n, q_end_r, q_end_e, q_loop_n, q_loop_e, q_loop_r, i_nil, i_p, i_alloc, i_box, i_store, i_copy, i_clear, i_call, i_callv, i_when, t_nil, t_p, t_call, t_alloc, t_box, t_store, kept_nil, t_copy, t_clear, q_tcont, gsel, List.cons_append, List.nil_append, evalP, evalE, Opd.ev, Env.get, Env.set, Env.pick, putE, initEnv, evalBin, intBin, evalUn, evalConv, goneAll, goneOne, retV, resAll, Res.ev, tupOf, byVals, byValsN, bv_d, bv_da, bv_fl, bv_tl, bn_d, bn_da, bn_fl, bn_tl, cx, Dn.newObj, St.place, St.push, St.spot, St.empty, cell_d, cell_da, cell_agg, cell_ref, cell_sl, cell_fl, cell_tl, cell_map, cell_fn, cell_ifc, loadAt, faddrV, partOf, extractV, mkAgg, ofD, splice, St.setObj, fillV]
    exact ⟨hR, f1r.trans hf⟩
  rw [if_neg h4]
  by_cases h5 : m.kind = 5
  · rw [if_pos h5]
    simp -implicitDefEqProofs [body_eq, w_skip, w_ops, w_seq, w_cond, w_block, w_exit, w_ret, q_then_n, q_then_e, q_then_r, q_blk_n, q_blk_e, q_blk_r, q_ops, q_cont, q_end_n, q_end_r, q_end_e, q_loop_n, q_loop_e, q_loop_r, i_nil, i_p, i_alloc, i_box, i_store, i_copy, i_clear, i_call, i_callv, i_when, t_nil, t_p, t_call, t_alloc, t_box, t_store, kept_nil, t_copy, t_clear, q_tcont, gsel, List.cons_append, List.nil_append, evalP, evalE, Opd.ev, Env.get, Env.set, Env.pick, putE, initEnv, evalBin, intBin, evalUn, evalConv, goneAll, goneOne, retV, resAll, Res.ev, tupOf, byVals, byValsN, bv_d, bv_da, bv_fl, bv_tl, bn_d, bn_da, bn_fl, bn_tl, cx, Dn.newObj, St.place, St.push, St.spot, St.empty, cell_d, cell_da, cell_agg, cell_ref, cell_sl, cell_fl, cell_tl, cell_map, cell_fn, cell_ifc, loadAt, faddrV, partOf, extractV, mkAgg, ofD, splice, St.setObj, fillV, h2, h4, h5, c37_k4, c37_k3, c37_k2, c37_k1, g1, ofD]
    have hc := s_diff hR1 hok hm
    simp only [MG.row, h5] at hc
    refine use_raw hc fun z σ2 ⟨hz, hR, hf⟩ => ?_
    subst hz
    simp -implicitDefEqProofs [body_eq, w_skip, w_ops, w_seq, w_cond, w_block, w_exit, w_ret, q_then_n, q_then_e, q_then_r, q_blk_n, q_blk_e, q_blk_r, q_ops, q_cont, q_end_n, q_end_r, q_end_e, q_loop_n, q_loop_e, q_loop_r, i_nil, i_p, i_alloc, i_box, i_store, i_copy, i_clear, i_call, i_callv, i_when, t_nil, t_p, t_call, t_alloc, t_box, t_store, kept_nil, t_copy, t_clear, q_tcont, gsel, List.cons_append, List.nil_append, evalP, evalE, Opd.ev, Env.get, Env.set, Env.pick, putE, initEnv, evalBin, intBin, evalUn, evalConv, goneAll, goneOne, retV, resAll, Res.ev, tupOf, byVals, byValsN, bv_d, bv_da, bv_fl, bv_tl, bn_d, bn_da, bn_fl, bn_tl, cx, Dn.newObj, St.place, St.push, St.spot, St.empty, cell_d, cell_da, cell_agg, cell_ref, cell_sl, cell_fl, cell_tl, cell_map, cell_fn, cell_ifc, loadAt, faddrV, partOf, extractV, mkAgg, ofD, splice, St.setObj, fillV]
    exact ⟨hR, f1r.trans hf⟩
  rw [if_neg h5]
  simp -implicitDefEqProofs [body_eq, w_skip, w_ops, w_seq, w_cond, w_block, w_exit, w_ret, q_then_n, q_then_e, q_then_r, q_blk_n, q_blk_e, q_blk_r, q_ops, q_cont, q_end_n, q_end_r, q_end_e, q_loop_n, q_loop_e, q_loop_r, i_nil, i_p, i_alloc, i_box, i_store, i_copy, i_clear, i_call, i_callv, i_when, t_nil, t_p, t_call, t_alloc, t_box, t_store, kept_nil, t_copy, t_clear, q_tcont, gsel, List.cons_append, List.nil_append, evalP, evalE, Opd.ev, Env.get, Env.set, Env.pick, putE, initEnv, evalBin, intBin, evalUn, evalConv, goneAll, goneOne, retV, resAll, Res.ev, tupOf, byVals, byValsN, bv_d, bv_da, bv_fl, bv_tl, bn_d, bn_da, bn_fl, bn_tl, cx, Dn.newObj, St.place, St.push, St.spot, St.empty, cell_d, cell_da, cell_agg, cell_ref, cell_sl, cell_fl, cell_tl, cell_map, cell_fn, cell_ifc, loadAt, faddrV, partOf, extractV, mkAgg, ofD, splice, St.setObj, fillV, h2, h4, h5, c37_k4, c37_k3, c37_k2, c37_k1, c37_k0, g1]
  exact ⟨hR1, f1r⟩

/-! the plain state keeps its bounds -/
theorem sketchS_sub (th : List MG) : ∀ m ∈ (sketchS th).2, m ∈ th := by
  cases th with
  | nil => simp [sketchS]
  | cons a th => simp only [sketchS]; exact fun m hm => List.mem_cons_of_mem _ hm
theorem sketchS_len (th : List MG) : (sketchS th).2.length ≤ th.length := by
  cases th with
  | nil => simp [sketchS]
  | cons a th => simp [sketchS]

theorem takeS_th (s : RS) (m : MG) : (∀ x ∈ (takeS s m).2.th, x ∈ s.th) ∧ (takeS s m).2.th.length ≤ s.th.length ∧ (takeS s m).2.out.length ≤ s.out.length + 1 := by
  unfold takeS askS moreS diffS
  (repeat' split) <;> simp <;> first | exact ⟨sketchS_sub _, sketchS_len _⟩ | skip

end Go.Proofs.Ytjkedjjahjlmfaa.T

namespace Go.Proofs.Ytjkedjjahjlmfaa.T
open Go.Dn
set_option linter.unusedSimpArgs false
set_option linter.unusedVariables false

def runS : RS → List MG → Option RS
  | s, [] => some s
  | s, m :: r => if (takeS s m).1 then runS (takeS s m).2 r else none
def badM (m : MG) : Bool := decide (m.kind = 2) || decide (m.kind = 4)
def isSk (m : MG) : Bool := decide (m.kind = 3)
def now0 : NW := ⟨0, 0, 0, false, false, 0⟩
def endS (s : RS) : Option (List NW) := if s.th.length = 0 then some s.out else none
def roundsS (mine theirs : List MG) : Option (List NW) := if theirs.any badM then none else (runS ⟨theirs.filter isSk, now0, false, []⟩ mine).bind endS

def RoundsQ (o : Option (List NW)) (v : V) : Prop := match o with
  | none => v = .tup [.d .nils, .d (.iface 81 (.int .i64 2))]
  | some out => ∃ x, v = .tup [.d x, .d .nili] ∧ LV (.d x) (nwRows out)

/-- The second loop and the end. -/
def InvMine (a : D) (mine : List MG) (o : Option (List NW)) (m : Nat) (e : Env) (σ : St) : Prop := ∃ (i : Nat) (s : RS), e = [(6, .ref 0 0), (38, .d a), (39, I mine.length), (40, I i)] ∧ i ≤ mine.length ∧ m = mine.length - i ∧ RAt σ 0 s ∧ RSOk { s with out := [] } ∧ s.out.length ≤ i ∧ (runS s (mine.drop i)).bind endS = o

theorem rounds_mine {a : D} {mine : List MG} (ha : LV (.d a) (msgRows mine)) (hok : ∀ m ∈ mine, MsgOk m) (hl : mine.length ≤ 100) {σ : St} {s : RS} (h : RAt σ 0 s) (hs : RSOk s) (h0 : s.out = []) (e1 e2 e3 e4 : V) :
    wcode (Dn.Call Γ cx) cx c10_k10 [(0, .d a), (6, .ref 0 0), (13, e1), (14, e2), (15, e3), (16, e4)] σ (endQ .val St.empty [.tmp 4, .tmp 5] fun v _ => RoundsQ ((runS s mine).bind endS) v) := by
  have hlen := ha.len σ
  rw [msgRows_len] at hlen
  simp -implicitDefEqProofs [body_eq, w_skip, w_ops, w_seq, w_cond, w_block, w_exit, w_ret, q_then_n, q_then_e, q_then_r, q_blk_n, q_blk_e, q_blk_r, q_ops, q_cont, q_end_n, q_end_r, q_end_e, q_loop_n, q_loop_e, q_loop_r, i_nil, i_p, i_alloc, i_box, i_store, i_copy, i_clear, i_call, i_callv, i_when, t_nil, t_p, t_call, t_alloc, t_box, t_store, kept_nil, t_copy, t_clear, q_tcont, gsel, List.cons_append, List.nil_append, evalP, evalE, Opd.ev, Env.get, Env.set, Env.pick, putE, initEnv, evalBin, intBin, evalUn, evalConv, goneAll, goneOne, retV, resAll, Res.ev, tupOf, byVals, byValsN, bv_d, bv_da, bv_fl, bv_tl, bn_d, bn_da, bn_fl, bn_tl, cx, Dn.newObj, St.place, St.push, St.spot, St.empty, cell_d, cell_da, cell_agg, cell_ref, cell_sl, cell_fl, cell_tl, cell_map, cell_fn, cell_ifc, loadAt, faddrV, partOf, extractV, mkAgg, ofD, splice, St.setObj, fillV, c10_k10, hlen, c10_k9]
  refine wloopI (InvMine a mine ((runS s mine).bind endS)) (m := mine.length) ⟨0, s, rfl, by omega, rfl, h, ⟨hs.ok, hs.sm, hs.len, by simp⟩, by simp [h0], by simp⟩ ?_
  rintro m e σ ⟨i, s, rfl, hi, rfl, hR, hS, hout, hrun⟩
  simp -implicitDefEqProofs [body_eq, w_skip, w_ops, w_seq, w_cond, w_block, w_exit, w_ret, q_then_n, q_then_e, q_then_r, q_blk_n, q_blk_e, q_blk_r, q_ops, q_cont, q_end_n, q_end_r, q_end_e, q_loop_n, q_loop_e, q_loop_r, i_nil, i_p, i_alloc, i_box, i_store, i_copy, i_clear, i_call, i_callv, i_when, t_nil, t_p, t_call, t_alloc, t_box, t_store, kept_nil, t_copy, t_clear, q_tcont, gsel, List.cons_append, List.nil_append, evalP, evalE, Opd.ev, Env.get, Env.set, Env.pick, putE, initEnv, evalBin, intBin, evalUn, evalConv, goneAll, goneOne, retV, resAll, Res.ev, tupOf, byVals, byValsN, bv_d, bv_da, bv_fl, bv_tl, bn_d, bn_da, bn_fl, bn_tl, cx, Dn.newObj, St.place, St.push, St.spot, St.empty, cell_d, cell_da, cell_agg, cell_ref, cell_sl, cell_fl, cell_tl, cell_map, cell_fn, cell_ifc, loadAt, faddrV, partOf, extractV, mkAgg, ofD, splice, St.setObj, fillV, c10_l8, c10_k7]
  by_cases hlt : i < mine.length
  rotate_left
  · obtain rfl : i = mine.length := by omega
    rw [List.drop_length] at hrun
    simp only [runS, Option.bind_some] at hrun
    rw [← hrun]
    obtain ⟨v, w, hT, hA⟩ := hR.ex
    have hob := hT.obj
    simp only [RS.rest] at hob
    have htl := hT.lv.len σ
    rw [msgRows_len] at htl
    obtain ⟨d1, d2, ⟨x, dx⟩, d4, d5⟩ := hA.lv.dv σ
    rw [dx] at d1 d2
    by_cases hz : s.th.length = 0
    · simp -implicitDefEqProofs [body_eq, w_skip, w_ops, w_seq, w_cond, w_block, w_exit, w_ret, q_then_n, q_then_e, q_then_r, q_blk_n, q_blk_e, q_blk_r, q_ops, q_cont, q_end_n, q_end_r, q_end_e, q_loop_n, q_loop_e, q_loop_r, i_nil, i_p, i_alloc, i_box, i_store, i_copy, i_clear, i_call, i_callv, i_when, t_nil, t_p, t_call, t_alloc, t_box, t_store, kept_nil, t_copy, t_clear, q_tcont, gsel, List.cons_append, List.nil_append, evalP, evalE, Opd.ev, Env.get, Env.set, Env.pick, putE, initEnv, evalBin, intBin, evalUn, evalConv, goneAll, goneOne, retV, resAll, Res.ev, tupOf, byVals, byValsN, bv_d, bv_da, bv_fl, bv_tl, bn_d, bn_da, bn_fl, bn_tl, cx, Dn.newObj, St.place, St.push, St.spot, St.empty, cell_d, cell_da, cell_agg, cell_ref, cell_sl, cell_fl, cell_tl, cell_map, cell_fn, cell_ifc, loadAt, faddrV, partOf, extractV, mkAgg, ofD, splice, St.setObj, fillV, c10_k2, nilCheckV, hob, htl, hz, c10_k1, c10_k0, d1]
      have : endS s = some s.out := by simp [endS, List.length_eq_zero_iff.1 hz]
      rw [this]
      exact ⟨x, rfl, d2⟩
    · have hz' : (0 : Int) < s.th.length := by omega
      simp -implicitDefEqProofs [body_eq, w_skip, w_ops, w_seq, w_cond, w_block, w_exit, w_ret, q_then_n, q_then_e, q_then_r, q_blk_n, q_blk_e, q_blk_r, q_ops, q_cont, q_end_n, q_end_r, q_end_e, q_loop_n, q_loop_e, q_loop_r, i_nil, i_p, i_alloc, i_box, i_store, i_copy, i_clear, i_call, i_callv, i_when, t_nil, t_p, t_call, t_alloc, t_box, t_store, kept_nil, t_copy, t_clear, q_tcont, gsel, List.cons_append, List.nil_append, evalP, evalE, Opd.ev, Env.get, Env.set, Env.pick, putE, initEnv, evalBin, intBin, evalUn, evalConv, goneAll, goneOne, retV, resAll, Res.ev, tupOf, byVals, byValsN, bv_d, bv_da, bv_fl, bv_tl, bn_d, bn_da, bn_fl, bn_tl, cx, Dn.newObj, St.place, St.push, St.spot, St.empty, cell_d, cell_da, cell_agg, cell_ref, cell_sl, cell_fl, cell_tl, cell_map, cell_fn, cell_ifc, loadAt, faddrV, partOf, extractV, mkAgg, ofD, splice, St.setObj, fillV, c10_k2, nilCheckV, hob, htl, hz, hz', c10_k1, mkifV]
      have : endS s = none := by unfold endS; rw [if_neg hz]
      rw [this, if_pos (by omega)]
      rfl
  have hii : (i : Int) < mine.length := by omega
  have hb : mine[i]? = some (mine[i]) := by simp [hlt]
  have hm := hok _ (List.getElem_mem hlt)
  have hdrop : mine.drop i = mine[i] :: mine.drop (i + 1) := List.drop_eq_getElem_cons hlt
  generalize hmi : mine[i] = mm at *
  have hia := ha.iaddr σ (k := .i64) (sz := 11) (msgRows_at hb) rfl
  rw [hdrop] at hrun
  simp -implicitDefEqProofs [body_eq, w_skip, w_ops, w_seq, w_cond, w_block, w_exit, w_ret, q_then_n, q_then_e, q_then_r, q_blk_n, q_blk_e, q_blk_r, q_ops, q_cont, q_end_n, q_end_r, q_end_e, q_loop_n, q_loop_e, q_loop_r, i_nil, i_p, i_alloc, i_box, i_store, i_copy, i_clear, i_call, i_callv, i_when, t_nil, t_p, t_call, t_alloc, t_box, t_store, kept_nil, t_copy, t_clear, q_tcont, gsel, List.cons_append, List.nil_append, evalP, evalE, Opd.ev, Env.get, Env.set, Env.pick, putE, initEnv, evalBin, intBin, evalUn, evalConv, goneAll, goneOne, retV, resAll, Res.ev, tupOf, byVals, byValsN, bv_d, bv_da, bv_fl, bv_tl, bn_d, bn_da, bn_fl, bn_tl, cx, Dn.newObj, St.place, St.push, St.spot, St.empty, cell_d, cell_da, cell_agg, cell_ref, cell_sl, cell_fl, cell_tl, cell_map, cell_fn, cell_ifc, loadAt, faddrV, partOf, extractV, mkAgg, ofD, splice, St.setObj, fillV, hii, hlt, c10_k6, c10_k5, hia, MG.row, c10_k4, ofD]
  have hR1 := hR.fr (σ' := ⟨σ.objs ++ [.cells [V.d (.int .i64 mm.kind), V.d (.int .u64 mm.half), V.d (.int .i64 mm.size), V.d (.int .i64 mm.q), V.d mm.data, V.d (.bool mm.ok), V.d mm.ids, V.d mm.hs, V.d mm.ti, V.d mm.to, V.d (.bool mm.tb)]], σ.toks⟩) ⟨by simp, fun q _ hq => by simp [List.getElem?_append_left hq]⟩ rfl
  refine use_raw (s_take hR1 ⟨hS.ok, hS.sm, hS.len, by omega⟩ hm) fun z σ2 ⟨hz, hR2, _⟩ => ?_
  subst hz
  obtain ⟨t1, t2, t3⟩ := takeS_th s mm
  simp only [runS] at hrun
  cases ht : (takeS s mm).1 with
  | false =>
    rw [ht] at hrun
    simp at hrun
    rw [← hrun]
    simp -implicitDefEqProofs [body_eq, w_skip, w_ops, w_seq, w_cond, w_block, w_exit, w_ret, q_then_n, q_then_e, q_then_r, q_blk_n, q_blk_e, q_blk_r, q_ops, q_cont, q_end_n, q_end_r, q_end_e, q_loop_n, q_loop_e, q_loop_r, i_nil, i_p, i_alloc, i_box, i_store, i_copy, i_clear, i_call, i_callv, i_when, t_nil, t_p, t_call, t_alloc, t_box, t_store, kept_nil, t_copy, t_clear, q_tcont, gsel, List.cons_append, List.nil_append, evalP, evalE, Opd.ev, Env.get, Env.set, Env.pick, putE, initEnv, evalBin, intBin, evalUn, evalConv, goneAll, goneOne, retV, resAll, Res.ev, tupOf, byVals, byValsN, bv_d, bv_da, bv_fl, bv_tl, bn_d, bn_da, bn_fl, bn_tl, cx, Dn.newObj, St.place, St.push, St.spot, St.empty, cell_d, cell_da, cell_agg, cell_ref, cell_sl, cell_fl, cell_tl, cell_map, cell_fn, cell_ifc, loadAt, faddrV, partOf, extractV, mkAgg, ofD, splice, St.setObj, fillV, c10_k3, mkifV]
    rfl
  | true =>
    rw [ht] at hrun
    simp only [if_true] at hrun
    simp -implicitDefEqProofs [body_eq, w_skip, w_ops, w_seq, w_cond, w_block, w_exit, w_ret, q_then_n, q_then_e, q_then_r, q_blk_n, q_blk_e, q_blk_r, q_ops, q_cont, q_end_n, q_end_r, q_end_e, q_loop_n, q_loop_e, q_loop_r, i_nil, i_p, i_alloc, i_box, i_store, i_copy, i_clear, i_call, i_callv, i_when, t_nil, t_p, t_call, t_alloc, t_box, t_store, kept_nil, t_copy, t_clear, q_tcont, gsel, List.cons_append, List.nil_append, evalP, evalE, Opd.ev, Env.get, Env.set, Env.pick, putE, initEnv, evalBin, intBin, evalUn, evalConv, goneAll, goneOne, retV, resAll, Res.ev, tupOf, byVals, byValsN, bv_d, bv_da, bv_fl, bv_tl, bn_d, bn_da, bn_fl, bn_tl, cx, Dn.newObj, St.place, St.push, St.spot, St.empty, cell_d, cell_da, cell_agg, cell_ref, cell_sl, cell_fl, cell_tl, cell_map, cell_fn, cell_ifc, loadAt, faddrV, partOf, extractV, mkAgg, ofD, splice, St.setObj, fillV, c10_k3, wrap_i64 (n := (i : Int) + 1) (by omega) (by omega)]
    exact ⟨mine.length - (i + 1), by omega, i + 1, _, rfl, by omega, rfl, hR2, ⟨fun m hm => hS.ok m (t1 m hm), fun m hm => hS.sm m (t1 m hm), Nat.le_trans t2 hS.len, by simp⟩, by omega, hrun⟩

end Go.Proofs.Ytjkedjjahjlmfaa.T

namespace Go.Proofs.Ytjkedjjahjlmfaa.T
open Go.Dn
set_option linter.unusedSimpArgs false
set_option linter.unusedVariables false

abbrev rest0 : List V := [I 0, I 0, I 0, B false, B false, I 0, B false, .d .nils]

def InvTheirs (a b : D) (theirs : List MG) (m : Nat) (e : Env) (σ : St) : Prop := ∃ (i : Nat) (v : V), e = [(0, .d a), (6, .ref 0 0), (13, .d b), (14, I theirs.length), (15, I i)] ∧ i ≤ theirs.length ∧ m = theirs.length - i ∧ σ.objs[0]? = some (.cells (v :: rest0)) ∧ App σ 11 v (msgRows ((theirs.take i).filter isSk)) ∧ (theirs.take i).any badM = false

theorem s_Rounds {a b : D} {mine theirs : List MG} (ha : LV (.d a) (msgRows mine)) (hb : LV (.d b) (msgRows theirs)) (hokA : ∀ m ∈ mine, MsgOk m) (hokB : ∀ m ∈ theirs, MsgOk m) (hsm : ∀ m ∈ theirs, Small m) (hla : mine.length ≤ 100) (hlb : theirs.length ≤ 100) :
    Dn.Call Γ cx .val 10 [.d a, .d b] St.empty fun v _ => RoundsQ (roundsS mine theirs) v := by
  refine Dn.Call.body (fc := c10) rfl ?_
  have hlen : ∀ σ, lenT σ .slice (.d b) = some theirs.length := fun σ => by rw [hb.len σ, msgRows_len]
  simp -implicitDefEqProofs [body_eq, w_skip, w_ops, w_seq, w_cond, w_block, w_exit, w_ret, q_then_n, q_then_e, q_then_r, q_blk_n, q_blk_e, q_blk_r, q_ops, q_cont, q_end_n, q_end_r, q_end_e, q_loop_n, q_loop_e, q_loop_r, i_nil, i_p, i_alloc, i_box, i_store, i_copy, i_clear, i_call, i_callv, i_when, t_nil, t_p, t_call, t_alloc, t_box, t_store, kept_nil, t_copy, t_clear, q_tcont, gsel, List.cons_append, List.nil_append, evalP, evalE, Opd.ev, Env.get, Env.set, Env.pick, putE, initEnv, evalBin, intBin, evalUn, evalConv, goneAll, goneOne, retV, resAll, Res.ev, tupOf, byVals, byValsN, bv_d, bv_da, bv_fl, bv_tl, bn_d, bn_da, bn_fl, bn_tl, cx, Dn.newObj, St.place, St.push, St.spot, St.empty, cell_d, cell_da, cell_agg, cell_ref, cell_sl, cell_fl, cell_tl, cell_map, cell_fn, cell_ifc, loadAt, faddrV, partOf, extractV, mkAgg, ofD, splice, St.setObj, fillV, c10, c10_k24, c10_k23, hlen, c10_k22]
  refine wloopI (InvTheirs a b theirs) (m := theirs.length) ⟨0, .d .nils, rfl, by omega, rfl, by simp, by simpa [msgRows] using App.nil, by simp⟩ ?_
  rintro m e σ ⟨i, v, rfl, hi, rfl, hob, happ, hbad⟩
  simp -implicitDefEqProofs [body_eq, w_skip, w_ops, w_seq, w_cond, w_block, w_exit, w_ret, q_then_n, q_then_e, q_then_r, q_blk_n, q_blk_e, q_blk_r, q_ops, q_cont, q_end_n, q_end_r, q_end_e, q_loop_n, q_loop_e, q_loop_r, i_nil, i_p, i_alloc, i_box, i_store, i_copy, i_clear, i_call, i_callv, i_when, t_nil, t_p, t_call, t_alloc, t_box, t_store, kept_nil, t_copy, t_clear, q_tcont, gsel, List.cons_append, List.nil_append, evalP, evalE, Opd.ev, Env.get, Env.set, Env.pick, putE, initEnv, evalBin, intBin, evalUn, evalConv, goneAll, goneOne, retV, resAll, Res.ev, tupOf, byVals, byValsN, bv_d, bv_da, bv_fl, bv_tl, bn_d, bn_da, bn_fl, bn_tl, cx, Dn.newObj, St.place, St.push, St.spot, St.empty, cell_d, cell_da, cell_agg, cell_ref, cell_sl, cell_fl, cell_tl, cell_map, cell_fn, cell_ifc, loadAt, faddrV, partOf, extractV, mkAgg, ofD, splice, St.setObj, fillV, c10_l21, c10_k20]
  have h0 : 0 < σ.objs.length := (List.getElem?_eq_some_iff.1 hob).1
  by_cases hlt : i < theirs.length
  rotate_left
  · obtain rfl : i = theirs.length := by omega
    rw [List.take_length] at happ hbad
    have hr : roundsS mine theirs = (runS ⟨theirs.filter isSk, now0, false, []⟩ mine).bind endS := by unfold roundsS; rw [hbad]; rfl
    rw [hr]
    have hsub : ∀ m ∈ theirs.filter isSk, m ∈ theirs := fun m hm => (List.mem_filter.1 hm).1
    simp -implicitDefEqProofs [body_eq, w_skip, w_ops, w_seq, w_cond, w_block, w_exit, w_ret, q_then_n, q_then_e, q_then_r, q_blk_n, q_blk_e, q_blk_r, q_ops, q_cont, q_end_n, q_end_r, q_end_e, q_loop_n, q_loop_e, q_loop_r, i_nil, i_p, i_alloc, i_box, i_store, i_copy, i_clear, i_call, i_callv, i_when, t_nil, t_p, t_call, t_alloc, t_box, t_store, kept_nil, t_copy, t_clear, q_tcont, gsel, List.cons_append, List.nil_append, evalP, evalE, Opd.ev, Env.get, Env.set, Env.pick, putE, initEnv, evalBin, intBin, evalUn, evalConv, goneAll, goneOne, retV, resAll, Res.ev, tupOf, byVals, byValsN, bv_d, bv_da, bv_fl, bv_tl, bn_d, bn_da, bn_fl, bn_tl, cx, Dn.newObj, St.place, St.push, St.spot, St.empty, cell_d, cell_da, cell_agg, cell_ref, cell_sl, cell_fl, cell_tl, cell_map, cell_fn, cell_ifc, loadAt, faddrV, partOf, extractV, mkAgg, ofD, splice, St.setObj, fillV]
    exact rounds_mine ha hokA hla (s := ⟨theirs.filter isSk, now0, false, []⟩) ⟨v, .d .nils, ⟨hob, happ.lv, happ.tls⟩, by simpa [nwRows] using App.nil⟩ ⟨fun m hm => hokB m (hsub m hm), fun m hm => hsm m (hsub m hm), Nat.le_trans (List.length_filter_le _ _) (by omega), by simp⟩ rfl _ _ _ _
  have hii : (i : Int) < theirs.length := by omega
  have hbi : theirs[i]? = some (theirs[i]) := by simp [hlt]
  have hmem := List.getElem_mem hlt
  have htake : theirs.take (i + 1) = theirs.take i ++ [theirs[i]] := List.take_succ_eq_append_getElem hlt
  generalize hmi : theirs[i] = mm at *
  have hia := hb.iaddr σ (k := .i64) (sz := 11) (msgRows_at hbi) rfl
  simp -implicitDefEqProofs [body_eq, w_skip, w_ops, w_seq, w_cond, w_block, w_exit, w_ret, q_then_n, q_then_e, q_then_r, q_blk_n, q_blk_e, q_blk_r, q_ops, q_cont, q_end_n, q_end_r, q_end_e, q_loop_n, q_loop_e, q_loop_r, i_nil, i_p, i_alloc, i_box, i_store, i_copy, i_clear, i_call, i_callv, i_when, t_nil, t_p, t_call, t_alloc, t_box, t_store, kept_nil, t_copy, t_clear, q_tcont, gsel, List.cons_append, List.nil_append, evalP, evalE, Opd.ev, Env.get, Env.set, Env.pick, putE, initEnv, evalBin, intBin, evalUn, evalConv, goneAll, goneOne, retV, resAll, Res.ev, tupOf, byVals, byValsN, bv_d, bv_da, bv_fl, bv_tl, bn_d, bn_da, bn_fl, bn_tl, cx, Dn.newObj, St.place, St.push, St.spot, St.empty, cell_d, cell_da, cell_agg, cell_ref, cell_sl, cell_fl, cell_tl, cell_map, cell_fn, cell_ifc, loadAt, faddrV, partOf, extractV, mkAgg, ofD, splice, St.setObj, fillV, hii, hlt, c10_k19, c10_k18, hia, MG.row, c10_k17, c10_k16, c10_k15]
  obtain ⟨σ1, hσ1, htk1⟩ : ∃ s1 : St, (⟨σ.objs ++ [.cells [V.d (.int .i64 mm.kind), V.d (.int .u64 mm.half), V.d (.int .i64 mm.size), V.d (.int .i64 mm.q), V.d mm.data, V.d (.bool mm.ok), V.d mm.ids, V.d mm.hs, V.d mm.ti, V.d mm.to, V.d (.bool mm.tb)]], σ.toks⟩ : St) = s1 ∧ s1.toks = σ.toks := ⟨⟨σ.objs ++ _, σ.toks⟩, rfl, rfl⟩
  rw [hσ1]
  have f1 : Fr [] σ σ1 := ⟨by rw [← hσ1]; simp, fun q _ hq => by rw [← hσ1]; simp [List.getElem?_append_left hq]⟩
  have g1 : σ1.objs[σ.objs.length]? = some (.cells [V.d (.int .i64 mm.kind), V.d (.int .u64 mm.half), V.d (.int .i64 mm.size), V.d (.int .i64 mm.q), V.d mm.data, V.d (.bool mm.ok), V.d mm.ids, V.d mm.hs, V.d mm.ti, V.d mm.to, V.d (.bool mm.tb)]) := by rw [← hσ1]; simp
  have hob1 : σ1.objs[0]? = some (.cells (v :: rest0)) := f1.get hob (by simp)
  have happ1 := happ.toks htk1
  have hfl : ((theirs.take i).filter isSk).length ≤ 100 := Nat.le_trans (List.length_filter_le _ _) (by simp; omega)
  by_cases h3 : mm.kind = 3
  · have hsk : isSk mm = true := by simp [isSk, h3]
    have hbm : badM mm = false := by simp [badM, h3]
    simp -implicitDefEqProofs [body_eq, w_skip, w_ops, w_seq, w_cond, w_block, w_exit, w_ret, q_then_n, q_then_e, q_then_r, q_blk_n, q_blk_e, q_blk_r, q_ops, q_cont, q_end_n, q_end_r, q_end_e, q_loop_n, q_loop_e, q_loop_r, i_nil, i_p, i_alloc, i_box, i_store, i_copy, i_clear, i_call, i_callv, i_when, t_nil, t_p, t_call, t_alloc, t_box, t_store, kept_nil, t_copy, t_clear, q_tcont, gsel, List.cons_append, List.nil_append, evalP, evalE, Opd.ev, Env.get, Env.set, Env.pick, putE, initEnv, evalBin, intBin, evalUn, evalConv, goneAll, goneOne, retV, resAll, Res.ev, tupOf, byVals, byValsN, bv_d, bv_da, bv_fl, bv_tl, bn_d, bn_da, bn_fl, bn_tl, cx, Dn.newObj, St.place, St.push, St.spot, St.empty, cell_d, cell_da, cell_agg, cell_ref, cell_sl, cell_fl, cell_tl, cell_map, cell_fn, cell_ifc, loadAt, faddrV, partOf, extractV, mkAgg, ofD, splice, St.setObj, fillV, h3, c10_k14]
    refine w_drw (fun _ => .raw) [8] (by decide +kernel) ?_
    simp -implicitDefEqProofs [body_eq, w_skip, w_ops, w_seq, w_cond, w_block, w_exit, w_ret, q_then_n, q_then_e, q_then_r, q_blk_n, q_blk_e, q_blk_r, q_ops, q_cont, q_end_n, q_end_r, q_end_e, q_loop_n, q_loop_e, q_loop_r, i_nil, i_p, i_alloc, i_box, i_store, i_copy, i_clear, i_call, i_callv, i_when, t_nil, t_p, t_call, t_alloc, t_box, t_store, kept_nil, t_copy, t_clear, q_tcont, gsel, List.cons_append, List.nil_append, evalP, evalE, Opd.ev, Env.get, Env.set, Env.pick, putE, initEnv, evalBin, intBin, evalUn, evalConv, goneAll, goneOne, retV, resAll, Res.ev, tupOf, byVals, byValsN, bv_d, bv_da, bv_fl, bv_tl, bn_d, bn_da, bn_fl, bn_tl, cx, Dn.newObj, St.place, St.push, St.spot, St.empty, cell_d, cell_da, cell_agg, cell_ref, cell_sl, cell_fl, cell_tl, cell_map, cell_fn, cell_ifc, loadAt, faddrV, partOf, extractV, mkAgg, ofD, splice, St.setObj, fillV, nilCheckV, room_at (m := 1) hob1, room_at (m := 1) g1, ofD, repl, rowsOf]
    obtain ⟨w', σ4, hap, happ4, ho, ht, _⟩ := (happ1.toks (room_toks σ1 1)).push (bytes := 168) (by decide) (msgRows_fit _) (ys := [mm.row]) (by intro r hr; simp at hr; subst hr; rfl) (by rw [msgRows_len]; simp; omega) (by rw [msgRows_len]; simp; omega)
    have e1 : msgRows ((theirs.take i).filter isSk) ++ [mm.row] = msgRows ((theirs.take (i + 1)).filter isSk) := by rw [htake]; simp [msgRows, List.filter_append, hsk]
    rw [e1] at happ4
    refine t_app_f (v := w') (s := σ4) ?_ ?_
    · simp -implicitDefEqProofs [body_eq, w_skip, w_ops, w_seq, w_cond, w_block, w_exit, w_ret, q_then_n, q_then_e, q_then_r, q_blk_n, q_blk_e, q_blk_r, q_ops, q_cont, q_end_n, q_end_r, q_end_e, q_loop_n, q_loop_e, q_loop_r, i_nil, i_p, i_alloc, i_box, i_store, i_copy, i_clear, i_call, i_callv, i_when, t_nil, t_p, t_call, t_alloc, t_box, t_store, kept_nil, t_copy, t_clear, q_tcont, gsel, List.cons_append, List.nil_append, evalP, evalE, Opd.ev, Env.get, Env.set, Env.pick, putE, initEnv, evalBin, intBin, evalUn, evalConv, goneAll, goneOne, retV, resAll, Res.ev, tupOf, byVals, byValsN, bv_d, bv_da, bv_fl, bv_tl, bn_d, bn_da, bn_fl, bn_tl, cx, Dn.newObj, St.place, St.push, St.spot, St.empty, cell_d, cell_da, cell_agg, cell_ref, cell_sl, cell_fl, cell_tl, cell_map, cell_fn, cell_ifc, loadAt, faddrV, partOf, extractV, mkAgg, ofD, splice, St.setObj, fillV, V.rows]
      exact hap _
    have g4 : σ4.objs[0]? = some (.cells (v :: rest0)) := by rw [ho]; exact room_at hob1
    have hlt4 : 0 < σ4.objs.length := (List.getElem?_eq_some_iff.1 g4).1
    simp -implicitDefEqProofs [body_eq, w_skip, w_ops, w_seq, w_cond, w_block, w_exit, w_ret, q_then_n, q_then_e, q_then_r, q_blk_n, q_blk_e, q_blk_r, q_ops, q_cont, q_end_n, q_end_r, q_end_e, q_loop_n, q_loop_e, q_loop_r, i_nil, i_p, i_alloc, i_box, i_store, i_copy, i_clear, i_call, i_callv, i_when, t_nil, t_p, t_call, t_alloc, t_box, t_store, kept_nil, t_copy, t_clear, q_tcont, gsel, List.cons_append, List.nil_append, evalP, evalE, Opd.ev, Env.get, Env.set, Env.pick, putE, initEnv, evalBin, intBin, evalUn, evalConv, goneAll, goneOne, retV, resAll, Res.ev, tupOf, byVals, byValsN, bv_d, bv_da, bv_fl, bv_tl, bn_d, bn_da, bn_fl, bn_tl, cx, Dn.newObj, St.place, St.push, St.spot, St.empty, cell_d, cell_da, cell_agg, cell_ref, cell_sl, cell_fl, cell_tl, cell_map, cell_fn, cell_ifc, loadAt, faddrV, partOf, extractV, mkAgg, ofD, splice, St.setObj, fillV, nilCheckV, g4, happ4.lv.cells, wrap_i64 (n := (i : Int) + 1) (by omega) (by omega)]
    refine ⟨Kept.set (by simp [Env.get, dref]; omega), theirs.length - (i + 1), by omega, i + 1, w', rfl, by omega, rfl, by simp [hlt4], happ4.toks rfl, ?_⟩
    rw [htake]
    simp [hbad, hbm]
  · have hsk : isSk mm = false := by simp [isSk, h3]
    have e1 : (theirs.take (i + 1)).filter isSk = (theirs.take i).filter isSk := by rw [htake]; simp [List.filter_append, hsk]
    by_cases hbm : badM mm = true
    · have hr : roundsS mine theirs = none := by
        unfold roundsS
        rw [if_pos (List.any_eq_true.2 ⟨mm, hmem, hbm⟩)]
      rw [hr]
      simp [badM] at hbm
      rcases hbm with h | h
      · simp -implicitDefEqProofs [body_eq, w_skip, w_ops, w_seq, w_cond, w_block, w_exit, w_ret, q_then_n, q_then_e, q_then_r, q_blk_n, q_blk_e, q_blk_r, q_ops, q_cont, q_end_n, q_end_r, q_end_e, q_loop_n, q_loop_e, q_loop_r, i_nil, i_p, i_alloc, i_box, i_store, i_copy, i_clear, i_call, i_callv, i_when, t_nil, t_p, t_call, t_alloc, t_box, t_store, kept_nil, t_copy, t_clear, q_tcont, gsel, List.cons_append, List.nil_append, evalP, evalE, Opd.ev, Env.get, Env.set, Env.pick, putE, initEnv, evalBin, intBin, evalUn, evalConv, goneAll, goneOne, retV, resAll, Res.ev, tupOf, byVals, byValsN, bv_d, bv_da, bv_fl, bv_tl, bn_d, bn_da, bn_fl, bn_tl, cx, Dn.newObj, St.place, St.push, St.spot, St.empty, cell_d, cell_da, cell_agg, cell_ref, cell_sl, cell_fl, cell_tl, cell_map, cell_fn, cell_ifc, loadAt, faddrV, partOf, extractV, mkAgg, ofD, splice, St.setObj, fillV, h, c10_k14, c10_k13, c10_k12, c10_k11, mkifV]
        rfl
      · simp -implicitDefEqProofs [body_eq, w_skip, w_ops, w_seq, w_cond, w_block, w_exit, w_ret, q_then_n, q_then_e, q_then_r, q_blk_n, q_blk_e, q_blk_r, q_ops, q_cont, q_end_n, q_end_r, q_end_e, q_loop_n, q_loop_e, q_loop_r, i_nil, i_p, i_alloc, i_box, i_store, i_copy, i_clear, i_call, i_callv, i_when, t_nil, t_p, t_call, t_alloc, t_box, t_store, kept_nil, t_copy, t_clear, q_tcont, gsel, List.cons_append, List.nil_append, evalP, evalE, Opd.ev, Env.get, Env.set, Env.pick, putE, initEnv, evalBin, intBin, evalUn, evalConv, goneAll, goneOne, retV, resAll, Res.ev, tupOf, byVals, byValsN, bv_d, bv_da, bv_fl, bv_tl, bn_d, bn_da, bn_fl, bn_tl, cx, Dn.newObj, St.place, St.push, St.spot, St.empty, cell_d, cell_da, cell_agg, cell_ref, cell_sl, cell_fl, cell_tl, cell_map, cell_fn, cell_ifc, loadAt, faddrV, partOf, extractV, mkAgg, ofD, splice, St.setObj, fillV, h, c10_k14, c10_k13, c10_k12, c10_k11, mkifV]
        rfl
    · have hbm' : badM mm = false := by simpa using hbm
      have h24 : ¬ mm.kind = 2 ∧ ¬ mm.kind = 4 := by simp [badM] at hbm'; exact hbm'
      simp -implicitDefEqProofs [body_eq, w_skip, w_ops, w_seq, w_cond, w_block, w_exit, w_ret, q_then_n, q_then_e, q_then_r, q_blk_n, q_blk_e, q_blk_r, q_ops, q_cont, q_end_n, q_end_r, q_end_e, q_loop_n, q_loop_e, q_loop_r, i_nil, i_p, i_alloc, i_box, i_store, i_copy, i_clear, i_call, i_callv, i_when, t_nil, t_p, t_call, t_alloc, t_box, t_store, kept_nil, t_copy, t_clear, q_tcont, gsel, List.cons_append, List.nil_append, evalP, evalE, Opd.ev, Env.get, Env.set, Env.pick, putE, initEnv, evalBin, intBin, evalUn, evalConv, goneAll, goneOne, retV, resAll, Res.ev, tupOf, byVals, byValsN, bv_d, bv_da, bv_fl, bv_tl, bn_d, bn_da, bn_fl, bn_tl, cx, Dn.newObj, St.place, St.push, St.spot, St.empty, cell_d, cell_da, cell_agg, cell_ref, cell_sl, cell_fl, cell_tl, cell_map, cell_fn, cell_ifc, loadAt, faddrV, partOf, extractV, mkAgg, ofD, splice, St.setObj, fillV, h3, h24, c10_k14, c10_k13, c10_k12, c10_k11, wrap_i64 (n := (i : Int) + 1) (by omega) (by omega)]
      refine ⟨theirs.length - (i + 1), by omega, i + 1, v, rfl, by omega, rfl, hob1, by rw [e1]; exact happ1, ?_⟩
      rw [htake]
      simp [hbad, hbm']

end Go.Proofs.Ytjkedjjahjlmfaa.T

namespace Go.Proofs.Ytjkedjjahjlmfaa.T
open Go.Dn
set_option linter.unusedSimpArgs false
set_option linter.unusedVariables false

def askM : MG := ⟨2, 0, 0, 0, .nils, false, .nils, .nils, .nils, .nils, false⟩
theorem askM_ok : MsgOk askM := ⟨[], [], [], [], [], ⟨.nil, .nil, .nil, ⟨.nil, .nil, by simp, by simp⟩, by simp, by simp, by simp⟩, by simp⟩

theorem runS_app : ∀ (l : List MG) (s : RS) (m : MG), runS s (l ++ [m]) = (runS s l).bind fun s' => if (takeS s' m).1 then some (takeS s' m).2 else none
  | [], s, m => by simp [runS]
  | a :: l, s, m => by
    simp only [List.cons_append, runS]
    split
    · exact runS_app l _ m
    · rfl

theorem rounds_ask {mine theirs : List MG} {out : List NW} (h : roundsS mine theirs = some out) : roundsS (mine ++ [askM]) theirs = none ∨ roundsS (mine ++ [askM]) theirs = some out := by
  unfold roundsS at h ⊢
  split at h
  · cases h
  · rename_i hb
    rw [if_neg hb, runS_app]
    cases hr : runS ⟨theirs.filter isSk, now0, false, []⟩ mine with
    | none => rw [hr] at h; cases h
    | some s =>
      rw [hr] at h
      simp only [Option.bind_some] at h ⊢
      unfold endS at h
      split at h
      · rename_i hz
        cases h
        obtain ⟨th, now, on, out⟩ := s
        simp only [List.length_eq_zero_iff] at hz
        subst hz
        cases on with
        | true => left; simp [takeS, askM, askS]
        | false => right; simp [takeS, askM, askS, sketchS, endS]
      · cases h

end Go.Proofs.Ytjkedjjahjlmfaa.T

namespace Go.Proofs.Ytjkedjjahjlmfaa.T
open Go.Dn
set_option linter.unusedSimpArgs false
set_option linter.unusedVariables false

def aM1 : MG := ⟨2, 0, 3, 0, .nils, false, .nils, .nils, .nils, .nils, false⟩
def aM2 : MG := ⟨5, 0, 0, 0, .nils, true, .list [[.int .u32 9]], .nils, .nils, .nils, false⟩
def aM3 : MG := ⟨3, 0, 0, 0, .list [[.int .u8 0], [.int .u8 0], [.int .u8 0], [.int .u8 0], [.int .u8 0], [.int .u8 0], [.int .u8 0], [.int .u8 0]], false, .nils, .nils, .nils, .nils, false⟩
def aR : NW := ⟨3, 0, 2, false, true, 1⟩
theorem aM1_ok : MsgOk aM1 := ⟨[], [], [], [], [], ⟨.nil, .nil, .nil, ⟨.nil, .nil, by simp, by simp⟩, by simp, by simp, by simp⟩, by simp⟩
theorem aM2_ok : MsgOk aM2 := ⟨[], _, [], [], [], ⟨.nil, .list _, .nil, ⟨.nil, .nil, by simp, by simp⟩, by simp, by simp, by simp⟩, by simp⟩
theorem aM3_ok : MsgOk aM3 := ⟨_, [], [], [], [], ⟨.list _, .nil, .nil, ⟨.nil, .nil, by simp, by simp⟩, by simp, by simp, by simp⟩, by simp⟩
theorem aRounds : roundsS [aM1, aM2] [aM3] = some [aR] := by
  simp [roundsS, badM, isSk, runS, takeS, askS, diffS, sketchS, endS, aM1, aM2, aM3, aR, lenD, now0]

theorem s_alive31 : Dn.Call Γ cx .val 8 [] St.empty fun v _ => v = B true := by
  refine Dn.Call.body (fc := c8) rfl ?_
  simp -implicitDefEqProofs [body_eq, w_skip, w_ops, w_seq, w_cond, w_block, w_exit, w_ret, q_then_n, q_then_e, q_then_r, q_blk_n, q_blk_e, q_blk_r, q_ops, q_cont, q_end_n, q_end_r, q_end_e, q_loop_n, q_loop_e, q_loop_r, i_nil, i_p, i_alloc, i_box, i_store, i_copy, i_clear, i_call, i_callv, i_when, t_nil, t_p, t_call, t_alloc, t_box, t_store, kept_nil, t_copy, t_clear, q_tcont, gsel, List.cons_append, List.nil_append, evalP, evalE, Opd.ev, Env.get, Env.set, Env.pick, putE, initEnv, evalBin, intBin, evalUn, evalConv, goneAll, goneOne, retV, resAll, Res.ev, tupOf, byVals, byValsN, bv_d, bv_da, bv_fl, bv_tl, bn_d, bn_da, bn_fl, bn_tl, cx, Dn.newObj, St.place, St.push, St.spot, St.empty, cell_d, cell_da, cell_agg, cell_ref, cell_sl, cell_fl, cell_tl, cell_map, cell_fn, cell_ifc, loadAt, faddrV, partOf, extractV, mkAgg, ofD, splice, St.setObj, fillV, c8, c8_k1, repl, rowsOf, ofD]
  refine i_app_m (v := .fl (List.replicate 8 [.int .u8 0])) (s := ⟨[], []⟩) ?_ ?_
  · rfl
  simp -implicitDefEqProofs [body_eq, w_skip, w_ops, w_seq, w_cond, w_block, w_exit, w_ret, q_then_n, q_then_e, q_then_r, q_blk_n, q_blk_e, q_blk_r, q_ops, q_cont, q_end_n, q_end_r, q_end_e, q_loop_n, q_loop_e, q_loop_r, i_nil, i_p, i_alloc, i_box, i_store, i_copy, i_clear, i_call, i_callv, i_when, t_nil, t_p, t_call, t_alloc, t_box, t_store, kept_nil, t_copy, t_clear, q_tcont, gsel, List.cons_append, List.nil_append, evalP, evalE, Opd.ev, Env.get, Env.set, Env.pick, putE, initEnv, evalBin, intBin, evalUn, evalConv, goneAll, goneOne, retV, resAll, Res.ev, tupOf, byVals, byValsN, bv_d, bv_da, bv_fl, bv_tl, bn_d, bn_da, bn_fl, bn_tl, cx, Dn.newObj, St.place, St.push, St.spot, St.empty, cell_d, cell_da, cell_agg, cell_ref, cell_sl, cell_fl, cell_tl, cell_map, cell_fn, cell_ifc, loadAt, faddrV, partOf, extractV, mkAgg, ofD, splice, St.setObj, fillV, repl, rowsOf, ofD, frzV]
  refine use_val (ds := [.d (.list (msgRows [aM1, aM2])), .d (.list (msgRows [aM3]))]) rfl (s_Rounds (mine := [aM1, aM2]) (theirs := [aM3]) (.list _) (.list _) (by
      intro m hm
      simp at hm
      rcases hm with rfl | rfl
      · exact aM1_ok
      · exact aM2_ok) (by
      intro m hm
      simp at hm
      subst hm
      exact aM3_ok) (by
      intro m hm
      simp at hm
      subst hm
      exact ⟨by decide, by decide⟩) (by decide) (by decide)) ?_
  intro v s hv
  rw [aRounds] at hv
  obtain ⟨o, rfl, lvo⟩ := hv
  refine ⟨rfl, (fun h => by simp [V.borrows] at h), ?_⟩
  have l1 := lvo.len
  have l2 := fun σ => lvo.iaddr σ (k := .i64) (sz := 6) (i := 0) (row := aR.row) rfl rfl
  simp [nwRows] at l1 l2
  simp -implicitDefEqProofs [body_eq, w_skip, w_ops, w_seq, w_cond, w_block, w_exit, w_ret, q_then_n, q_then_e, q_then_r, q_blk_n, q_blk_e, q_blk_r, q_ops, q_cont, q_end_n, q_end_r, q_end_e, q_loop_n, q_loop_e, q_loop_r, i_nil, i_p, i_alloc, i_box, i_store, i_copy, i_clear, i_call, i_callv, i_when, t_nil, t_p, t_call, t_alloc, t_box, t_store, kept_nil, t_copy, t_clear, q_tcont, gsel, List.cons_append, List.nil_append, evalP, evalE, Opd.ev, Env.get, Env.set, Env.pick, putE, initEnv, evalBin, intBin, evalUn, evalConv, goneAll, goneOne, retV, resAll, Res.ev, tupOf, byVals, byValsN, bv_d, bv_da, bv_fl, bv_tl, bn_d, bn_da, bn_fl, bn_tl, cx, Dn.newObj, St.place, St.push, St.spot, St.empty, cell_d, cell_da, cell_agg, cell_ref, cell_sl, cell_fl, cell_tl, cell_map, cell_fn, cell_ifc, loadAt, faddrV, partOf, extractV, mkAgg, ofD, splice, St.setObj, fillV, c8_k0, eqV, V.isNil, Opd.isC, l1, l2, aR, NW.row, fitsAll, Lf.fits, IntKind.min, IntKind.max, IntKind.signed, IntKind.bits]

end Go.Proofs.Ytjkedjjahjlmfaa.T

namespace Go.Proofs.Ytjkedjjahjlmfaa.T
open Go.Dn
set_option linter.unusedSimpArgs false
set_option linter.unusedVariables false

theorem s3_of (hal : Dn.Call Γ cx .val 8 [] St.empty fun v _ => v = B true) {x y : D} {mine theirs : List MG} (hx : LV (.d x) (msgRows mine)) (hy : LV (.d y) (msgRows theirs)) (hokA : ∀ m ∈ mine, MsgOk m) (hokB : ∀ m ∈ theirs, MsgOk m) :
    Dn.Call Γ cx .val 3 [.d x, .d y] St.empty fun v _ => v = B true := by
  refine Dn.Call.body (fc := c3) rfl ?_
  simp -implicitDefEqProofs [body_eq, w_skip, w_ops, w_seq, w_cond, w_block, w_exit, w_ret, q_then_n, q_then_e, q_then_r, q_blk_n, q_blk_e, q_blk_r, q_ops, q_cont, q_end_n, q_end_r, q_end_e, q_loop_n, q_loop_e, q_loop_r, i_nil, i_p, i_alloc, i_box, i_store, i_copy, i_clear, i_call, i_callv, i_when, t_nil, t_p, t_call, t_alloc, t_box, t_store, kept_nil, t_copy, t_clear, q_tcont, gsel, List.cons_append, List.nil_append, evalP, evalE, Opd.ev, Env.get, Env.set, Env.pick, putE, initEnv, evalBin, intBin, evalUn, evalConv, goneAll, goneOne, retV, resAll, Res.ev, tupOf, byVals, byValsN, bv_d, bv_da, bv_fl, bv_tl, bn_d, bn_da, bn_fl, bn_tl, cx, Dn.newObj, St.place, St.push, St.spot, St.empty, cell_d, cell_da, cell_agg, cell_ref, cell_sl, cell_fl, cell_tl, cell_map, cell_fn, cell_ifc, loadAt, faddrV, partOf, extractV, mkAgg, ofD, splice, St.setObj, fillV, c3, c3_k12]
  refine use_fn rfl hal rfl ?_
  simp -implicitDefEqProofs [body_eq, w_skip, w_ops, w_seq, w_cond, w_block, w_exit, w_ret, q_then_n, q_then_e, q_then_r, q_blk_n, q_blk_e, q_blk_r, q_ops, q_cont, q_end_n, q_end_r, q_end_e, q_loop_n, q_loop_e, q_loop_r, i_nil, i_p, i_alloc, i_box, i_store, i_copy, i_clear, i_call, i_callv, i_when, t_nil, t_p, t_call, t_alloc, t_box, t_store, kept_nil, t_copy, t_clear, q_tcont, gsel, List.cons_append, List.nil_append, evalP, evalE, Opd.ev, Env.get, Env.set, Env.pick, putE, initEnv, evalBin, intBin, evalUn, evalConv, goneAll, goneOne, retV, resAll, Res.ev, tupOf, byVals, byValsN, bv_d, bv_da, bv_fl, bv_tl, bn_d, bn_da, bn_fl, bn_tl, cx, Dn.newObj, St.place, St.push, St.spot, St.empty, cell_d, cell_da, cell_agg, cell_ref, cell_sl, cell_fl, cell_tl, cell_map, cell_fn, cell_ifc, loadAt, faddrV, partOf, extractV, mkAgg, ofD, splice, St.setObj, fillV, c3_k11, c3_k10]
  refine use_val (ds := [.d x]) rfl (s_program hx hokA) ?_
  rintro v s ⟨a, b1, rfl, h1⟩
  refine ⟨rfl, fun h => by simp [V.borrows] at h, ?_⟩
  simp -implicitDefEqProofs [body_eq, w_skip, w_ops, w_seq, w_cond, w_block, w_exit, w_ret, q_then_n, q_then_e, q_then_r, q_blk_n, q_blk_e, q_blk_r, q_ops, q_cont, q_end_n, q_end_r, q_end_e, q_loop_n, q_loop_e, q_loop_r, i_nil, i_p, i_alloc, i_box, i_store, i_copy, i_clear, i_call, i_callv, i_when, t_nil, t_p, t_call, t_alloc, t_box, t_store, kept_nil, t_copy, t_clear, q_tcont, gsel, List.cons_append, List.nil_append, evalP, evalE, Opd.ev, Env.get, Env.set, Env.pick, putE, initEnv, evalBin, intBin, evalUn, evalConv, goneAll, goneOne, retV, resAll, Res.ev, tupOf, byVals, byValsN, bv_d, bv_da, bv_fl, bv_tl, bn_d, bn_da, bn_fl, bn_tl, cx, Dn.newObj, St.place, St.push, St.spot, St.empty, cell_d, cell_da, cell_agg, cell_ref, cell_sl, cell_fl, cell_tl, cell_map, cell_fn, cell_ifc, loadAt, faddrV, partOf, extractV, mkAgg, ofD, splice, St.setObj, fillV, c3_k9]
  refine use_val (ds := [.d y]) rfl (s_program hy hokB) ?_
  rintro v s ⟨b, b2, rfl, h2⟩
  refine ⟨rfl, fun h => by simp [V.borrows] at h, ?_⟩
  cases b1 with
  | false => simp -implicitDefEqProofs [body_eq, w_skip, w_ops, w_seq, w_cond, w_block, w_exit, w_ret, q_then_n, q_then_e, q_then_r, q_blk_n, q_blk_e, q_blk_r, q_ops, q_cont, q_end_n, q_end_r, q_end_e, q_loop_n, q_loop_e, q_loop_r, i_nil, i_p, i_alloc, i_box, i_store, i_copy, i_clear, i_call, i_callv, i_when, t_nil, t_p, t_call, t_alloc, t_box, t_store, kept_nil, t_copy, t_clear, q_tcont, gsel, List.cons_append, List.nil_append, evalP, evalE, Opd.ev, Env.get, Env.set, Env.pick, putE, initEnv, evalBin, intBin, evalUn, evalConv, goneAll, goneOne, retV, resAll, Res.ev, tupOf, byVals, byValsN, bv_d, bv_da, bv_fl, bv_tl, bn_d, bn_da, bn_fl, bn_tl, cx, Dn.newObj, St.place, St.push, St.spot, St.empty, cell_d, cell_da, cell_agg, cell_ref, cell_sl, cell_fl, cell_tl, cell_map, cell_fn, cell_ifc, loadAt, faddrV, partOf, extractV, mkAgg, ofD, splice, St.setObj, fillV, c3_k8, c3_k7]
  | true =>
  cases b2 with
  | false => simp -implicitDefEqProofs [body_eq, w_skip, w_ops, w_seq, w_cond, w_block, w_exit, w_ret, q_then_n, q_then_e, q_then_r, q_blk_n, q_blk_e, q_blk_r, q_ops, q_cont, q_end_n, q_end_r, q_end_e, q_loop_n, q_loop_e, q_loop_r, i_nil, i_p, i_alloc, i_box, i_store, i_copy, i_clear, i_call, i_callv, i_when, t_nil, t_p, t_call, t_alloc, t_box, t_store, kept_nil, t_copy, t_clear, q_tcont, gsel, List.cons_append, List.nil_append, evalP, evalE, Opd.ev, Env.get, Env.set, Env.pick, putE, initEnv, evalBin, intBin, evalUn, evalConv, goneAll, goneOne, retV, resAll, Res.ev, tupOf, byVals, byValsN, bv_d, bv_da, bv_fl, bv_tl, bn_d, bn_da, bn_fl, bn_tl, cx, Dn.newObj, St.place, St.push, St.spot, St.empty, cell_d, cell_da, cell_agg, cell_ref, cell_sl, cell_fl, cell_tl, cell_map, cell_fn, cell_ifc, loadAt, faddrV, partOf, extractV, mkAgg, ofD, splice, St.setObj, fillV, c3_k8, c3_k7]
  | true =>
  obtain ⟨lva, lla, _⟩ := h1 rfl
  obtain ⟨lvb, llb, smb⟩ := h2 rfl
  simp -implicitDefEqProofs [body_eq, w_skip, w_ops, w_seq, w_cond, w_block, w_exit, w_ret, q_then_n, q_then_e, q_then_r, q_blk_n, q_blk_e, q_blk_r, q_ops, q_cont, q_end_n, q_end_r, q_end_e, q_loop_n, q_loop_e, q_loop_r, i_nil, i_p, i_alloc, i_box, i_store, i_copy, i_clear, i_call, i_callv, i_when, t_nil, t_p, t_call, t_alloc, t_box, t_store, kept_nil, t_copy, t_clear, q_tcont, gsel, List.cons_append, List.nil_append, evalP, evalE, Opd.ev, Env.get, Env.set, Env.pick, putE, initEnv, evalBin, intBin, evalUn, evalConv, goneAll, goneOne, retV, resAll, Res.ev, tupOf, byVals, byValsN, bv_d, bv_da, bv_fl, bv_tl, bn_d, bn_da, bn_fl, bn_tl, cx, Dn.newObj, St.place, St.push, St.spot, St.empty, cell_d, cell_da, cell_agg, cell_ref, cell_sl, cell_fl, cell_tl, cell_map, cell_fn, cell_ifc, loadAt, faddrV, partOf, extractV, mkAgg, ofD, splice, St.setObj, fillV, c3_k8, c3_k7, c3_k6]
  refine use_val (ds := [.d a, .d b]) rfl (s_Rounds lva lvb hokA hokB smb (by omega) (by omega)) ?_
  intro v s hv
  cases hr : roundsS mine theirs with
  | none =>
    rw [hr] at hv
    simp only [RoundsQ] at hv
    subst hv
    refine ⟨rfl, fun h => by simp [V.borrows] at h, ?_⟩
    simp -implicitDefEqProofs [body_eq, w_skip, w_ops, w_seq, w_cond, w_block, w_exit, w_ret, q_then_n, q_then_e, q_then_r, q_blk_n, q_blk_e, q_blk_r, q_ops, q_cont, q_end_n, q_end_r, q_end_e, q_loop_n, q_loop_e, q_loop_r, i_nil, i_p, i_alloc, i_box, i_store, i_copy, i_clear, i_call, i_callv, i_when, t_nil, t_p, t_call, t_alloc, t_box, t_store, kept_nil, t_copy, t_clear, q_tcont, gsel, List.cons_append, List.nil_append, evalP, evalE, Opd.ev, Env.get, Env.set, Env.pick, putE, initEnv, evalBin, intBin, evalUn, evalConv, goneAll, goneOne, retV, resAll, Res.ev, tupOf, byVals, byValsN, bv_d, bv_da, bv_fl, bv_tl, bn_d, bn_da, bn_fl, bn_tl, cx, Dn.newObj, St.place, St.push, St.spot, St.empty, cell_d, cell_da, cell_agg, cell_ref, cell_sl, cell_fl, cell_tl, cell_map, cell_fn, cell_ifc, loadAt, faddrV, partOf, extractV, mkAgg, ofD, splice, St.setObj, fillV, c3_k5, c3_k4, eqV, V.isNil, Opd.isC, lenT, lenV]
  | some out =>
    rw [hr] at hv
    obtain ⟨o, rfl, lvo⟩ := hv
    refine ⟨rfl, fun h => by simp [V.borrows] at h, ?_⟩
    simp -implicitDefEqProofs [body_eq, w_skip, w_ops, w_seq, w_cond, w_block, w_exit, w_ret, q_then_n, q_then_e, q_then_r, q_blk_n, q_blk_e, q_blk_r, q_ops, q_cont, q_end_n, q_end_r, q_end_e, q_loop_n, q_loop_e, q_loop_r, i_nil, i_p, i_alloc, i_box, i_store, i_copy, i_clear, i_call, i_callv, i_when, t_nil, t_p, t_call, t_alloc, t_box, t_store, kept_nil, t_copy, t_clear, q_tcont, gsel, List.cons_append, List.nil_append, evalP, evalE, Opd.ev, Env.get, Env.set, Env.pick, putE, initEnv, evalBin, intBin, evalUn, evalConv, goneAll, goneOne, retV, resAll, Res.ev, tupOf, byVals, byValsN, bv_d, bv_da, bv_fl, bv_tl, bn_d, bn_da, bn_fl, bn_tl, cx, Dn.newObj, St.place, St.push, St.spot, St.empty, cell_d, cell_da, cell_agg, cell_ref, cell_sl, cell_fl, cell_tl, cell_map, cell_fn, cell_ifc, loadAt, faddrV, partOf, extractV, mkAgg, ofD, splice, St.setObj, fillV, c3_k5, c3_k4, eqV, V.isNil, Opd.isC, c3_k3, repl, rowsOf]
    obtain ⟨w1, σ1, hap1, happ1, ho1, ht1, _⟩ := (App.fl (σ := St.empty) (sz := 11) []).push (bytes := 168) (by decide) (by simp) (ys := msgRows mine) (msgRows_fit _) (by rw [msgRows_len]; simp; omega) (by rw [msgRows_len]; simp; omega)
    rw [List.nil_append] at happ1
    refine i_app_f (v := w1) (s := σ1) ?_ ?_
    · simp -implicitDefEqProofs [body_eq, w_skip, w_ops, w_seq, w_cond, w_block, w_exit, w_ret, q_then_n, q_then_e, q_then_r, q_blk_n, q_blk_e, q_blk_r, q_ops, q_cont, q_end_n, q_end_r, q_end_e, q_loop_n, q_loop_e, q_loop_r, i_nil, i_p, i_alloc, i_box, i_store, i_copy, i_clear, i_call, i_callv, i_when, t_nil, t_p, t_call, t_alloc, t_box, t_store, kept_nil, t_copy, t_clear, q_tcont, gsel, List.cons_append, List.nil_append, evalP, evalE, Opd.ev, Env.get, Env.set, Env.pick, putE, initEnv, evalBin, intBin, evalUn, evalConv, goneAll, goneOne, retV, resAll, Res.ev, tupOf, byVals, byValsN, bv_d, bv_da, bv_fl, bv_tl, bn_d, bn_da, bn_fl, bn_tl, cx, Dn.newObj, St.place, St.push, St.spot, St.empty, cell_d, cell_da, cell_agg, cell_ref, cell_sl, cell_fl, cell_tl, cell_map, cell_fn, cell_ifc, loadAt, faddrV, partOf, extractV, mkAgg, ofD, splice, St.setObj, fillV, lva.rows]
      exact hap1 none
    simp -implicitDefEqProofs [body_eq, w_skip, w_ops, w_seq, w_cond, w_block, w_exit, w_ret, q_then_n, q_then_e, q_then_r, q_blk_n, q_blk_e, q_blk_r, q_ops, q_cont, q_end_n, q_end_r, q_end_e, q_loop_n, q_loop_e, q_loop_r, i_nil, i_p, i_alloc, i_box, i_store, i_copy, i_clear, i_call, i_callv, i_when, t_nil, t_p, t_call, t_alloc, t_box, t_store, kept_nil, t_copy, t_clear, q_tcont, gsel, List.cons_append, List.nil_append, evalP, evalE, Opd.ev, Env.get, Env.set, Env.pick, putE, initEnv, evalBin, intBin, evalUn, evalConv, goneAll, goneOne, retV, resAll, Res.ev, tupOf, byVals, byValsN, bv_d, bv_da, bv_fl, bv_tl, bn_d, bn_da, bn_fl, bn_tl, cx, Dn.newObj, St.place, St.push, St.spot, St.empty, cell_d, cell_da, cell_agg, cell_ref, cell_sl, cell_fl, cell_tl, cell_map, cell_fn, cell_ifc, loadAt, faddrV, partOf, extractV, mkAgg, ofD, splice, St.setObj, fillV, ofD, repl, rowsOf]
    obtain ⟨w2, σ2, hap2, happ2, ho2, ht2, _⟩ := happ1.push (bytes := 168) (by decide) (msgRows_fit _) (ys := [askM.row]) (by intro r hr; simp at hr; subst hr; rfl) (by rw [msgRows_len]; simp; omega) (by rw [msgRows_len]; simp; omega)
    have e1 : msgRows mine ++ [askM.row] = msgRows (mine ++ [askM]) := by simp [msgRows]
    rw [e1] at happ2
    refine i_app_f (v := w2) (s := σ2) ?_ ?_
    · simp -implicitDefEqProofs [body_eq, w_skip, w_ops, w_seq, w_cond, w_block, w_exit, w_ret, q_then_n, q_then_e, q_then_r, q_blk_n, q_blk_e, q_blk_r, q_ops, q_cont, q_end_n, q_end_r, q_end_e, q_loop_n, q_loop_e, q_loop_r, i_nil, i_p, i_alloc, i_box, i_store, i_copy, i_clear, i_call, i_callv, i_when, t_nil, t_p, t_call, t_alloc, t_box, t_store, kept_nil, t_copy, t_clear, q_tcont, gsel, List.cons_append, List.nil_append, evalP, evalE, Opd.ev, Env.get, Env.set, Env.pick, putE, initEnv, evalBin, intBin, evalUn, evalConv, goneAll, goneOne, retV, resAll, Res.ev, tupOf, byVals, byValsN, bv_d, bv_da, bv_fl, bv_tl, bn_d, bn_da, bn_fl, bn_tl, cx, Dn.newObj, St.place, St.push, St.spot, St.empty, cell_d, cell_da, cell_agg, cell_ref, cell_sl, cell_fl, cell_tl, cell_map, cell_fn, cell_ifc, loadAt, faddrV, partOf, extractV, mkAgg, ofD, splice, St.setObj, fillV, V.rows]
      exact hap2 none
    simp -implicitDefEqProofs [body_eq, w_skip, w_ops, w_seq, w_cond, w_block, w_exit, w_ret, q_then_n, q_then_e, q_then_r, q_blk_n, q_blk_e, q_blk_r, q_ops, q_cont, q_end_n, q_end_r, q_end_e, q_loop_n, q_loop_e, q_loop_r, i_nil, i_p, i_alloc, i_box, i_store, i_copy, i_clear, i_call, i_callv, i_when, t_nil, t_p, t_call, t_alloc, t_box, t_store, kept_nil, t_copy, t_clear, q_tcont, gsel, List.cons_append, List.nil_append, evalP, evalE, Opd.ev, Env.get, Env.set, Env.pick, putE, initEnv, evalBin, intBin, evalUn, evalConv, goneAll, goneOne, retV, resAll, Res.ev, tupOf, byVals, byValsN, bv_d, bv_da, bv_fl, bv_tl, bn_d, bn_da, bn_fl, bn_tl, cx, Dn.newObj, St.place, St.push, St.spot, St.empty, cell_d, cell_da, cell_agg, cell_ref, cell_sl, cell_fl, cell_tl, cell_map, cell_fn, cell_ifc, loadAt, faddrV, partOf, extractV, mkAgg, ofD, splice, St.setObj, fillV]
    obtain ⟨d1, d2, ⟨z, dz⟩, d4, d5⟩ := happ2.lv.dv σ2
    rw [dz] at d1 d2
    refine use_val (ds := [.d z, .d b]) (by simp [byVals, d1, bv_d]) (s_Rounds d2 lvb (fun m hm => by
      rcases List.mem_append.1 hm with h | h
      · exact hokA m h
      · simp at h; subst h; exact askM_ok) hokB smb (by simp; omega) (by omega)) ?_
    have hnb : [w2, V.d b].any V.borrows = false := by
      have hbb : V.borrows (.d b) = false := rfl
      simp only [List.any_cons, happ2.lv.borrows, hbb, List.any_nil, Bool.or_false]
    intro v s hv
    rcases rounds_ask hr with h | h
    · rw [h] at hv
      simp only [RoundsQ] at hv
      subst hv
      refine ⟨rfl, (fun h => by rw [hnb] at h; cases h), ?_⟩
      simp -implicitDefEqProofs [body_eq, w_skip, w_ops, w_seq, w_cond, w_block, w_exit, w_ret, q_then_n, q_then_e, q_then_r, q_blk_n, q_blk_e, q_blk_r, q_ops, q_cont, q_end_n, q_end_r, q_end_e, q_loop_n, q_loop_e, q_loop_r, i_nil, i_p, i_alloc, i_box, i_store, i_copy, i_clear, i_call, i_callv, i_when, t_nil, t_p, t_call, t_alloc, t_box, t_store, kept_nil, t_copy, t_clear, q_tcont, gsel, List.cons_append, List.nil_append, evalP, evalE, Opd.ev, Env.get, Env.set, Env.pick, putE, initEnv, evalBin, intBin, evalUn, evalConv, goneAll, goneOne, retV, resAll, Res.ev, tupOf, byVals, byValsN, bv_d, bv_da, bv_fl, bv_tl, bn_d, bn_da, bn_fl, bn_tl, cx, Dn.newObj, St.place, St.push, St.spot, St.empty, cell_d, cell_da, cell_agg, cell_ref, cell_sl, cell_fl, cell_tl, cell_map, cell_fn, cell_ifc, loadAt, faddrV, partOf, extractV, mkAgg, ofD, splice, St.setObj, fillV, c3_k2, c3_k1, eqV, V.isNil, Opd.isC, lenT, lenV]
    · rw [h] at hv
      obtain ⟨o2, rfl, lvo2⟩ := hv
      have l1 := lvo.len σ2
      have l2 := lvo2.len σ2
      refine ⟨rfl, (fun h => by rw [hnb] at h; cases h), ?_⟩
      simp -implicitDefEqProofs [body_eq, w_skip, w_ops, w_seq, w_cond, w_block, w_exit, w_ret, q_then_n, q_then_e, q_then_r, q_blk_n, q_blk_e, q_blk_r, q_ops, q_cont, q_end_n, q_end_r, q_end_e, q_loop_n, q_loop_e, q_loop_r, i_nil, i_p, i_alloc, i_box, i_store, i_copy, i_clear, i_call, i_callv, i_when, t_nil, t_p, t_call, t_alloc, t_box, t_store, kept_nil, t_copy, t_clear, q_tcont, gsel, List.cons_append, List.nil_append, evalP, evalE, Opd.ev, Env.get, Env.set, Env.pick, putE, initEnv, evalBin, intBin, evalUn, evalConv, goneAll, goneOne, retV, resAll, Res.ev, tupOf, byVals, byValsN, bv_d, bv_da, bv_fl, bv_tl, bn_d, bn_da, bn_fl, bn_tl, cx, Dn.newObj, St.place, St.push, St.spot, St.empty, cell_d, cell_da, cell_agg, cell_ref, cell_sl, cell_fl, cell_tl, cell_map, cell_fn, cell_ifc, loadAt, faddrV, partOf, extractV, mkAgg, ofD, splice, St.setObj, fillV, c3_k2, c3_k1, eqV, V.isNil, Opd.isC, c3_k0, l1, l2]

end Go.Proofs.Ytjkedjjahjlmfaa.T

namespace Go.Proofs.Ytjkedjjahjlmfaa.T
open Go.Dn
set_option linter.unusedSimpArgs false
set_option linter.unusedVariables false

def byteK32 : List Lk := List.replicate 32 (.int .u8)
def inK : List Lk := byteK32 ++ [.int .i64, .str, .int .u64]
def outK : List Lk := [.int .i64, .int .u64]
def msgK : List Lk := [.int .i64, .int .u64, .int .i64, .int .i64, .list [.int .u8], .bool, .list [.int .u32], .list byteK32, .list inK, .list outK, .bool]

theorem lk_list {ls : List Lk} {d : D} (h : (Lk.list ls).fits d) : ∃ rows, LV (.d d) rows ∧ ∀ r ∈ rows, Lks ls r := by
  simp only [Lk.fits] at h
  rcases h with rfl | ⟨rows, rfl, _, h⟩
  · exact ⟨[], .nil, by simp⟩
  · exact ⟨rows, .list _, h⟩

theorem inK_str {r : List D} (h : Lks inK r) : ∃ s : List UInt8, r[33]? = some (.str s) := by
  have hl := h.length
  simp only [inK, byteK32, List.replicate, List.cons_append, List.nil_append, Lks] at h
  obtain ⟨_, _, rfl, _, _, _, rfl, _, _, _, rfl, _, _, _, rfl, _, _, _, rfl, _, _, _, rfl, _, _, _, rfl, _, _, _, rfl, _, h⟩ := h
  obtain ⟨_, _, rfl, _, _, _, rfl, _, _, _, rfl, _, _, _, rfl, _, _, _, rfl, _, _, _, rfl, _, _, _, rfl, _, _, _, rfl, _, h⟩ := h
  obtain ⟨_, _, rfl, _, _, _, rfl, _, _, _, rfl, _, _, _, rfl, _, _, _, rfl, _, _, _, rfl, _, _, _, rfl, _, _, _, rfl, _, h⟩ := h
  obtain ⟨_, _, rfl, _, _, _, rfl, _, _, _, rfl, _, _, _, rfl, _, _, _, rfl, _, _, _, rfl, _, _, _, rfl, _, _, _, rfl, _, h⟩ := h
  obtain ⟨_, _, rfl, _, _, _, rfl, hs, _⟩ := h
  simp only [Lk.fits] at hs
  obtain ⟨s, rfl, _⟩ := hs
  exact ⟨s, rfl⟩

theorem msg_of {r : List D} (h : Lks msgK r) : ∃ m : MG, r = m.row ∧ MsgOk m := by
  simp only [msgK, Lks] at h
  obtain ⟨_, _, rfl, h1, _, _, rfl, h2, _, _, rfl, h3, _, _, rfl, h4, d5, _, rfl, h5, _, _, rfl, h6, d7, _, rfl, h7, d8, _, rfl, h8, d9, _, rfl, h9, d10, _, rfl, h10, _, _, rfl, h11, rfl⟩ := h
  obtain ⟨r5, l5, f5⟩ := lk_list h5
  obtain ⟨r7, l7, f7⟩ := lk_list h7
  obtain ⟨r8, l8, f8⟩ := lk_list h8
  obtain ⟨r9, l9, f9⟩ := lk_list h9
  obtain ⟨r10, l10, f10⟩ := lk_list h10
  simp only [Lk.fits] at h1 h2 h3 h4 h6 h11
  obtain ⟨n1, rfl, _⟩ := h1
  obtain ⟨n2, rfl, _⟩ := h2
  obtain ⟨n3, rfl, _⟩ := h3
  obtain ⟨n4, rfl, _⟩ := h4
  obtain ⟨b6, rfl⟩ := h6
  obtain ⟨b11, rfl⟩ := h11
  exact ⟨⟨n1, n2, n3, n4, d5, b6, d7, d8, d9, d10, b11⟩, rfl, r5, r7, r8, r9, r10, ⟨l5, l7, l8, ⟨l9, l10, fun r hr => (f9 r hr).length, fun r hr => (f10 r hr).length⟩, fun r hr => (f5 r hr).length, fun r hr => (f7 r hr).length, fun r hr => (f8 r hr).length⟩, fun r hr => inK_str (f9 r hr)⟩

theorem msgs_of : ∀ {rows : List (List D)}, (∀ r ∈ rows, Lks msgK r) → ∃ l : List MG, rows = msgRows l ∧ ∀ m ∈ l, MsgOk m
  | [], _ => ⟨[], rfl, by simp⟩
  | r :: rows, h => by
    obtain ⟨m, rfl, hm⟩ := msg_of (h r (by simp))
    obtain ⟨l, rfl, hl⟩ := msgs_of (rows := rows) fun r hr => h r (by simp [hr])
    exact ⟨m :: l, rfl, fun x hx => by
      simp at hx
      rcases hx with rfl | hx
      · exact hm
      · exact hl x hx⟩

theorem law3 {x y : D} (hx : (Lk.list msgK).fits x) (hy : (Lk.list msgK).fits y) : Dn.Call Γ cx .val 3 [.d x, .d y] St.empty fun v _ => v = .d (.bool true) := by
  obtain ⟨rx, lx, fx⟩ := lk_list hx
  obtain ⟨ry, ly, fy⟩ := lk_list hy
  obtain ⟨a, rfl, ha⟩ := msgs_of fx
  obtain ⟨b, rfl, hb⟩ := msgs_of fy
  exact s3_of s_alive31 lx ly ha hb

end Go.Proofs.Ytjkedjjahjlmfaa.T
