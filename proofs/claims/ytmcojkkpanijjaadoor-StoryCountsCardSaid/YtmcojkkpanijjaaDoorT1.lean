import Derived.Test.YtmcojkkpanijjaaDoorQ6
namespace Go.Proofs.YtmcojkkpanijjaaDoor.T
open Go.Dn
attribute [local simp] body_eq globEnv GB List.map_nil List.map_cons List.append_nil w_rangeF i_next i_makeMap i_range i_update i_delete q_rndA q_rndB_n q_rndB_e q_rndB_r setAll w_skip w_ops w_seq w_cond w_block w_exit w_ret q_then_n q_then_e q_then_r q_blk_n q_blk_e q_blk_r q_ops q_cont q_end_n q_end_r q_end_e q_loop_n q_loop_e q_loop_r i_nil i_p i_alloc i_box i_store i_copy i_clear i_call i_callv i_when t_nil t_p t_call t_alloc t_box t_store kept_nil t_copy t_clear q_tcont gsel List.cons_append List.nil_append evalP evalE evalF evalB isObj thaw Opd.ev Env.get Env.set Env.pick putE initEnv evalBin intBin evalUn evalConv goneAll goneOne retV resAll Res.ev tupOf byVals byValsN bv_d bv_da bv_fl bv_tl bn_d bn_da bn_fl bn_tl cx Dn.newObj St.place St.push St.spot St.empty cell_d cell_da cell_agg cell_ref cell_sl cell_fl cell_tl cell_map cell_fn cell_ifc loadAt faddrV partOf extractV mkAgg ofD splice St.setObj fillV
set_option linter.unusedSimpArgs false
set_option linter.unusedVariables false

/-! ### sums -/
def goodV (n : Int) : Bool := decide (0 ≤ n ∧ n ≤ 2100000000000000)
def totS (acc : Int) : List Int → Option Int
  | [] => some acc
  | n :: r => if goodV n && goodV (acc + n) then totS (acc + n) r else none
def iRows (l : List Int) : List (List D) := l.map fun n => [.int .i64 n]
theorem iRows_len (l : List Int) : (iRows l).length = l.length := by simp [iRows]
theorem iRows_fit (l : List Int) : ∀ r ∈ iRows l, r.length = 1 := by
  intro r hr
  simp only [iRows, List.mem_map] at hr
  obtain ⟨n, _, rfl⟩ := hr
  rfl

theorem s_good (n : Int) : Dn.Call Γ cx .val 89 [I n] St.empty fun v _ => v = B (goodV n) := by
  refine Dn.Call.body (fc := c89) rfl ?_
  unfold goodV
  by_cases h0 : 0 ≤ n
  · simp -implicitDefEqProofs [c89, c89_k0, h0]
  · simp -implicitDefEqProofs [c89, c89_k0, h0]
theorem s_rgood (n : Int) : Dn.Call Γ cx .val 77 [I n] St.empty fun v _ => v = B (goodV n) := by
  refine Dn.Call.body (fc := c77) rfl ?_
  unfold goodV
  by_cases h0 : 0 ≤ n
  · simp -implicitDefEqProofs [c77, c77_k0, h0]
  · simp -implicitDefEqProofs [c77, c77_k0, h0]

def totV : Option Int → V
  | some s => .tup [I s, .d .nili]
  | none => .tup [I 0, .d (.iface 50 (.int .i64 9))]
def totR : Option Int → V
  | some s => .tup [I s, I 0]
  | none => .tup [I 0, I 9]

def InvTot (x : D) (l : List Int) (m : Nat) (e : Env) (σ : St) : Prop := ∃ (i : Nat) (acc : Int) (a : V), e = [(4, I acc), (7, .d x), (8, I l.length), (9, I i), (21, a)] ∧ i ≤ l.length ∧ m = l.length - i ∧ 0 ≤ acc ∧ acc ≤ 2100000000000000 ∧ totS 0 l = totS acc (l.drop i) ∧ σ = St.empty

theorem s_total {x : D} {l : List Int} (hx : LV (.d x) (iRows l)) (hl : l.length ≤ 1000000) : Dn.Call Γ cx .val 82 [.d x] St.empty fun v _ => v = totV (totS 0 l) := by
  refine Dn.Call.body (fc := c82) rfl ?_
  have hlx : ∀ σ, lenT σ .slice (.d x) = some l.length := fun σ => by rw [hx.len, iRows_len]
  simp -implicitDefEqProofs [c82, c82_k10, c82_k9, c82_k8, hlx]
  refine wloopI (InvTot x l) (m := l.length) ⟨0, 0, _, rfl, by omega, rfl, by omega, by omega, rfl, rfl⟩ ?_
  rintro m e σ ⟨i, acc, a, rfl, hi, rfl, h0, h1, ht, rfl⟩
  simp -implicitDefEqProofs [c82_l7, c82_k6]
  by_cases hil : i < l.length
  · obtain ⟨n, hn⟩ : ∃ n, l[i]? = some n := ⟨l[i], by simp [hil]⟩
    have hia := fun σ => hx.iaddr σ (k := .i64) (sz := 1) (show (iRows l)[i]? = some [.int .i64 n] by simp [iRows, hn]) rfl
    have hii : (i : Int) < l.length := by omega
    have hd : l.drop i = n :: l.drop (i + 1) := by
      obtain ⟨h, rfl⟩ := List.getElem?_eq_some_iff.1 hn
      exact List.drop_eq_getElem_cons h
    rw [hd] at ht
    simp -implicitDefEqProofs [hii, hil, c82_k5, c82_k4, c82_k3, c82_k2, hia]
    refine use_fn rfl (s_good n) rfl ?_
    by_cases hg : goodV n = true
    · have hn0 : 0 ≤ n ∧ n ≤ 2100000000000000 := by simpa [goodV] using hg
      have ew : IntKind.i64.wrap (acc + n) = acc + n := wrap_i64 (by omega) (by omega)
      simp -implicitDefEqProofs [hg, ew]
      refine use_fn rfl (s_good (acc + n)) rfl ?_
      by_cases hg2 : goodV (acc + n) = true
      · have hn1 : 0 ≤ acc + n ∧ acc + n ≤ 2100000000000000 := by simpa [goodV] using hg2
        simp only [totS, hg, hg2, Bool.and_self, if_true] at ht
        simp -implicitDefEqProofs [hg2, c82_k1, ew, wrap_i64 (n := (i : Int) + 1) (by omega) (by omega)]
        exact ⟨l.length - (i + 1), by omega, i + 1, acc + n, _, rfl, by omega, rfl, hn1.1, hn1.2, ht, rfl⟩
      · simp only [totS, hg, hg2, Bool.true_and, Bool.false_eq_true, if_false] at ht
        simp -implicitDefEqProofs [hg2, ht, totV, mkifV]
    · simp only [totS, hg, Bool.false_and, Bool.false_eq_true, if_false] at ht
      simp -implicitDefEqProofs [hg, ht, totV, mkifV]
  · obtain rfl : i = l.length := by omega
    simp [totS] at ht
    simp -implicitDefEqProofs [c82_k0, ht, totV]
end Go.Proofs.YtmcojkkpanijjaaDoor.T
