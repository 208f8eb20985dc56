import Derived.Test.YtmcojkkpanijjaaDoorT1
namespace Go.Proofs.YtmcojkkpanijjaaDoor.T
open Go.Dn
attribute [local simp] body_eq globEnv GB List.map_nil List.map_cons List.append_nil w_rangeF i_next i_makeMap i_range i_update i_delete q_rndA q_rndB_n q_rndB_e q_rndB_r setAll w_skip w_ops w_seq w_cond w_block w_exit w_ret q_then_n q_then_e q_then_r q_blk_n q_blk_e q_blk_r q_ops q_cont q_end_n q_end_r q_end_e q_loop_n q_loop_e q_loop_r i_nil i_p i_alloc i_box i_store i_copy i_clear i_call i_callv i_when t_nil t_p t_call t_alloc t_box t_store kept_nil t_copy t_clear q_tcont gsel List.cons_append List.nil_append evalP evalE evalF evalB isObj thaw Opd.ev Env.get Env.set Env.pick putE initEnv evalBin intBin evalUn evalConv goneAll goneOne retV resAll Res.ev tupOf byVals byValsN bv_d bv_da bv_fl bv_tl bn_d bn_da bn_fl bn_tl cx Dn.newObj St.place St.push St.spot St.empty cell_d cell_da cell_agg cell_ref cell_sl cell_fl cell_tl cell_map cell_fn cell_ifc loadAt faddrV partOf extractV mkAgg ofD splice St.setObj fillV
set_option linter.unusedSimpArgs false
set_option linter.unusedVariables false

def InvRTot (x : D) (l : List Int) (m : Nat) (e : Env) (σ : St) : Prop := ∃ (i : Nat) (acc : Int), e = [(0, .d x), (4, I acc), (5, I i)] ∧ i ≤ l.length ∧ m = l.length - i ∧ 0 ≤ acc ∧ acc ≤ 2100000000000000 ∧ totS 0 l = totS acc (l.drop i) ∧ σ = St.empty

theorem s_rtotal {x : D} {l : List Int} (hx : LV (.d x) (iRows l)) (hl : l.length ≤ 1000000) : Dn.Call Γ cx .val 56 [.d x] St.empty fun v _ => v = totR (totS 0 l) := by
  refine Dn.Call.body (fc := c56) rfl ?_
  have hlx : ∀ σ, lenT σ .slice (.d x) = some l.length := fun σ => by rw [hx.len, iRows_len]
  simp -implicitDefEqProofs [c56, c56_k12, c56_k11, c56_k10]
  refine wloopI (InvRTot x l) (m := l.length) ⟨0, 0, rfl, by omega, rfl, by omega, by omega, rfl, rfl⟩ ?_
  rintro m e σ ⟨i, acc, rfl, hi, rfl, h0, h1, ht, rfl⟩
  have hlx' : lenT ⟨[], []⟩ .slice (.d x) = some l.length := hlx _
  simp -implicitDefEqProofs [c56_l9, c56_k8, hlx']
  by_cases hil : i < l.length
  · obtain ⟨n, hn⟩ : ∃ n, l[i]? = some n := ⟨l[i], by simp [hil]⟩
    have hia := fun σ => hx.iaddr σ (k := .i64) (sz := 1) (show (iRows l)[i]? = some [.int .i64 n] by simp [iRows, hn]) rfl
    have hii : (i : Int) < l.length := by omega
    have hd : l.drop i = n :: l.drop (i + 1) := by
      obtain ⟨h, rfl⟩ := List.getElem?_eq_some_iff.1 hn
      exact List.drop_eq_getElem_cons h
    rw [hd] at ht
    simp -implicitDefEqProofs [hii, hil, c56_k7, c56_k6, c56_k5, hia]
    refine use_fn rfl (s_rgood n) rfl ?_
    by_cases hg : goodV n = true
    · have hn0 : 0 ≤ n ∧ n ≤ 2100000000000000 := by simpa [goodV] using hg
      have ew : IntKind.i64.wrap (acc + n) = acc + n := wrap_i64 (by omega) (by omega)
      simp -implicitDefEqProofs [hg, ew, c56_k4, hia, c56_k3]
      refine use_fn rfl (s_rgood (acc + n)) rfl ?_
      by_cases hg2 : goodV (acc + n) = true
      · have hn1 : 0 ≤ acc + n ∧ acc + n ≤ 2100000000000000 := by simpa [goodV] using hg2
        simp only [totS, hg, hg2, Bool.and_self, if_true] at ht
        simp -implicitDefEqProofs [hg2, c56_k2, c56_k1, wrap_i64 (n := (i : Int) + 1) (by omega) (by omega)]
        exact ⟨l.length - (i + 1), by omega, i + 1, acc + n, rfl, by omega, rfl, hn1.1, hn1.2, ht, rfl⟩
      · simp only [totS, hg, hg2, Bool.true_and, Bool.false_eq_true, if_false] at ht
        simp -implicitDefEqProofs [hg2, ht, totR, c56_k2]
    · simp only [totS, hg, Bool.false_and, Bool.false_eq_true, if_false] at ht
      simp -implicitDefEqProofs [hg, ht, totR]
  · obtain rfl : i = l.length := by omega
    simp [totS] at ht
    simp -implicitDefEqProofs [c56_k0, ht, totR]

def vals (outs : List CoG) : List Int := outs.map (·.value)
theorem vals_take (outs : List CoG) {i : Nat} {c : CoG} (h : outs[i]? = some c) : iRows (vals (outs.take (i + 1))) = iRows (vals (outs.take i)) ++ [[.int .i64 c.value]] := by
  obtain ⟨hi, rfl⟩ := List.getElem?_eq_some_iff.1 h
  rw [← List.take_append_getElem hi]
  simp only [vals, iRows, List.map_append, List.map_cons, List.map_nil]

def InvOut2 (o : D) (outs : List CoG) (m : Nat) (e : Env) (σ : St) : Prop := ∃ (i : Nat) (v : V), e = [(4, v), (8, .d o), (9, I outs.length), (10, I i)] ∧ i ≤ outs.length ∧ m = outs.length - i ∧ App σ 1 v (iRows (vals (outs.take i)))

theorem s_out {i o : D} {f : Bool} {outs : List CoG} (ho : LV (.d o) (coRows outs)) (hlo : outs.length ≤ 1000) : Dn.Call Γ cx .val 66 [.da [i, o, .bool f]] St.empty fun v _ => v = totV (totS 0 (vals outs)) := by
  refine Dn.Call.body (fc := c66) rfl ?_
  have hol : ∀ σ, lenT σ .slice (.d o) = some outs.length := fun σ => by rw [ho.len]; simp [coRows]
  simp -implicitDefEqProofs [c66, c66_k7, c66_k6, c66_k5, hol]
  refine wloopI (InvOut2 o outs) (m := outs.length) ⟨0, _, rfl, by omega, rfl, .nil⟩ ?_
  rintro m e σ ⟨j, v, rfl, hj, rfl, hv⟩
  simp -implicitDefEqProofs [c66_l4, c66_k3]
  by_cases hjo : j < outs.length
  · obtain ⟨c, hc⟩ : ∃ c, outs[j]? = some c := ⟨outs[j], by simp [hjo]⟩
    have hia := fun σ => ho.iaddr σ (k := .i64) (sz := 2) (show (coRows outs)[j]? = some c.row by simp [coRows, hc]) rfl
    have hjj : (j : Int) < outs.length := by omega
    have hvt := vals_take outs hc
    simp -implicitDefEqProofs [hjj, hjo, c66_k2, hia, CoG.row, c66_k1, repl, rowsOf, frzV]
    obtain ⟨v2, σ2, ap2, h2, o2, -, -⟩ := App.push (σ := ⟨σ.objs ++ [.cells [V.d (.int .i64 c.value), V.d (.int .u64 c.lock)]], σ.toks⟩) (sz := 1) (bytes := 8) (v := v) (hv.toks rfl) (by decide) (iRows_fit _) (ys := [[.int .i64 c.value]]) (by simp) (by rw [iRows_len]; simp [vals]; omega) (by rw [iRows_len]; simp [vals]; omega)
    rw [← hvt] at h2
    refine i_app_f (v := v2) (s := σ2) ?_ ?_
    · simp -implicitDefEqProofs [V.rows]
      exact ap2 none
    simp -implicitDefEqProofs [wrap_i64 (n := (j : Int) + 1) (by omega) (by omega)]
    exact ⟨outs.length - (j + 1), by omega, j + 1, v2, rfl, by omega, rfl, h2⟩
  · obtain rfl : j = outs.length := by omega
    rw [List.take_length] at hv
    obtain ⟨d1, d2, ⟨y, dx⟩, d4, d5⟩ := hv.lv.dv σ
    rw [dx] at d1 d2
    simp -implicitDefEqProofs [c66_k0]
    refine use_fn (ds := [.d y]) (by simp only [byVals, d1]) (s_total d2 (by simp [vals]; omega)) (by
      have hb := hv.lv.borrows
      cases totS 0 (vals outs) <;> simp [totV, V.pure, V.flatv, hb]) ?_
    cases totS 0 (vals outs) <;> simp -implicitDefEqProofs [totV, V.byVal]

def InvROut (i o : D) (f : Bool) (outs : List CoG) (m : Nat) (e : Env) (σ : St) : Prop := ∃ (j : Nat) (v : V), e = [(1, .ref 0 0), (4, v), (5, I j)] ∧ j ≤ outs.length ∧ m = outs.length - j ∧ σ.objs[0]? = some (.cells [.d i, .d o, .d (.bool f)]) ∧ App σ 1 v (iRows (vals (outs.take j)))

theorem s_rout {i o : D} {f : Bool} {outs : List CoG} (ho : LV (.d o) (coRows outs)) (hlo : outs.length ≤ 1000) : Dn.Call Γ cx .val 37 [.da [i, o, .bool f]] St.empty fun v _ => v = totR (totS 0 (vals outs)) := by
  refine Dn.Call.body (fc := c37) rfl ?_
  have hol : ∀ σ, lenT σ .slice (.d o) = some outs.length := fun σ => by rw [ho.len]; simp [coRows]
  simp -implicitDefEqProofs [c37, c37_k7, c37_k6, c37_k5, hol]
  refine wloopI (InvROut i o f outs) (m := outs.length) ⟨0, _, rfl, by omega, rfl, rfl, .nil⟩ ?_
  rintro m e σ ⟨j, v, rfl, hj, rfl, g, hv⟩
  simp -implicitDefEqProofs [c37_l4, c37_k3, g, hol]
  by_cases hjo : j < outs.length
  · obtain ⟨c, hc⟩ : ∃ c, outs[j]? = some c := ⟨outs[j], by simp [hjo]⟩
    have hia := fun σ => ho.iaddr σ (k := .i64) (sz := 2) (show (coRows outs)[j]? = some c.row by simp [coRows, hc]) rfl
    have hjj : (j : Int) < outs.length := by omega
    have hvt := vals_take outs hc
    simp -implicitDefEqProofs [hjj, hjo, c37_k2, g, hia, CoG.row, c37_k1, repl, rowsOf, frzV]
    obtain ⟨v2, σ2, ap2, h2, o2, -, -⟩ := hv.push (bytes := 8) (by decide) (iRows_fit _) (ys := [[.int .i64 c.value]]) (by simp) (by rw [iRows_len]; simp [vals]; omega) (by rw [iRows_len]; simp [vals]; omega)
    rw [← hvt] at h2
    refine i_app_f (v := v2) (s := σ2) ?_ ?_
    · simp -implicitDefEqProofs [V.rows]
      exact ap2 none
    simp -implicitDefEqProofs [wrap_i64 (n := (j : Int) + 1) (by omega) (by omega)]
    exact ⟨outs.length - (j + 1), by omega, j + 1, v2, rfl, by omega, rfl, by rw [o2]; exact g, h2⟩
  · obtain rfl : j = outs.length := by omega
    rw [List.take_length] at hv
    obtain ⟨d1, d2, ⟨y, dx⟩, d4, d5⟩ := hv.lv.dv σ
    rw [dx] at d1 d2
    simp -implicitDefEqProofs [c37_k0]
    refine use_fn (ds := [.d y]) (by simp only [byVals, d1]) (s_rtotal d2 (by simp [vals]; omega)) (by
      have hb := hv.lv.borrows
      cases totS 0 (vals outs) <;> simp [totR, V.pure, V.flatv, hb]) ?_
    cases totS 0 (vals outs) <;> simp -implicitDefEqProofs [totR, V.byVal]


/-! ### slices.ContainsFunc over spends -/
def InvIF (x : D) (fv : V) (rows : List (List D)) (p : List D → Bool) (J : St → Prop) (m : Nat) (e : Env) (σ : St) : Prop := ∃ i : Nat, e = [(0, .d x), (1, fv), (7, I rows.length), (8, I i)] ∧ i ≤ rows.length ∧ m = rows.length - i ∧ J σ ∧ ∀ r ∈ rows.take i, p r = false

theorem s_IndexFunc {σ : St} {x : D} {rows : List (List D)} (hx : LV (.d x) rows) (hfit : ∀ r ∈ rows, r.length = 35) (hl : rows.length ≤ 1000000) {g : Nat} {first caps : List V} (p : List D → Bool) (J : St → Prop) (hJ : J σ)
    (hf : ∀ s r, J s → r ∈ rows → Dn.Call Γ cx .raw g (first ++ [.da r] ++ caps) s fun v s' => v = B (p r) ∧ J s') :
    Dn.Call Γ cx .raw 88 [.d x, .fn (.func g) first caps] σ fun v s => ∃ n : Int, v = I n ∧ (decide (0 ≤ n) = rows.any p) ∧ J s := by
  refine Dn.Call.body (fc := c88) rfl ?_
  have hlx : ∀ σ, lenT σ .slice (.d x) = some rows.length := fun σ => hx.len σ
  simp -implicitDefEqProofs [c88, c88_k7, c88_k6, hlx]
  refine wloopI (InvIF x (.fn (.func g) first caps) rows p J) (m := rows.length) ⟨0, rfl, by omega, rfl, hJ, by simp⟩ ?_
  rintro m e σ ⟨i, rfl, hi, rfl, hJ, hno⟩
  simp -implicitDefEqProofs [c88_l5, c88_k4]
  by_cases hil : i < rows.length
  · obtain ⟨r, hr⟩ : ∃ r, rows[i]? = some r := ⟨rows[i], by simp [hil]⟩
    have hrm := List.mem_of_getElem? hr
    have hr35 := hfit r hrm
    have hia := fun σ => hx.iaddr σ (k := .i64) (sz := 35) hr hr35
    have hii : (i : Int) < rows.length := by omega
    have htk : rows.take (i + 1) = rows.take i ++ [r] := by
      obtain ⟨h, rfl⟩ := List.getElem?_eq_some_iff.1 hr
      exact (List.take_append_getElem h).symm
    simp -implicitDefEqProofs [hii, hil, c88_k3, c88_k2, c88_k1, hia, hr35, List.take_of_length_le]
    have hf1 := hf σ r hJ hrm
    simp at hf1
    refine use_raw hf1 fun v s ⟨hv, hJ'⟩ => ?_
    subst hv
    cases hp : p r with
    | true =>
      simp -implicitDefEqProofs [c88_k0]
      exact ⟨⟨r, hrm, hp⟩, hJ'⟩
    | false =>
      simp -implicitDefEqProofs [c88_k0, wrap_i64 (n := (i : Int) + 1) (by omega) (by omega)]
      refine ⟨rows.length - (i + 1), by omega, i + 1, rfl, by omega, rfl, hJ', fun q hq => ?_⟩
      rw [htk] at hq
      rcases List.mem_append.1 hq with h | h
      · exact hno q h
      · simp at h; subst h; exact hp
  · obtain rfl : i = rows.length := by omega
    rw [List.take_length] at hno
    simp -implicitDefEqProofs
    exact ⟨hno, hJ⟩

theorem s_ContainsFunc {σ : St} {x : D} {rows : List (List D)} (hx : LV (.d x) rows) (hfit : ∀ r ∈ rows, r.length = 35) (hl : rows.length ≤ 1000000) {g : Nat} {first caps : List V} (p : List D → Bool) (J : St → Prop) (hJ : J σ)
    (hf : ∀ s r, J s → r ∈ rows → Dn.Call Γ cx .raw g (first ++ [.da r] ++ caps) s fun v s' => v = B (p r) ∧ J s') :
    Dn.Call Γ cx .raw 80 [.d x, .fn (.func g) first caps] σ fun v s => v = B (rows.any p) ∧ J s := by
  refine Dn.Call.body (fc := c80) rfl ?_
  simp -implicitDefEqProofs [c80, c80_k0]
  refine use_raw (s_IndexFunc hx hfit hl p J hJ hf) fun v s ⟨n, hv, hn, hJ'⟩ => ?_
  subst hv
  simp -implicitDefEqProofs [hn]
  exact hJ'

/-! ### shaped -/
def badSp (s : SpG) : Bool := decide (32 < s.key.length) || decide (s.n < 0) || decide (8 ≤ s.n)

theorem s_shaped1 {σ : St} {s : SpG} (h : s.Ok) : Dn.Call Γ cx .raw 81 [.da s.row] σ fun v σ' => v = B (badSp s) ∧ ∃ o, σ' = ⟨σ.objs ++ [o], σ.toks⟩ := by
  refine Dn.Call.body (fc := c81) rfl ?_
  obtain ⟨a32, a33, a34⟩ := sp_at h
  have b32 : (List.map V.d s.row)[32]? = some (.d (.int .i64 s.n)) := by simp [a32]
  have b33 : (List.map V.d s.row)[33]? = some (.d (.str s.key)) := by simp [a33]
  unfold badSp
  by_cases h1 : 32 < s.key.length
  · have h1' : (32 : Int) < s.key.length := by omega
    simp -implicitDefEqProofs [c81, c81_k0, b33, lenT, h1', h1]
  · have h1' : ¬ (32 : Int) < s.key.length := by omega
    by_cases h2 : s.n < 0
    · simp -implicitDefEqProofs [c81, c81_k0, b33, b32, lenT, h1', h1, h2]
    · simp -implicitDefEqProofs [c81, c81_k0, b33, b32, lenT, h1', h1, h2]


def badR (r : List D) : Bool := match (r[32]? : Option D), (r[33]? : Option D) with
  | some (D.int _ n), some (D.str k) => decide (32 < k.length) || decide (n < 0) || decide (8 ≤ n)
  | _, _ => false
theorem badR_sp {s : SpG} (h : s.Ok) : badR s.row = badSp s := by
  obtain ⟨a32, a33, -⟩ := sp_at h
  simp only [badR, a32, a33, badSp]
theorem spRows_fit {l : List SpG} (h : ∀ s ∈ l, s.Ok) : ∀ r ∈ spRows l, r.length = 35 := by
  intro r hr
  simp only [spRows, List.mem_map] at hr
  obtain ⟨s, hs, rfl⟩ := hr
  exact sp_row_len (h s hs)
theorem any_rows {p : List D → Bool} {q : SpG → Bool} : ∀ {l : List SpG}, (∀ s ∈ l, p s.row = q s) → (spRows l).any p = l.any q
  | [], _ => rfl
  | s :: r, h => by
    have := any_rows (l := r) fun x hx => h x (by simp [hx])
    simp only [spRows, List.map_cons, List.any_cons] at this ⊢
    rw [this, h s (by simp)]

def shapedS (ins : List SpG) (outs : List CoG) : Bool := decide (1 ≤ ins.length ∧ ins.length ≤ 8 ∧ 1 ≤ outs.length ∧ outs.length ≤ 8) && !ins.any badSp

theorem s_shaped {i o : D} {f : Bool} {ins : List SpG} {outs : List CoG} (hi : LV (.d i) (spRows ins)) (ho : LV (.d o) (coRows outs)) (hoi : ∀ s ∈ ins, s.Ok) : Dn.Call Γ cx .val 65 [.da [i, o, .bool f]] St.empty fun v _ => v = B (shapedS ins outs) := by
  refine Dn.Call.body (fc := c65) rfl ?_
  have hil : ∀ σ, lenT σ .slice (.d i) = some ins.length := fun σ => by rw [hi.len]; simp [spRows]
  have hol : ∀ σ, lenT σ .slice (.d o) = some outs.length := fun σ => by rw [ho.len]; simp [coRows]
  have hno : ¬ (1 ≤ ins.length ∧ ins.length ≤ 8 ∧ 1 ≤ outs.length ∧ outs.length ≤ 8) → shapedS ins outs = false := fun h => by simp only [shapedS, h, decide_false, Bool.false_and]
  simp -implicitDefEqProofs [c65, c65_k2, hil, hol]
  by_cases h1 : (ins.length : Int) < 1
  · rw [hno (by omega)]
    simp -implicitDefEqProofs [h1, c65_k1]
  have h1' : (1 : Int) ≤ ins.length := by omega
  by_cases h2 : (8 : Int) < ins.length
  · rw [hno (by omega)]
    simp -implicitDefEqProofs [h1, h1', h2, c65_k1]
  by_cases h3 : (outs.length : Int) < 1
  · rw [hno (by omega)]
    simp -implicitDefEqProofs [h1, h1', h2, h3, hol, c65_k1]
  by_cases h4 : (8 : Int) < outs.length
  · rw [hno (by omega)]
    simp -implicitDefEqProofs [h1, h1', h2, h3, h4, hol, c65_k1]
  have hyes : shapedS ins outs = !ins.any badSp := by
    have : (1 ≤ ins.length ∧ ins.length ≤ 8 ∧ 1 ≤ outs.length ∧ outs.length ≤ 8) := by omega
    simp only [shapedS, this, and_self, decide_true, Bool.true_and]
  rw [hyes, ← any_rows (p := badR) (q := badSp) fun s hs => badR_sp (hoi s hs)]
  simp -implicitDefEqProofs [h1, h1', h2, h3, h4, hol, c65_k1, c65_k0]
  refine use_raw (s_ContainsFunc hi (spRows_fit hoi) (by simp [spRows]; omega) (first := []) (caps := []) badR (fun _ => True) trivial fun s r _ hr => ?_) fun v s ⟨hv, _⟩ => ?_
  · simp only [spRows, List.mem_map] at hr
    obtain ⟨sp, hs, rfl⟩ := hr
    rw [badR_sp (hoi sp hs)]
    exact (s_shaped1 (hoi sp hs)).mono fun v s' h => ⟨h.1, trivial⟩
  · subst hv
    simp -implicitDefEqProofs


/-! ### twice -/
def fromD (s : SpG) : List D := hd s.tx ++ [.int .i64 s.n]
def fromK (s : SpG) : List UInt8 × Int := (s.tx, s.n)
theorem fromD_iff {a b : SpG} : fromD a = fromD b ↔ fromK a = fromK b := by
  constructor
  · intro h
    have h1 := congrArg List.reverse h
    simp only [fromD, List.reverse_append, List.reverse_cons, List.reverse_nil, List.nil_append, List.cons_append, List.cons.injEq, D.int.injEq, true_and, List.reverse_inj] at h1
    have h2 : hashD a.tx = hashD b.tx := h1.2
    simp only [fromK, hashD_inj h2, h1.1]
  · intro h
    simp only [fromK, Prod.mk.injEq] at h
    simp only [fromD, h.1, h.2]
theorem fromD_len {s : SpG} (h : s.Ok) : (fromD s).length = 33 := by simp [fromD, hd_len, h.tx]
theorem row_from {s : SpG} : s.row = fromD s ++ [.str s.key, .int .u64 s.sl] := by simp [SpG.row, fromD]
theorem take33 {s : SpG} (h : s.Ok) : List.take 33 (List.map V.d s.row) = (fromD s).map V.d := by
  rw [row_from, List.map_append, List.take_append_of_le_length (by simp [fromD_len h]), List.take_of_length_le (by simp [fromD_len h])]
theorem take33d {s : SpG} (h : s.Ok) : List.take 33 s.row = fromD s := by
  rw [row_from, List.take_append_of_le_length (by simp [fromD_len h]), List.take_of_length_le (by simp [fromD_len h])]
theorem fits_from {s : SpG} (h : s.Ok) : fitsAll (List.replicate 32 (.int .u8) ++ [.int .i64]) (fromD s) = true := by
  have h1 := fits_hash s.tx
  rw [h.tx] at h1
  refine fitsAll_mk h1 ?_
  have e1 : IntKind.i64.min = -9223372036854775808 := rfl
  have e2 : IntKind.i64.max = 9223372036854775807 := rfl
  have h2 := h.n0
  have h3 := h.n1
  simp [fitsAll, Lf.fits, e1, e2, h2, h3]
theorem eq_from {a b : SpG} (ha : a.Ok) (hb : b.Ok) (x y : Bool) : eqV .flat (List.replicate 32 (.int .u8) ++ [.int .i64]) (.da (fromD a)) (.da (fromD b)) x y = some (decide (fromK a = fromK b)) := by
  simp only [eqV, fits_from ha, fits_from hb, Bool.and_self, if_true]
  congr 1
  by_cases h : fromK a = fromK b
  · have := fromD_iff.2 h
    simp [h, this]
  · have h2 : ¬ fromD a = fromD b := fun e => h (fromD_iff.1 e)
    simp [h, h2]

theorem s_twice1 {σ : St} {a b : SpG} (ha : a.Ok) (hb : b.Ok) {q : Nat} (hq : σ.objs[q]? = some (.cells (List.map V.d b.row))) : Dn.Call Γ cx .raw 83 [.da a.row, .ref q 0] σ fun v σ' => v = B (decide (fromK a = fromK b)) ∧ ∃ o, σ' = ⟨σ.objs ++ [o], σ.toks⟩ := by
  refine Dn.Call.body (fc := c83) rfl ?_
  have hq2 : (σ.objs ++ [Dn.Obj.cells (List.map V.d a.row)])[q]? = some (.cells (List.map V.d b.row)) := by
    rw [List.getElem?_append_left (List.getElem?_eq_some_iff.1 hq).1]; exact hq
  have hla : (List.map V.d a.row).length = 35 := by simp [sp_row_len ha]
  have hlb : (List.map V.d b.row).length = 35 := by simp [sp_row_len hb]
  have ta := take33 ha
  have tb := take33 hb
  generalize hA : List.map V.d a.row = A at *
  generalize hB : List.map V.d b.row = Bv at *
  simp -implicitDefEqProofs [-List.reduceReplicate, c83, c83_k0, hA, hq2, hla, hlb, ta, tb, mkAgg, ofD_map, eq_from ha hb]

def twN (l : List SpG) : Nat → Bool
  | 0 => false
  | i + 1 => twN l i || match l[i]? with
    | some s => (l.take i).any fun o => decide (fromK o = fromK s)
    | none => false
theorem twN_mono (l : List SpG) : ∀ i j, i ≤ j → twN l i = true → twN l j = true
  | i, 0, h, ht => by
    obtain rfl : i = 0 := by omega
    exact ht
  | i, j + 1, h, ht => by
    by_cases e : i = j + 1
    · rw [← e]; exact ht
    · simp only [twN, twN_mono l i j (by omega) ht, Bool.true_or]

open Classical in
noncomputable def pF (s : SpG) (r : List D) : Bool := decide (r.take 33 = fromD s)
theorem pF_row {o s : SpG} (h : o.Ok) : pF s o.row = decide (fromK o = fromK s) := by
  unfold pF
  rw [take33d h]
  by_cases e : fromK o = fromK s
  · have := fromD_iff.2 e
    simp [e, this]
  · have h2 : ¬ fromD o = fromD s := fun x => e (fromD_iff.1 x)
    simp [e, h2]
def InvTwi (i o : D) (f : Bool) (ins : List SpG) (m : Nat) (e : Env) (σ : St) : Prop := ∃ j : Nat, e = [(1, .ref 0 0), (6, .d i), (7, I ins.length), (8, I j)] ∧ j ≤ ins.length ∧ m = ins.length - j ∧ σ.objs[0]? = some (.cells [.d i, .d o, .d (.bool f)]) ∧ twN ins j = false

theorem s_twice {i o : D} {f : Bool} {ins : List SpG} (hi : LV (.d i) (spRows ins)) (hoi : ∀ s ∈ ins, s.Ok) (hli : ins.length ≤ 1000) : Dn.Call Γ cx .val 67 [.da [i, o, .bool f]] St.empty fun v _ => v = B (twN ins ins.length) := by
  refine Dn.Call.body (fc := c67) rfl ?_
  have hil : ∀ σ, lenT σ .slice (.d i) = some ins.length := fun σ => by rw [hi.len]; simp [spRows]
  simp -implicitDefEqProofs [c67, c67_k7, c67_k6, hil]
  refine wloopI (InvTwi i o f ins) (m := ins.length) ⟨0, rfl, by omega, rfl, rfl, rfl⟩ ?_
  rintro m e σ ⟨j, rfl, hj, rfl, g, hno⟩
  simp -implicitDefEqProofs [c67_l5, c67_k4]
  by_cases hji : j < ins.length
  · obtain ⟨s, hs⟩ : ∃ s, ins[j]? = some s := ⟨ins[j], by simp [hji]⟩
    have hok := hoi s (List.mem_of_getElem? hs)
    have hia := fun σ => hi.iaddr σ (k := .i64) (sz := 35) (show (spRows ins)[j]? = some s.row by simp [spRows, hs]) (sp_row_len hok)
    have hjj : (j : Int) < ins.length := by omega
    have s35 : List.take 35 (List.map V.d s.row) = List.map V.d s.row := List.take_of_length_le (by simp [sp_row_len hok])
    have g2 : (σ.objs ++ [Dn.Obj.cells (List.map V.d s.row)])[0]? = some (.cells [.d i, .d o, .d (.bool f)]) := by rw [List.getElem?_append_left (List.getElem?_eq_some_iff.1 g).1]; exact g
    have q2 : (σ.objs ++ [Dn.Obj.cells (List.map V.d s.row)])[σ.objs.length]? = some (.cells (List.map V.d s.row)) := by simp
    obtain ⟨z, hz, hzl, -⟩ := hi.slice σ (spRows_fit hoi) (by rintro r t st s h; cases h) (lo := 0) (hi := j) (by omega) (by simp [spRows]; omega)
    have hzr : ((spRows ins).drop 0).take (j - 0) = spRows (ins.take j) := by simp [spRows]
    rw [hzr] at hzl
    have hzd : ∀ {rows : List (List D)}, LV (.d i) rows → ∃ z', z = .d z' := fun h => by
      cases h with
      | nil => simp [sliceV] at hz; exact ⟨_, hz.2.symm⟩
      | list rows => simp [sliceV] at hz; exact ⟨_, hz.2.symm⟩
    obtain ⟨z', rfl⟩ := hzd hi
    have hlv' : ∀ s, Dn.lenV s (.d i) = some ins.length := fun s => by rw [hi.lenV]; simp [spRows]
    have hsx : ∀ s, sliceX s 35 (.d i) none (some (I j)) none = some (.d z') := fun s => by
      simp [sliceX, hlv', boundV, asIdx, hz, show j ≤ ins.length by omega]
    have htl : ∀ o ∈ ins.take j, o.Ok := fun o ho => hoi o (List.mem_of_mem_take ho)
    simp -implicitDefEqProofs [hjj, hji, c67_k3, c67_k2, hia, sp_row_len hok, s35]
    generalize hq : σ.objs.length = q at *
    obtain ⟨σ2, hσ2⟩ : ∃ σ2 : St, (⟨σ.objs ++ [.cells (List.map V.d s.row)], σ.toks⟩ : St) = σ2 := ⟨_, rfl⟩
    have e2 : σ.objs ++ [Dn.Obj.cells (List.map V.d s.row)] = σ2.objs := by rw [← hσ2]
    rw [e2] at g2 q2
    rw [hσ2]
    simp -implicitDefEqProofs [c67_k1, g2, hsx]
    refine use_raw (s_ContainsFunc hzl (spRows_fit htl) (by simp [spRows]; omega) (first := []) (caps := [.ref q 0]) (pF s) (fun t => t.objs[0]? = some (.cells [.d i, .d o, .d (.bool f)]) ∧ t.objs[q]? = some (.cells (List.map V.d s.row))) ⟨g2, q2⟩ fun t r ht hr => ?_) fun v t ⟨hv, ht⟩ => ?_
    · simp only [spRows, List.mem_map] at hr
      obtain ⟨sp, hsp, rfl⟩ := hr
      refine (s_twice1 (htl sp hsp) hok ht.2).mono fun v s' h => ⟨?_, ?_⟩
      · rw [h.1, pF_row (htl sp hsp)]
      · obtain ⟨o', rfl⟩ := h.2
        exact ⟨by simp only; rw [List.getElem?_append_left (List.getElem?_eq_some_iff.1 ht.1).1]; exact ht.1, by simp only; rw [List.getElem?_append_left (List.getElem?_eq_some_iff.1 ht.2).1]; exact ht.2⟩
    · subst hv
      have hany : (spRows (ins.take j)).any (pF s) = (ins.take j).any fun o => decide (fromK o = fromK s) := any_rows fun o ho => pF_row (htl o ho)
      have htn : twN ins (j + 1) = (ins.take j).any fun o => decide (fromK o = fromK s) := by simp only [twN, hno, Bool.false_or, hs]
      rw [hany, ← htn]
      cases hb : twN ins (j + 1) with
      | true =>
        have := twN_mono ins (j + 1) ins.length (by omega) hb
        simp -implicitDefEqProofs [c67_k0, this]
      | false =>
        simp -implicitDefEqProofs [c67_k0, wrap_i64 (n := (j : Int) + 1) (by omega) (by omega)]
        exact ⟨ins.length - (j + 1), by omega, j + 1, rfl, by omega, rfl, ht.1, hb⟩
  · obtain rfl : j = ins.length := by omega
    simp -implicitDefEqProofs [hno]

/-! ### Check -/
def checkS (ins : List SpG) (outs : List CoG) : Int := if shapedS ins outs = false then 2 else if totS 0 (vals outs) = none then 9 else if twN ins ins.length then 8 else 0
def errV (n : Int) : V := if n = 0 then .d .nili else .d (.iface 50 (.int .i64 n))

theorem s_Check {i o : D} {f : Bool} {ins : List SpG} {outs : List CoG} (hi : LV (.d i) (spRows ins)) (ho : LV (.d o) (coRows outs)) (hli : ins.length ≤ 1000) (hlo : outs.length ≤ 1000) (hoi : ∀ s ∈ ins, s.Ok) : Dn.Call Γ cx .val 45 [.da [i, o, .bool f]] St.empty fun v _ => v = errV (checkS ins outs) := by
  refine Dn.Call.body (fc := c45) rfl ?_
  simp -implicitDefEqProofs [c45, c45_k6, mkAgg, ofD]
  refine use_fn rfl (s_shaped hi ho hoi) rfl ?_
  unfold checkS
  cases hs : shapedS ins outs with
  | false => simp -implicitDefEqProofs [c45_k5, errV, mkifV]
  | true =>
    simp -implicitDefEqProofs [c45_k5, c45_k4, mkAgg, ofD]
    refine use_fn rfl (s_out ho hlo) (by cases totS 0 (vals outs) <;> rfl) ?_
    cases ht : totS 0 (vals outs) with
    | none => simp -implicitDefEqProofs [totV, c45_k3, c45_k2, errV, eqV, V.isNil, Opd.isC]
    | some t =>
      simp -implicitDefEqProofs [totV, c45_k3, c45_k2, eqV, V.isNil, Opd.isC, c45_k1, mkAgg, ofD]
      refine use_fn rfl (s_twice hi hoi hli) rfl ?_
      cases hw : twN ins ins.length with
      | false => simp -implicitDefEqProofs [c45_k0, errV]
      | true => simp -implicitDefEqProofs [c45_k0, errV, mkifV]


def InvRC1 (i o : D) (f : Bool) (ins : List SpG) (m : Nat) (e : Env) (σ : St) : Prop := ∃ (j : Nat) (a b : V), e = [(1, .ref 0 0), (3, I j), (53, a), (63, b)] ∧ j ≤ ins.length ∧ m = ins.length - j ∧ σ = ⟨[.cells [.d i, .d o, .d (.bool f)]], []⟩ ∧ ∀ s ∈ ins.take j, badSp s = false
def InvRC2 (i o : D) (f : Bool) (ins : List SpG) (m : Nat) (e : Env) (σ : St) : Prop := ∃ j : Nat, e = [(1, .ref 0 0), (6, I j)] ∧ j ≤ ins.length ∧ m = ins.length - j ∧ σ = ⟨[.cells [.d i, .d o, .d (.bool f)]], []⟩ ∧ twN ins j = false
def InvRC3 (i o : D) (f : Bool) (ins : List SpG) (j : Nat) (s : SpG) (m : Nat) (e : Env) (σ : St) : Prop := ∃ k : Nat, e = [(1, .ref 0 0), (6, I j), (7, I k)] ∧ k ≤ j ∧ m = j - k ∧ σ = ⟨[.cells [.d i, .d o, .d (.bool f)]], []⟩ ∧ ∀ o ∈ ins.take k, fromK o ≠ fromK s

theorem s_rCheck {i o : D} {f : Bool} {ins : List SpG} {outs : List CoG} (hi : LV (.d i) (spRows ins)) (ho : LV (.d o) (coRows outs)) (hli : ins.length ≤ 1000) (hlo : outs.length ≤ 1000) (hoi : ∀ s ∈ ins, s.Ok) : Dn.Call Γ cx .val 23 [.da [i, o, .bool f]] St.empty fun v _ => v = I (checkS ins outs) := by
  refine Dn.Call.body (fc := c23) rfl ?_
  have hil : ∀ σ, lenT σ .slice (.d i) = some ins.length := fun σ => by rw [hi.len]; simp [spRows]
  have hol : ∀ σ, lenT σ .slice (.d o) = some outs.length := fun σ => by rw [ho.len]; simp [coRows]
  have hno : ¬ (1 ≤ ins.length ∧ ins.length ≤ 8 ∧ 1 ≤ outs.length ∧ outs.length ≤ 8) → checkS ins outs = 2 := fun h => by simp only [checkS, shapedS, h, decide_false, Bool.false_and, if_true]
  simp -implicitDefEqProofs [c23, c23_k25, hil, hol]
  by_cases h1 : (ins.length : Int) < 1
  · rw [hno (by omega)]
    simp -implicitDefEqProofs [h1, c23_k24]
  have h1' : (1 : Int) ≤ ins.length := by omega
  by_cases h2 : (8 : Int) < ins.length
  · rw [hno (by omega)]
    simp -implicitDefEqProofs [h1, h1', h2, c23_k24]
  by_cases h3 : (outs.length : Int) < 1
  · rw [hno (by omega)]
    simp -implicitDefEqProofs [h1, h1', h2, h3, hol, c23_k24]
  by_cases h4 : (8 : Int) < outs.length
  · rw [hno (by omega)]
    simp -implicitDefEqProofs [h1, h1', h2, h3, h4, hol, c23_k24]
  have hrange : (1 ≤ ins.length ∧ ins.length ≤ 8 ∧ 1 ≤ outs.length ∧ outs.length ≤ 8) := by omega
  have hsh : shapedS ins outs = !ins.any badSp := by simp only [shapedS, hrange, and_self, decide_true, Bool.true_and]
  have hil' : lenT ⟨[.cells [.d i, .d o, .d (.bool f)]], []⟩ .slice (.d i) = some ins.length := hil _
  simp -implicitDefEqProofs [h1, h1', h2, h3, h4, hol, c23_k24, c23_k23, c23_k22]
  refine wloopI (InvRC1 i o f ins) (m := ins.length) ⟨0, _, _, rfl, by omega, rfl, rfl, by simp⟩ ?_
  rintro m e σ ⟨j, a, b, rfl, hj, rfl, rfl, hno1⟩
  simp -implicitDefEqProofs [c23_l21, c23_k20, hil]
  by_cases hji : j < ins.length
  · obtain ⟨s, hs⟩ : ∃ s, ins[j]? = some s := ⟨ins[j], by simp [hji]⟩
    have hsm := List.mem_of_getElem? hs
    have hok := hoi s hsm
    have hia := fun σ => hi.iaddr σ (k := .i64) (sz := 35) (show (spRows ins)[j]? = some s.row by simp [spRows, hs]) (sp_row_len hok)
    have hjj : (j : Int) < ins.length := by omega
    obtain ⟨a32, a33, a34⟩ := sp_at hok
    have d33 : ∃ r, s.row.drop 33 = .str s.key :: r := ⟨[.int .u64 s.sl], by rw [row_from, List.drop_append, List.drop_of_length_le (by rw [fromD_len hok]; omega), fromD_len hok]; rfl⟩
    have d32 : ∃ r, s.row.drop 32 = .int .i64 s.n :: r := ⟨[.str s.key, .int .u64 s.sl], by rw [SpG.row, List.drop_append, List.drop_of_length_le (by simp [hd_len, hok.tx]), hd_len, hok.tx]; rfl⟩
    obtain ⟨r33, d33⟩ := d33
    obtain ⟨r32, d32⟩ := d32
    have htk : ins.take (j + 1) = ins.take j ++ [s] := by
      obtain ⟨h, rfl⟩ := List.getElem?_eq_some_iff.1 hs
      exact (List.take_append_getElem h).symm
    have hbad : badSp s = true → checkS ins outs = 2 := fun hb => by
      have : ins.any badSp = true := List.any_eq_true.2 ⟨s, hsm, hb⟩
      simp only [checkS, hsh, this, Bool.not_true, if_true]
    have rl := sp_row_len hok
    simp -implicitDefEqProofs [hjj, hji, c23_k19, c23_k18, hia, rl, d33, lenT]
    by_cases b1 : (32 : Int) < s.key.length
    · have := hbad (by simp only [badSp, show 32 < s.key.length by omega, decide_true, Bool.true_or])
      simp -implicitDefEqProofs [b1, show ¬ ((s.key.length : Int) ≤ 32) by omega, c23_k17, this]
    have b1' : (s.key.length : Int) ≤ 32 := by omega
    by_cases b2 : s.n < 0
    · have := hbad (by simp only [badSp, b2, decide_true, Bool.or_true, Bool.true_or])
      simp -implicitDefEqProofs [b1, b1', hia, rl, d32, b2, c23_k17, this]
    by_cases b3 : 7 < s.n
    · have := hbad (by simp only [badSp, show 8 ≤ s.n by omega, decide_true, Bool.or_true])
      simp -implicitDefEqProofs [b1, b1', hia, rl, d32, b2, b3, c23_k17, this]
    have hgood : badSp s = false := by simp only [badSp, show ¬ 32 < s.key.length by omega, b2, show ¬ 8 ≤ s.n by omega, decide_false, Bool.or_false]
    simp -implicitDefEqProofs [b1, b1', hia, rl, d32, b2, b3, c23_k17, c23_k16, wrap_i64 (n := (j : Int) + 1) (by omega) (by omega)]
    refine ⟨ins.length - (j + 1), by omega, j + 1, _, _, rfl, by omega, rfl, rfl, fun q hq => ?_⟩
    rw [htk] at hq
    rcases List.mem_append.1 hq with h | h
    · exact hno1 q h
    · simp at h; subst h; exact hgood
  · obtain rfl : j = ins.length := by omega
    rw [List.take_length] at hno1
    have hnb : ins.any badSp = false := by
      rw [List.any_eq_false]
      intro q hq
      simp [hno1 q hq]
    have hck : checkS ins outs = if totS 0 (vals outs) = none then 9 else if twN ins ins.length then 8 else 0 := by
      simp only [checkS, hsh, hnb, Bool.not_false, Bool.true_eq_false, if_false]
    rw [hck]
    simp -implicitDefEqProofs [c23_k15, mkAgg, ofD]
    refine use_fn rfl (s_rout ho hlo) (by cases totS 0 (vals outs) <;> rfl) ?_
    cases ht : totS 0 (vals outs) with
    | none => simp -implicitDefEqProofs [totR, c23_k14, c23_k13]
    | some t =>
      simp -implicitDefEqProofs [totR, c23_k14, c23_k13, c23_k12, c23_k11]
      refine wloopI (InvRC2 i o f ins) (m := ins.length) ⟨0, rfl, by omega, rfl, rfl, rfl⟩ ?_
      rintro m e σ ⟨j, rfl, hj, rfl, rfl, hno⟩
      simp -implicitDefEqProofs [c23_l10, c23_k9, hil]
      by_cases hji : j < ins.length
      · obtain ⟨s, hs⟩ : ∃ s, ins[j]? = some s := ⟨ins[j], by simp [hji]⟩
        have hok := hoi s (List.mem_of_getElem? hs)
        have hia := fun σ => hi.iaddr σ (k := .i64) (sz := 35) (show (spRows ins)[j]? = some s.row by simp [spRows, hs]) (sp_row_len hok)
        have hjj : (j : Int) < ins.length := by omega
        have htn : twN ins (j + 1) = (ins.take j).any fun o => decide (fromK o = fromK s) := by simp only [twN, hno, Bool.false_or, hs]
        simp -implicitDefEqProofs [hjj, hji, c23_k8, c23_k7]
        refine wloopI (InvRC3 i o f ins j s) (m := j) ⟨0, rfl, by omega, rfl, rfl, by simp⟩ ?_
        rintro m e σ ⟨k, rfl, hk, rfl, rfl, hne⟩
        simp -implicitDefEqProofs [c23_l6, c23_k5]
        by_cases hkj : k < j
        · obtain ⟨u, hu⟩ : ∃ u, ins[k]? = some u := ⟨ins[k]'(by omega), by simp⟩
          have huk := hoi u (List.mem_of_getElem? hu)
          have hib := fun σ => hi.iaddr σ (k := .i64) (sz := 35) (show (spRows ins)[k]? = some u.row by simp [spRows, hu]) (sp_row_len huk)
          have htk : ins.take (k + 1) = ins.take k ++ [u] := by
            obtain ⟨h, rfl⟩ := List.getElem?_eq_some_iff.1 hu
            exact (List.take_append_getElem h).symm
          have eqf := eq_from hok huk
          simp -implicitDefEqProofs [-List.reduceReplicate, hkj, c23_k4, c23_k3]
          refine w_drw (fun _ => .val) [1, 1] (by decide +kernel) ?_
          simp -implicitDefEqProofs [-List.reduceReplicate, room_zero, hia, hib, sp_row_len hok, sp_row_len huk, take33d hok, take33d huk, eqf]
          by_cases hku : fromK u = fromK s
          · have htt : twN ins (j + 1) = true := by
              rw [htn, List.any_eq_true]
              refine ⟨u, List.mem_of_getElem? (i := k) (by rw [List.getElem?_take, if_pos hkj]; exact hu), by simp [hku]⟩
            have hall := twN_mono ins (j + 1) ins.length (by omega) htt
            simp -implicitDefEqProofs [c23_k2, hku, hall]
          · have hku' : ¬ fromK s = fromK u := fun e => hku e.symm
            simp -implicitDefEqProofs [c23_k2, c23_k1, hku', wrap_i64 (n := (k : Int) + 1) (by omega) (by omega)]
            refine ⟨j - (k + 1), by omega, k + 1, rfl, by omega, rfl, rfl, fun q hq => ?_⟩
            rw [htk] at hq
            rcases List.mem_append.1 hq with h | h
            · exact hne q h
            · simp at h; subst h; exact hku
        · obtain rfl : k = j := by omega
          have htf : twN ins (k + 1) = false := by
            rw [htn, List.any_eq_false]
            intro q hq
            simp [hne q hq]
          simp -implicitDefEqProofs [c23_k0, wrap_i64 (n := (k : Int) + 1) (by omega) (by omega)]
          exact ⟨ins.length - (k + 1), by omega, k + 1, rfl, by omega, rfl, rfl, htf⟩
      · obtain rfl : j = ins.length := by omega
        simp -implicitDefEqProofs [hno]


def blankB (li lo : Nat) (tb : Bool) : Bool := decide (li + lo = 0) && !tb
def listedB (kd : Int) : Bool := decide (kd = 6) || decide (kd = 7) || decide (kd = 9)
def sizedB (n : Int) : Bool := decide (0 ≤ n) && decide (n ≤ 65535)
def usedB (kd half size q : Int) (dl : Nat) (ok : Bool) (il hl li lo : Nat) (tb : Bool) : Bool :=
  (decide (kd = 1) || decide (half = 0)) && (decide (kd = 2) || (decide (size = 0) && decide (q = 0))) && (decide (kd = 3) || decide (dl = 0)) && (decide (kd = 5) || (!ok && decide (il = 0))) && (listedB kd || decide (hl = 0)) && (decide (kd = 8) || blankB li lo tb)

theorem s_listed (kd : Int) : Dn.Call Γ cx .val 63 [I kd] St.empty fun v _ => v = B (listedB kd) := by
  refine Dn.Call.body (fc := c63) rfl ?_
  unfold listedB
  by_cases h6 : kd = 6
  · simp -implicitDefEqProofs [c63, c63_k0, h6]
  by_cases h7 : kd = 7
  · simp -implicitDefEqProofs [c63, c63_k0, h7]
  by_cases h9 : kd = 9
  · simp -implicitDefEqProofs [c63, c63_k0, h9]
  · simp -implicitDefEqProofs [c63, c63_k0, h6, h7, h9]
theorem s_wsized (n : Int) : Dn.Call Γ cx .val 44 [I n] St.empty fun v _ => v = B (sizedB n) := by
  refine Dn.Call.body (fc := c44) rfl ?_
  unfold sizedB
  by_cases h0 : 0 ≤ n
  · simp -implicitDefEqProofs [c44, c44_k0, h0]
  · simp -implicitDefEqProofs [c44, c44_k0, h0]
theorem s_blank {ti to : D} {tb : Bool} {li lo : Nat} (hti : ∀ σ, lenT σ .slice (.d ti) = some li) (hto : ∀ σ, lenT σ .slice (.d to) = some lo) (hb : li ≤ 1000000 ∧ lo ≤ 1000000) : Dn.Call Γ cx .val 64 [.da [ti, to, .bool tb]] St.empty fun v _ => v = B (blankB li lo tb) := by
  refine Dn.Call.body (fc := c64) rfl ?_
  have ew : IntKind.i64.wrap ((li : Int) + (lo : Int)) = ((li + lo : Nat) : Int) := by rw [wrap_i64 (by omega) (by omega)]; omega
  unfold blankB
  by_cases h0 : li + lo = 0
  · obtain ⟨rfl, rfl⟩ : li = 0 ∧ lo = 0 := by omega
    simp -implicitDefEqProofs [c64, c64_k0, hti, hto]
    cases tb <;> rfl
  · have h1 : ¬ ((li + lo : Nat) : Int) = 0 := by omega
    have h2 : ¬ ((li : Int) + (lo : Int) = 0) := by omega
    have h3 : ¬ (li = 0 ∧ lo = 0) := by omega
    simp -implicitDefEqProofs [c64, c64_k0, hti, hto, ew, h1, h2, h0, h3]

theorem s_used1 (half size q : Int) (ok tb : Bool) {data ids hs ti to : D} {dl il hl li lo : Nat} (hdl : ∀ σ, lenT σ .slice (.d data) = some dl) (hil : ∀ σ, lenT σ .slice (.d ids) = some il) (hhl : ∀ σ, lenT σ .slice (.d hs) = some hl) (hti : ∀ σ, lenT σ .slice (.d ti) = some li) (hto : ∀ σ, lenT σ .slice (.d to) = some lo) (hb : li ≤ 1000000 ∧ lo ≤ 1000000) : Dn.Call Γ cx .val 43 [.da [.int .i64 1, .int .u64 half, .int .i64 size, .int .i64 q, data, .bool ok, ids, hs, ti, to, .bool tb]] St.empty fun v _ => v = B (usedB 1 half size q dl ok il hl li lo tb) := by
  refine Dn.Call.body (fc := c43) rfl ?_
  by_cases a_size : size = 0
  rotate_left
  · simp -implicitDefEqProofs [c43, c43_k5, c43_k4, c43_k3, usedB, a_size]
  by_cases a_q : q = 0
  rotate_left
  · simp -implicitDefEqProofs [c43, c43_k5, c43_k4, c43_k3, usedB, a_q, a_size]
  simp -implicitDefEqProofs [c43, c43_k5, c43_k4, c43_k3, a_size, a_q]
  by_cases a_d : dl = 0
  rotate_left
  · have b_d : (0 : Int) < dl := by omega
    have c_d : 0 < dl := by omega
    simp -implicitDefEqProofs [c43_k2, c43_k1, hdl, usedB, a_d, b_d, c_d, a_size, a_q]
  subst a_d
  by_cases a_o : ok = true
  · simp -implicitDefEqProofs [c43_k2, c43_k1, hdl, hil, usedB, a_o, a_size, a_q]
  by_cases a_i : il = 0
  rotate_left
  · have b_i : (0 : Int) < il := by omega
    have c_i : 0 < il := by omega
    simp -implicitDefEqProofs [c43_k2, c43_k1, hdl, hil, usedB, a_o, a_i, b_i, c_i, a_size, a_q]
  subst a_i
  simp -implicitDefEqProofs [c43_k2, c43_k1, hdl, hil, a_size, a_q, a_o]
  refine use_fn rfl (s_listed 1) rfl ?_
  by_cases a_h : hl = 0
  rotate_left
  · simp -implicitDefEqProofs [c43_k0, hhl, usedB, blankB, listedB, a_h, a_size, a_q, a_o]
  subst a_h
  simp -implicitDefEqProofs [c43_k0, hhl, listedB, a_size, a_q, a_o, mkAgg, ofD]
  refine use_fn rfl (s_blank (tb := tb) hti hto hb) rfl ?_
  simp -implicitDefEqProofs [usedB, blankB, listedB, a_size, a_q, a_o]
theorem s_used2 (half size q : Int) (ok tb : Bool) {data ids hs ti to : D} {dl il hl li lo : Nat} (hdl : ∀ σ, lenT σ .slice (.d data) = some dl) (hil : ∀ σ, lenT σ .slice (.d ids) = some il) (hhl : ∀ σ, lenT σ .slice (.d hs) = some hl) (hti : ∀ σ, lenT σ .slice (.d ti) = some li) (hto : ∀ σ, lenT σ .slice (.d to) = some lo) (hb : li ≤ 1000000 ∧ lo ≤ 1000000) : Dn.Call Γ cx .val 43 [.da [.int .i64 2, .int .u64 half, .int .i64 size, .int .i64 q, data, .bool ok, ids, hs, ti, to, .bool tb]] St.empty fun v _ => v = B (usedB 2 half size q dl ok il hl li lo tb) := by
  refine Dn.Call.body (fc := c43) rfl ?_
  by_cases a_half : half = 0
  rotate_left
  · simp -implicitDefEqProofs [c43, c43_k5, c43_k4, c43_k3, usedB, a_half]
  simp -implicitDefEqProofs [c43, c43_k5, c43_k4, c43_k3, a_half]
  by_cases a_d : dl = 0
  rotate_left
  · have b_d : (0 : Int) < dl := by omega
    have c_d : 0 < dl := by omega
    simp -implicitDefEqProofs [c43_k2, c43_k1, hdl, usedB, a_d, b_d, c_d, a_half]
  subst a_d
  by_cases a_o : ok = true
  · simp -implicitDefEqProofs [c43_k2, c43_k1, hdl, hil, usedB, a_o, a_half]
  by_cases a_i : il = 0
  rotate_left
  · have b_i : (0 : Int) < il := by omega
    have c_i : 0 < il := by omega
    simp -implicitDefEqProofs [c43_k2, c43_k1, hdl, hil, usedB, a_o, a_i, b_i, c_i, a_half]
  subst a_i
  simp -implicitDefEqProofs [c43_k2, c43_k1, hdl, hil, a_half, a_o]
  refine use_fn rfl (s_listed 2) rfl ?_
  by_cases a_h : hl = 0
  rotate_left
  · simp -implicitDefEqProofs [c43_k0, hhl, usedB, blankB, listedB, a_h, a_half, a_o]
  subst a_h
  simp -implicitDefEqProofs [c43_k0, hhl, listedB, a_half, a_o, mkAgg, ofD]
  refine use_fn rfl (s_blank (tb := tb) hti hto hb) rfl ?_
  simp -implicitDefEqProofs [usedB, blankB, listedB, a_half, a_o]
theorem s_used3 (half size q : Int) (ok tb : Bool) {data ids hs ti to : D} {dl il hl li lo : Nat} (hdl : ∀ σ, lenT σ .slice (.d data) = some dl) (hil : ∀ σ, lenT σ .slice (.d ids) = some il) (hhl : ∀ σ, lenT σ .slice (.d hs) = some hl) (hti : ∀ σ, lenT σ .slice (.d ti) = some li) (hto : ∀ σ, lenT σ .slice (.d to) = some lo) (hb : li ≤ 1000000 ∧ lo ≤ 1000000) : Dn.Call Γ cx .val 43 [.da [.int .i64 3, .int .u64 half, .int .i64 size, .int .i64 q, data, .bool ok, ids, hs, ti, to, .bool tb]] St.empty fun v _ => v = B (usedB 3 half size q dl ok il hl li lo tb) := by
  refine Dn.Call.body (fc := c43) rfl ?_
  by_cases a_half : half = 0
  rotate_left
  · simp -implicitDefEqProofs [c43, c43_k5, c43_k4, c43_k3, usedB, a_half]
  by_cases a_size : size = 0
  rotate_left
  · simp -implicitDefEqProofs [c43, c43_k5, c43_k4, c43_k3, usedB, a_size, a_half]
  by_cases a_q : q = 0
  rotate_left
  · simp -implicitDefEqProofs [c43, c43_k5, c43_k4, c43_k3, usedB, a_q, a_half, a_size]
  simp -implicitDefEqProofs [c43, c43_k5, c43_k4, c43_k3, a_half, a_size, a_q]
  by_cases a_o : ok = true
  · simp -implicitDefEqProofs [c43_k2, c43_k1, hdl, hil, usedB, a_o, a_half, a_size, a_q]
  by_cases a_i : il = 0
  rotate_left
  · have b_i : (0 : Int) < il := by omega
    have c_i : 0 < il := by omega
    simp -implicitDefEqProofs [c43_k2, c43_k1, hdl, hil, usedB, a_o, a_i, b_i, c_i, a_half, a_size, a_q]
  subst a_i
  simp -implicitDefEqProofs [c43_k2, c43_k1, hdl, hil, a_half, a_size, a_q, a_o]
  refine use_fn rfl (s_listed 3) rfl ?_
  by_cases a_h : hl = 0
  rotate_left
  · simp -implicitDefEqProofs [c43_k0, hhl, usedB, blankB, listedB, a_h, a_half, a_size, a_q, a_o]
  subst a_h
  simp -implicitDefEqProofs [c43_k0, hhl, listedB, a_half, a_size, a_q, a_o, mkAgg, ofD]
  refine use_fn rfl (s_blank (tb := tb) hti hto hb) rfl ?_
  simp -implicitDefEqProofs [usedB, blankB, listedB, a_half, a_size, a_q, a_o]
theorem s_used4 (half size q : Int) (ok tb : Bool) {data ids hs ti to : D} {dl il hl li lo : Nat} (hdl : ∀ σ, lenT σ .slice (.d data) = some dl) (hil : ∀ σ, lenT σ .slice (.d ids) = some il) (hhl : ∀ σ, lenT σ .slice (.d hs) = some hl) (hti : ∀ σ, lenT σ .slice (.d ti) = some li) (hto : ∀ σ, lenT σ .slice (.d to) = some lo) (hb : li ≤ 1000000 ∧ lo ≤ 1000000) : Dn.Call Γ cx .val 43 [.da [.int .i64 4, .int .u64 half, .int .i64 size, .int .i64 q, data, .bool ok, ids, hs, ti, to, .bool tb]] St.empty fun v _ => v = B (usedB 4 half size q dl ok il hl li lo tb) := by
  refine Dn.Call.body (fc := c43) rfl ?_
  by_cases a_half : half = 0
  rotate_left
  · simp -implicitDefEqProofs [c43, c43_k5, c43_k4, c43_k3, usedB, a_half]
  by_cases a_size : size = 0
  rotate_left
  · simp -implicitDefEqProofs [c43, c43_k5, c43_k4, c43_k3, usedB, a_size, a_half]
  by_cases a_q : q = 0
  rotate_left
  · simp -implicitDefEqProofs [c43, c43_k5, c43_k4, c43_k3, usedB, a_q, a_half, a_size]
  simp -implicitDefEqProofs [c43, c43_k5, c43_k4, c43_k3, a_half, a_size, a_q]
  by_cases a_d : dl = 0
  rotate_left
  · have b_d : (0 : Int) < dl := by omega
    have c_d : 0 < dl := by omega
    simp -implicitDefEqProofs [c43_k2, c43_k1, hdl, usedB, a_d, b_d, c_d, a_half, a_size, a_q]
  subst a_d
  by_cases a_o : ok = true
  · simp -implicitDefEqProofs [c43_k2, c43_k1, hdl, hil, usedB, a_o, a_half, a_size, a_q]
  by_cases a_i : il = 0
  rotate_left
  · have b_i : (0 : Int) < il := by omega
    have c_i : 0 < il := by omega
    simp -implicitDefEqProofs [c43_k2, c43_k1, hdl, hil, usedB, a_o, a_i, b_i, c_i, a_half, a_size, a_q]
  subst a_i
  simp -implicitDefEqProofs [c43_k2, c43_k1, hdl, hil, a_half, a_size, a_q, a_o]
  refine use_fn rfl (s_listed 4) rfl ?_
  by_cases a_h : hl = 0
  rotate_left
  · simp -implicitDefEqProofs [c43_k0, hhl, usedB, blankB, listedB, a_h, a_half, a_size, a_q, a_o]
  subst a_h
  simp -implicitDefEqProofs [c43_k0, hhl, listedB, a_half, a_size, a_q, a_o, mkAgg, ofD]
  refine use_fn rfl (s_blank (tb := tb) hti hto hb) rfl ?_
  simp -implicitDefEqProofs [usedB, blankB, listedB, a_half, a_size, a_q, a_o]
theorem s_used5 (half size q : Int) (ok tb : Bool) {data ids hs ti to : D} {dl il hl li lo : Nat} (hdl : ∀ σ, lenT σ .slice (.d data) = some dl) (hil : ∀ σ, lenT σ .slice (.d ids) = some il) (hhl : ∀ σ, lenT σ .slice (.d hs) = some hl) (hti : ∀ σ, lenT σ .slice (.d ti) = some li) (hto : ∀ σ, lenT σ .slice (.d to) = some lo) (hb : li ≤ 1000000 ∧ lo ≤ 1000000) : Dn.Call Γ cx .val 43 [.da [.int .i64 5, .int .u64 half, .int .i64 size, .int .i64 q, data, .bool ok, ids, hs, ti, to, .bool tb]] St.empty fun v _ => v = B (usedB 5 half size q dl ok il hl li lo tb) := by
  refine Dn.Call.body (fc := c43) rfl ?_
  by_cases a_half : half = 0
  rotate_left
  · simp -implicitDefEqProofs [c43, c43_k5, c43_k4, c43_k3, usedB, a_half]
  by_cases a_size : size = 0
  rotate_left
  · simp -implicitDefEqProofs [c43, c43_k5, c43_k4, c43_k3, usedB, a_size, a_half]
  by_cases a_q : q = 0
  rotate_left
  · simp -implicitDefEqProofs [c43, c43_k5, c43_k4, c43_k3, usedB, a_q, a_half, a_size]
  simp -implicitDefEqProofs [c43, c43_k5, c43_k4, c43_k3, a_half, a_size, a_q]
  by_cases a_d : dl = 0
  rotate_left
  · have b_d : (0 : Int) < dl := by omega
    have c_d : 0 < dl := by omega
    simp -implicitDefEqProofs [c43_k2, c43_k1, hdl, usedB, a_d, b_d, c_d, a_half, a_size, a_q]
  subst a_d
  simp -implicitDefEqProofs [c43_k2, c43_k1, hdl, hil, a_half, a_size, a_q]
  refine use_fn rfl (s_listed 5) rfl ?_
  by_cases a_h : hl = 0
  rotate_left
  · simp -implicitDefEqProofs [c43_k0, hhl, usedB, blankB, listedB, a_h, a_half, a_size, a_q]
  subst a_h
  simp -implicitDefEqProofs [c43_k0, hhl, listedB, a_half, a_size, a_q, mkAgg, ofD]
  refine use_fn rfl (s_blank (tb := tb) hti hto hb) rfl ?_
  simp -implicitDefEqProofs [usedB, blankB, listedB, a_half, a_size, a_q]
theorem s_used6 (half size q : Int) (ok tb : Bool) {data ids hs ti to : D} {dl il hl li lo : Nat} (hdl : ∀ σ, lenT σ .slice (.d data) = some dl) (hil : ∀ σ, lenT σ .slice (.d ids) = some il) (hhl : ∀ σ, lenT σ .slice (.d hs) = some hl) (hti : ∀ σ, lenT σ .slice (.d ti) = some li) (hto : ∀ σ, lenT σ .slice (.d to) = some lo) (hb : li ≤ 1000000 ∧ lo ≤ 1000000) : Dn.Call Γ cx .val 43 [.da [.int .i64 6, .int .u64 half, .int .i64 size, .int .i64 q, data, .bool ok, ids, hs, ti, to, .bool tb]] St.empty fun v _ => v = B (usedB 6 half size q dl ok il hl li lo tb) := by
  refine Dn.Call.body (fc := c43) rfl ?_
  by_cases a_half : half = 0
  rotate_left
  · simp -implicitDefEqProofs [c43, c43_k5, c43_k4, c43_k3, usedB, a_half]
  by_cases a_size : size = 0
  rotate_left
  · simp -implicitDefEqProofs [c43, c43_k5, c43_k4, c43_k3, usedB, a_size, a_half]
  by_cases a_q : q = 0
  rotate_left
  · simp -implicitDefEqProofs [c43, c43_k5, c43_k4, c43_k3, usedB, a_q, a_half, a_size]
  simp -implicitDefEqProofs [c43, c43_k5, c43_k4, c43_k3, a_half, a_size, a_q]
  by_cases a_d : dl = 0
  rotate_left
  · have b_d : (0 : Int) < dl := by omega
    have c_d : 0 < dl := by omega
    simp -implicitDefEqProofs [c43_k2, c43_k1, hdl, usedB, a_d, b_d, c_d, a_half, a_size, a_q]
  subst a_d
  by_cases a_o : ok = true
  · simp -implicitDefEqProofs [c43_k2, c43_k1, hdl, hil, usedB, a_o, a_half, a_size, a_q]
  by_cases a_i : il = 0
  rotate_left
  · have b_i : (0 : Int) < il := by omega
    have c_i : 0 < il := by omega
    simp -implicitDefEqProofs [c43_k2, c43_k1, hdl, hil, usedB, a_o, a_i, b_i, c_i, a_half, a_size, a_q]
  subst a_i
  simp -implicitDefEqProofs [c43_k2, c43_k1, hdl, hil, a_half, a_size, a_q, a_o]
  refine use_fn rfl (s_listed 6) rfl ?_
  simp -implicitDefEqProofs [c43_k0, hhl, listedB, a_half, a_size, a_q, a_o, mkAgg, ofD]
  refine use_fn rfl (s_blank (tb := tb) hti hto hb) rfl ?_
  simp -implicitDefEqProofs [usedB, blankB, listedB, a_half, a_size, a_q, a_o]
theorem s_used7 (half size q : Int) (ok tb : Bool) {data ids hs ti to : D} {dl il hl li lo : Nat} (hdl : ∀ σ, lenT σ .slice (.d data) = some dl) (hil : ∀ σ, lenT σ .slice (.d ids) = some il) (hhl : ∀ σ, lenT σ .slice (.d hs) = some hl) (hti : ∀ σ, lenT σ .slice (.d ti) = some li) (hto : ∀ σ, lenT σ .slice (.d to) = some lo) (hb : li ≤ 1000000 ∧ lo ≤ 1000000) : Dn.Call Γ cx .val 43 [.da [.int .i64 7, .int .u64 half, .int .i64 size, .int .i64 q, data, .bool ok, ids, hs, ti, to, .bool tb]] St.empty fun v _ => v = B (usedB 7 half size q dl ok il hl li lo tb) := by
  refine Dn.Call.body (fc := c43) rfl ?_
  by_cases a_half : half = 0
  rotate_left
  · simp -implicitDefEqProofs [c43, c43_k5, c43_k4, c43_k3, usedB, a_half]
  by_cases a_size : size = 0
  rotate_left
  · simp -implicitDefEqProofs [c43, c43_k5, c43_k4, c43_k3, usedB, a_size, a_half]
  by_cases a_q : q = 0
  rotate_left
  · simp -implicitDefEqProofs [c43, c43_k5, c43_k4, c43_k3, usedB, a_q, a_half, a_size]
  simp -implicitDefEqProofs [c43, c43_k5, c43_k4, c43_k3, a_half, a_size, a_q]
  by_cases a_d : dl = 0
  rotate_left
  · have b_d : (0 : Int) < dl := by omega
    have c_d : 0 < dl := by omega
    simp -implicitDefEqProofs [c43_k2, c43_k1, hdl, usedB, a_d, b_d, c_d, a_half, a_size, a_q]
  subst a_d
  by_cases a_o : ok = true
  · simp -implicitDefEqProofs [c43_k2, c43_k1, hdl, hil, usedB, a_o, a_half, a_size, a_q]
  by_cases a_i : il = 0
  rotate_left
  · have b_i : (0 : Int) < il := by omega
    have c_i : 0 < il := by omega
    simp -implicitDefEqProofs [c43_k2, c43_k1, hdl, hil, usedB, a_o, a_i, b_i, c_i, a_half, a_size, a_q]
  subst a_i
  simp -implicitDefEqProofs [c43_k2, c43_k1, hdl, hil, a_half, a_size, a_q, a_o]
  refine use_fn rfl (s_listed 7) rfl ?_
  simp -implicitDefEqProofs [c43_k0, hhl, listedB, a_half, a_size, a_q, a_o, mkAgg, ofD]
  refine use_fn rfl (s_blank (tb := tb) hti hto hb) rfl ?_
  simp -implicitDefEqProofs [usedB, blankB, listedB, a_half, a_size, a_q, a_o]
theorem s_used8 (half size q : Int) (ok tb : Bool) {data ids hs ti to : D} {dl il hl li lo : Nat} (hdl : ∀ σ, lenT σ .slice (.d data) = some dl) (hil : ∀ σ, lenT σ .slice (.d ids) = some il) (hhl : ∀ σ, lenT σ .slice (.d hs) = some hl) (hti : ∀ σ, lenT σ .slice (.d ti) = some li) (hto : ∀ σ, lenT σ .slice (.d to) = some lo) (hb : li ≤ 1000000 ∧ lo ≤ 1000000) : Dn.Call Γ cx .val 43 [.da [.int .i64 8, .int .u64 half, .int .i64 size, .int .i64 q, data, .bool ok, ids, hs, ti, to, .bool tb]] St.empty fun v _ => v = B (usedB 8 half size q dl ok il hl li lo tb) := by
  refine Dn.Call.body (fc := c43) rfl ?_
  by_cases a_half : half = 0
  rotate_left
  · simp -implicitDefEqProofs [c43, c43_k5, c43_k4, c43_k3, usedB, a_half]
  by_cases a_size : size = 0
  rotate_left
  · simp -implicitDefEqProofs [c43, c43_k5, c43_k4, c43_k3, usedB, a_size, a_half]
  by_cases a_q : q = 0
  rotate_left
  · simp -implicitDefEqProofs [c43, c43_k5, c43_k4, c43_k3, usedB, a_q, a_half, a_size]
  simp -implicitDefEqProofs [c43, c43_k5, c43_k4, c43_k3, a_half, a_size, a_q]
  by_cases a_d : dl = 0
  rotate_left
  · have b_d : (0 : Int) < dl := by omega
    have c_d : 0 < dl := by omega
    simp -implicitDefEqProofs [c43_k2, c43_k1, hdl, usedB, a_d, b_d, c_d, a_half, a_size, a_q]
  subst a_d
  by_cases a_o : ok = true
  · simp -implicitDefEqProofs [c43_k2, c43_k1, hdl, hil, usedB, a_o, a_half, a_size, a_q]
  by_cases a_i : il = 0
  rotate_left
  · have b_i : (0 : Int) < il := by omega
    have c_i : 0 < il := by omega
    simp -implicitDefEqProofs [c43_k2, c43_k1, hdl, hil, usedB, a_o, a_i, b_i, c_i, a_half, a_size, a_q]
  subst a_i
  simp -implicitDefEqProofs [c43_k2, c43_k1, hdl, hil, a_half, a_size, a_q, a_o]
  refine use_fn rfl (s_listed 8) rfl ?_
  by_cases a_h : hl = 0
  rotate_left
  · simp -implicitDefEqProofs [c43_k0, hhl, usedB, blankB, listedB, a_h, a_half, a_size, a_q, a_o]
  subst a_h
  simp -implicitDefEqProofs [c43_k0, hhl, usedB, blankB, listedB, a_half, a_size, a_q, a_o]
theorem s_used9 (half size q : Int) (ok tb : Bool) {data ids hs ti to : D} {dl il hl li lo : Nat} (hdl : ∀ σ, lenT σ .slice (.d data) = some dl) (hil : ∀ σ, lenT σ .slice (.d ids) = some il) (hhl : ∀ σ, lenT σ .slice (.d hs) = some hl) (hti : ∀ σ, lenT σ .slice (.d ti) = some li) (hto : ∀ σ, lenT σ .slice (.d to) = some lo) (hb : li ≤ 1000000 ∧ lo ≤ 1000000) : Dn.Call Γ cx .val 43 [.da [.int .i64 9, .int .u64 half, .int .i64 size, .int .i64 q, data, .bool ok, ids, hs, ti, to, .bool tb]] St.empty fun v _ => v = B (usedB 9 half size q dl ok il hl li lo tb) := by
  refine Dn.Call.body (fc := c43) rfl ?_
  by_cases a_half : half = 0
  rotate_left
  · simp -implicitDefEqProofs [c43, c43_k5, c43_k4, c43_k3, usedB, a_half]
  by_cases a_size : size = 0
  rotate_left
  · simp -implicitDefEqProofs [c43, c43_k5, c43_k4, c43_k3, usedB, a_size, a_half]
  by_cases a_q : q = 0
  rotate_left
  · simp -implicitDefEqProofs [c43, c43_k5, c43_k4, c43_k3, usedB, a_q, a_half, a_size]
  simp -implicitDefEqProofs [c43, c43_k5, c43_k4, c43_k3, a_half, a_size, a_q]
  by_cases a_d : dl = 0
  rotate_left
  · have b_d : (0 : Int) < dl := by omega
    have c_d : 0 < dl := by omega
    simp -implicitDefEqProofs [c43_k2, c43_k1, hdl, usedB, a_d, b_d, c_d, a_half, a_size, a_q]
  subst a_d
  by_cases a_o : ok = true
  · simp -implicitDefEqProofs [c43_k2, c43_k1, hdl, hil, usedB, a_o, a_half, a_size, a_q]
  by_cases a_i : il = 0
  rotate_left
  · have b_i : (0 : Int) < il := by omega
    have c_i : 0 < il := by omega
    simp -implicitDefEqProofs [c43_k2, c43_k1, hdl, hil, usedB, a_o, a_i, b_i, c_i, a_half, a_size, a_q]
  subst a_i
  simp -implicitDefEqProofs [c43_k2, c43_k1, hdl, hil, a_half, a_size, a_q, a_o]
  refine use_fn rfl (s_listed 9) rfl ?_
  simp -implicitDefEqProofs [c43_k0, hhl, listedB, a_half, a_size, a_q, a_o, mkAgg, ofD]
  refine use_fn rfl (s_blank (tb := tb) hti hto hb) rfl ?_
  simp -implicitDefEqProofs [usedB, blankB, listedB, a_half, a_size, a_q, a_o]
theorem s_used (kd half size q : Int) (ok tb : Bool) {data ids hs ti to : D} {dl il hl li lo : Nat} (hdl : ∀ σ, lenT σ .slice (.d data) = some dl) (hil : ∀ σ, lenT σ .slice (.d ids) = some il) (hhl : ∀ σ, lenT σ .slice (.d hs) = some hl) (hti : ∀ σ, lenT σ .slice (.d ti) = some li) (hto : ∀ σ, lenT σ .slice (.d to) = some lo) (hb : li ≤ 1000000 ∧ lo ≤ 1000000) (hk : 1 ≤ kd ∧ kd ≤ 9) : Dn.Call Γ cx .val 43 [.da [.int .i64 kd, .int .u64 half, .int .i64 size, .int .i64 q, data, .bool ok, ids, hs, ti, to, .bool tb]] St.empty fun v _ => v = B (usedB kd half size q dl ok il hl li lo tb) := by
  have hcase : kd = 1 ∨ kd = 2 ∨ kd = 3 ∨ kd = 4 ∨ kd = 5 ∨ kd = 6 ∨ kd = 7 ∨ kd = 8 ∨ kd = 9 := by omega
  rcases hcase with rfl | rfl | rfl | rfl | rfl | rfl | rfl | rfl | rfl
  · exact s_used1 half size q ok tb hdl hil hhl hti hto hb
  · exact s_used2 half size q ok tb hdl hil hhl hti hto hb
  · exact s_used3 half size q ok tb hdl hil hhl hti hto hb
  · exact s_used4 half size q ok tb hdl hil hhl hti hto hb
  · exact s_used5 half size q ok tb hdl hil hhl hti hto hb
  · exact s_used6 half size q ok tb hdl hil hhl hti hto hb
  · exact s_used7 half size q ok tb hdl hil hhl hti hto hb
  · exact s_used8 half size q ok tb hdl hil hhl hti hto hb
  · exact s_used9 half size q ok tb hdl hil hhl hti hto hb


def goodB (kd half size q : Int) (dl : Nat) (ok : Bool) (il hl li lo : Nat) (tb : Bool) (ck : Int) : Bool :=
  decide (1 ≤ kd ∧ kd ≤ 9) && usedB kd half size q dl ok il hl li lo tb && sizedB size && sizedB q && decide (dl ≤ 160) && decide (il ≤ 100) && decide (hl ≤ 100) && (!decide (kd = 8) || decide (ck = 0))

theorem s_wGood (kd : Int) (half size q : Int) (ok tb : Bool) {data ids hs ti to : D} {dl il hl li lo : Nat} (hdl : ∀ σ, lenT σ .slice (.d data) = some dl) (hil : ∀ σ, lenT σ .slice (.d ids) = some il) (hhl : ∀ σ, lenT σ .slice (.d hs) = some hl) (hti : ∀ σ, lenT σ .slice (.d ti) = some li) (hto : ∀ σ, lenT σ .slice (.d to) = some lo) (hb : li ≤ 1000000 ∧ lo ≤ 1000000) (ck : Int) (hck : Dn.Call Γ cx .val 45 [.da [ti, to, .bool tb]] St.empty fun v _ => v = errV ck) : Dn.Call Γ cx .val 29 [.da [.int .i64 kd, .int .u64 half, .int .i64 size, .int .i64 q, data, .bool ok, ids, hs, ti, to, .bool tb]] St.empty fun v _ => v = B (goodB kd half size q dl ok il hl li lo tb ck) := by
  refine Dn.Call.body (fc := c29) rfl ?_
  by_cases k1 : kd < 1
  · have : ¬ (1 ≤ kd ∧ kd ≤ 9) := by omega
    have k0 : ¬ (1 ≤ kd) := by omega
    simp -implicitDefEqProofs [c29, c29_k4, c29_k3, k1, goodB, this, k0]
  by_cases k9 : 9 < kd
  · have : ¬ (1 ≤ kd ∧ kd ≤ 9) := by omega
    have k0 : ¬ (kd ≤ 9) := by omega
    have k2 : (1 ≤ kd) := by omega
    simp -implicitDefEqProofs [c29, c29_k4, c29_k3, k1, k2, k9, goodB, this, k0]
  have hk : 1 ≤ kd ∧ kd ≤ 9 := by omega
  have k1' : 1 ≤ kd := hk.1
  have k9' : kd ≤ 9 := hk.2
  simp -implicitDefEqProofs [c29, c29_k4, k1, k9, k1', k9', mkAgg, ofD]
  refine use_fn rfl (s_used kd half size q ok tb hdl hil hhl hti hto hb hk) rfl ?_
  unfold goodB
  simp only [hk, and_self, decide_true, Bool.true_and]
  cases hu : usedB kd half size q dl ok il hl li lo tb with
  | false => simp -implicitDefEqProofs [c29_k3]
  | true =>
    simp -implicitDefEqProofs
    refine use_fn rfl (s_wsized size) rfl ?_
    cases hz : sizedB size with
    | false => simp -implicitDefEqProofs [c29_k3]
    | true =>
      simp -implicitDefEqProofs
      refine use_fn rfl (s_wsized q) rfl ?_
      cases hq : sizedB q with
      | false => simp -implicitDefEqProofs [c29_k3]
      | true =>
        simp -implicitDefEqProofs [c29_k3, c29_k2, hdl]
        by_cases d1 : dl ≤ 160
        rotate_left
        · have d2 : (160 : Int) < dl := by omega
          have d3 : ¬ (dl : Int) ≤ 160 := by omega
          simp -implicitDefEqProofs [c29_k1, d1, d2, d3]
        have d2 : ¬ (160 : Int) < dl := by omega
        have d3 : (dl : Int) ≤ 160 := by omega
        by_cases i1 : il ≤ 100
        rotate_left
        · have i2 : (100 : Int) < il := by omega
          have i3 : ¬ (il : Int) ≤ 100 := by omega
          simp -implicitDefEqProofs [c29_k1, d1, d2, d3, hil, i1, i2, i3]
        have i2 : ¬ (100 : Int) < il := by omega
        have i3 : (il : Int) ≤ 100 := by omega
        by_cases h1 : hl ≤ 100
        rotate_left
        · have h2 : (100 : Int) < hl := by omega
          have h3 : ¬ (hl : Int) ≤ 100 := by omega
          simp -implicitDefEqProofs [c29_k1, d1, d2, d3, hil, hhl, i1, i2, i3, h1, h2, h3]
        have h2 : ¬ (100 : Int) < hl := by omega
        have h3 : (hl : Int) ≤ 100 := by omega
        simp -implicitDefEqProofs [c29_k1, d1, d2, d3, hil, hhl, i1, i2, i3, h1, h2, h3, c29_k0]
        by_cases k8 : kd = 8
        · simp -implicitDefEqProofs [k8, mkAgg, ofD]
          refine use_fn rfl hck (by unfold errV; split <;> rfl) ?_
          by_cases hc : ck = 0
          · simp -implicitDefEqProofs [errV, hc, eqV, V.isNil, Opd.isC]
          · simp -implicitDefEqProofs [errV, hc, eqV, V.isNil, Opd.isC]
        · simp -implicitDefEqProofs [k8]

theorem s_rGood0 (kd : Int) (half size q : Int) (ok tb : Bool) {data ids hs ti to : D} {dl il hl li lo : Nat} (hdl : ∀ σ, lenT σ .slice (.d data) = some dl) (hil : ∀ σ, lenT σ .slice (.d ids) = some il) (hhl : ∀ σ, lenT σ .slice (.d hs) = some hl) (hti : ∀ σ, lenT σ .slice (.d ti) = some li) (hto : ∀ σ, lenT σ .slice (.d to) = some lo) (hb : li ≤ 1000000 ∧ lo ≤ 1000000) (ck : Int) (hk : ¬ (1 ≤ kd ∧ kd ≤ 9)) : Dn.Call Γ cx .val 12 [.da [.int .i64 kd, .int .u64 half, .int .i64 size, .int .i64 q, data, .bool ok, ids, hs, ti, to, .bool tb]] St.empty fun v _ => v = B (goodB kd half size q dl ok il hl li lo tb ck) := by
  refine Dn.Call.body (fc := c12) rfl ?_
  by_cases k1 : kd < 1
  · have k0 : ¬ (1 ≤ kd) := by omega
    simp -implicitDefEqProofs [c12, c12_k16, c12_k15, c12_k14, k1, k0, goodB, hk]
  · have k9 : 9 < kd := by omega
    have k0 : ¬ (kd ≤ 9) := by omega
    have k2 : (1 ≤ kd) := by omega
    simp -implicitDefEqProofs [c12, c12_k16, c12_k15, c12_k14, k1, k2, k9, k0, goodB, hk]

theorem s_rGood1 (half size q : Int) (ok tb : Bool) {data ids hs ti to : D} {dl il hl li lo : Nat} (hdl : ∀ σ, lenT σ .slice (.d data) = some dl) (hil : ∀ σ, lenT σ .slice (.d ids) = some il) (hhl : ∀ σ, lenT σ .slice (.d hs) = some hl) (hti : ∀ σ, lenT σ .slice (.d ti) = some li) (hto : ∀ σ, lenT σ .slice (.d to) = some lo) (hb : li ≤ 1000000 ∧ lo ≤ 1000000) (ck : Int) (hck : Dn.Call Γ cx .val 23 [.da [ti, to, .bool tb]] St.empty fun v _ => v = I ck) : Dn.Call Γ cx .val 12 [.da [.int .i64 1, .int .u64 half, .int .i64 size, .int .i64 q, data, .bool ok, ids, hs, ti, to, .bool tb]] St.empty fun v _ => v = B (goodB 1 half size q dl ok il hl li lo tb ck) := by
  refine Dn.Call.body (fc := c12) rfl ?_
  simp -implicitDefEqProofs [c12, c12_k16, c12_k15, c12_k14]
  simp -implicitDefEqProofs [c12_k13, c12_k12]
  by_cases a_s : size = 0
  rotate_left
  · simp -implicitDefEqProofs [c12_k11, c12_k10, goodB, usedB, sizedB, listedB, blankB, a_s]
  subst a_s
  by_cases a_q : q = 0
  rotate_left
  · simp -implicitDefEqProofs [c12_k11, c12_k10, goodB, usedB, sizedB, listedB, blankB, a_q]
  subst a_q
  simp -implicitDefEqProofs [c12_k11, c12_k10]
  by_cases a_d : dl = 0
  rotate_left
  · have b_d : (0 : Int) < dl := by omega
    have c_d : 0 < dl := by omega
    simp -implicitDefEqProofs [c12_k9, c12_k8, hdl, goodB, usedB, sizedB, listedB, blankB, a_d, b_d, c_d]
  subst a_d
  simp -implicitDefEqProofs [c12_k9, c12_k8, hdl]
  by_cases a_o : ok = true
  · simp -implicitDefEqProofs [c12_k7, c12_k6, hil, goodB, usedB, sizedB, listedB, blankB, a_o]
  by_cases a_i : il = 0
  rotate_left
  · have b_i : (0 : Int) < il := by omega
    have c_i : 0 < il := by omega
    simp -implicitDefEqProofs [c12_k7, c12_k6, hil, goodB, usedB, sizedB, listedB, blankB, a_o, a_i, b_i, c_i]
  subst a_i
  simp -implicitDefEqProofs [c12_k7, c12_k6, hil, a_o]
  by_cases a_l : hl = 0
  rotate_left
  · have b_l : (0 : Int) < hl := by omega
    have c_l : 0 < hl := by omega
    simp -implicitDefEqProofs [c12_k5, c12_k4, hhl, goodB, usedB, sizedB, listedB, blankB, a_l, b_l, c_l, a_o]
  subst a_l
  simp -implicitDefEqProofs [c12_k5, c12_k4, hhl]
  by_cases l1 : li = 0
  rotate_left
  · have l2 : ¬ (li = 0 ∧ lo = 0) := by omega
    simp -implicitDefEqProofs [c12_k3, c12_k2, c12_k1, c12_k0, hti, goodB, usedB, sizedB, listedB, blankB, l1, l2, a_o]
  subst l1
  by_cases o1 : lo = 0
  rotate_left
  · simp -implicitDefEqProofs [c12_k3, c12_k2, c12_k1, c12_k0, hti, hto, goodB, usedB, sizedB, listedB, blankB, o1, a_o]
  subst o1
  simp -implicitDefEqProofs [c12_k3, c12_k2, c12_k1, c12_k0, hti, hto, goodB, usedB, sizedB, listedB, blankB, a_o]
theorem s_rGood2 (half size q : Int) (ok tb : Bool) {data ids hs ti to : D} {dl il hl li lo : Nat} (hdl : ∀ σ, lenT σ .slice (.d data) = some dl) (hil : ∀ σ, lenT σ .slice (.d ids) = some il) (hhl : ∀ σ, lenT σ .slice (.d hs) = some hl) (hti : ∀ σ, lenT σ .slice (.d ti) = some li) (hto : ∀ σ, lenT σ .slice (.d to) = some lo) (hb : li ≤ 1000000 ∧ lo ≤ 1000000) (ck : Int) (hck : Dn.Call Γ cx .val 23 [.da [ti, to, .bool tb]] St.empty fun v _ => v = I ck) : Dn.Call Γ cx .val 12 [.da [.int .i64 2, .int .u64 half, .int .i64 size, .int .i64 q, data, .bool ok, ids, hs, ti, to, .bool tb]] St.empty fun v _ => v = B (goodB 2 half size q dl ok il hl li lo tb ck) := by
  refine Dn.Call.body (fc := c12) rfl ?_
  simp -implicitDefEqProofs [c12, c12_k16, c12_k15, c12_k14]
  by_cases a_h : half = 0
  rotate_left
  · simp -implicitDefEqProofs [c12_k13, c12_k12, goodB, usedB, sizedB, listedB, blankB, a_h]
  subst a_h
  simp -implicitDefEqProofs [c12_k13, c12_k12]
  by_cases size1 : size < 0
  · have n1 : ¬ 0 ≤ size := by omega
    simp -implicitDefEqProofs [c12_k11, c12_k10, goodB, usedB, sizedB, listedB, blankB, size1, n1]
  have size2 : 0 ≤ size := by omega
  by_cases size3 : 65535 < size
  · have n1 : ¬ size ≤ 65535 := by omega
    simp -implicitDefEqProofs [c12_k11, c12_k10, goodB, usedB, sizedB, listedB, blankB, size1, size2, size3, n1]
  have size4 : size ≤ 65535 := by omega
  have z1 := size1
  have z2 := size2
  have z3 := size3
  have z4 := size4
  by_cases q1 : q < 0
  · have n1 : ¬ 0 ≤ q := by omega
    simp -implicitDefEqProofs [c12_k11, c12_k10, goodB, usedB, sizedB, listedB, blankB, q1, n1, z1, z2, z3, z4]
  have q2 : 0 ≤ q := by omega
  by_cases q3 : 65535 < q
  · have n1 : ¬ q ≤ 65535 := by omega
    simp -implicitDefEqProofs [c12_k11, c12_k10, goodB, usedB, sizedB, listedB, blankB, q1, q2, q3, n1, z1, z2, z3, z4]
  have q4 : q ≤ 65535 := by omega
  simp -implicitDefEqProofs [c12_k11, c12_k10, z1, z2, z3, z4, q1, q2, q3, q4]
  by_cases a_d : dl = 0
  rotate_left
  · have b_d : (0 : Int) < dl := by omega
    have c_d : 0 < dl := by omega
    simp -implicitDefEqProofs [c12_k9, c12_k8, hdl, goodB, usedB, sizedB, listedB, blankB, a_d, b_d, c_d, z2, z4, q2, q4]
  subst a_d
  simp -implicitDefEqProofs [c12_k9, c12_k8, hdl]
  by_cases a_o : ok = true
  · simp -implicitDefEqProofs [c12_k7, c12_k6, hil, goodB, usedB, sizedB, listedB, blankB, a_o, z2, z4, q2, q4]
  by_cases a_i : il = 0
  rotate_left
  · have b_i : (0 : Int) < il := by omega
    have c_i : 0 < il := by omega
    simp -implicitDefEqProofs [c12_k7, c12_k6, hil, goodB, usedB, sizedB, listedB, blankB, a_o, a_i, b_i, c_i, z2, z4, q2, q4]
  subst a_i
  simp -implicitDefEqProofs [c12_k7, c12_k6, hil, a_o]
  by_cases a_l : hl = 0
  rotate_left
  · have b_l : (0 : Int) < hl := by omega
    have c_l : 0 < hl := by omega
    simp -implicitDefEqProofs [c12_k5, c12_k4, hhl, goodB, usedB, sizedB, listedB, blankB, a_l, b_l, c_l, z2, z4, q2, q4, a_o]
  subst a_l
  simp -implicitDefEqProofs [c12_k5, c12_k4, hhl]
  by_cases l1 : li = 0
  rotate_left
  · have l2 : ¬ (li = 0 ∧ lo = 0) := by omega
    simp -implicitDefEqProofs [c12_k3, c12_k2, c12_k1, c12_k0, hti, goodB, usedB, sizedB, listedB, blankB, l1, l2, z2, z4, q2, q4, a_o]
  subst l1
  by_cases o1 : lo = 0
  rotate_left
  · simp -implicitDefEqProofs [c12_k3, c12_k2, c12_k1, c12_k0, hti, hto, goodB, usedB, sizedB, listedB, blankB, o1, z2, z4, q2, q4, a_o]
  subst o1
  simp -implicitDefEqProofs [c12_k3, c12_k2, c12_k1, c12_k0, hti, hto, goodB, usedB, sizedB, listedB, blankB, z2, z4, q2, q4, a_o]
theorem s_rGood3 (half size q : Int) (ok tb : Bool) {data ids hs ti to : D} {dl il hl li lo : Nat} (hdl : ∀ σ, lenT σ .slice (.d data) = some dl) (hil : ∀ σ, lenT σ .slice (.d ids) = some il) (hhl : ∀ σ, lenT σ .slice (.d hs) = some hl) (hti : ∀ σ, lenT σ .slice (.d ti) = some li) (hto : ∀ σ, lenT σ .slice (.d to) = some lo) (hb : li ≤ 1000000 ∧ lo ≤ 1000000) (ck : Int) (hck : Dn.Call Γ cx .val 23 [.da [ti, to, .bool tb]] St.empty fun v _ => v = I ck) : Dn.Call Γ cx .val 12 [.da [.int .i64 3, .int .u64 half, .int .i64 size, .int .i64 q, data, .bool ok, ids, hs, ti, to, .bool tb]] St.empty fun v _ => v = B (goodB 3 half size q dl ok il hl li lo tb ck) := by
  refine Dn.Call.body (fc := c12) rfl ?_
  simp -implicitDefEqProofs [c12, c12_k16, c12_k15, c12_k14]
  by_cases a_h : half = 0
  rotate_left
  · simp -implicitDefEqProofs [c12_k13, c12_k12, goodB, usedB, sizedB, listedB, blankB, a_h]
  subst a_h
  simp -implicitDefEqProofs [c12_k13, c12_k12]
  by_cases a_s : size = 0
  rotate_left
  · simp -implicitDefEqProofs [c12_k11, c12_k10, goodB, usedB, sizedB, listedB, blankB, a_s]
  subst a_s
  by_cases a_q : q = 0
  rotate_left
  · simp -implicitDefEqProofs [c12_k11, c12_k10, goodB, usedB, sizedB, listedB, blankB, a_q]
  subst a_q
  simp -implicitDefEqProofs [c12_k11, c12_k10]
  by_cases a_d : dl ≤ 160
  rotate_left
  · have b_d : (160 : Int) < dl := by omega
    have c_d : ¬ (dl : Int) ≤ 160 := by omega
    simp -implicitDefEqProofs [c12_k9, c12_k8, hdl, goodB, usedB, sizedB, listedB, blankB, a_d, b_d, c_d]
  have b_d : ¬ (160 : Int) < dl := by omega
  have c_d : (dl : Int) ≤ 160 := by omega
  simp -implicitDefEqProofs [c12_k9, c12_k8, hdl, b_d, c_d]
  by_cases a_o : ok = true
  · simp -implicitDefEqProofs [c12_k7, c12_k6, hil, goodB, usedB, sizedB, listedB, blankB, a_o, a_d]
  by_cases a_i : il = 0
  rotate_left
  · have b_i : (0 : Int) < il := by omega
    have c_i : 0 < il := by omega
    simp -implicitDefEqProofs [c12_k7, c12_k6, hil, goodB, usedB, sizedB, listedB, blankB, a_o, a_i, b_i, c_i, a_d]
  subst a_i
  simp -implicitDefEqProofs [c12_k7, c12_k6, hil, a_o]
  by_cases a_l : hl = 0
  rotate_left
  · have b_l : (0 : Int) < hl := by omega
    have c_l : 0 < hl := by omega
    simp -implicitDefEqProofs [c12_k5, c12_k4, hhl, goodB, usedB, sizedB, listedB, blankB, a_l, b_l, c_l, a_d, a_o]
  subst a_l
  simp -implicitDefEqProofs [c12_k5, c12_k4, hhl]
  by_cases l1 : li = 0
  rotate_left
  · have l2 : ¬ (li = 0 ∧ lo = 0) := by omega
    simp -implicitDefEqProofs [c12_k3, c12_k2, c12_k1, c12_k0, hti, goodB, usedB, sizedB, listedB, blankB, l1, l2, a_d, a_o]
  subst l1
  by_cases o1 : lo = 0
  rotate_left
  · simp -implicitDefEqProofs [c12_k3, c12_k2, c12_k1, c12_k0, hti, hto, goodB, usedB, sizedB, listedB, blankB, o1, a_d, a_o]
  subst o1
  simp -implicitDefEqProofs [c12_k3, c12_k2, c12_k1, c12_k0, hti, hto, goodB, usedB, sizedB, listedB, blankB, a_d, a_o]
theorem s_rGood4 (half size q : Int) (ok tb : Bool) {data ids hs ti to : D} {dl il hl li lo : Nat} (hdl : ∀ σ, lenT σ .slice (.d data) = some dl) (hil : ∀ σ, lenT σ .slice (.d ids) = some il) (hhl : ∀ σ, lenT σ .slice (.d hs) = some hl) (hti : ∀ σ, lenT σ .slice (.d ti) = some li) (hto : ∀ σ, lenT σ .slice (.d to) = some lo) (hb : li ≤ 1000000 ∧ lo ≤ 1000000) (ck : Int) (hck : Dn.Call Γ cx .val 23 [.da [ti, to, .bool tb]] St.empty fun v _ => v = I ck) : Dn.Call Γ cx .val 12 [.da [.int .i64 4, .int .u64 half, .int .i64 size, .int .i64 q, data, .bool ok, ids, hs, ti, to, .bool tb]] St.empty fun v _ => v = B (goodB 4 half size q dl ok il hl li lo tb ck) := by
  refine Dn.Call.body (fc := c12) rfl ?_
  simp -implicitDefEqProofs [c12, c12_k16, c12_k15, c12_k14]
  by_cases a_h : half = 0
  rotate_left
  · simp -implicitDefEqProofs [c12_k13, c12_k12, goodB, usedB, sizedB, listedB, blankB, a_h]
  subst a_h
  simp -implicitDefEqProofs [c12_k13, c12_k12]
  by_cases a_s : size = 0
  rotate_left
  · simp -implicitDefEqProofs [c12_k11, c12_k10, goodB, usedB, sizedB, listedB, blankB, a_s]
  subst a_s
  by_cases a_q : q = 0
  rotate_left
  · simp -implicitDefEqProofs [c12_k11, c12_k10, goodB, usedB, sizedB, listedB, blankB, a_q]
  subst a_q
  simp -implicitDefEqProofs [c12_k11, c12_k10]
  by_cases a_d : dl = 0
  rotate_left
  · have b_d : (0 : Int) < dl := by omega
    have c_d : 0 < dl := by omega
    simp -implicitDefEqProofs [c12_k9, c12_k8, hdl, goodB, usedB, sizedB, listedB, blankB, a_d, b_d, c_d]
  subst a_d
  simp -implicitDefEqProofs [c12_k9, c12_k8, hdl]
  by_cases a_o : ok = true
  · simp -implicitDefEqProofs [c12_k7, c12_k6, hil, goodB, usedB, sizedB, listedB, blankB, a_o]
  by_cases a_i : il = 0
  rotate_left
  · have b_i : (0 : Int) < il := by omega
    have c_i : 0 < il := by omega
    simp -implicitDefEqProofs [c12_k7, c12_k6, hil, goodB, usedB, sizedB, listedB, blankB, a_o, a_i, b_i, c_i]
  subst a_i
  simp -implicitDefEqProofs [c12_k7, c12_k6, hil, a_o]
  by_cases a_l : hl = 0
  rotate_left
  · have b_l : (0 : Int) < hl := by omega
    have c_l : 0 < hl := by omega
    simp -implicitDefEqProofs [c12_k5, c12_k4, hhl, goodB, usedB, sizedB, listedB, blankB, a_l, b_l, c_l, a_o]
  subst a_l
  simp -implicitDefEqProofs [c12_k5, c12_k4, hhl]
  by_cases l1 : li = 0
  rotate_left
  · have l2 : ¬ (li = 0 ∧ lo = 0) := by omega
    simp -implicitDefEqProofs [c12_k3, c12_k2, c12_k1, c12_k0, hti, goodB, usedB, sizedB, listedB, blankB, l1, l2, a_o]
  subst l1
  by_cases o1 : lo = 0
  rotate_left
  · simp -implicitDefEqProofs [c12_k3, c12_k2, c12_k1, c12_k0, hti, hto, goodB, usedB, sizedB, listedB, blankB, o1, a_o]
  subst o1
  simp -implicitDefEqProofs [c12_k3, c12_k2, c12_k1, c12_k0, hti, hto, goodB, usedB, sizedB, listedB, blankB, a_o]
theorem s_rGood5 (half size q : Int) (ok tb : Bool) {data ids hs ti to : D} {dl il hl li lo : Nat} (hdl : ∀ σ, lenT σ .slice (.d data) = some dl) (hil : ∀ σ, lenT σ .slice (.d ids) = some il) (hhl : ∀ σ, lenT σ .slice (.d hs) = some hl) (hti : ∀ σ, lenT σ .slice (.d ti) = some li) (hto : ∀ σ, lenT σ .slice (.d to) = some lo) (hb : li ≤ 1000000 ∧ lo ≤ 1000000) (ck : Int) (hck : Dn.Call Γ cx .val 23 [.da [ti, to, .bool tb]] St.empty fun v _ => v = I ck) : Dn.Call Γ cx .val 12 [.da [.int .i64 5, .int .u64 half, .int .i64 size, .int .i64 q, data, .bool ok, ids, hs, ti, to, .bool tb]] St.empty fun v _ => v = B (goodB 5 half size q dl ok il hl li lo tb ck) := by
  refine Dn.Call.body (fc := c12) rfl ?_
  simp -implicitDefEqProofs [c12, c12_k16, c12_k15, c12_k14]
  by_cases a_h : half = 0
  rotate_left
  · simp -implicitDefEqProofs [c12_k13, c12_k12, goodB, usedB, sizedB, listedB, blankB, a_h]
  subst a_h
  simp -implicitDefEqProofs [c12_k13, c12_k12]
  by_cases a_s : size = 0
  rotate_left
  · simp -implicitDefEqProofs [c12_k11, c12_k10, goodB, usedB, sizedB, listedB, blankB, a_s]
  subst a_s
  by_cases a_q : q = 0
  rotate_left
  · simp -implicitDefEqProofs [c12_k11, c12_k10, goodB, usedB, sizedB, listedB, blankB, a_q]
  subst a_q
  simp -implicitDefEqProofs [c12_k11, c12_k10]
  by_cases a_d : dl = 0
  rotate_left
  · have b_d : (0 : Int) < dl := by omega
    have c_d : 0 < dl := by omega
    simp -implicitDefEqProofs [c12_k9, c12_k8, hdl, goodB, usedB, sizedB, listedB, blankB, a_d, b_d, c_d]
  subst a_d
  simp -implicitDefEqProofs [c12_k9, c12_k8, hdl]
  by_cases a_i : il ≤ 100
  rotate_left
  · have b_i : (100 : Int) < il := by omega
    have c_i : ¬ (il : Int) ≤ 100 := by omega
    simp -implicitDefEqProofs [c12_k7, c12_k6, hil, goodB, usedB, sizedB, listedB, blankB, a_i, b_i, c_i]
  have b_i : ¬ (100 : Int) < il := by omega
  have c_i : (il : Int) ≤ 100 := by omega
  simp -implicitDefEqProofs [c12_k7, c12_k6, hil, b_i, c_i]
  by_cases a_l : hl = 0
  rotate_left
  · have b_l : (0 : Int) < hl := by omega
    have c_l : 0 < hl := by omega
    simp -implicitDefEqProofs [c12_k5, c12_k4, hhl, goodB, usedB, sizedB, listedB, blankB, a_l, b_l, c_l, a_i]
  subst a_l
  simp -implicitDefEqProofs [c12_k5, c12_k4, hhl]
  by_cases l1 : li = 0
  rotate_left
  · have l2 : ¬ (li = 0 ∧ lo = 0) := by omega
    simp -implicitDefEqProofs [c12_k3, c12_k2, c12_k1, c12_k0, hti, goodB, usedB, sizedB, listedB, blankB, l1, l2, a_i]
  subst l1
  by_cases o1 : lo = 0
  rotate_left
  · simp -implicitDefEqProofs [c12_k3, c12_k2, c12_k1, c12_k0, hti, hto, goodB, usedB, sizedB, listedB, blankB, o1, a_i]
  subst o1
  simp -implicitDefEqProofs [c12_k3, c12_k2, c12_k1, c12_k0, hti, hto, goodB, usedB, sizedB, listedB, blankB, a_i]
theorem s_rGood6 (half size q : Int) (ok tb : Bool) {data ids hs ti to : D} {dl il hl li lo : Nat} (hdl : ∀ σ, lenT σ .slice (.d data) = some dl) (hil : ∀ σ, lenT σ .slice (.d ids) = some il) (hhl : ∀ σ, lenT σ .slice (.d hs) = some hl) (hti : ∀ σ, lenT σ .slice (.d ti) = some li) (hto : ∀ σ, lenT σ .slice (.d to) = some lo) (hb : li ≤ 1000000 ∧ lo ≤ 1000000) (ck : Int) (hck : Dn.Call Γ cx .val 23 [.da [ti, to, .bool tb]] St.empty fun v _ => v = I ck) : Dn.Call Γ cx .val 12 [.da [.int .i64 6, .int .u64 half, .int .i64 size, .int .i64 q, data, .bool ok, ids, hs, ti, to, .bool tb]] St.empty fun v _ => v = B (goodB 6 half size q dl ok il hl li lo tb ck) := by
  refine Dn.Call.body (fc := c12) rfl ?_
  simp -implicitDefEqProofs [c12, c12_k16, c12_k15, c12_k14]
  by_cases a_h : half = 0
  rotate_left
  · simp -implicitDefEqProofs [c12_k13, c12_k12, goodB, usedB, sizedB, listedB, blankB, a_h]
  subst a_h
  simp -implicitDefEqProofs [c12_k13, c12_k12]
  by_cases a_s : size = 0
  rotate_left
  · simp -implicitDefEqProofs [c12_k11, c12_k10, goodB, usedB, sizedB, listedB, blankB, a_s]
  subst a_s
  by_cases a_q : q = 0
  rotate_left
  · simp -implicitDefEqProofs [c12_k11, c12_k10, goodB, usedB, sizedB, listedB, blankB, a_q]
  subst a_q
  simp -implicitDefEqProofs [c12_k11, c12_k10]
  by_cases a_d : dl = 0
  rotate_left
  · have b_d : (0 : Int) < dl := by omega
    have c_d : 0 < dl := by omega
    simp -implicitDefEqProofs [c12_k9, c12_k8, hdl, goodB, usedB, sizedB, listedB, blankB, a_d, b_d, c_d]
  subst a_d
  simp -implicitDefEqProofs [c12_k9, c12_k8, hdl]
  by_cases a_o : ok = true
  · simp -implicitDefEqProofs [c12_k7, c12_k6, hil, goodB, usedB, sizedB, listedB, blankB, a_o]
  by_cases a_i : il = 0
  rotate_left
  · have b_i : (0 : Int) < il := by omega
    have c_i : 0 < il := by omega
    simp -implicitDefEqProofs [c12_k7, c12_k6, hil, goodB, usedB, sizedB, listedB, blankB, a_o, a_i, b_i, c_i]
  subst a_i
  simp -implicitDefEqProofs [c12_k7, c12_k6, hil, a_o]
  by_cases a_l : hl ≤ 100
  rotate_left
  · have b_l : (100 : Int) < hl := by omega
    have c_l : ¬ (hl : Int) ≤ 100 := by omega
    simp -implicitDefEqProofs [c12_k5, c12_k4, hhl, goodB, usedB, sizedB, listedB, blankB, a_l, b_l, c_l, a_o]
  have b_l : ¬ (100 : Int) < hl := by omega
  have c_l : (hl : Int) ≤ 100 := by omega
  simp -implicitDefEqProofs [c12_k5, c12_k4, hhl, b_l, c_l]
  by_cases l1 : li = 0
  rotate_left
  · have l2 : ¬ (li = 0 ∧ lo = 0) := by omega
    simp -implicitDefEqProofs [c12_k3, c12_k2, c12_k1, c12_k0, hti, goodB, usedB, sizedB, listedB, blankB, l1, l2, a_o, a_l]
  subst l1
  by_cases o1 : lo = 0
  rotate_left
  · simp -implicitDefEqProofs [c12_k3, c12_k2, c12_k1, c12_k0, hti, hto, goodB, usedB, sizedB, listedB, blankB, o1, a_o, a_l]
  subst o1
  simp -implicitDefEqProofs [c12_k3, c12_k2, c12_k1, c12_k0, hti, hto, goodB, usedB, sizedB, listedB, blankB, a_o, a_l]
theorem s_rGood7 (half size q : Int) (ok tb : Bool) {data ids hs ti to : D} {dl il hl li lo : Nat} (hdl : ∀ σ, lenT σ .slice (.d data) = some dl) (hil : ∀ σ, lenT σ .slice (.d ids) = some il) (hhl : ∀ σ, lenT σ .slice (.d hs) = some hl) (hti : ∀ σ, lenT σ .slice (.d ti) = some li) (hto : ∀ σ, lenT σ .slice (.d to) = some lo) (hb : li ≤ 1000000 ∧ lo ≤ 1000000) (ck : Int) (hck : Dn.Call Γ cx .val 23 [.da [ti, to, .bool tb]] St.empty fun v _ => v = I ck) : Dn.Call Γ cx .val 12 [.da [.int .i64 7, .int .u64 half, .int .i64 size, .int .i64 q, data, .bool ok, ids, hs, ti, to, .bool tb]] St.empty fun v _ => v = B (goodB 7 half size q dl ok il hl li lo tb ck) := by
  refine Dn.Call.body (fc := c12) rfl ?_
  simp -implicitDefEqProofs [c12, c12_k16, c12_k15, c12_k14]
  by_cases a_h : half = 0
  rotate_left
  · simp -implicitDefEqProofs [c12_k13, c12_k12, goodB, usedB, sizedB, listedB, blankB, a_h]
  subst a_h
  simp -implicitDefEqProofs [c12_k13, c12_k12]
  by_cases a_s : size = 0
  rotate_left
  · simp -implicitDefEqProofs [c12_k11, c12_k10, goodB, usedB, sizedB, listedB, blankB, a_s]
  subst a_s
  by_cases a_q : q = 0
  rotate_left
  · simp -implicitDefEqProofs [c12_k11, c12_k10, goodB, usedB, sizedB, listedB, blankB, a_q]
  subst a_q
  simp -implicitDefEqProofs [c12_k11, c12_k10]
  by_cases a_d : dl = 0
  rotate_left
  · have b_d : (0 : Int) < dl := by omega
    have c_d : 0 < dl := by omega
    simp -implicitDefEqProofs [c12_k9, c12_k8, hdl, goodB, usedB, sizedB, listedB, blankB, a_d, b_d, c_d]
  subst a_d
  simp -implicitDefEqProofs [c12_k9, c12_k8, hdl]
  by_cases a_o : ok = true
  · simp -implicitDefEqProofs [c12_k7, c12_k6, hil, goodB, usedB, sizedB, listedB, blankB, a_o]
  by_cases a_i : il = 0
  rotate_left
  · have b_i : (0 : Int) < il := by omega
    have c_i : 0 < il := by omega
    simp -implicitDefEqProofs [c12_k7, c12_k6, hil, goodB, usedB, sizedB, listedB, blankB, a_o, a_i, b_i, c_i]
  subst a_i
  simp -implicitDefEqProofs [c12_k7, c12_k6, hil, a_o]
  by_cases a_l : hl ≤ 100
  rotate_left
  · have b_l : (100 : Int) < hl := by omega
    have c_l : ¬ (hl : Int) ≤ 100 := by omega
    simp -implicitDefEqProofs [c12_k5, c12_k4, hhl, goodB, usedB, sizedB, listedB, blankB, a_l, b_l, c_l, a_o]
  have b_l : ¬ (100 : Int) < hl := by omega
  have c_l : (hl : Int) ≤ 100 := by omega
  simp -implicitDefEqProofs [c12_k5, c12_k4, hhl, b_l, c_l]
  by_cases l1 : li = 0
  rotate_left
  · have l2 : ¬ (li = 0 ∧ lo = 0) := by omega
    simp -implicitDefEqProofs [c12_k3, c12_k2, c12_k1, c12_k0, hti, goodB, usedB, sizedB, listedB, blankB, l1, l2, a_o, a_l]
  subst l1
  by_cases o1 : lo = 0
  rotate_left
  · simp -implicitDefEqProofs [c12_k3, c12_k2, c12_k1, c12_k0, hti, hto, goodB, usedB, sizedB, listedB, blankB, o1, a_o, a_l]
  subst o1
  simp -implicitDefEqProofs [c12_k3, c12_k2, c12_k1, c12_k0, hti, hto, goodB, usedB, sizedB, listedB, blankB, a_o, a_l]
theorem s_rGood8 (half size q : Int) (ok tb : Bool) {data ids hs ti to : D} {dl il hl li lo : Nat} (hdl : ∀ σ, lenT σ .slice (.d data) = some dl) (hil : ∀ σ, lenT σ .slice (.d ids) = some il) (hhl : ∀ σ, lenT σ .slice (.d hs) = some hl) (hti : ∀ σ, lenT σ .slice (.d ti) = some li) (hto : ∀ σ, lenT σ .slice (.d to) = some lo) (hb : li ≤ 1000000 ∧ lo ≤ 1000000) (ck : Int) (hck : Dn.Call Γ cx .val 23 [.da [ti, to, .bool tb]] St.empty fun v _ => v = I ck) : Dn.Call Γ cx .val 12 [.da [.int .i64 8, .int .u64 half, .int .i64 size, .int .i64 q, data, .bool ok, ids, hs, ti, to, .bool tb]] St.empty fun v _ => v = B (goodB 8 half size q dl ok il hl li lo tb ck) := by
  refine Dn.Call.body (fc := c12) rfl ?_
  simp -implicitDefEqProofs [c12, c12_k16, c12_k15, c12_k14]
  by_cases a_h : half = 0
  rotate_left
  · simp -implicitDefEqProofs [c12_k13, c12_k12, goodB, usedB, sizedB, listedB, blankB, a_h]
  subst a_h
  simp -implicitDefEqProofs [c12_k13, c12_k12]
  by_cases a_s : size = 0
  rotate_left
  · simp -implicitDefEqProofs [c12_k11, c12_k10, goodB, usedB, sizedB, listedB, blankB, a_s]
  subst a_s
  by_cases a_q : q = 0
  rotate_left
  · simp -implicitDefEqProofs [c12_k11, c12_k10, goodB, usedB, sizedB, listedB, blankB, a_q]
  subst a_q
  simp -implicitDefEqProofs [c12_k11, c12_k10]
  by_cases a_d : dl = 0
  rotate_left
  · have b_d : (0 : Int) < dl := by omega
    have c_d : 0 < dl := by omega
    simp -implicitDefEqProofs [c12_k9, c12_k8, hdl, goodB, usedB, sizedB, listedB, blankB, a_d, b_d, c_d]
  subst a_d
  simp -implicitDefEqProofs [c12_k9, c12_k8, hdl]
  by_cases a_o : ok = true
  · simp -implicitDefEqProofs [c12_k7, c12_k6, hil, goodB, usedB, sizedB, listedB, blankB, a_o]
  by_cases a_i : il = 0
  rotate_left
  · have b_i : (0 : Int) < il := by omega
    have c_i : 0 < il := by omega
    simp -implicitDefEqProofs [c12_k7, c12_k6, hil, goodB, usedB, sizedB, listedB, blankB, a_o, a_i, b_i, c_i]
  subst a_i
  simp -implicitDefEqProofs [c12_k7, c12_k6, hil, a_o]
  by_cases a_l : hl = 0
  rotate_left
  · have b_l : (0 : Int) < hl := by omega
    have c_l : 0 < hl := by omega
    simp -implicitDefEqProofs [c12_k5, c12_k4, hhl, goodB, usedB, sizedB, listedB, blankB, a_l, b_l, c_l, a_o]
  subst a_l
  simp -implicitDefEqProofs [c12_k5, c12_k4, hhl]
  simp -implicitDefEqProofs [c12_k3, c12_k2, c12_k1, c12_k0, mkAgg, ofD]
  refine use_fn rfl hck rfl ?_
  simp -implicitDefEqProofs [goodB, usedB, sizedB, listedB, blankB, a_o]
theorem s_rGood9 (half size q : Int) (ok tb : Bool) {data ids hs ti to : D} {dl il hl li lo : Nat} (hdl : ∀ σ, lenT σ .slice (.d data) = some dl) (hil : ∀ σ, lenT σ .slice (.d ids) = some il) (hhl : ∀ σ, lenT σ .slice (.d hs) = some hl) (hti : ∀ σ, lenT σ .slice (.d ti) = some li) (hto : ∀ σ, lenT σ .slice (.d to) = some lo) (hb : li ≤ 1000000 ∧ lo ≤ 1000000) (ck : Int) (hck : Dn.Call Γ cx .val 23 [.da [ti, to, .bool tb]] St.empty fun v _ => v = I ck) : Dn.Call Γ cx .val 12 [.da [.int .i64 9, .int .u64 half, .int .i64 size, .int .i64 q, data, .bool ok, ids, hs, ti, to, .bool tb]] St.empty fun v _ => v = B (goodB 9 half size q dl ok il hl li lo tb ck) := by
  refine Dn.Call.body (fc := c12) rfl ?_
  simp -implicitDefEqProofs [c12, c12_k16, c12_k15, c12_k14]
  by_cases a_h : half = 0
  rotate_left
  · simp -implicitDefEqProofs [c12_k13, c12_k12, goodB, usedB, sizedB, listedB, blankB, a_h]
  subst a_h
  simp -implicitDefEqProofs [c12_k13, c12_k12]
  by_cases a_s : size = 0
  rotate_left
  · simp -implicitDefEqProofs [c12_k11, c12_k10, goodB, usedB, sizedB, listedB, blankB, a_s]
  subst a_s
  by_cases a_q : q = 0
  rotate_left
  · simp -implicitDefEqProofs [c12_k11, c12_k10, goodB, usedB, sizedB, listedB, blankB, a_q]
  subst a_q
  simp -implicitDefEqProofs [c12_k11, c12_k10]
  by_cases a_d : dl = 0
  rotate_left
  · have b_d : (0 : Int) < dl := by omega
    have c_d : 0 < dl := by omega
    simp -implicitDefEqProofs [c12_k9, c12_k8, hdl, goodB, usedB, sizedB, listedB, blankB, a_d, b_d, c_d]
  subst a_d
  simp -implicitDefEqProofs [c12_k9, c12_k8, hdl]
  by_cases a_o : ok = true
  · simp -implicitDefEqProofs [c12_k7, c12_k6, hil, goodB, usedB, sizedB, listedB, blankB, a_o]
  by_cases a_i : il = 0
  rotate_left
  · have b_i : (0 : Int) < il := by omega
    have c_i : 0 < il := by omega
    simp -implicitDefEqProofs [c12_k7, c12_k6, hil, goodB, usedB, sizedB, listedB, blankB, a_o, a_i, b_i, c_i]
  subst a_i
  simp -implicitDefEqProofs [c12_k7, c12_k6, hil, a_o]
  by_cases a_l : hl ≤ 100
  rotate_left
  · have b_l : (100 : Int) < hl := by omega
    have c_l : ¬ (hl : Int) ≤ 100 := by omega
    simp -implicitDefEqProofs [c12_k5, c12_k4, hhl, goodB, usedB, sizedB, listedB, blankB, a_l, b_l, c_l, a_o]
  have b_l : ¬ (100 : Int) < hl := by omega
  have c_l : (hl : Int) ≤ 100 := by omega
  simp -implicitDefEqProofs [c12_k5, c12_k4, hhl, b_l, c_l]
  by_cases l1 : li = 0
  rotate_left
  · have l2 : ¬ (li = 0 ∧ lo = 0) := by omega
    simp -implicitDefEqProofs [c12_k3, c12_k2, c12_k1, c12_k0, hti, goodB, usedB, sizedB, listedB, blankB, l1, l2, a_o, a_l]
  subst l1
  by_cases o1 : lo = 0
  rotate_left
  · simp -implicitDefEqProofs [c12_k3, c12_k2, c12_k1, c12_k0, hti, hto, goodB, usedB, sizedB, listedB, blankB, o1, a_o, a_l]
  subst o1
  simp -implicitDefEqProofs [c12_k3, c12_k2, c12_k1, c12_k0, hti, hto, goodB, usedB, sizedB, listedB, blankB, a_o, a_l]
theorem s_rGood (kd : Int) (half size q : Int) (ok tb : Bool) {data ids hs ti to : D} {dl il hl li lo : Nat} (hdl : ∀ σ, lenT σ .slice (.d data) = some dl) (hil : ∀ σ, lenT σ .slice (.d ids) = some il) (hhl : ∀ σ, lenT σ .slice (.d hs) = some hl) (hti : ∀ σ, lenT σ .slice (.d ti) = some li) (hto : ∀ σ, lenT σ .slice (.d to) = some lo) (hb : li ≤ 1000000 ∧ lo ≤ 1000000) (ck : Int) (hck : Dn.Call Γ cx .val 23 [.da [ti, to, .bool tb]] St.empty fun v _ => v = I ck) : Dn.Call Γ cx .val 12 [.da [.int .i64 kd, .int .u64 half, .int .i64 size, .int .i64 q, data, .bool ok, ids, hs, ti, to, .bool tb]] St.empty fun v _ => v = B (goodB kd half size q dl ok il hl li lo tb ck) := by
  by_cases hk : 1 ≤ kd ∧ kd ≤ 9
  rotate_left
  · exact s_rGood0 kd half size q ok tb hdl hil hhl hti hto hb ck hk
  have hcase : kd = 1 ∨ kd = 2 ∨ kd = 3 ∨ kd = 4 ∨ kd = 5 ∨ kd = 6 ∨ kd = 7 ∨ kd = 8 ∨ kd = 9 := by omega
  rcases hcase with rfl | rfl | rfl | rfl | rfl | rfl | rfl | rfl | rfl
  · exact s_rGood1 half size q ok tb hdl hil hhl hti hto hb ck hck
  · exact s_rGood2 half size q ok tb hdl hil hhl hti hto hb ck hck
  · exact s_rGood3 half size q ok tb hdl hil hhl hti hto hb ck hck
  · exact s_rGood4 half size q ok tb hdl hil hhl hti hto hb ck hck
  · exact s_rGood5 half size q ok tb hdl hil hhl hti hto hb ck hck
  · exact s_rGood6 half size q ok tb hdl hil hhl hti hto hb ck hck
  · exact s_rGood7 half size q ok tb hdl hil hhl hti hto hb ck hck
  · exact s_rGood8 half size q ok tb hdl hil hhl hti hto hb ck hck
  · exact s_rGood9 half size q ok tb hdl hil hhl hti hto hb ck hck


/-! ### what a message holds, and its body -/
structure MX where
  t : MT
  data : List UInt8
  ids : List Int
  hs : List (List UInt8)
def uRows (l : List Int) : List (List D) := l.map fun n => [.int .u32 n]
structure MX.Ok (x : MX) : Prop where
  d : LV (.d x.t.m.data) (byteRows x.data)
  i : LV (.d x.t.m.ids) (uRows x.ids)
  h : LV (.d x.t.m.hs) (hRows x.hs)
  ti : LV (.d x.t.m.ti) (spRows x.t.ins)
  to : LV (.d x.t.m.to) (coRows x.t.outs)
  bi : ∀ n ∈ x.ids, 0 ≤ n ∧ n ≤ 4294967295
  bh : H32 x.hs
  half : 0 ≤ x.t.m.half ∧ x.t.m.half ≤ 18446744073709551615
structure MX.Small (x : MX) : Prop where
  d : x.data.length ≤ 160
  i : x.ids.length ≤ 100
  h : x.hs.length ≤ 100
  li : x.t.ins.length ≤ 30
  lo : x.t.outs.length ≤ 30
  oi : ∀ s ∈ x.t.ins, s.Ok
  oo : ∀ c ∈ x.t.outs, c.Ok
def bodyS (x : MX) : List UInt8 :=
  if x.t.m.kind = 1 then low x.t.m.half 8
  else if x.t.m.kind = 2 then low (u64 x.t.m.size) 2 ++ low (u64 x.t.m.q) 2
  else if x.t.m.kind = 3 then countB x.data.length ++ x.data
  else if x.t.m.kind = 4 then []
  else if x.t.m.kind = 5 then [if x.t.m.ok then 1 else 0] ++ countB x.ids.length ++ x.ids.flatMap (fun n => low n 4)
  else if x.t.m.kind = 8 then txB true x.t.ins x.t.outs x.t.m.tb
  else countB x.hs.length ++ x.hs.flatten

def mCells (m : MG) : List V := [.d (.int .i64 m.kind), .d (.int .u64 m.half), .d (.int .i64 m.size), .d (.int .i64 m.q), .d m.data, .d (.bool m.ok), .d m.ids, .d m.hs, .d m.ti, .d m.to, .d (.bool m.tb)]

/-- What the pointer to what was put comes to, in the end. -/
theorem out_bytes {σ : St} {v : V} {l : List UInt8} (h : OutAt σ 1 l v) : ∃ d, dv v = .d d ∧ LV (.d d) (byteRows l) := by
  obtain ⟨d1, d2, ⟨y, dx⟩, -, -⟩ := h.app.lv.dv σ
  rw [dx] at d2
  exact ⟨y, dx, d2⟩

abbrev WB : St → Prop := fun _ => True
theorem s_body1 {x : MX} (h : x.Ok) (hs : x.Small) (hk : x.t.m.kind = 1) : Dn.Call Γ cx .val 58 [.da x.t.m.row] St.empty fun v _ => ∃ d, v = .d d ∧ LV (.d d) (byteRows (bodyS x)) := by
  refine Dn.Call.body (fc := c58) rfl ?_
  have h00 : OutAt ⟨[.cells (mCells x.t.m), .cells [.d .nils]], []⟩ 1 [] (.d .nils) := ⟨rfl, .nil⟩
  unfold mCells at h00
  rw [hk] at h00
  have hb : bodyS x = low x.t.m.half 8 := by simp only [bodyS, hk, if_true]
  rw [hb]
  simp -implicitDefEqProofs [c58, MG.row, hk, c58_k35, c58_k34, c58_k33, c58_k32, c58_k31, mkAgg, ofD]
  refine use_raw (s_Num h00 (by simp) x.t.m.half 8) fun w σ ⟨v, hp⟩ => ?_
  obtain ⟨d, dv1, dl⟩ := out_bytes hp.out
  simp -implicitDefEqProofs [c58_k0]
  refine use_rd (s_Bytes hp.out (by have := numB_len x.t.m.half 8; simp; omega)) ?_
  rw [dv1]
  simp -implicitDefEqProofs
  exact dl

theorem s_body2 {x : MX} (h : x.Ok) (hs : x.Small) (hk : x.t.m.kind = 2) : Dn.Call Γ cx .val 58 [.da x.t.m.row] St.empty fun v _ => ∃ d, v = .d d ∧ LV (.d d) (byteRows (bodyS x)) := by
  refine Dn.Call.body (fc := c58) rfl ?_
  have h00 : OutAt ⟨[.cells (mCells x.t.m), .cells [.d .nils]], []⟩ 1 [] (.d .nils) := ⟨rfl, .nil⟩
  have hl0 : (⟨[.cells (mCells x.t.m), .cells [.d .nils]], []⟩ : St).objs[0]? = some (.cells (mCells x.t.m)) := rfl
  have hq : (mCells x.t.m)[3]? = some (.d (.int .i64 x.t.m.q)) := rfl
  have hb : bodyS x = low (u64 x.t.m.size) 2 ++ low (u64 x.t.m.q) 2 := by simp [bodyS, hk]
  rw [hb]
  have u1 : IntKind.u64.wrap x.t.m.size = u64 x.t.m.size := rfl
  have u2 : IntKind.u64.wrap x.t.m.q = u64 x.t.m.q := rfl
  unfold mCells at h00
  rw [hk] at h00
  simp -implicitDefEqProofs [c58, MG.row, hk, c58_k35, c58_k34, c58_k33, c58_k32, c58_k31, c58_k30, c58_k29, mkAgg, ofD, u1]
  refine use_raw (s_Num h00 (by simp) (u64 x.t.m.size) 2) fun w σ ⟨v, hp⟩ => ?_
  have g0 := hp.fr.at_ 0 (by simp) (by simp)
  simp at g0
  simp -implicitDefEqProofs [c58_k1, g0, u2]
  refine use_raw (s_Num hp.out (by have := numB_len (u64 x.t.m.size) 2; simp; omega) (u64 x.t.m.q) 2) fun w2 σ2 ⟨v2, hp2⟩ => ?_
  obtain ⟨d, dv1, dl⟩ := out_bytes hp2.out
  simp -implicitDefEqProofs [c58_k0]
  refine use_rd (s_Bytes hp2.out (by have := numB_len (u64 x.t.m.size) 2; have := numB_len (u64 x.t.m.q) 2; simp; omega)) ?_
  rw [dv1]
  simp -implicitDefEqProofs
  exact dl

theorem s_body3 {x : MX} (h : x.Ok) (hs : x.Small) (hk : x.t.m.kind = 3) : Dn.Call Γ cx .val 58 [.da x.t.m.row] St.empty fun v _ => ∃ d, v = .d d ∧ LV (.d d) (byteRows (bodyS x)) := by
  refine Dn.Call.body (fc := c58) rfl ?_
  have h00 : OutAt ⟨[.cells (mCells x.t.m), .cells [.d .nils]], []⟩ 1 [] (.d .nils) := ⟨rfl, .nil⟩
  have hb : bodyS x = countB x.data.length ++ x.data := by simp [bodyS, hk]
  rw [hb]
  unfold mCells at h00
  rw [hk] at h00
  have hd := hs.d
  have hr := fun σ => h.d.rows σ
  simp -implicitDefEqProofs [c58, MG.row, hk, c58_k35, c58_k34, c58_k33, c58_k32, c58_k31, c58_k30, c58_k29, c58_k28, c58_k27, mkAgg, ofD, hr, rowBytes_byteRows]
  refine use_raw (s_Text h00 (by simp) x.data (by omega)) fun w σ ⟨v, hp⟩ => ?_
  obtain ⟨d, dv1, dl⟩ := out_bytes hp.out
  simp -implicitDefEqProofs [c58_k0]
  refine use_rd (s_Bytes hp.out (by have := countB_len x.data.length; simp; omega)) ?_
  rw [dv1]
  simp -implicitDefEqProofs
  exact dl

theorem s_body4 {x : MX} (h : x.Ok) (hs : x.Small) (hk : x.t.m.kind = 4) : Dn.Call Γ cx .val 58 [.da x.t.m.row] St.empty fun v _ => ∃ d, v = .d d ∧ LV (.d d) (byteRows (bodyS x)) := by
  refine Dn.Call.body (fc := c58) rfl ?_
  have h00 : OutAt ⟨[.cells (mCells x.t.m), .cells [.d .nils]], []⟩ 1 [] (.d .nils) := ⟨rfl, .nil⟩
  have hb : bodyS x = [] := by simp [bodyS, hk]
  rw [hb]
  unfold mCells at h00
  rw [hk] at h00
  simp -implicitDefEqProofs [c58, MG.row, hk, c58_k35, c58_k34, c58_k33, c58_k32, c58_k31, c58_k30, c58_k29, c58_k28, c58_k26, c58_k25, c58_k24, c58_k23, c58_k22, c58_k21, c58_k20, mkAgg, ofD, c58_k0]
  obtain ⟨d, dv1, dl⟩ := out_bytes h00
  refine use_rd (s_Bytes h00 (by simp)) ?_
  rw [dv1]
  simp -implicitDefEqProofs
  exact dl

theorem s_body8 {x : MX} (h : x.Ok) (hs : x.Small) (hk : x.t.m.kind = 8) : Dn.Call Γ cx .val 58 [.da x.t.m.row] St.empty fun v _ => ∃ d, v = .d d ∧ LV (.d d) (byteRows (bodyS x)) := by
  refine Dn.Call.body (fc := c58) rfl ?_
  have hb : bodyS x = txB true x.t.ins x.t.outs x.t.m.tb := by simp [bodyS, hk]
  rw [hb]
  simp -implicitDefEqProofs [c58, MG.row, hk, c58_k35, c58_k34, c58_k33, c58_k32, c58_k31, c58_k30, c58_k29, c58_k28, c58_k26, c58_k25, c58_k24, c58_k23, c58_k22, c58_k21, c58_k20, mkAgg, ofD]
  refine use_fn rfl (s_txBytes h.ti h.to hs.li hs.lo hs.oi hs.oo) rfl ?_
  simp -implicitDefEqProofs
  exact .list _
end Go.Proofs.YtmcojkkpanijjaaDoor.T
