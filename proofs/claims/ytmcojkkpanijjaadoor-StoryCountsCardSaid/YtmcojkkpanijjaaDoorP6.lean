import Derived.Test.YtmcojkkpanijjaaDoorD13
namespace Go.Proofs.YtmcojkkpanijjaaDoor.T
open Go.Dn
attribute [local simp] body_eq globEnv GB List.map_nil List.map_cons List.append_nil w_rangeF i_next i_makeMap i_range i_update i_delete q_rndA q_rndB_n q_rndB_e q_rndB_r setAll w_skip w_ops w_seq w_cond w_block w_exit w_ret q_then_n q_then_e q_then_r q_blk_n q_blk_e q_blk_r q_ops q_cont q_end_n q_end_r q_end_e q_loop_n q_loop_e q_loop_r i_nil i_p i_alloc i_box i_store i_copy i_clear i_call i_callv i_when t_nil t_p t_call t_alloc t_box t_store kept_nil t_copy t_clear q_tcont gsel List.cons_append List.nil_append evalP evalE evalF evalB isObj thaw Opd.ev Env.get Env.set Env.pick putE initEnv evalBin intBin evalUn evalConv goneAll goneOne retV resAll Res.ev tupOf byVals byValsN bv_d bv_da bv_fl bv_tl bn_d bn_da bn_fl bn_tl cx Dn.newObj St.place St.push St.spot St.empty cell_d cell_da cell_agg cell_ref cell_sl cell_fl cell_tl cell_map cell_fn cell_ifc loadAt faddrV partOf extractV mkAgg ofD splice St.setObj fillV
set_option linter.unusedSimpArgs false
set_option linter.unusedVariables false

def rO : List Dn.Obj := [.cells (byV (List.replicate 32 0)), .cells ((wds Sha.H0.l).map .d)]
def InvRF1 (x : D) (l : List UInt8) (m : Nat) (e : Env) (σ : St) : Prop := ∃ (j : Nat) (v : V), e = [(0, .d x), (2, .ref 0 0), (3, .ref 1 0), (4, v), KG] ∧ j ≤ Sha.zs l.length ∧ m = Sha.zs l.length - j ∧ σ.objs = rO ∧ App σ 1 v (byteRows (l ++ [128] ++ List.replicate j 0))
def InvRF2 (b : List UInt8) (n : W64) (m : Nat) (e : Env) (σ : St) : Prop := ∃ (j : Nat) (v : V), e = [(2, .ref 0 0), (3, .ref 1 0), (4, v), (5, .d (.int .u64 (un n))), (6, I (7 - (j : Int))), KG] ∧ j ≤ 8 ∧ m = 8 - j ∧ σ.objs = rO ∧ App σ 1 v (byteRows (b ++ pre8 n j))

theorem w_H0 : V.da [D.int .u32 1779033703, .int .u32 3144134277, .int .u32 1013904242, .int .u32 2773480762, .int .u32 1359893119, .int .u32 2600822924, .int .u32 528734635, .int .u32 1541459225] = .da (wds Sha.H0.l) := rfl

set_option maxRecDepth 4000 in
theorem s_rSum {x : D} {l : List UInt8} (hx : LV (.d x) (byteRows l)) (hl : l.length ≤ 1000000000) :
    Dn.Call Γ cx .val 40 [.d x] St.empty fun w _ => w = .da (hashD (Sha.sha l)) := by
  refine Dn.Call.body (fc := c40) rfl ?_
  simp -implicitDefEqProofs [-List.reduceReplicate, c40, c40_k55, c40_k54, mkAgg, repl, rowsOf, g0]
  obtain ⟨va, σa, hapa, happa, hoa, -, -⟩ := (App.fl (σ := ⟨[.cells (List.replicate 32 (.d (.int .u8 0))), .cells [.d (.int .u32 1779033703), .d (.int .u32 3144134277), .d (.int .u32 1013904242), .d (.int .u32 2773480762), .d (.int .u32 1359893119), .d (.int .u32 2600822924), .d (.int .u32 528734635), .d (.int .u32 1541459225)]], []⟩) (sz := 1) []).push (bytes := 1) (by decide) (by simp) (ys := byteRows l) (byteRows_fit _) (by simp [byteRows_len]; omega) (by simp [byteRows_len]; omega)
  rw [List.nil_append] at happa
  refine i_app_f (v := va) (s := σa) ?_ ?_
  · simp -implicitDefEqProofs [hx.rows]
    exact hapa none
  have hro : σa.objs = rO := by rw [hoa]; simp [rO, byV, wds8, Sha.H0, -List.reduceReplicate]; decide
  simp -implicitDefEqProofs [-List.reduceReplicate, repl, rowsOf, frzV]
  obtain ⟨v1, σ1, hap, happ, ho1, -, -⟩ := happa.push (bytes := 1) (by decide) (byteRows_fit _) (ys := byteRows [128]) (byteRows_fit _) (by simp [byteRows_len]; omega) (by simp [byteRows_len]; omega)
  rw [← byteRows_app] at happ
  refine i_app_f (v := v1) (s := σ1) ?_ ?_
  · simp -implicitDefEqProofs [V.rows]
    exact hap none
  simp -implicitDefEqProofs [-List.reduceReplicate, c40_k53]
  refine wloopI (InvRF1 x l) (m := Sha.zs l.length) ⟨0, v1, rfl, by omega, by omega, by rw [ho1, hro], by simpa using happ⟩ ?_
  rintro m e σ ⟨j, v, rfl, hj, rfl, hobj, hv⟩
  simp -implicitDefEqProofs [c40_l52, c40_k51]
  have hlen := hv.lv.len σ
  rw [byteRows_len] at hlen
  simp at hlen
  have hzs : Sha.zs l.length < 64 := by unfold Sha.zs; omega
  have hzm : (l.length + 1 + Sha.zs l.length + 8) % 64 = 0 := by have := Sha.pad_mod l; rw [Sha.pad_len] at this; exact this
  obtain ⟨u, hu⟩ : ∃ u, (l.length + 1 + j) % 64 = u := ⟨_, rfl⟩
  have e9 : ((l.length : Int) + ((j : Int) + 1)).tmod 64 = (u : Int) := by
    rw [Int.tmod_eq_emod_of_nonneg (by omega)]
    omega
  by_cases hjz : j = Sha.zs l.length
  rotate_left
  · have hne : u ≠ 56 := by unfold Sha.zs at hjz hj; omega
    have hne' : ¬ ((u : Int) = 56) := by omega
    simp only [hlen]
    simp -implicitDefEqProofs [e9, hne', hne, c40_k50, repl, rowsOf, frzV]
    obtain ⟨v2, σ2, hap2, happ2, ho2, -, -⟩ := hv.push (bytes := 1) (by decide) (byteRows_fit _) (ys := byteRows [0]) (byteRows_fit _) (by simp [byteRows_len]; omega) (by simp [byteRows_len]; omega)
    rw [← byteRows_app, List.append_assoc, ← List.replicate_succ'] at happ2
    refine i_app_f (v := v2) (s := σ2) ?_ ?_
    · simp -implicitDefEqProofs [V.rows]
      exact hap2 none
    simp -implicitDefEqProofs
    exact ⟨Sha.zs l.length - (j + 1), by omega, j + 1, v2, rfl, by omega, rfl, by rw [ho2, hobj], happ2⟩
  subst hjz
  have heq : u = 56 := by omega
  have heq' : (u : Int) = 56 := by omega
  have hn : IntKind.u64.wrap (IntKind.u64.wrap (l.length : Int) * 8) = un (BitVec.ofNat 64 (l.length * 8)) := by
    have h1 : IntKind.u64.wrap (l.length : Int) = (l.length : Int) := by simp only [IntKind.wrap, IntKind.signed, IntKind.bits]; simp; omega
    rw [h1, show (l.length : Int) * 8 = ((l.length * 8 : Nat) : Int) by omega, wrap_u64n]
  simp only [hlen]
  simp -implicitDefEqProofs [e9, heq', heq, c40_k49, c40_k48, c40_k47, hx.len, byteRows_len, hn]
  generalize hb : l ++ [128] ++ List.replicate (Sha.zs l.length) 0 = b at *
  have hbl : b.length = l.length + 1 + Sha.zs l.length := by rw [← hb]; simp; omega
  generalize hN : BitVec.ofNat 64 (l.length * 8) = N at *
  refine wloopI (InvRF2 b N) (m := 8) ⟨0, v, rfl, by omega, rfl, hobj, by simpa [pre8, hb] using hv⟩ ?_
  rintro m e σ' ⟨j, v', rfl, hj, rfl, hobj', hv'⟩
  simp -implicitDefEqProofs [c40_l46, c40_k45]
  by_cases hj8 : j < 8
  · obtain ⟨s8, hs8⟩ : ∃ s8, 8 * (7 - j) = s8 := ⟨_, rfl⟩
    have e8 : IntKind.i64.wrap (8 * (7 - (j : Int))) = (s8 : Int) := by rw [wrap_i64 (by omega) (by omega)]; omega
    have e8u : IntKind.u64.wrap (s8 : Int) = (s8 : Int) := by simp only [IntKind.wrap, IntKind.signed, IntKind.bits]; simp; omega
    have em : IntKind.i64.wrap (7 - (j : Int) - 1) = 7 - ((j + 1 : Nat) : Int) := by rw [wrap_i64 (by omega) (by omega)]; omega
    have hps := pre8_succ N j
    rw [hs8] at hps
    have hsh : shiftBin .shr .u64 (un N) (s8 : Int) = some (.d (.int .u64 (un (N >>> s8)))) := by
      have h1 : min s8 64 = s8 := by omega
      have h2 : IntKind.u64.bits = 64 := rfl
      have h3 : ¬ ((s8 : Int) < 0) := by omega
      simp only [shiftBin, h3, if_false, Int.toNat_natCast, h2, h1, shr_u64]
    have hby : IntKind.u8.wrap (un (N >>> s8)) = ((UInt8.ofNat ((N >>> s8).toNat % 256)).toNat : Int) := by
      unfold un
      rw [wrap_u8n]
      simp
    generalize hc : UInt8.ofNat ((N >>> s8).toNat % 256) = c at *
    have hle : (j : Int) ≤ 7 := by omega
    obtain ⟨v2, σ2, hap2, happ2, ho2, -, -⟩ := hv'.push (bytes := 1) (by decide) (byteRows_fit _) (ys := byteRows [c]) (byteRows_fit _) (by simp [byteRows_len, pre8_len]; omega) (by simp [byteRows_len, pre8_len]; omega)
    rw [← byteRows_app, List.append_assoc, ← hps] at happ2
    simp -implicitDefEqProofs [hle, e8, e8u, hsh, hby, c40_k44, c40_k43, repl, rowsOf, frzV]
    refine i_app_f (v := v2) (s := σ2) ?_ ?_
    · simp -implicitDefEqProofs [V.rows]
      exact hap2 none
    simp -implicitDefEqProofs [em]
    exact ⟨8 - (j + 1), by omega, j + 1, v2, rfl, by omega, rfl, by rw [ho2, hobj'], happ2⟩
  · obtain rfl : j = 8 := by omega
    have hpd : b ++ pre8 N 8 = Sha.pad l := by rw [← hb, ← hN]; rfl
    rw [hpd] at hv'
    simp -implicitDefEqProofs [-List.reduceReplicate, c40_k42]
    refine r_blocks hv'.lv (by rw [Sha.pad_len]; omega) (Sha.pad_mod l) (by rw [hobj']; rfl) (by rw [hobj']; rfl) fun s h0 h1 => ?_
    have hsha : Sha.sha l = Sha.out (Sha.hN (Sha.pad l) ((Sha.pad l).length / 64)) := rfl
    rw [hsha]
    generalize Sha.hN (Sha.pad l) ((Sha.pad l).length / 64) = H at *
    simp -implicitDefEqProofs [-List.reduceReplicate, c40_k8, c40_k7]
    refine r_out h0 h1 ?_
    have hol : (Sha.out H).length = 32 := by simp [Sha.out]
    obtain ⟨so, stk⟩ := s
    cases so with
    | nil => simp at h0
    | cons a r =>
      obtain rfl : a = .cells (byV (List.replicate 32 0)) := by simpa using h0
      simp -implicitDefEqProofs [-List.reduceReplicate, c40_k0, byV_len, hol, List.take_of_length_le, ofD_hashD, hashD_byV, hashD_len, V.byVal, show List.drop 32 (byV (List.replicate 32 0)) = [] from List.drop_of_length_le (by simp [byV_len]), List.append_nil]

theorem s_rDouble {x : D} {l : List UInt8} (hx : LV (.d x) (byteRows l)) (hl : l.length ≤ 1000000000) :
    Dn.Call Γ cx .val 27 [.d x] St.empty fun w _ => w = .da (hashD (Sha.dbl l)) := by
  refine Dn.Call.body (fc := c27) rfl ?_
  have h1 := Sha.sha_len l
  have h2 := Sha.sha_len (Sha.sha l)
  simp -implicitDefEqProofs [-List.reduceReplicate, c27, c27_k0]
  refine use_fn rfl (s_rSum hx hl) (hashD_ps _) ?_
  simp -implicitDefEqProofs [-List.reduceReplicate]
  unfold Sha.dbl
  generalize Sha.sha l = a at *
  refine use_fn rfl (s_bytes h1) rfl ?_
  simp -implicitDefEqProofs [-List.reduceReplicate]
  refine use_fn rfl (s_rSum (.list _) (by omega)) (hashD_ps _) ?_
  generalize Sha.sha a = z at *
  simp -implicitDefEqProofs [-List.reduceReplicate, byV_len, List.take_of_length_le, ofD_hashD, hashD_byV, hashD_len, h2, V.byVal]



def sized (n : Int) : Bool := decide (n = 1) || decide (n = 2) || decide (n = 4) || decide (n = 8)

theorem s_sized (n : Int) : Dn.Call Γ cx .val 78 [I n] St.empty fun v _ => v = B (sized n) := by
  refine Dn.Call.body (fc := c78) rfl ?_
  unfold sized
  by_cases h1 : n = 1
  · simp -implicitDefEqProofs [c78, c78_k0, h1]
  · by_cases h2 : n = 2
    · simp -implicitDefEqProofs [c78, c78_k0, h2]
    · by_cases h3 : n = 4
      · simp -implicitDefEqProofs [c78, c78_k0, h3]
      · simp -implicitDefEqProofs [c78, c78_k0, h1, h2, h3]

theorem sized_inv {n : Int} (h : sized n = true) : n = 1 ∨ n = 2 ∨ n = 4 ∨ n = 8 := by
  simp [sized] at h
  omega

/-- A byte of a number. -/
def byteAt (n : Int) (i : Nat) : UInt8 := UInt8.ofNat ((n / 2 ^ (8 * i)) % 256).toNat
theorem byteAt_nat (n : Int) (i : Nat) : ((byteAt n i).toNat : Int) = (n / 2 ^ (8 * i)) % 256 := by
  unfold byteAt
  have h1 : 0 ≤ (n / 2 ^ (8 * i)) % 256 := Int.emod_nonneg _ (by decide)
  have h2 : (n / 2 ^ (8 * i)) % 256 < 256 := Int.emod_lt_of_pos _ (by decide)
  simp [UInt8.toNat_ofNat]
  omega
def low (n : Int) (k : Nat) : List UInt8 := (List.range k).map (byteAt n)
def numB (n size : Int) : List UInt8 := if sized size then low n size.toNat else []
theorem low_succ (n : Int) (k : Nat) : low n (k + 1) = low n k ++ [byteAt n k] := by simp [low, List.range_succ]
theorem low_len (n : Int) (k : Nat) : (low n k).length = k := by simp [low]
theorem numB_len (n size : Int) : (numB n size).length ≤ 8 := by
  unfold numB
  split
  · rename_i h
    rw [low_len]
    have := sized_inv h
    omega
  · simp

theorem wrap_u8 (n : Int) : IntKind.u8.wrap n = n % 256 := by
  simp only [IntKind.wrap, IntKind.signed, IntKind.bits]
  simp

structure OutAt (σ : St) (r : Nat) (l : List UInt8) (v : V) : Prop where
  obj : σ.objs[r]? = some (.cells [v])
  app : App σ 1 v (byteRows l)

/-- What a function that puts comes to. -/
structure Put (σ : St) (r : Nat) (v : V) (l : List UInt8) (σ' : St) (v' : V) : Prop where
  out : OutAt σ' r l v'
  fr : Fr [r] σ σ'
  tk : Toks σ.toks σ'.toks (own v) (own v')

theorem Put.trans {σ σ' σ'' : St} {r : Nat} {v v' v'' : V} {l l' : List UInt8} (h : Put σ r v l σ' v') (h' : Put σ' r v' l' σ'' v'') : Put σ r v l' σ'' v'' := ⟨h'.out, h.fr.trans h'.fr, h.tk.trans h'.tk⟩
theorem Put.refl {σ : St} {r : Nat} {v : V} {l : List UInt8} (h : OutAt σ r l v) : Put σ r v l σ v := ⟨h, Fr.refl _ _, Toks.refl _ _⟩

/-- Bytes appended, stored. -/
theorem Put.of {σ σ1 : St} {r m : Nat} {v v1 : V} {l : List UInt8} (h0 : σ.objs[r]? = some (.cells [v])) (happ : App σ1 1 v1 (byteRows l)) (ho : σ1.objs = (σ.room m).objs) (ht : Toks σ.toks σ1.toks (own v) (own v1)) : Put σ r v l ⟨σ1.objs.set r (.cells [v1]), σ1.toks⟩ v1 := by
  have hl : r < σ.objs.length := (List.getElem?_eq_some_iff.1 h0).1
  have hl1 : σ.objs.length ≤ σ1.objs.length := by rw [ho]; simp [St.room]
  refine ⟨⟨?_, happ.toks rfl⟩, ⟨by simpa using hl1, fun q hq hlq => ?_⟩, ht⟩
  · simp only
    rw [List.getElem?_set_self (by omega)]
  · simp only
    rw [List.getElem?_set_ne (fun e => hq (by simp [e])), ho]
    simp only [St.room]
    rw [List.getElem?_append_left hlq]

/-- The loop of Num. -/
def InvNum (σ : St) (r : Nat) (v : V) (l : List UInt8) (n : Int) (size : Nat) (m : Nat) (e : Env) (σ' : St) : Prop := ∃ (i : Nat) (v' : V), e = [(0, .ref r 0), (1, U n), (14, I size), (15, I i)] ∧ i ≤ size ∧ m = size - i ∧ Put σ r v (l ++ low n i) σ' v'

theorem s_Num {σ : St} {r : Nat} {v : V} {l : List UInt8} (h : OutAt σ r l v) (hl : l.length ≤ 1099511627776) (n size : Int) :
    Dn.Call Γ cx .raw 59 [.ref r 0, U n, I size] σ fun _ σ' => ∃ v', Put σ r v (l ++ numB n size) σ' v' := by
  refine Dn.Call.body (fc := c59) rfl ?_
  simp -implicitDefEqProofs [c59, eqV, V.isNil, Opd.isC]
  refine use_fn rfl (s_sized size) rfl ?_
  by_cases hs : sized size = true
  rotate_left
  · simp -implicitDefEqProofs [hs, c59_k7]
    exact ⟨v, by simpa [numB, hs] using Put.refl h⟩
  · simp -implicitDefEqProofs [hs, c59_k7, c59_k6, c59_k5]
    obtain ⟨k, hk, hk8⟩ : ∃ k : Nat, size = k ∧ k ≤ 8 := ⟨size.toNat, by have := sized_inv hs; omega, by have := sized_inv hs; omega⟩
    subst hk
    refine wloopI (InvNum σ r v l n k) (m := k) ⟨0, v, rfl, by omega, by omega, by simpa [low] using Put.refl h⟩ ?_
    rintro m e σ' ⟨i, v', rfl, hi, rfl, hp⟩
    simp -implicitDefEqProofs [c59_l4, c59_k3]
    by_cases hik : i < k
    rotate_left
    · obtain rfl : i = k := by omega
      simp -implicitDefEqProofs
      exact ⟨v', by simpa [numB, hs] using hp⟩
    simp -implicitDefEqProofs [hik, c59_k2, c59_k1, c59_k0]
    refine w_drw (fun _ => .val) [] (by decide +kernel) ?_
    have hro := room_at (m := 1) hp.out.obj
    have e8 : IntKind.i64.wrap (8 * (i : Int)) = 8 * i := wrap_i64 (by omega) (by omega)
    have eb : min (8 * (i : Int)).toNat IntKind.u64.bits = 8 * i := by
      have : (8 * (i : Int)).toNat = 8 * i := by omega
      rw [this]
      exact Nat.min_eq_left (by have : IntKind.u64.bits = 64 := rfl; omega)
    have hneg : ¬ (8 * (i : Int) < 0) := by omega
    simp -implicitDefEqProofs [nilCheckV, hro, shiftBin, e8, eb, hneg, repl, rowsOf, wrap_u8]
    obtain ⟨v1, σ1, hap, happ, ho, ht, _⟩ := (hp.out.app.toks (room_toks σ' 1)).push (bytes := 1) (by decide) (byteRows_fit _) (ys := byteRows [byteAt n i]) (byteRows_fit _) (by simp [byteRows_len, low_len]; omega) (by simp [byteRows_len, low_len]; omega)
    rw [← byteRows_app, List.append_assoc, ← low_succ] at happ
    refine t_app_f (v := v1) (s := σ1) ?_ ?_
    · simp -implicitDefEqProofs [V.rows]
      rw [← hap (some σ'.objs.length)]
      simp [byteRows, byteAt_nat]
    have ho1 : σ1.objs[r]? = some (.cells [v']) := by rw [ho]; exact hro
    simp -implicitDefEqProofs [nilCheckV, ho1, happ.lv.cells, wrap_i64 (n := (i : Int) + 1) (by omega) (by omega)]
    exact ⟨k - (i + 1), by omega, i + 1, v1, rfl, by omega, rfl, hp.trans (Put.of hp.out.obj happ ho ht)⟩



/-- slices.Clone, by value. -/
theorem s_CloneB {x : D} {l : List UInt8} (h : LV (.d x) (byteRows l)) (hl : l.length ≤ 1099511627776) : Dn.Call Γ cx .val 49 [.d x] St.empty fun v _ => v = .d x := by
  refine Dn.Call.body (fc := c49) rfl ?_
  generalize hrows : byteRows l = rows at h
  cases h with
  | nil => simp -implicitDefEqProofs [c49, c49_k2, c49_k1, eqV, V.isNil, Opd.isC]
  | list rows =>
    simp -implicitDefEqProofs [c49, c49_k2, c49_k1, c49_k0, eqV, V.isNil, Opd.isC, repl, rowsOf]
    obtain ⟨v1, σ1, hap, happ, ho, ht, hdv⟩ := (App.fl (σ := St.empty) (sz := 1) []).push (bytes := 1) (by decide) (by simp) (ys := byteRows l) (byteRows_fit _) (by simp [byteRows_len]; omega) (by simp [byteRows_len]; omega)
    refine i_app_f (v := v1) (s := σ1) ?_ ?_
    · simp -implicitDefEqProofs [V.rows]
      rw [← hrows]
      exact hap none
    simp -implicitDefEqProofs [(happ.lv.dv σ1).1, hdv (.inl (by simp)), hrows]

/-- What may be written: nothing, or an object of its own. -/
def MutB (σ0 σ : St) (v : V) (l : List UInt8) : Prop := (l = [] ∧ LV v []) ∨ ∃ q, v = .sl q 0 l.length 1 ∧ σ0.objs.length ≤ q ∧ σ.objs[q]? = some (.cells (l.map fun b => Y b.toNat))

theorem byteRows_cells (l : List UInt8) : (byteRows l).flatten.map V.d = l.map fun b => Y b.toNat := by
  induction l with
  | nil => rfl
  | cons a r ih => simp only [byteRows, List.map_cons, List.flatten_cons, List.map_append] at ih ⊢; rw [ih]; rfl

/-- slices.Clone, into memory that may be written. -/
theorem s_CloneM {σ : St} {v : V} {l : List UInt8} (h : LV v (byteRows l)) (hl : l.length ≤ 1099511627776) : Dn.Call Γ cx .raw 49 [v] σ fun w s => MutB σ s w l ∧ Fr [] σ s ∧ s.toks = σ.toks := by
  refine Dn.Call.body (fc := c49) rfl ?_
  obtain ⟨b, hb, hb'⟩ := h.isNil
  have hnil : V.isNil .slice (.d .nils) = some true := rfl
  cases b with
  | true =>
    obtain ⟨rfl, h2⟩ := hb' rfl
    have : l = [] := by cases l with | nil => rfl | cons a r => simp [byteRows] at h2
    subst this
    simp -implicitDefEqProofs [c49, c49_k2, c49_k1, eqV, hb, hnil, Opd.isC]
    exact ⟨.inl ⟨rfl, .nil⟩, Fr.refl _ _⟩
  | false =>
    have hev : evalBin .eql .slice [] v (.d .nils) false true = some (B false) := by
      have : eqV .slice [] v (.d .nils) false true = some false := by simp [eqV, hb, hnil]
      clear hb'
      generalize byteRows l = rows at h
      cases h <;> simp_all [evalBin]
    simp -implicitDefEqProofs [c49, c49_k2, c49_k1, c49_k0, -evalBin, hev, Opd.isC, repl, rowsOf]
    by_cases he : l = []
    · subst he
      refine i_app_f (v := .fl []) (s := σ) ?_ ?_
      · have hr := h.rows σ
        simp [evalE, Opd.ev, Env.get, hr]
        simp [appendV, byteRows, fitR, V.rows]
      · simp -implicitDefEqProofs
        exact ⟨.inl ⟨rfl, .fl _⟩, Fr.refl _ _⟩
    · have hne : byteRows l ≠ [] := by cases l with | nil => exact absurd rfl he | cons a r => simp [byteRows]
      refine i_app_m (v := .sl σ.objs.length 0 l.length 1) (s := σ.push (.cells (l.map fun b => Y b.toNat))) ?_ ?_
      · simp only [evalM, Opd.ev, Env.get]
        simp [h.rows σ]
        rw [appendM_fl (by decide) (by simp) (byteRows_fit _) hne (by simp [byteRows_len]; omega) (by simp [byteRows_len]; omega)]
        rw [List.nil_append, byteRows_cells]
        simp [byteRows_len]
      · simp -implicitDefEqProofs
        exact ⟨.inr ⟨_, rfl, Nat.le_refl _, by simp⟩, ⟨by simp, fun r _ hr => by simp [List.getElem?_append_left hr]⟩⟩



/-- (*Out).Bytes, looked at. -/
theorem s_Bytes {σ : St} {r : Nat} {v : V} {l : List UInt8} (h : OutAt σ r l v) (hl : l.length ≤ 1099511627776) : Dn.Call Γ cx .rd 61 [.ref r 0] σ fun w _ => w = dv v := by
  refine Dn.Call.body (fc := c61) rfl ?_
  obtain ⟨d1, d2, ⟨x, dx⟩, d4, d5⟩ := h.app.lv.dv σ
  simp -implicitDefEqProofs [c61, c61_k2, c61_k1, c61_k0, eqV, V.isNil, Opd.isC, nilCheckV, h.obj]
  rw [dx] at d1 d2
  refine use_fn (ds := [.d x]) (by simp [byVals, d1]) (s_CloneB d2 hl) (by simp [V.pure, V.flatv, h.app.lv.borrows]) ?_
  simp -implicitDefEqProofs [dx]
  exact (Fr.refl [] σ).keeps fun _ _ h => h

/-- (*Out).Bytes, into memory of its own. -/
theorem s_BytesM {σ : St} {r : Nat} {v : V} {l : List UInt8} (h : OutAt σ r l v) (hl : l.length ≤ 1099511627776) : Dn.Call Γ cx .raw 61 [.ref r 0] σ fun w s => MutB σ s w l ∧ Fr [] σ s ∧ s.toks = σ.toks := by
  refine Dn.Call.body (fc := c61) rfl ?_
  simp -implicitDefEqProofs [c61, c61_k2, c61_k1, c61_k0, eqV, V.isNil, Opd.isC, nilCheckV, h.obj]
  refine use_raw (s_CloneM h.app.lv hl) fun w s hw => ?_
  simp -implicitDefEqProofs
  exact hw

def mark (n : Int) : Int := if n < 253 then 0 else if n ≤ 65535 then 253 else if n ≤ 4294967295 then 254 else 255
def wide (n : Int) : Int := if n < 253 then 1 else if n ≤ 65535 then 2 else if n ≤ 4294967295 then 4 else 8

theorem s_form (n : Int) : Dn.Call Γ cx .val 87 [U n] St.empty fun v _ => v = .tup [Y (mark n), I (wide n)] := by
  refine Dn.Call.body (fc := c87) rfl ?_
  unfold mark wide
  by_cases h1 : n < 253
  · simp -implicitDefEqProofs [c87, c87_k6, c87_k5, c87_k4, h1]
  by_cases h2 : n ≤ 65535
  · simp -implicitDefEqProofs [c87, c87_k6, c87_k5, c87_k4, c87_k3, c87_k2, h1, h2]
  by_cases h3 : n ≤ 4294967295
  · simp -implicitDefEqProofs [c87, c87_k6, c87_k5, c87_k4, c87_k3, c87_k2, c87_k1, h1, h2, h3]
  · simp -implicitDefEqProofs [c87, c87_k6, c87_k5, c87_k4, c87_k3, c87_k2, c87_k1, c87_k0, h1, h2, h3]

/-- A count as bytes. -/
def countB (n : Int) : List UInt8 := if n < 0 then [] else if n ≤ 252 then low n 1 else if n ≤ 65535 then 253 :: low n 2 else if n ≤ 4294967295 then 254 :: low n 4 else 255 :: low n 8
theorem countB_len (n : Int) : (countB n).length ≤ 9 := by
  unfold countB
  split
  · simp
  split
  · simp [low_len]
  split
  · simp [low_len]
  split
  · simp [low_len]
  · simp [low_len]

theorem s_Count {σ : St} {r : Nat} {v : V} {l : List UInt8} (h : OutAt σ r l v) (hl : l.length ≤ 1099511620000) (n : Int) (hn : n ≤ 9223372036854775807) :
    Dn.Call Γ cx .raw 74 [.ref r 0, I n] σ fun _ σ' => ∃ v', Put σ r v (l ++ countB n) σ' v' := by
  refine Dn.Call.body (fc := c74) rfl ?_
  by_cases h0 : n < 0
  · simp -implicitDefEqProofs [c74, c74_k4, eqV, V.isNil, Opd.isC, h0]
    exact ⟨v, by simpa [countB, h0] using Put.refl h⟩
  simp -implicitDefEqProofs [c74, c74_k4, c74_k3, eqV, V.isNil, Opd.isC, h0, wrap_u64 (n := n) (by omega) (by omega)]
  refine use_fn rfl (s_form n) rfl ?_
  simp -implicitDefEqProofs [c74_k2, c74_k1]
  by_cases h1 : n < 253
  · have hm : mark n = 0 := by simp [mark, h1]
    simp -implicitDefEqProofs [hm, c74_k0, wrap_u64 (n := n) (by omega) (by omega)]
    refine use_raw (s_Num h (by omega) n (wide n)) fun w s ⟨v', hw⟩ => ?_
    simp -implicitDefEqProofs
    refine ⟨v', ?_⟩
    have e : numB n (wide n) = countB n := by simp [numB, wide, h1, sized, countB, h0, show n ≤ 252 by omega]
    rw [← e]
    exact hw
  · have hm : ¬ mark n = 0 := by unfold mark; (repeat' split) <;> omega
    simp -implicitDefEqProofs [hm, nilCheckV, h.obj, repl, rowsOf]
    have hb : ∃ b : UInt8, mark n = b.toNat ∧ countB n = b :: low n (wide n).toNat ∧ sized (wide n) = true := by
      have h252 : ¬ n ≤ 252 := by omega
      unfold mark wide countB
      by_cases h2 : n ≤ 65535
      · exact ⟨253, by simp [h1, h2], by simp [h0, h252, h1, h2], by simp [h1, h2, sized]⟩
      by_cases h3 : n ≤ 4294967295
      · exact ⟨254, by simp [h1, h2, h3], by simp [h0, h252, h1, h2, h3], by simp [h1, h2, h3, sized]⟩
      · exact ⟨255, by simp [h1, h2, h3], by simp [h0, h252, h1, h2, h3], by simp [h1, h2, h3, sized]⟩
    obtain ⟨b, b1, b2, b3⟩ := hb
    obtain ⟨v1, σ1, hap, happ, ho, ht, _⟩ := h.app.push (bytes := 1) (by decide) (byteRows_fit _) (ys := byteRows [b]) (byteRows_fit _) (by simp [byteRows_len]; omega) (by simp [byteRows_len]; omega)
    rw [← byteRows_app] at happ
    refine i_app_f (v := v1) (s := σ1) ?_ ?_
    · simp -implicitDefEqProofs [V.rows, b1]
      exact hap none
    have ho1 : σ1.objs[r]? = some (.cells [v]) := by rw [ho]; exact h.obj
    simp -implicitDefEqProofs [nilCheckV, ho1, happ.lv.cells, c74_k0, wrap_u64 (n := n) (by omega) (by omega)]
    have hp := Put.of (m := 0) h.obj happ (by rw [ho]; simp [St.room]) ht
    refine use_raw (s_Num hp.out (by simp; omega) n (wide n)) fun w s ⟨v', hw⟩ => ?_
    simp -implicitDefEqProofs
    refine ⟨v', ?_⟩
    have e : l ++ countB n = l ++ [b] ++ numB n (wide n) := by simp [numB, b3, b2]
    rw [e]
    exact hp.trans hw

theorem s_Text {σ : St} {r : Nat} {v : V} {l : List UInt8} (h : OutAt σ r l v) (hl : l.length ≤ 1099511610000) (t : List UInt8) (ht0 : t.length ≤ 1000000) :
    Dn.Call Γ cx .raw 76 [.ref r 0, .d (.str t)] σ fun _ σ' => ∃ v', Put σ r v (l ++ (countB t.length ++ t)) σ' v' := by
  refine Dn.Call.body (fc := c76) rfl ?_
  simp -implicitDefEqProofs [c76, c76_k2, c76_k1, eqV, V.isNil, Opd.isC, lenT]
  refine use_raw (s_Count h (by omega) t.length (by omega)) fun w s ⟨v', hw⟩ => ?_
  simp -implicitDefEqProofs [c76_k0, nilCheckV, hw.out.obj]
  have hcl := countB_len t.length
  obtain ⟨v1, σ1, hap, happ, ho, ht, _⟩ := hw.out.app.push (bytes := 1) (by decide) (byteRows_fit _) (ys := byteRows t) (byteRows_fit _) (by simp [byteRows_len]; omega) (by simp [byteRows_len]; omega)
  rw [← byteRows_app, List.append_assoc] at happ
  refine i_app_f (v := v1) (s := σ1) ?_ ?_
  · simp -implicitDefEqProofs
    exact hap none
  have ho1 : σ1.objs[r]? = some (.cells [v']) := by rw [ho]; exact hw.out.obj
  simp -implicitDefEqProofs [nilCheckV, ho1, happ.lv.cells]
  exact ⟨v1, hw.trans (Put.of (m := 0) hw.out.obj happ (by rw [ho]; simp [St.room]) ht)⟩



/-- A digest's cells. -/
def hd (h : List UInt8) : List D := h.map fun b => .int .u8 b.toNat
theorem hd_len (h : List UInt8) : (hd h).length = h.length := by simp [hd]
theorem hd_rows : ∀ (h : List UInt8), rowsOf 1 h.length (hd h) = byteRows h
  | [] => rfl
  | b :: r => by
    have ih := hd_rows r
    simp only [hd, byteRows, List.map_cons, List.length_cons, rowsOf, List.take_succ_cons, List.take_zero, List.drop_succ_cons, List.drop_zero] at ih ⊢
    rw [ih]
theorem ofD_hd (h : List UInt8) : ofD ((hd h).map V.d) = some (hd h) := ofD_map _

theorem s_Hash {σ : St} {r : Nat} {v : V} {l : List UInt8} (h : OutAt σ r l v) (hl : l.length ≤ 1099511610000) (t : List UInt8) (ht0 : t.length = 32) :
    Dn.Call Γ cx .raw 75 [.ref r 0, .da (hd t)] σ fun _ σ' => ∃ v', Put σ r v (l ++ t) σ' v' := by
  refine Dn.Call.body (fc := c75) rfl ?_
  simp -implicitDefEqProofs [c75, c75_k1, c75_k0, eqV, V.isNil, Opd.isC]
  have hlt : r < σ.objs.length := (List.getElem?_eq_some_iff.1 h.obj).1
  obtain ⟨σ1, hσ1⟩ : ∃ s : St, (⟨σ.objs ++ [.cells ((hd t).map V.d)], σ.toks⟩ : St) = s := ⟨_, rfl⟩
  rw [hσ1]
  have g1 : σ1.objs[r]? = some (.cells [v]) := by rw [← hσ1]; simp [List.getElem?_append_left hlt, h.obj]
  have g2 : σ1.objs[σ.objs.length]? = some (.cells ((hd t).map V.d)) := by rw [← hσ1]; simp
  have g3 : σ1.toks = σ.toks := by rw [← hσ1]
  have f1 : Fr [r] σ σ1 := ⟨by rw [← hσ1]; simp, fun q _ hq => by rw [← hσ1]; simp [List.getElem?_append_left hq]⟩
  refine w_drw (fun _ => .val) [3] (by decide +kernel) ?_
  have hrl : (hd t).length = 32 := by rw [hd_len, ht0]
  simp -implicitDefEqProofs [nilCheckV, room_at (m := 1) g1, room_at (m := 1) g2, sliceArrV, boundV, hrl]
  obtain ⟨v1, σ2, hap, happ, ho, ht, _⟩ := ((h.app.toks g3).toks (room_toks σ1 1)).push (bytes := 1) (by decide) (byteRows_fit _) (ys := byteRows t) (byteRows_fit _) (by simp [byteRows_len]; omega) (by simp [byteRows_len]; omega)
  rw [← byteRows_app] at happ
  refine t_app_f (v := v1) (s := σ2) ?_ ?_
  · have hr : V.rows (σ1.room 1) (.sl σ.objs.length 0 32 1) = some (byteRows t) := by
      simp only [V.rows, room_at (m := 1) g2]
      have : (List.take (32 * 1) (List.drop 0 ((hd t).map V.d))) = (hd t).map V.d := List.take_of_length_le (by simp [hrl])
      rw [this, ofD_hd]
      simp only
      rw [← ht0, hd_rows]
    simp -implicitDefEqProofs [hr]
    exact hap _
  have ho1 : σ2.objs[r]? = some (.cells [v]) := by rw [ho]; exact room_at g1
  simp -implicitDefEqProofs [nilCheckV, ho1, happ.lv.cells]
  have hp := Put.of (m := 1) g1 happ ho (by rw [show (σ1.room 1).toks = σ1.toks from rfl] at ht; exact ht)
  exact ⟨Kept.set (by simp [Env.get, dref]; omega), v1, hp.out, f1.trans hp.fr, by rw [← g3]; exact hp.tk⟩

/-! the document's answer -/

/-- A list that was made, of its own. -/
structure Own (σ σ' : St) (v : V) (l : List UInt8) : Prop where
  app : App σ' 1 v (byteRows l)
  fr : Fr [] σ σ'
  tk : Toks σ.toks σ'.toks none (own v)

def InvRNum (σ : St) (n : Int) (size : Nat) (m : Nat) (e : Env) (σ' : St) : Prop := ∃ (i : Nat) (v' : V), e = [(0, U (n / 2 ^ (8 * i))), (1, I size), (5, v'), (6, I i)] ∧ i ≤ size ∧ m = size - i ∧ Own σ σ' v' (low n i)

theorem tdiv_nonneg {a b : Int} (ha : 0 ≤ a) : a.tdiv b = a / b := Int.tdiv_eq_ediv_of_nonneg ha
theorem tmod_nonneg {a b : Int} (ha : 0 ≤ a) : a.tmod b = a % b := Int.tmod_eq_emod_of_nonneg ha

theorem toks_own {l l' l'' : List Nat} {o o' : Option Nat} (h : Toks l l' none o) (h' : Toks l' l'' o o') : Toks l l'' none o' := h.trans h'

theorem s_rNum (σ : St) (n : Int) (hn : 0 ≤ n) (hn' : n ≤ 18446744073709551615) (size : Int) :
    Dn.Call Γ cx .raw 25 [U n, I size] σ fun v σ' => Own σ σ' v (numB n size) := by
  refine Dn.Call.body (fc := c25) rfl ?_
  by_cases hs : sized size = true
  rotate_left
  · have h1 : ¬ size = 1 ∧ ¬ size = 2 ∧ ¬ size = 4 ∧ ¬ size = 8 := by simp [sized] at hs; omega
    simp -implicitDefEqProofs [c25, c25_k10, c25_k9, c25_k8, h1]
    exact ⟨by simpa [numB, hs, byteRows] using App.nil, Fr.refl _ _, Toks.refl _ _⟩
  · have hz := sized_inv hs
    obtain ⟨k, hk, hk8⟩ : ∃ k : Nat, size = k ∧ k ≤ 8 := ⟨size.toNat, by omega, by omega⟩
    subst hk
    have fin : Dn.wcode (Dn.Call Γ cx) cx c25_k7 [(0, U n), (1, I k), (5, .d .nils), (20, B false)] σ (endQ .raw σ [.tmp 4] fun v σ' => Own σ σ' v (numB n k)) := by
      simp -implicitDefEqProofs [c25_k7, c25_k6]
      refine wloopI (InvRNum σ n k) (m := k) ⟨0, _, by simp [Env.pick, Env.get], by omega, by omega, ⟨.nil, Fr.refl _ _, Toks.refl _ _⟩⟩ ?_
      rintro m e σ' ⟨i, v', rfl, hi, rfl, hp⟩
      simp -implicitDefEqProofs [c25_l5, c25_k4]
      by_cases hik : i < k
      rotate_left
      · obtain rfl : i = k := by omega
        simp -implicitDefEqProofs [c25_k0]
        simpa [numB, hs] using hp
      have hq : 0 ≤ n / 2 ^ (8 * i) := Int.ediv_nonneg hn (Int.pow_nonneg (by decide))
      have hq2 : n / 2 ^ (8 * i) ≤ n := Int.ediv_le_self _ hn
      simp -implicitDefEqProofs [hik, c25_k3, tmod_nonneg hq, wrap_u8, repl, rowsOf]
      obtain ⟨v1, σ1, hap, happ, ho, ht, _⟩ := hp.app.push (bytes := 1) (by decide) (byteRows_fit _) (ys := byteRows [byteAt n i]) (byteRows_fit _) (by simp [byteRows_len, low_len]; omega) (by simp [byteRows_len, low_len]; omega)
      rw [← byteRows_app, ← low_succ] at happ
      refine i_app_f (v := v1) (s := σ1) ?_ ?_
      · simp -implicitDefEqProofs [V.rows]
        rw [← hap none]
        simp [byteRows, byteAt_nat]
      have e3 : (n / 2 ^ (8 * i)).tdiv 256 = n / 2 ^ (8 * (i + 1)) := by
        rw [tdiv_nonneg hq, Int.ediv_ediv_of_nonneg (Int.pow_nonneg (by decide)), show 8 * (i + 1) = 8 * i + 8 by omega, Int.pow_add]
        rfl
      have hq3 : 0 ≤ n / 2 ^ (8 * (i + 1)) := Int.ediv_nonneg hn (Int.pow_nonneg (by decide))
      have hq4 : n / 2 ^ (8 * (i + 1)) ≤ n := Int.ediv_le_self _ hn
      simp -implicitDefEqProofs [c25_k2, c25_k1, e3, wrap_u64 (n := n / 2 ^ (8 * (i + 1))) (by omega) (by omega), wrap_i64 (n := (i : Int) + 1) (by omega) (by omega)]
      exact ⟨k - (i + 1), by omega, i + 1, v1, rfl, by omega, rfl, happ, hp.fr.trans ⟨by rw [ho]; exact Nat.le_refl _, fun q _ _ => by rw [ho]⟩, toks_own hp.tk ht⟩
    rcases hz with h | h | h | h <;> (rw [h] at fin ⊢; simp -implicitDefEqProofs [c25, c25_k10, c25_k9, c25_k8]; exact fin)



theorem clone_u32 {x : D} {rows : List (List D)} (h : LV (.d x) rows) (hf : ∀ r ∈ rows, r.length = 1) (hl : rows.length ≤ 1000000) : Dn.Call Γ cx .val 50 [.d x] St.empty fun v _ => v = .d x := by
  refine Dn.Call.body (fc := c50) rfl ?_
  cases h with
  | nil => simp -implicitDefEqProofs [c50, c50_k2, c50_k1, eqV, V.isNil, Opd.isC]
  | list rows =>
    simp -implicitDefEqProofs [c50, c50_k2, c50_k1, c50_k0, eqV, V.isNil, Opd.isC, repl, rowsOf]
    obtain ⟨v1, σ1, hap, happ, ho, ht, hdv⟩ := (App.fl (σ := St.empty) (sz := 1) []).push (bytes := 4) (by decide) (by simp) (ys := rows) hf (by simp; omega) (by simp; omega)
    refine i_app_f (v := v1) (s := σ1) ?_ ?_
    · simp -implicitDefEqProofs [V.rows]
      exact hap none
    simp -implicitDefEqProofs [(happ.lv.dv σ1).1, hdv (.inl (by simp))]

theorem clone_hash {x : D} {rows : List (List D)} (h : LV (.d x) rows) (hf : ∀ r ∈ rows, r.length = 32) (hl : rows.length ≤ 1000000) : Dn.Call Γ cx .val 51 [.d x] St.empty fun v _ => v = .d x := by
  refine Dn.Call.body (fc := c51) rfl ?_
  cases h with
  | nil => simp -implicitDefEqProofs [c51, c51_k2, c51_k1, eqV, V.isNil, Opd.isC]
  | list rows =>
    simp -implicitDefEqProofs [-List.reduceReplicate, c51, c51_k2, c51_k1, c51_k0, eqV, V.isNil, Opd.isC, repl, rowsOf]
    obtain ⟨v1, σ1, hap, happ, ho, ht, hdv⟩ := (App.fl (σ := St.empty) (sz := 32) []).push (bytes := 32) (by decide) (by simp) (ys := rows) hf (by simp; omega) (by simp; omega)
    refine i_app_f (v := v1) (s := σ1) ?_ ?_
    · simp -implicitDefEqProofs [V.rows]
      exact hap none
    simp -implicitDefEqProofs [(happ.lv.dv σ1).1, hdv (.inl (by simp))]

theorem clone_spend {x : D} {rows : List (List D)} (h : LV (.d x) rows) (hf : ∀ r ∈ rows, r.length = 35) (hl : rows.length ≤ 1000000) : Dn.Call Γ cx .val 69 [.d x] St.empty fun v _ => v = .d x := by
  refine Dn.Call.body (fc := c69) rfl ?_
  cases h with
  | nil => simp -implicitDefEqProofs [c69, c69_k2, c69_k1, eqV, V.isNil, Opd.isC]
  | list rows =>
    simp -implicitDefEqProofs [-List.reduceReplicate, c69, c69_k2, c69_k1, c69_k0, eqV, V.isNil, Opd.isC, repl, rowsOf]
    obtain ⟨v1, σ1, hap, happ, ho, ht, hdv⟩ := (App.fl (σ := St.empty) (sz := 35) []).push (bytes := 64) (by decide) (by simp) (ys := rows) hf (by simp; omega) (by simp; omega)
    refine i_app_f (v := v1) (s := σ1) ?_ ?_
    · simp -implicitDefEqProofs [V.rows]
      exact hap none
    simp -implicitDefEqProofs [(happ.lv.dv σ1).1, hdv (.inl (by simp))]

theorem clone_coin {x : D} {rows : List (List D)} (h : LV (.d x) rows) (hf : ∀ r ∈ rows, r.length = 2) (hl : rows.length ≤ 1000000) : Dn.Call Γ cx .val 70 [.d x] St.empty fun v _ => v = .d x := by
  refine Dn.Call.body (fc := c70) rfl ?_
  cases h with
  | nil => simp -implicitDefEqProofs [c70, c70_k2, c70_k1, eqV, V.isNil, Opd.isC]
  | list rows =>
    simp -implicitDefEqProofs [-List.reduceReplicate, c70, c70_k2, c70_k1, c70_k0, eqV, V.isNil, Opd.isC, repl, rowsOf]
    obtain ⟨v1, σ1, hap, happ, ho, ht, hdv⟩ := (App.fl (σ := St.empty) (sz := 2) []).push (bytes := 16) (by decide) (by simp) (ys := rows) hf (by simp; omega) (by simp; omega)
    refine i_app_f (v := v1) (s := σ1) ?_ ?_
    · simp -implicitDefEqProofs [V.rows]
      exact hap none
    simp -implicitDefEqProofs [(happ.lv.dv σ1).1, hdv (.inl (by simp))]

/-- A transaction's lists. -/
structure TxOk (i o : D) (ins outs : List (List D)) : Prop where
  i : LV (.d i) ins
  o : LV (.d o) outs
  fi : ∀ r ∈ ins, r.length = 35
  fo : ∀ r ∈ outs, r.length = 2

theorem s_txCopy {i o : D} {bb : Bool} {ins outs : List (List D)} (h : TxOk i o ins outs) (hi : ins.length ≤ 1000000) (ho : outs.length ≤ 1000000) : Dn.Call Γ cx .val 52 [.da [i, o, .bool bb]] St.empty fun v _ => v = .da [i, o, .bool bb] := by
  refine Dn.Call.body (fc := c52) rfl ?_
  simp -implicitDefEqProofs [c52, c52_k1]
  refine w_drw (fun _ => .val) [1, 1] (by decide +kernel) ?_
  simp -implicitDefEqProofs [room_zero]
  refine use_fnN rfl rfl (clone_spend h.i h.fi hi) rfl ?_
  simp -implicitDefEqProofs [room_zero]
  refine use_fnN rfl rfl (clone_coin h.o h.fo ho) rfl ?_
  simp -implicitDefEqProofs [room_zero, c52_k0, ofD]
  exact ⟨Kept.refl _ _ _, Kept.refl _ _ _⟩

/-- A message. -/
structure MG where
  kind : Int
  half : Int
  size : Int
  q : Int
  data : D
  ok : Bool
  ids : D
  hs : D
  ti : D
  to : D
  tb : Bool
def MG.row (m : MG) : List D := [.int .i64 m.kind, .int .u64 m.half, .int .i64 m.size, .int .i64 m.q, m.data, .bool m.ok, m.ids, m.hs, m.ti, m.to, .bool m.tb]
/-- What its lists hold. -/
structure MG.Ok (m : MG) (data ids hs ins outs : List (List D)) : Prop where
  d : LV (.d m.data) data
  i : LV (.d m.ids) ids
  h : LV (.d m.hs) hs
  t : TxOk m.ti m.to ins outs
  fd : ∀ r ∈ data, r.length = 1
  fi : ∀ r ∈ ids, r.length = 1
  fh : ∀ r ∈ hs, r.length = 32

theorem clone_byte {x : D} {rows : List (List D)} (h : LV (.d x) rows) (hf : ∀ r ∈ rows, r.length = 1) (hl : rows.length ≤ 1000000) : Dn.Call Γ cx .val 49 [.d x] St.empty fun v _ => v = .d x := by
  refine Dn.Call.body (fc := c49) rfl ?_
  cases h with
  | nil => simp -implicitDefEqProofs [c49, c49_k2, c49_k1, eqV, V.isNil, Opd.isC]
  | list rows =>
    simp -implicitDefEqProofs [c49, c49_k2, c49_k1, c49_k0, eqV, V.isNil, Opd.isC, repl, rowsOf]
    obtain ⟨v1, σ1, hap, happ, ho, ht, hdv⟩ := (App.fl (σ := St.empty) (sz := 1) []).push (bytes := 1) (by decide) (by simp) (ys := rows) hf (by simp; omega) (by simp; omega)
    refine i_app_f (v := v1) (s := σ1) ?_ ?_
    · simp -implicitDefEqProofs [V.rows]
      exact hap none
    simp -implicitDefEqProofs [(happ.lv.dv σ1).1, hdv (.inl (by simp))]

theorem s_wireCopy {m : MG} {data ids hs ins outs : List (List D)} (h : m.Ok data ids hs ins outs) (h1 : data.length ≤ 1000000) (h2 : ids.length ≤ 1000000) (h3 : hs.length ≤ 1000000) (h4 : ins.length ≤ 1000000) (h5 : outs.length ≤ 1000000) :
    Dn.Call Γ cx .val 32 [.da m.row] St.empty fun v _ => v = .da m.row := by
  refine Dn.Call.body (fc := c32) rfl ?_
  simp -implicitDefEqProofs [MG.row, c32, c32_k1]
  refine w_drw (fun _ => .val) [1, 1, 1, 1] (by decide +kernel) ?_
  simp -implicitDefEqProofs [room_zero]
  refine use_fnN rfl rfl (clone_byte h.d h.fd h1) rfl ?_
  simp -implicitDefEqProofs [room_zero]
  refine use_fnN rfl rfl (clone_u32 h.i h.fi h2) rfl ?_
  simp -implicitDefEqProofs [room_zero]
  refine use_fnN rfl rfl (clone_hash h.h h.fh h3) rfl ?_
  simp -implicitDefEqProofs [room_zero, ofD]
  refine use_fnN rfl rfl (s_txCopy h.t h4 h5) rfl ?_
  simp -implicitDefEqProofs [room_zero, c32_k0, ofD]
  exact ⟨Kept.refl _ _ _, Kept.refl _ _ _, Kept.refl _ _ _, Kept.refl _ _ _⟩

theorem s_Program {m : MG} {data ids hs ins outs : List (List D)} (h : m.Ok data ids hs ins outs) (h1 : data.length ≤ 1000000) (h2 : ids.length ≤ 1000000) (h3 : hs.length ≤ 1000000) (h4 : ins.length ≤ 1000000) (h5 : outs.length ≤ 1000000) :
    Dn.Call Γ cx .val 19 [.da m.row] St.empty fun v _ => v = .da m.row := by
  refine Dn.Call.body (fc := c19) rfl ?_
  simp -implicitDefEqProofs [MG.row, c19, c19_k0, ofD]
  refine use_fn rfl (s_wireCopy h h1 h2 h3 h4 h5) rfl ?_
  simp -implicitDefEqProofs [MG.row, ofD]



/-- No key longer than so many bytes. -/
def KeyLe (rows : List (List D)) (n : Int) : Prop := ∀ r ∈ rows, ∀ s : List UInt8, r[33]? = some (.str s) → (s.length : Int) ≤ n ∨ 10000 ≤ n

def InvLarge (ins : List (List D)) (l : D) (i : D) (k : Nat) (m : Nat) (e : Env) (σ : St) : Prop := ∃ (j : Nat) (n : Int) (x y : V), e = [(3, I n), (8, .d l), (9, I 1), (10, I 0), (21, x), (27, y), (30, .d i), (31, I k), (32, I j)] ∧ j ≤ k ∧ m = k - j ∧ 0 ≤ n ∧ n ≤ 10000 * j ∧ KeyLe (ins.take j) n

def InvOuter (ins : List (List D)) (l : List (List D)) (a b : Nat) (m : Nat) (e : Env) (σ : St) : Prop := ∃ (t : Nat) (n : Int) (x y : V), e = [(3, I n), (8, .d (.list l)), (9, I 1), (10, I t), (21, x), (27, y)] ∧ ((t = 0 ∧ n = 0 ∧ m = 1) ∨ (t = 1 ∧ m = 0 ∧ 0 ≤ n ∧ n ≤ 300000 ∧ a ≤ 30 ∧ b ≤ 30 ∧ KeyLe ins n))

theorem s_Large {i o : D} {tb : Bool} {ins outs : List (List D)} (h : TxOk i o ins outs) (hs : ∀ r ∈ ins, ∃ s : List UInt8, r[33]? = some (.str s)) :
    Dn.Call Γ cx .val 18 [.d (.list [[i, o, .bool tb]])] St.empty fun v _ => ∃ bb, v = B bb ∧ (bb = false → ins.length ≤ 30 ∧ outs.length ≤ 30 ∧ KeyLe ins 5000) := by
  refine Dn.Call.body (fc := c18) rfl ?_
  have hil : ∀ σ, lenT σ .slice (.d i) = some ins.length := fun σ => h.i.len σ
  have hol : ∀ σ, lenT σ .slice (.d o) = some outs.length := fun σ => h.o.len σ
  simp -implicitDefEqProofs [c18, c18_k16, c18_k15, lenT, lenV, c18_k14]
  have hia : ∀ σ, iaddrV σ 3 (.d (.list [[i, o, .bool tb]])) (I 0) = some (.ro [i, o, .bool tb]) := fun σ => (LV.list [[i, o, .bool tb]]).iaddr σ (k := .i64) (sz := 3) (i := 0) rfl rfl
  refine wloopI (InvOuter ins [[i, o, .bool tb]] ins.length outs.length) (m := 1) ⟨0, 0, .any, .any, rfl, .inl ⟨rfl, rfl, rfl⟩⟩ ?_
  rintro m e σ ⟨t, n, x, y, rfl, ⟨rfl, rfl, rfl⟩ | ⟨rfl, rfl, n0, n1, l1, l2, lk⟩⟩
  rotate_left
  · simp -implicitDefEqProofs [c18_l13, c18_k12, c18_k0]
    by_cases h5 : 5000 < n
    · exact .inr h5
    refine .inl ⟨by omega, by omega, by omega, fun r hr s hs => ?_⟩
    rcases lk r hr s hs with h | h <;> omega
  simp -implicitDefEqProofs [c18_l13, c18_k12, c18_k11, c18_k10, hia]
  have ho : ∀ z : Dn.Obj, (σ.objs ++ [z])[σ.objs.length]? = some z := fun z => by simp
  by_cases c1 : (30 : Int) < ins.length
  · simp -implicitDefEqProofs [c18_k9, hil, hol, c1, c18_k8]
  by_cases c2 : (30 : Int) < outs.length
  · simp -implicitDefEqProofs [c18_k9, hil, hol, c1, c2, c18_k8]
  simp -implicitDefEqProofs [c18_k9, hil, hol, c1, c2, c18_k8, c18_k7, c18_k6]
  refine wloopI (InvLarge ins (.list [[i, o, .bool tb]]) i ins.length) (m := ins.length) ⟨0, 0, _, _, rfl, by omega, rfl, by omega, by omega, by simp [KeyLe]⟩ ?_
  rintro m e σ1 ⟨j, n, x, y, rfl, hj, rfl, n0, n1, nk⟩
  simp -implicitDefEqProofs [c18_l5, c18_k4]
  by_cases hjl : j < ins.length
  rotate_left
  · obtain rfl : j = ins.length := by omega
    simp -implicitDefEqProofs
    rw [List.take_length] at nk
    exact ⟨1, n, _, _, rfl, .inr ⟨rfl, rfl, by omega, by omega, by omega, by omega, nk⟩⟩
  have hrow : ins[j]? = some ins[j] := by simp [hjl]
  have hmem := List.getElem_mem hjl
  have hr35 := h.fi _ hmem
  obtain ⟨s, hs33⟩ := hs _ hmem
  generalize hrw : ins[j] = row at *
  have hia2 := h.i.iaddr σ1 (k := .i64) (sz := 35) hrow hr35
  have hjj : (j : Int) < ins.length := by omega
  have htk : List.take 35 (List.map V.d row) = List.map V.d row := List.take_of_length_le (by simp [hr35])
  have hml : (List.map V.d row).length = 35 := by simp [hr35]
  have h33 : (List.map V.d row)[33]? = some (.d (.str s)) := by simp [hs33]
  have htj : ins.take (j + 1) = ins.take j ++ [row] := by rw [← hrw]; exact List.take_succ_eq_append_getElem hjl
  obtain ⟨k, hk, hk0, hk1, hk2⟩ : ∃ k : Int, (if (10000 : Int) < s.length then 10000 else (s.length : Int)) = k ∧ 0 ≤ k ∧ k ≤ 10000 ∧ ((s.length : Int) ≤ k ∨ 10000 ≤ k) := by
    by_cases h : (10000 : Int) < s.length
    · exact ⟨10000, by simp [h], by omega, by omega, by omega⟩
    · exact ⟨s.length, by simp [h], by omega, by omega, by omega⟩
  have hnk : KeyLe (ins.take (j + 1)) (n + k) := by
    rw [htj]
    intro r hr s' hs'
    rcases List.mem_append.1 hr with hr | hr
    · rcases nk r hr s' hs' with h | h <;> omega
    · simp at hr
      subst hr
      rw [hs33] at hs'
      cases hs'
      omega
  simp -implicitDefEqProofs [hjj, hjl, c18_k3, c18_k2, hia2, hr35, htk]
  simp -implicitDefEqProofs [c18_k1, hs33, lenT, minAll, minInts]
  rw [hk, wrap_i64 (n := n + k) (by omega) (by omega), wrap_i64 (n := (j : Int) + 1) (by omega) (by omega)]
  exact ⟨ins.length - (j + 1), by omega, j + 1, n + k, x, y, rfl, by omega, rfl, by omega, by omega, hnk⟩



def lenD : D → Nat
  | .list r => r.length
  | _ => 0
theorem lenD_of {x : D} {rows : List (List D)} (h : LV (.d x) rows) (σ : St) : lenT σ .slice (.d x) = some (lenD x) := by
  cases h <;> rfl

theorem lenD_eq {x : D} {rows : List (List D)} (h : LV (.d x) rows) : lenD x = rows.length := by
  cases h <;> rfl
/-- Bounds of what is looked at. -/
def Small (m : MG) : Prop := lenD m.data ≤ 1000 ∧ lenD m.ids ≤ 200

def Small2 (m : MG) : Prop := lenD m.hs ≤ 110 ∧ lenD m.ti ≤ 30 ∧ lenD m.to ≤ 30 ∧ ∀ rows, LV (.d m.ti) rows → KeyLe rows 5000
theorem lv_unique {x : D} {a b : List (List D)} (h : LV (.d x) a) (h' : LV (.d x) b) : a = b := by
  cases h <;> cases h' <;> rfl

/-- A message as an argument has it. -/
def MsgOk (m : MG) : Prop := ∃ data ids hs ins outs, m.Ok data ids hs ins outs ∧ ∀ r ∈ ins, ∃ s : List UInt8, r[33]? = some (.str s)

def msgRows (l : List MG) : List (List D) := l.map MG.row
theorem msgRows_at {l : List MG} {i : Nat} {m : MG} (h : l[i]? = some m) : (msgRows l)[i]? = some m.row := by simp [msgRows, h]
theorem msgRows_fit (l : List MG) : ∀ r ∈ msgRows l, r.length = 11 := by
  intro r hr
  simp [msgRows] at hr
  obtain ⟨m, _, rfl⟩ := hr
  rfl
theorem msgRows_len (l : List MG) : (msgRows l).length = l.length := by simp [msgRows]

def InvProg (y : D) (l : List MG) (m : Nat) (e : Env) (σ : St) : Prop := ∃ (i : Nat) (w x1 x2 x3 x4 : V), e = [(4, w), (8, .d y), (9, I l.length), (10, I i), (21, x1), (27, x2), (33, x3), (39, x4)] ∧ i ≤ l.length ∧ i ≤ 21 ∧ m = l.length - i ∧ App σ 11 w (msgRows (l.take i)) ∧ ∀ m ∈ l.take i, Small m ∧ Small2 m

theorem s_program {y : D} {l : List MG} (hy : LV (.d y) (msgRows l)) (hok : ∀ m ∈ l, MsgOk m) :
    Dn.Call Γ cx .val 6 [.d y] St.empty fun v _ => ∃ x bb, v = .tup [.d x, B bb] ∧ (bb = true → LV (.d x) (msgRows l) ∧ l.length ≤ 21 ∧ ∀ m ∈ l, Small m ∧ Small2 m) := by
  refine Dn.Call.body (fc := c6) rfl ?_
  have hlen := hy.len St.empty
  rw [msgRows_len] at hlen
  simp only [St.empty] at hlen
  simp -implicitDefEqProofs [c6, c6_k10, c6_k9, hlen, repl, rowsOf, c6_k8]
  refine wloopI (InvProg y l) (m := l.length) ⟨0, .fl [], _, _, _, _, rfl, by omega, by omega, rfl, by simpa [msgRows] using App.fl [], by simp⟩ ?_
  rintro m e σ ⟨i, w, x1, x2, x3, x4, rfl, hi, hi21, rfl, happ, hsm⟩
  simp -implicitDefEqProofs [c6_l7, c6_k6]
  by_cases hlt : i < l.length
  rotate_left
  · obtain rfl : i = l.length := by omega
    rw [List.take_length] at happ hsm
    obtain ⟨d1, d2, ⟨x, dx⟩, d4, d5⟩ := happ.lv.dv σ
    simp -implicitDefEqProofs [c6_k0, d1, dx]
    rw [dx] at d2
    exact ⟨d2, hi21, hsm⟩
  have hii : (i : Int) < l.length := by omega
  have hb : l[i]? = some (l[i]) := by simp [hlt]
  have hm := hok _ (List.getElem_mem hlt)
  have htake : l.take (i + 1) = l.take i ++ [l[i]] := List.take_succ_eq_append_getElem hlt
  generalize hmi : l[i] = mm at *
  obtain ⟨data, ids, hs, ins, outs, hM, hstr⟩ := hm
  have hia := hy.iaddr σ (k := .i64) (sz := 11) (msgRows_at hb) rfl
  have hdl : ∀ σ, lenT σ .slice (.d mm.data) = some data.length := fun σ => hM.d.len σ
  have hil : ∀ σ, lenT σ .slice (.d mm.ids) = some ids.length := fun σ => hM.i.len σ
  have hhl : ∀ σ, lenT σ .slice (.d mm.hs) = some hs.length := fun σ => hM.h.len σ
  simp -implicitDefEqProofs [hii, hlt, c6_k5, c6_k4, hia, MG.row]
  by_cases c0 : (20 : Int) < i
  · simp -implicitDefEqProofs [c6_k3, c0, c6_k2]
  by_cases c1 : (1000 : Int) < data.length
  · simp -implicitDefEqProofs [c6_k3, c0, hdl, c1, c6_k2]
  by_cases c2 : (200 : Int) < ids.length
  · simp -implicitDefEqProofs [c6_k3, c0, hdl, c1, hil, c2, c6_k2]
  by_cases c3 : (110 : Int) < hs.length
  · simp -implicitDefEqProofs [c6_k3, c0, hdl, c1, hil, c2, hhl, c3, c6_k2]
  simp -implicitDefEqProofs [c6_k3, c0, hdl, c1, hil, c2, hhl, c3, ofD, repl, rowsOf]
  refine use_val (ds := [.d (.list [[mm.ti, mm.to, .bool mm.tb]])]) rfl (s_Large hM.t hstr) ?_
  rintro v s ⟨bb, rfl, hbb⟩
  refine ⟨rfl, fun _ => rfl, ?_⟩
  cases bb with
  | true => simp -implicitDefEqProofs [c6_k2]
  | false =>
  obtain ⟨b1, b2, b3⟩ := hbb rfl
  simp -implicitDefEqProofs [c6_k2, c6_k1, ofD]
  refine use_fn rfl (s_Program hM (by omega) (by omega) (by omega) (by omega) (by omega)) (by simp [V.pure, V.flatv, V.borrows]) ?_
  simp -implicitDefEqProofs [MG.row, ofD, repl, rowsOf]
  obtain ⟨σ1, hσ1, htk1⟩ : ∃ s : St, (⟨σ.objs ++ [.cells [V.d (.int .i64 mm.kind), V.d (.int .u64 mm.half), V.d (.int .i64 mm.size), V.d (.int .i64 mm.q), V.d mm.data, V.d (.bool mm.ok), V.d mm.ids, V.d mm.hs, V.d mm.ti, V.d mm.to, V.d (.bool mm.tb)]], σ.toks⟩ : St) = s ∧ s.toks = σ.toks := ⟨⟨σ.objs ++ _, σ.toks⟩, rfl, rfl⟩
  rw [hσ1]
  obtain ⟨w', σ2, hap, happ2, ho, ht, _⟩ := (happ.toks htk1).push (bytes := 168) (by decide) (msgRows_fit _) (ys := [mm.row]) (by intro r hr; simp at hr; subst hr; rfl) (by rw [msgRows_len]; simp; omega) (by rw [msgRows_len]; simp; omega)
  have e1 : msgRows (l.take i) ++ [mm.row] = msgRows (l.take (i + 1)) := by rw [htake]; simp [msgRows]
  rw [e1] at happ2
  have hsm2 : ∀ m ∈ l.take (i + 1), Small m ∧ Small2 m := by
    rw [htake]
    intro u hu
    rcases List.mem_append.1 hu with hu | hu
    · exact hsm u hu
    · simp at hu
      subst hu
      exact ⟨⟨by rw [lenD_eq hM.d]; omega, by rw [lenD_eq hM.i]; omega⟩, by rw [lenD_eq hM.h]; omega, by rw [lenD_eq hM.t.i]; omega, by rw [lenD_eq hM.t.o]; omega, fun rows hr => by rw [lv_unique hr hM.t.i]; exact b3⟩
  refine i_app_f (v := w') (s := σ2) ?_ ?_
  · simp -implicitDefEqProofs [V.rows]
    exact hap none
  simp -implicitDefEqProofs [wrap_i64 (n := (i : Int) + 1) (by omega) (by omega)]
  exact ⟨l.length - (i + 1), by omega, i + 1, w', _, _, _, _, rfl, by omega, by omega, rfl, happ2, hsm2⟩



theorem Fr.set (σ : St) (r : Nat) (o : Dn.Obj) : Fr [r] σ ⟨σ.objs.set r o, σ.toks⟩ := ⟨by simp, fun q hq hl => by simp only; rw [List.getElem?_set_ne (fun e => hq (by simp [e]))]⟩



/-- The sums of the next sketch, and the sketches that are left. -/
def sketchS : List MG → Int × List MG
  | [] => (0, [])
  | m :: r => (if lenD m.data = 0 ∨ lenD m.data % 4 ≠ 0 then -1 else (lenD m.data : Int) / 4, r)

/-- The reader's sketches. -/
structure Th (σ : St) (r : Nat) (th : List MG) (rest : List V) (v : V) : Prop where
  obj : σ.objs[r]? = some (.cells (v :: rest))
  lv : LV v (msgRows th)
  tl : ∀ a t st z, v = .tl a t st z → z = 11

theorem s_sketch {σ : St} {r : Nat} {th : List MG} {rest : List V} {v : V} (h : Th σ r th rest v) (hok : ∀ m ∈ th, MsgOk m) (hl : th.length ≤ 1000) (hd : ∀ m ∈ th, lenD m.data ≤ 1000) :
    Dn.Call Γ cx .raw 68 [.ref r 0] σ fun w σ' => w = I (sketchS th).1 ∧ (∃ v', Th σ' r (sketchS th).2 rest v') ∧ Fr [r] σ σ' ∧ σ'.toks = σ.toks := by
  refine Dn.Call.body (fc := c68) rfl ?_
  have hlt : r < σ.objs.length := (List.getElem?_eq_some_iff.1 h.obj).1
  have hlen := h.lv.len σ
  rw [msgRows_len] at hlen
  have hset : ∀ o : Dn.Obj, (σ.objs.set r o)[r]? = some o := fun o => List.getElem?_set_self hlt
  cases th with
  | nil =>
    simp -implicitDefEqProofs [c68, c68_k6, c68_k5, nilCheckV, h.obj, hlen, sketchS]
    exact ⟨⟨v, h⟩, Fr.refl _ _⟩
  | cons m th =>
    obtain ⟨data, ids, hs, ins, outs, hM, _⟩ := hok m (by simp)
    have hdl := lenD_of hM.d
    have hia : iaddrV σ 11 v (I 0) = some (.ro m.row) := h.lv.iaddr σ (k := .i64) (sz := 11) (i := 0) (row := m.row) rfl rfl
    obtain ⟨v2, e2, lv2, tl2⟩ := h.lv.slice σ (sz := 11) (msgRows_fit _) h.tl (lo := 1) (hi := th.length + 1) (by omega) (by rw [msgRows_len]; simp)
    have hlv := h.lv.lenV σ
    rw [msgRows_len] at hlv
    have s2 : sliceX σ 11 v (some (I 1)) none none = some v2 := by
      have : (1 : Int) ≤ (th.length : Int) + 1 := by omega
      simp [sliceX, hlv, boundV, asIdx, e2, this]
    have hth : ((msgRows (m :: th)).drop 1).take (th.length + 1 - 1) = msgRows th := by
      simp [msgRows, List.take_of_length_le]
    rw [hth] at lv2
    have hne : ¬ ((th.length : Int) + 1 = 0) := by omega
    simp -implicitDefEqProofs [c68, c68_k6, c68_k5, nilCheckV, h.obj, hlen, hne, c68_k4, hia, MG.row, hdl, c68_k3, s2, lv2.cells]
    have hT : Th ⟨σ.objs.set r (.cells (v2 :: rest)), σ.toks⟩ r th rest v2 := ⟨hset _, lv2, tl2⟩
    have hF : Fr [r] σ ⟨σ.objs.set r (.cells (v2 :: rest)), σ.toks⟩ := Fr.set _ _ _
    have hd0 := hd m (by simp)
    obtain ⟨n, hn⟩ : ∃ n, lenD m.data = n := ⟨_, rfl⟩
    rw [hn] at hd0 ⊢
    by_cases c1 : n = 0
    · simp -implicitDefEqProofs [c68_k2, c1, c68_k1, sketchS, hn]
      exact ⟨⟨v2, hT⟩, hF⟩
    have c1' : ¬ ((n : Int) = 0) := by omega
    have e4 : (n : Int).tmod 4 = n % 4 := tmod_nonneg (by omega)
    by_cases c2 : n % 4 = 0
    · have c2' : (n : Int) % 4 = 0 := by omega
      simp -implicitDefEqProofs [c68_k2, c1, c1', e4, c2, c2', c68_k1, c68_k0, sketchS, hn, wrap_i64 (n := (n : Int) / 4) (by omega) (by omega)]
      exact ⟨⟨v2, hT⟩, hF⟩
    · have c2' : ¬ ((n : Int) % 4 = 0) := by omega
      simp -implicitDefEqProofs [c68_k2, c1, c1', e4, c2, c2', c68_k1, sketchS, hn]
      exact ⟨⟨v2, hT⟩, hF⟩



/-- A round. -/
structure NW where
  size : Int
  q : Int
  first : Int
  more : Bool
  found : Bool
  asked : Int
def NW.row (n : NW) : List D := [.int .i64 n.size, .int .i64 n.q, .int .i64 n.first, .bool n.more, .bool n.found, .int .i64 n.asked]
def nwRows (l : List NW) : List (List D) := l.map NW.row

/-- The reader's state. -/
structure RS where
  th : List MG
  now : NW
  on : Bool
  out : List NW
def RS.rest (s : RS) (w : V) : List V := [I s.now.size, I s.now.q, I s.now.first, B s.now.more, B s.now.found, I s.now.asked, B s.on, w]
structure RAt (σ : St) (r : Nat) (s : RS) : Prop where
  ex : ∃ v w, Th σ r s.th (s.rest w) v ∧ App σ 6 w (nwRows s.out)
structure RSOk (s : RS) : Prop where
  ok : ∀ m ∈ s.th, MsgOk m
  sm : ∀ m ∈ s.th, Small m
  len : s.th.length ≤ 1000
  out : s.out.length ≤ 1000

theorem Th.any {σ : St} {r : Nat} {th : List MG} {rest : List V} {v : V} (h : Th σ r th rest v) (th' : List MG) : ∃ σ', (∃ v', Th σ' r th' rest v') ∧ Fr [r] σ σ' ∧ σ'.toks = σ.toks := by
  have hlt : r < σ.objs.length := (List.getElem?_eq_some_iff.1 h.obj).1
  exact ⟨⟨σ.objs.set r (.cells (.d (.list (msgRows th')) :: rest)), σ.toks⟩, ⟨_, List.getElem?_set_self hlt, .list _, fun a t st z e => by cases e⟩, Fr.set _ _ _, rfl⟩
theorem kept_set2 {ks : List Nat} {e : Env} {l : List Dn.Obj} {t : List Nat} {r : Nat} {o1 o2 : Dn.Obj} (h : ∀ t ∈ ks, r ∉ dref (e.get t)) : Kept ks e ⟨l.set r o1, t⟩ ⟨l.set r o2, t⟩ := fun t ht q hq => by
  simp only
  rw [List.getElem?_set_ne (fun he => h t ht (by rw [he]; exact hq)), List.getElem?_set_ne (fun he => h t ht (by rw [he]; exact hq))]
theorem kept_fr {ks : List Nat} {e : Env} {σ σ' : St} {r : Nat} (hf : Fr [r] σ σ') (h : ∀ t ∈ ks, ∀ q ∈ dref (e.get t), q ≠ r ∧ q < σ.objs.length) : Kept ks e σ σ' := fun t ht q hq => by
  obtain ⟨h1, h2⟩ := h t ht q hq
  exact hf.at_ q (by simpa using h1) h2

def askS (s : RS) (m : MG) : Bool × RS := if s.on then (false, s) else (decide (0 ≤ (sketchS s.th).1), ⟨(sketchS s.th).2, ⟨m.size, m.q, (sketchS s.th).1, false, false, 0⟩, true, s.out⟩)

theorem s_ask {σ : St} {r : Nat} {s : RS} (h : RAt σ r s) (hok : RSOk s) (m : MG) :
    Dn.Call Γ cx .raw 46 [.ref r 0, .da m.row] σ fun w σ' => w = B (askS s m).1 ∧ RAt σ' r (askS s m).2 ∧ Fr [r] σ σ' := by
  refine Dn.Call.body (fc := c46) rfl ?_
  obtain ⟨v, w, hT, hA⟩ := h.ex
  have hlt : r < σ.objs.length := (List.getElem?_eq_some_iff.1 hT.obj).1
  simp -implicitDefEqProofs [MG.row, c46]
  obtain ⟨σ1, hσ1, htk1⟩ : ∃ s1 : St, (⟨σ.objs ++ [.cells [V.d (.int .i64 m.kind), V.d (.int .u64 m.half), V.d (.int .i64 m.size), V.d (.int .i64 m.q), V.d m.data, V.d (.bool m.ok), V.d m.ids, V.d m.hs, V.d m.ti, V.d m.to, V.d (.bool m.tb)]], σ.toks⟩ : St) = s1 ∧ s1.toks = σ.toks := ⟨⟨σ.objs ++ _, σ.toks⟩, rfl, rfl⟩
  rw [hσ1]
  have f1 : Fr [] σ σ1 := ⟨by rw [← hσ1]; simp, fun q _ hq => by rw [← hσ1]; simp [List.getElem?_append_left hq]⟩
  have g1 : σ1.objs[σ.objs.length]? = some (.cells [V.d (.int .i64 m.kind), V.d (.int .u64 m.half), V.d (.int .i64 m.size), V.d (.int .i64 m.q), V.d m.data, V.d (.bool m.ok), V.d m.ids, V.d m.hs, V.d m.ti, V.d m.to, V.d (.bool m.tb)]) := by rw [← hσ1]; simp
  have hT1 : Th σ1 r s.th (s.rest w) v := ⟨f1.get hT.obj (by simp), hT.lv, hT.tl⟩
  have hA1 : App σ1 6 w (nwRows s.out) := hA.toks htk1
  have hob := hT1.obj
  simp only [RS.rest] at hob
  cases hon : s.on with
  | true =>
    rw [hon] at hob
    simp -implicitDefEqProofs [c46_k3, nilCheckV, hob, c46_k2, askS, hon]
    exact ⟨⟨v, w, hT1, hA1⟩, f1.mono (by simp)⟩
  | false =>
    rw [hon] at hob
    simp -implicitDefEqProofs [c46_k3, nilCheckV, hob, c46_k2, c46_k1]
    refine w_drw (fun _ => .raw) [3, 3] (by decide +kernel) ?_
    simp -implicitDefEqProofs [room_zero, nilCheckV, g1]
    refine use_rawN rfl (s_sketch hT1 hok.ok hok.len fun m hm => (hok.sm m hm).1) ?_ fun z σ2 ⟨hz, ⟨v2, hT2⟩, hf2, ht2⟩ => ⟨?_, ?_⟩
    · obtain ⟨σ', h1, h2, h3⟩ := hT1.any (sketchS s.th).2
      exact ⟨_, σ', rfl, h1, h2, h3⟩
    · have hg := (List.getElem?_eq_some_iff.1 g1).1
      exact kept_fr hf2 (by simp [Env.get, dref]; omega)
    subst hz
    have hob2 := hT2.obj
    simp only [RS.rest, hon] at hob2
    have g2 : σ2.objs[σ.objs.length]? = some (.cells [V.d (.int .i64 m.kind), V.d (.int .u64 m.half), V.d (.int .i64 m.size), V.d (.int .i64 m.q), V.d m.data, V.d (.bool m.ok), V.d m.ids, V.d m.hs, V.d m.ti, V.d m.to, V.d (.bool m.tb)]) := hf2.get g1 (by simp; omega)
    have hlt2 : r < σ2.objs.length := (List.getElem?_eq_some_iff.1 hob2).1
    have hst1 : ∀ o : Dn.Obj, (σ2.objs.set r o)[r]? = some o := fun o => List.getElem?_set_self hlt2
    simp -implicitDefEqProofs [room_zero, nilCheckV, hob2, g2, ofD, hst1, c46_k0]
    refine ⟨Kept.set (by simp [Env.get, dref]; omega), kept_set2 (by simp [Env.get, dref]; omega), ?_⟩
    have e1 : askS s m = (decide (0 ≤ (sketchS s.th).1), ⟨(sketchS s.th).2, ⟨m.size, m.q, (sketchS s.th).1, false, false, 0⟩, true, s.out⟩) := by simp [askS, hon]
    rw [e1]
    have f1r : Fr [r] σ σ1 := f1.mono (by simp)
    exact ⟨rfl, ⟨v2, w, ⟨hst1 _, hT2.lv, hT2.tl⟩, hA1.toks ht2⟩, (f1r.trans hf2).trans (Fr.set _ _ _)⟩

def moreS (s : RS) : Bool × RS := if !s.on || s.now.more || decide (s.now.first = 0) then (false, s) else
  (decide ((sketchS s.th).1 = s.now.first) || decide ((sketchS s.th).1 = 0), ⟨(sketchS s.th).2, ⟨s.now.size, s.now.q, s.now.first, true, s.now.found, s.now.asked⟩, s.on, s.out⟩)

theorem s_more {σ : St} {r : Nat} {s : RS} (h : RAt σ r s) (hok : RSOk s) :
    Dn.Call Γ cx .raw 47 [.ref r 0] σ fun w σ' => w = B (moreS s).1 ∧ RAt σ' r (moreS s).2 ∧ Fr [r] σ σ' := by
  refine Dn.Call.body (fc := c47) rfl ?_
  obtain ⟨v, w, hT, hA⟩ := h.ex
  have hlt : r < σ.objs.length := (List.getElem?_eq_some_iff.1 hT.obj).1
  have hob := hT.obj
  simp only [RS.rest] at hob
  obtain ⟨th, ⟨size, q, first, more, found, asked⟩, on, out⟩ := s
  simp only at hob hT hA
  cases on with
  | false =>
    simp -implicitDefEqProofs [c47, c47_k4, nilCheckV, hob, c47_k3, moreS]
    exact ⟨h, Fr.refl _ _⟩
  | true =>
  cases more with
  | true =>
    simp -implicitDefEqProofs [c47, c47_k4, nilCheckV, hob, c47_k3, moreS]
    exact ⟨h, Fr.refl _ _⟩
  | false =>
  by_cases hf0 : first = 0
  · simp -implicitDefEqProofs [c47, c47_k4, nilCheckV, hob, hf0, c47_k3, moreS]
    subst hf0
    exact ⟨h, Fr.refl _ _⟩
  have hst : ∀ o : Dn.Obj, (σ.objs.set r o)[r]? = some o := fun o => List.getElem?_set_self hlt
  simp -implicitDefEqProofs [c47, c47_k4, nilCheckV, hob, hf0, c47_k3, c47_k2, c47_k1]
  have hT1 : Th ⟨σ.objs.set r (.cells [v, I size, I q, I first, V.d (.bool true), B found, I asked, B true, w]), σ.toks⟩ r th [I size, I q, I first, V.d (.bool true), B found, I asked, B true, w] v := ⟨hst _, hT.lv, hT.tl⟩
  refine use_raw (s_sketch hT1 hok.ok hok.len fun m hm => (hok.sm m hm).1) fun z σ2 ⟨hz, ⟨v2, hT2⟩, hf2, ht2⟩ => ?_
  subst hz
  have hob2 := hT2.obj
  have e1 : moreS ⟨th, ⟨size, q, first, false, found, asked⟩, true, out⟩ = (decide ((sketchS th).1 = first) || decide ((sketchS th).1 = 0), ⟨(sketchS th).2, ⟨size, q, first, true, found, asked⟩, true, out⟩) := by simp [moreS, hf0]
  rw [e1]
  have fin : RAt σ2 r ⟨(sketchS th).2, ⟨size, q, first, true, found, asked⟩, true, out⟩ ∧ Fr [r] σ σ2 := ⟨⟨v2, w, hT2, (hA.toks (σ' := ⟨σ.objs.set r (.cells [v, I size, I q, I first, V.d (.bool true), B found, I asked, B true, w]), σ.toks⟩) rfl).toks ht2⟩, (Fr.set _ _ _).trans hf2⟩
  by_cases h1 : (sketchS th).1 = first
  · simp -implicitDefEqProofs [nilCheckV, hob2, h1, c47_k0]
    exact fin
  · simp -implicitDefEqProofs [nilCheckV, hob2, h1, c47_k0]
    exact fin



def diffS (s : RS) (m : MG) : Bool × RS := if !s.on || decide (s.now.first = 0) then (false, s) else
  (true, ⟨s.th, ⟨s.now.size, s.now.q, s.now.first, s.now.more, m.ok, lenD m.ids⟩, false, s.out ++ [⟨s.now.size, s.now.q, s.now.first, s.now.more, m.ok, lenD m.ids⟩]⟩)

theorem nwRows_fit (l : List NW) : ∀ r ∈ nwRows l, r.length = 6 := by
  intro r hr
  simp [nwRows] at hr
  obtain ⟨m, _, rfl⟩ := hr
  rfl
theorem nwRows_len (l : List NW) : (nwRows l).length = l.length := by simp [nwRows]

theorem s_diff {σ : St} {r : Nat} {s : RS} (h : RAt σ r s) (hok : RSOk s) {m : MG} (hm : MsgOk m) :
    Dn.Call Γ cx .raw 48 [.ref r 0, .da m.row] σ fun w σ' => w = B (diffS s m).1 ∧ RAt σ' r (diffS s m).2 ∧ Fr [r] σ σ' := by
  refine Dn.Call.body (fc := c48) rfl ?_
  obtain ⟨v, w, hT, hA⟩ := h.ex
  have hlt : r < σ.objs.length := (List.getElem?_eq_some_iff.1 hT.obj).1
  obtain ⟨data, ids, hs, ins, outs, hM, _⟩ := hm
  have hil := lenD_of hM.i
  simp -implicitDefEqProofs [MG.row, c48]
  obtain ⟨σ1, hσ1, htk1⟩ : ∃ s1 : St, (⟨σ.objs ++ [.cells [V.d (.int .i64 m.kind), V.d (.int .u64 m.half), V.d (.int .i64 m.size), V.d (.int .i64 m.q), V.d m.data, V.d (.bool m.ok), V.d m.ids, V.d m.hs, V.d m.ti, V.d m.to, V.d (.bool m.tb)]], σ.toks⟩ : St) = s1 ∧ s1.toks = σ.toks := ⟨⟨σ.objs ++ _, σ.toks⟩, rfl, rfl⟩
  rw [hσ1]
  have f1 : Fr [] σ σ1 := ⟨by rw [← hσ1]; simp, fun q _ hq => by rw [← hσ1]; simp [List.getElem?_append_left hq]⟩
  have g1 : σ1.objs[σ.objs.length]? = some (.cells [V.d (.int .i64 m.kind), V.d (.int .u64 m.half), V.d (.int .i64 m.size), V.d (.int .i64 m.q), V.d m.data, V.d (.bool m.ok), V.d m.ids, V.d m.hs, V.d m.ti, V.d m.to, V.d (.bool m.tb)]) := by rw [← hσ1]; simp
  have hT1 : Th σ1 r s.th (s.rest w) v := ⟨f1.get hT.obj (by simp), hT.lv, hT.tl⟩
  have hA1 : App σ1 6 w (nwRows s.out) := hA.toks htk1
  have hR1 : RAt σ1 r s := ⟨v, w, hT1, hA1⟩
  have f1r : Fr [r] σ σ1 := f1.mono (by simp)
  have hob := hT1.obj
  simp only [RS.rest] at hob
  have hlt1 : r < σ1.objs.length := (List.getElem?_eq_some_iff.1 hob).1
  obtain ⟨th, ⟨size, q, first, more, found, asked⟩, on, out⟩ := s
  simp only at hob hT1 hA1
  have hlo := hok.out
  simp only at hlo
  cases on with
  | false =>
    simp -implicitDefEqProofs [c48_k3, nilCheckV, hob, c48_k2, diffS]
    exact ⟨hR1, f1r⟩
  | true =>
  by_cases hf0 : first = 0
  · subst hf0
    simp -implicitDefEqProofs [c48_k3, nilCheckV, hob, c48_k2, diffS]
    exact ⟨hR1, f1r⟩
  simp -implicitDefEqProofs [c48_k3, nilCheckV, hob, hf0, c48_k2, c48_k1]
  refine w_drw (fun _ => .raw) [3, 3] (by decide +kernel) ?_
  have hst : ∀ o : Dn.Obj, (σ1.objs.set r o)[r]? = some o := fun o => List.getElem?_set_self hlt1
  simp -implicitDefEqProofs [room_zero, nilCheckV, g1, hob, hil, hst]
  refine ⟨Kept.set (by simp [Env.get, dref]; omega), kept_set2 (by simp [Env.get, dref]; omega), ?_⟩
  obtain ⟨σ3, hσ3, htk3⟩ : ∃ s1 : St, (⟨σ1.objs.set r (.cells [v, I size, I q, I first, B more, V.d (.bool m.ok), V.d (.int .i64 (lenD m.ids : Int)), B true, w]), σ1.toks⟩ : St) = s1 ∧ s1.toks = σ1.toks := ⟨⟨σ1.objs.set r _, σ1.toks⟩, rfl, rfl⟩
  rw [hσ3]
  have g3 : σ3.objs[r]? = some (.cells [v, I size, I q, I first, B more, V.d (.bool m.ok), V.d (.int .i64 (lenD m.ids : Int)), B true, w]) := by rw [← hσ3]; exact hst _
  have f3 : Fr [r] σ1 σ3 := by rw [← hσ3]; exact Fr.set _ _ _
  have hA3 : App (σ3.room 1) 6 w (nwRows out) := (hA1.toks htk3).toks (room_toks σ3 1)
  simp only [c48_k0]
  simp -implicitDefEqProofs
  refine w_drw (fun _ => .raw) [] (by decide +kernel) ?_
  simp -implicitDefEqProofs [nilCheckV, room_at (m := 1) g3, ofD, repl, rowsOf]
  obtain ⟨w', σ4, hap, happ4, ho, ht, _⟩ := hA3.push (bytes := 40) (by decide) (nwRows_fit _) (ys := [NW.row ⟨size, q, first, more, m.ok, lenD m.ids⟩]) (by intro r hr; simp at hr; subst hr; rfl) (by rw [nwRows_len]; simp; omega) (by rw [nwRows_len]; simp; omega)
  have e1 : nwRows out ++ [NW.row ⟨size, q, first, more, m.ok, lenD m.ids⟩] = nwRows (out ++ [⟨size, q, first, more, m.ok, lenD m.ids⟩]) := by simp [nwRows]
  rw [e1] at happ4
  refine t_app_f (v := w') (s := σ4) ?_ ?_
  · simp -implicitDefEqProofs [V.rows]
    exact hap _
  have g4 : σ4.objs[r]? = some (.cells [v, I size, I q, I first, B more, V.d (.bool m.ok), V.d (.int .i64 (lenD m.ids : Int)), B true, w]) := by rw [ho]; exact room_at g3
  have hlt4 : r < σ4.objs.length := (List.getElem?_eq_some_iff.1 g4).1
  have hst4 : ∀ o : Dn.Obj, (σ4.objs.set r o)[r]? = some o := fun o => List.getElem?_set_self hlt4
  simp -implicitDefEqProofs [nilCheckV, g4, happ4.lv.cells, hst4]
  have e2 : diffS ⟨th, ⟨size, q, first, more, found, asked⟩, true, out⟩ m = (true, ⟨th, ⟨size, q, first, more, m.ok, lenD m.ids⟩, false, out ++ [⟨size, q, first, more, m.ok, lenD m.ids⟩]⟩) := by simp [diffS, hf0]
  rw [e2]
  refine ⟨rfl, ⟨v, w', ⟨hst4 _, hT1.lv, hT1.tl⟩, happ4.toks rfl⟩, (f1r.trans f3).trans ⟨?_, fun p hp hlp => ?_⟩⟩
  · simp [ho, St.room]
  · simp only
    rw [List.getElem?_set_ne (fun e => hp (by simp [e])), ho]
    simp only [St.room]
    rw [List.getElem?_append_left hlp]



def takeS (s : RS) (m : MG) : Bool × RS := if m.kind = 2 then askS s m else if m.kind = 4 then moreS s else if m.kind = 5 then diffS s m else (decide (m.kind ≠ 3), s)

theorem RAt.fr {σ σ' : St} {r : Nat} {s : RS} (h : RAt σ r s) (hf : Fr [] σ σ') (ht : σ'.toks = σ.toks) : RAt σ' r s := by
  obtain ⟨v, w, hT, hA⟩ := h.ex
  exact ⟨v, w, ⟨hf.get hT.obj (by simp), hT.lv, hT.tl⟩, hA.toks ht⟩

theorem s_rtake {σ : St} {r : Nat} {s : RS} (h : RAt σ r s) (hok : RSOk s) {m : MG} (hm : MsgOk m) :
    Dn.Call Γ cx .raw 31 [.ref r 0, .da m.row] σ fun w σ' => w = B (takeS s m).1 ∧ RAt σ' r (takeS s m).2 ∧ Fr [r] σ σ' := by
  refine Dn.Call.body (fc := c31) rfl ?_
  simp -implicitDefEqProofs [MG.row, c31]
  obtain ⟨σ1, hσ1, htk1⟩ : ∃ s1 : St, (⟨σ.objs ++ [.cells [V.d (.int .i64 m.kind), V.d (.int .u64 m.half), V.d (.int .i64 m.size), V.d (.int .i64 m.q), V.d m.data, V.d (.bool m.ok), V.d m.ids, V.d m.hs, V.d m.ti, V.d m.to, V.d (.bool m.tb)]], σ.toks⟩ : St) = s1 ∧ s1.toks = σ.toks := ⟨⟨σ.objs ++ _, σ.toks⟩, rfl, rfl⟩
  rw [hσ1]
  have f1 : Fr [] σ σ1 := ⟨by rw [← hσ1]; simp, fun q _ hq => by rw [← hσ1]; simp [List.getElem?_append_left hq]⟩
  have g1 : σ1.objs[σ.objs.length]? = some (.cells [V.d (.int .i64 m.kind), V.d (.int .u64 m.half), V.d (.int .i64 m.size), V.d (.int .i64 m.q), V.d m.data, V.d (.bool m.ok), V.d m.ids, V.d m.hs, V.d m.ti, V.d m.to, V.d (.bool m.tb)]) := by rw [← hσ1]; simp
  have hR1 := h.fr f1 htk1
  have f1r : Fr [r] σ σ1 := f1.mono (by simp)
  simp -implicitDefEqProofs [c31_k7, g1, c31_k6, c31_k5]
  unfold takeS
  by_cases h2 : m.kind = 2
  · rw [if_pos h2]
    simp -implicitDefEqProofs [h2, c31_k4, g1, ofD]
    have hc := s_ask hR1 hok m
    simp only [MG.row, h2] at hc
    refine use_raw hc fun z σ2 ⟨hz, hR, hf⟩ => ?_
    subst hz
    simp -implicitDefEqProofs
    exact ⟨hR, f1r.trans hf⟩
  rw [if_neg h2]
  by_cases h4 : m.kind = 4
  · rw [if_pos h4]
    simp -implicitDefEqProofs [h2, h4, c31_k4, c31_k3, c31_k2]
    refine use_raw (s_more hR1 hok) fun z σ2 ⟨hz, hR, hf⟩ => ?_
    subst hz
    simp -implicitDefEqProofs
    exact ⟨hR, f1r.trans hf⟩
  rw [if_neg h4]
  by_cases h5 : m.kind = 5
  · rw [if_pos h5]
    simp -implicitDefEqProofs [h2, h4, h5, c31_k4, c31_k3, c31_k2, c31_k1, g1, ofD]
    have hc := s_diff hR1 hok hm
    simp only [MG.row, h5] at hc
    refine use_raw hc fun z σ2 ⟨hz, hR, hf⟩ => ?_
    subst hz
    simp -implicitDefEqProofs
    exact ⟨hR, f1r.trans hf⟩
  rw [if_neg h5]
  simp -implicitDefEqProofs [h2, h4, h5, c31_k4, c31_k3, c31_k2, c31_k1, c31_k0, g1]
  exact ⟨hR1, f1r⟩

/-! the plain state keeps its bounds -/
theorem sketchS_sub (th : List MG) : ∀ m ∈ (sketchS th).2, m ∈ th := by
  cases th with
  | nil => simp [sketchS]
  | cons a th => simp only [sketchS]; exact fun m hm => List.mem_cons_of_mem _ hm
theorem sketchS_len (th : List MG) : (sketchS th).2.length ≤ th.length := by
  cases th with
  | nil => simp [sketchS]
  | cons a th => simp [sketchS]

theorem takeS_th (s : RS) (m : MG) : (∀ x ∈ (takeS s m).2.th, x ∈ s.th) ∧ (takeS s m).2.th.length ≤ s.th.length ∧ (takeS s m).2.out.length ≤ s.out.length + 1 := by
  unfold takeS askS moreS diffS
  (repeat' split) <;> simp <;> first | exact ⟨sketchS_sub _, sketchS_len _⟩ | skip



def runS : RS → List MG → Option RS
  | s, [] => some s
  | s, m :: r => if (takeS s m).1 then runS (takeS s m).2 r else none
def badM (m : MG) : Bool := decide (m.kind = 2) || decide (m.kind = 4)
def isSk (m : MG) : Bool := decide (m.kind = 3)
def now0 : NW := ⟨0, 0, 0, false, false, 0⟩
def endS (s : RS) : Option (List NW) := if s.th.length = 0 then some s.out else none
def roundsS (mine theirs : List MG) : Option (List NW) := if theirs.any badM then none else (runS ⟨theirs.filter isSk, now0, false, []⟩ mine).bind endS

def RoundsQ (o : Option (List NW)) (v : V) : Prop := match o with
  | none => v = .tup [.d .nils, .d (.iface 50 (.int .i64 2))]
  | some out => ∃ x, v = .tup [.d x, .d .nili] ∧ LV (.d x) (nwRows out)

/-- The second loop and the end. -/
def InvMine (a : D) (mine : List MG) (o : Option (List NW)) (m : Nat) (e : Env) (σ : St) : Prop := ∃ (i : Nat) (s : RS), e = [(6, .ref 0 0), (38, .d a), (39, I mine.length), (40, I i)] ∧ i ≤ mine.length ∧ m = mine.length - i ∧ RAt σ 0 s ∧ RSOk { s with out := [] } ∧ s.out.length ≤ i ∧ (runS s (mine.drop i)).bind endS = o

theorem rounds_mine {a : D} {mine : List MG} (ha : LV (.d a) (msgRows mine)) (hok : ∀ m ∈ mine, MsgOk m) (hl : mine.length ≤ 100) {σ : St} {s : RS} (h : RAt σ 0 s) (hs : RSOk s) (h0 : s.out = []) (e1 e2 e3 e4 : V) :
    wcode (Dn.Call Γ cx) cx c17_k10 [(0, .d a), (6, .ref 0 0), (13, e1), (14, e2), (15, e3), (16, e4)] σ (endQ .val St.empty [.tmp 4, .tmp 5] fun v _ => RoundsQ ((runS s mine).bind endS) v) := by
  have hlen := ha.len σ
  rw [msgRows_len] at hlen
  simp -implicitDefEqProofs [c17_k10, hlen, c17_k9]
  refine wloopI (InvMine a mine ((runS s mine).bind endS)) (m := mine.length) ⟨0, s, rfl, by omega, rfl, h, ⟨hs.ok, hs.sm, hs.len, by simp⟩, by simp [h0], by simp⟩ ?_
  rintro m e σ ⟨i, s, rfl, hi, rfl, hR, hS, hout, hrun⟩
  simp -implicitDefEqProofs [c17_l8, c17_k7]
  by_cases hlt : i < mine.length
  rotate_left
  · obtain rfl : i = mine.length := by omega
    rw [List.drop_length] at hrun
    simp only [runS, Option.bind_some] at hrun
    rw [← hrun]
    obtain ⟨v, w, hT, hA⟩ := hR.ex
    have hob := hT.obj
    simp only [RS.rest] at hob
    have htl := hT.lv.len σ
    rw [msgRows_len] at htl
    obtain ⟨d1, d2, ⟨x, dx⟩, d4, d5⟩ := hA.lv.dv σ
    rw [dx] at d1 d2
    by_cases hz : s.th.length = 0
    · simp -implicitDefEqProofs [c17_k2, nilCheckV, hob, htl, hz, c17_k1, c17_k0, d1]
      have : endS s = some s.out := by simp [endS, List.length_eq_zero_iff.1 hz]
      rw [this]
      exact ⟨x, rfl, d2⟩
    · have hz' : (0 : Int) < s.th.length := by omega
      simp -implicitDefEqProofs [c17_k2, nilCheckV, hob, htl, hz, hz', c17_k1, mkifV]
      have : endS s = none := by unfold endS; rw [if_neg hz]
      rw [this, if_pos (by omega)]
      rfl
  have hii : (i : Int) < mine.length := by omega
  have hb : mine[i]? = some (mine[i]) := by simp [hlt]
  have hm := hok _ (List.getElem_mem hlt)
  have hdrop : mine.drop i = mine[i] :: mine.drop (i + 1) := List.drop_eq_getElem_cons hlt
  generalize hmi : mine[i] = mm at *
  have hia := ha.iaddr σ (k := .i64) (sz := 11) (msgRows_at hb) rfl
  rw [hdrop] at hrun
  simp -implicitDefEqProofs [hii, hlt, c17_k6, c17_k5, hia, MG.row, c17_k4, ofD]
  have hR1 := hR.fr (σ' := ⟨σ.objs ++ [.cells [V.d (.int .i64 mm.kind), V.d (.int .u64 mm.half), V.d (.int .i64 mm.size), V.d (.int .i64 mm.q), V.d mm.data, V.d (.bool mm.ok), V.d mm.ids, V.d mm.hs, V.d mm.ti, V.d mm.to, V.d (.bool mm.tb)]], σ.toks⟩) ⟨by simp, fun q _ hq => by simp [List.getElem?_append_left hq]⟩ rfl
  refine use_raw (s_rtake hR1 ⟨hS.ok, hS.sm, hS.len, by omega⟩ hm) fun z σ2 ⟨hz, hR2, _⟩ => ?_
  subst hz
  obtain ⟨t1, t2, t3⟩ := takeS_th s mm
  simp only [runS] at hrun
  cases ht : (takeS s mm).1 with
  | false =>
    rw [ht] at hrun
    simp at hrun
    rw [← hrun]
    simp -implicitDefEqProofs [c17_k3, mkifV]
    rfl
  | true =>
    rw [ht] at hrun
    simp only [if_true] at hrun
    simp -implicitDefEqProofs [c17_k3, wrap_i64 (n := (i : Int) + 1) (by omega) (by omega)]
    exact ⟨mine.length - (i + 1), by omega, i + 1, _, rfl, by omega, rfl, hR2, ⟨fun m hm => hS.ok m (t1 m hm), fun m hm => hS.sm m (t1 m hm), Nat.le_trans t2 hS.len, by simp⟩, by omega, hrun⟩



abbrev rest0 : List V := [I 0, I 0, I 0, B false, B false, I 0, B false, .d .nils]

def InvTheirs (a b : D) (theirs : List MG) (m : Nat) (e : Env) (σ : St) : Prop := ∃ (i : Nat) (v : V), e = [(0, .d a), (6, .ref 0 0), (13, .d b), (14, I theirs.length), (15, I i)] ∧ i ≤ theirs.length ∧ m = theirs.length - i ∧ σ.objs[0]? = some (.cells (v :: rest0)) ∧ App σ 11 v (msgRows ((theirs.take i).filter isSk)) ∧ (theirs.take i).any badM = false

theorem s_Rounds {a b : D} {mine theirs : List MG} (ha : LV (.d a) (msgRows mine)) (hb : LV (.d b) (msgRows theirs)) (hokA : ∀ m ∈ mine, MsgOk m) (hokB : ∀ m ∈ theirs, MsgOk m) (hsm : ∀ m ∈ theirs, Small m) (hla : mine.length ≤ 100) (hlb : theirs.length ≤ 100) :
    Dn.Call Γ cx .val 17 [.d a, .d b] St.empty fun v _ => RoundsQ (roundsS mine theirs) v := by
  refine Dn.Call.body (fc := c17) rfl ?_
  have hlen : ∀ σ, lenT σ .slice (.d b) = some theirs.length := fun σ => by rw [hb.len σ, msgRows_len]
  simp -implicitDefEqProofs [c17, c17_k24, c17_k23, hlen, c17_k22]
  refine wloopI (InvTheirs a b theirs) (m := theirs.length) ⟨0, .d .nils, rfl, by omega, rfl, by simp, by simpa [msgRows] using App.nil, by simp⟩ ?_
  rintro m e σ ⟨i, v, rfl, hi, rfl, hob, happ, hbad⟩
  simp -implicitDefEqProofs [c17_l21, c17_k20]
  have h0 : 0 < σ.objs.length := (List.getElem?_eq_some_iff.1 hob).1
  by_cases hlt : i < theirs.length
  rotate_left
  · obtain rfl : i = theirs.length := by omega
    rw [List.take_length] at happ hbad
    have hr : roundsS mine theirs = (runS ⟨theirs.filter isSk, now0, false, []⟩ mine).bind endS := by unfold roundsS; rw [hbad]; rfl
    rw [hr]
    have hsub : ∀ m ∈ theirs.filter isSk, m ∈ theirs := fun m hm => (List.mem_filter.1 hm).1
    simp -implicitDefEqProofs
    exact rounds_mine ha hokA hla (s := ⟨theirs.filter isSk, now0, false, []⟩) ⟨v, .d .nils, ⟨hob, happ.lv, happ.tls⟩, by simpa [nwRows] using App.nil⟩ ⟨fun m hm => hokB m (hsub m hm), fun m hm => hsm m (hsub m hm), Nat.le_trans (List.length_filter_le _ _) (by omega), by simp⟩ rfl _ _ _ _
  have hii : (i : Int) < theirs.length := by omega
  have hbi : theirs[i]? = some (theirs[i]) := by simp [hlt]
  have hmem := List.getElem_mem hlt
  have htake : theirs.take (i + 1) = theirs.take i ++ [theirs[i]] := List.take_succ_eq_append_getElem hlt
  generalize hmi : theirs[i] = mm at *
  have hia := hb.iaddr σ (k := .i64) (sz := 11) (msgRows_at hbi) rfl
  simp -implicitDefEqProofs [hii, hlt, c17_k19, c17_k18, hia, MG.row, c17_k17, c17_k16, c17_k15]
  obtain ⟨σ1, hσ1, htk1⟩ : ∃ s1 : St, (⟨σ.objs ++ [.cells [V.d (.int .i64 mm.kind), V.d (.int .u64 mm.half), V.d (.int .i64 mm.size), V.d (.int .i64 mm.q), V.d mm.data, V.d (.bool mm.ok), V.d mm.ids, V.d mm.hs, V.d mm.ti, V.d mm.to, V.d (.bool mm.tb)]], σ.toks⟩ : St) = s1 ∧ s1.toks = σ.toks := ⟨⟨σ.objs ++ _, σ.toks⟩, rfl, rfl⟩
  rw [hσ1]
  have f1 : Fr [] σ σ1 := ⟨by rw [← hσ1]; simp, fun q _ hq => by rw [← hσ1]; simp [List.getElem?_append_left hq]⟩
  have g1 : σ1.objs[σ.objs.length]? = some (.cells [V.d (.int .i64 mm.kind), V.d (.int .u64 mm.half), V.d (.int .i64 mm.size), V.d (.int .i64 mm.q), V.d mm.data, V.d (.bool mm.ok), V.d mm.ids, V.d mm.hs, V.d mm.ti, V.d mm.to, V.d (.bool mm.tb)]) := by rw [← hσ1]; simp
  have hob1 : σ1.objs[0]? = some (.cells (v :: rest0)) := f1.get hob (by simp)
  have happ1 := happ.toks htk1
  have hfl : ((theirs.take i).filter isSk).length ≤ 100 := Nat.le_trans (List.length_filter_le _ _) (by simp; omega)
  by_cases h3 : mm.kind = 3
  · have hsk : isSk mm = true := by simp [isSk, h3]
    have hbm : badM mm = false := by simp [badM, h3]
    simp -implicitDefEqProofs [h3, c17_k14]
    refine w_drw (fun _ => .raw) [8] (by decide +kernel) ?_
    simp -implicitDefEqProofs [nilCheckV, room_at (m := 1) hob1, room_at (m := 1) g1, ofD, repl, rowsOf]
    obtain ⟨w', σ4, hap, happ4, ho, ht, _⟩ := (happ1.toks (room_toks σ1 1)).push (bytes := 168) (by decide) (msgRows_fit _) (ys := [mm.row]) (by intro r hr; simp at hr; subst hr; rfl) (by rw [msgRows_len]; simp; omega) (by rw [msgRows_len]; simp; omega)
    have e1 : msgRows ((theirs.take i).filter isSk) ++ [mm.row] = msgRows ((theirs.take (i + 1)).filter isSk) := by rw [htake]; simp [msgRows, List.filter_append, hsk]
    rw [e1] at happ4
    refine t_app_f (v := w') (s := σ4) ?_ ?_
    · simp -implicitDefEqProofs [V.rows]
      exact hap _
    have g4 : σ4.objs[0]? = some (.cells (v :: rest0)) := by rw [ho]; exact room_at hob1
    have hlt4 : 0 < σ4.objs.length := (List.getElem?_eq_some_iff.1 g4).1
    simp -implicitDefEqProofs [nilCheckV, g4, happ4.lv.cells, wrap_i64 (n := (i : Int) + 1) (by omega) (by omega)]
    refine ⟨Kept.set (by simp [Env.get, dref]; omega), theirs.length - (i + 1), by omega, i + 1, w', rfl, by omega, rfl, by simp [hlt4], happ4.toks rfl, ?_⟩
    rw [htake]
    simp [hbad, hbm]
  · have hsk : isSk mm = false := by simp [isSk, h3]
    have e1 : (theirs.take (i + 1)).filter isSk = (theirs.take i).filter isSk := by rw [htake]; simp [List.filter_append, hsk]
    by_cases hbm : badM mm = true
    · have hr : roundsS mine theirs = none := by
        unfold roundsS
        rw [if_pos (List.any_eq_true.2 ⟨mm, hmem, hbm⟩)]
      rw [hr]
      simp [badM] at hbm
      rcases hbm with h | h
      · simp -implicitDefEqProofs [h, c17_k14, c17_k13, c17_k12, c17_k11, mkifV]
        rfl
      · simp -implicitDefEqProofs [h, c17_k14, c17_k13, c17_k12, c17_k11, mkifV]
        rfl
    · have hbm' : badM mm = false := by simpa using hbm
      have h24 : ¬ mm.kind = 2 ∧ ¬ mm.kind = 4 := by simp [badM] at hbm'; exact hbm'
      simp -implicitDefEqProofs [h3, h24, c17_k14, c17_k13, c17_k12, c17_k11, wrap_i64 (n := (i : Int) + 1) (by omega) (by omega)]
      refine ⟨theirs.length - (i + 1), by omega, i + 1, v, rfl, by omega, rfl, hob1, by rw [e1]; exact happ1, ?_⟩
      rw [htake]
      simp [hbad, hbm']

end Go.Proofs.YtmcojkkpanijjaaDoor.T

namespace Go.Proofs.YtmcojkkpanijjaaDoor.T
open Go.Dn
set_option linter.unusedSimpArgs false
set_option linter.unusedVariables false

def askM : MG := ⟨2, 0, 0, 0, .nils, false, .nils, .nils, .nils, .nils, false⟩
theorem askM_ok : MsgOk askM := ⟨[], [], [], [], [], ⟨.nil, .nil, .nil, ⟨.nil, .nil, by simp, by simp⟩, by simp, by simp, by simp⟩, by simp⟩

theorem runS_app : ∀ (l : List MG) (s : RS) (m : MG), runS s (l ++ [m]) = (runS s l).bind fun s' => if (takeS s' m).1 then some (takeS s' m).2 else none
  | [], s, m => by simp [runS]
  | a :: l, s, m => by
    simp only [List.cons_append, runS]
    split
    · exact runS_app l _ m
    · rfl

theorem rounds_ask {mine theirs : List MG} {out : List NW} (h : roundsS mine theirs = some out) : roundsS (mine ++ [askM]) theirs = none ∨ roundsS (mine ++ [askM]) theirs = some out := by
  unfold roundsS at h ⊢
  split at h
  · cases h
  · rename_i hb
    rw [if_neg hb, runS_app]
    cases hr : runS ⟨theirs.filter isSk, now0, false, []⟩ mine with
    | none => rw [hr] at h; cases h
    | some s =>
      rw [hr] at h
      simp only [Option.bind_some] at h ⊢
      unfold endS at h
      split at h
      · rename_i hz
        cases h
        obtain ⟨th, now, on, out⟩ := s
        simp only [List.length_eq_zero_iff] at hz
        subst hz
        cases on with
        | true => left; simp [takeS, askM, askS]
        | false => right; simp [takeS, askM, askS, sketchS, endS]
      · cases h

end Go.Proofs.YtmcojkkpanijjaaDoor.T

namespace Go.Proofs.YtmcojkkpanijjaaDoor.T
open Go.Dn
attribute [local simp] body_eq globEnv GB List.map_nil List.map_cons List.append_nil w_rangeF i_next i_makeMap i_range i_update i_delete q_rndA q_rndB_n q_rndB_e q_rndB_r setAll w_skip w_ops w_seq w_cond w_block w_exit w_ret q_then_n q_then_e q_then_r q_blk_n q_blk_e q_blk_r q_ops q_cont q_end_n q_end_r q_end_e q_loop_n q_loop_e q_loop_r i_nil i_p i_alloc i_box i_store i_copy i_clear i_call i_callv i_when t_nil t_p t_call t_alloc t_box t_store kept_nil t_copy t_clear q_tcont gsel List.cons_append List.nil_append evalP evalE evalF evalB isObj thaw Opd.ev Env.get Env.set Env.pick putE initEnv evalBin intBin evalUn evalConv goneAll goneOne retV resAll Res.ev tupOf byVals byValsN bv_d bv_da bv_fl bv_tl bn_d bn_da bn_fl bn_tl cx Dn.newObj St.place St.push St.spot St.empty cell_d cell_da cell_agg cell_ref cell_sl cell_fl cell_tl cell_map cell_fn cell_ifc loadAt faddrV partOf extractV mkAgg ofD splice St.setObj fillV
set_option linter.unusedSimpArgs false
set_option linter.unusedVariables false

def aM1 : MG := ⟨2, 0, 3, 0, .nils, false, .nils, .nils, .nils, .nils, false⟩
def aM2 : MG := ⟨5, 0, 0, 0, .nils, true, .list [[.int .u32 9]], .nils, .nils, .nils, false⟩
def aM3 : MG := ⟨3, 0, 0, 0, .list [[.int .u8 0], [.int .u8 0], [.int .u8 0], [.int .u8 0], [.int .u8 0], [.int .u8 0], [.int .u8 0], [.int .u8 0]], false, .nils, .nils, .nils, .nils, false⟩
def aR : NW := ⟨3, 0, 2, false, true, 1⟩
theorem aM1_ok : MsgOk aM1 := ⟨[], [], [], [], [], ⟨.nil, .nil, .nil, ⟨.nil, .nil, by simp, by simp⟩, by simp, by simp, by simp⟩, by simp⟩
theorem aM2_ok : MsgOk aM2 := ⟨[], _, [], [], [], ⟨.nil, .list _, .nil, ⟨.nil, .nil, by simp, by simp⟩, by simp, by simp, by simp⟩, by simp⟩
theorem aM3_ok : MsgOk aM3 := ⟨_, [], [], [], [], ⟨.list _, .nil, .nil, ⟨.nil, .nil, by simp, by simp⟩, by simp, by simp, by simp⟩, by simp⟩
theorem aRounds : roundsS [aM1, aM2] [aM3] = some [aR] := by
  simp [roundsS, badM, isSk, runS, takeS, askS, diffS, sketchS, endS, aM1, aM2, aM3, aR, lenD, now0]

theorem s_alive31 : Dn.Call Γ cx .val 5 [] St.empty fun v _ => v = B true := by
  refine Dn.Call.body (fc := c5) rfl ?_
  simp -implicitDefEqProofs [c5, c5_k1, repl, rowsOf, ofD]
  refine i_app_m (v := .fl (List.replicate 8 [.int .u8 0])) (s := ⟨[], []⟩) ?_ ?_
  · rfl
  simp -implicitDefEqProofs [repl, rowsOf, ofD, frzV]
  refine use_val (ds := [.d (.list (msgRows [aM1, aM2])), .d (.list (msgRows [aM3]))]) rfl (s_Rounds (mine := [aM1, aM2]) (theirs := [aM3]) (.list _) (.list _) (by
      intro m hm
      simp at hm
      rcases hm with rfl | rfl
      · exact aM1_ok
      · exact aM2_ok) (by
      intro m hm
      simp at hm
      subst hm
      exact aM3_ok) (by
      intro m hm
      simp at hm
      subst hm
      exact ⟨by decide, by decide⟩) (by decide) (by decide)) ?_
  intro v s hv
  rw [aRounds] at hv
  obtain ⟨o, rfl, lvo⟩ := hv
  refine ⟨rfl, (fun h => by simp [V.borrows] at h), ?_⟩
  have l1 := lvo.len
  have l2 := fun σ => lvo.iaddr σ (k := .i64) (sz := 6) (i := 0) (row := aR.row) rfl rfl
  simp [nwRows] at l1 l2
  simp -implicitDefEqProofs [c5_k0, eqV, V.isNil, Opd.isC, l1, l2, aR, NW.row, fitsAll, Lf.fits, IntKind.min, IntKind.max, IntKind.signed, IntKind.bits]



theorem Own.trans {σ σ' σ'' : St} {v v' : V} {l l' : List UInt8} (h : Own σ σ' v l) (ha : App σ'' 1 v' (byteRows l')) (ho : σ''.objs = σ'.objs) (ht : Toks σ'.toks σ''.toks (own v) (own v')) : Own σ σ'' v' l' :=
  ⟨ha, h.fr.trans ⟨by rw [ho]; exact Nat.le_refl _, fun q _ _ => by rw [ho]⟩, toks_own h.tk ht⟩

theorem s_rCount (σ : St) (n : Int) (hn : n ≤ 9223372036854775807) : Dn.Call Γ cx .raw 39 [I n] σ fun v σ' => Own σ σ' v (countB n) := by
  refine Dn.Call.body (fc := c39) rfl ?_
  by_cases h0 : n < 0
  · simp -implicitDefEqProofs [c39, c39_k9, c39_k8, c39_k7, h0]
    exact ⟨by simpa [countB, h0, byteRows] using App.nil, Fr.refl _ _, Toks.refl _ _⟩
  have w := wrap_u64 (n := n) (by omega) (by omega)
  have step : ∀ (b : UInt8) (k : Nat), sized k = true → countB n = b :: low n k → ∀ (v : V) (s : St), Own σ s v (numB n k) → ∃ v1 s1, appendV s none 1 1 (.fl (byteRows [b])) (byteRows (low n k)) = some (v1, s1) ∧ V.rows s v = some (byteRows (low n k)) ∧ Own σ s1 v1 (countB n) := by
    intro b k hk hc v s hown
    have e : numB n k = low n k := by simp [numB, hk]
    rw [e] at hown
    obtain ⟨v1, s1, hap, happ, ho, ht, _⟩ := (App.fl (σ := s) (sz := 1) (byteRows [b])).push (bytes := 1) (by decide) (byteRows_fit _) (ys := byteRows (low n k)) (byteRows_fit _) (by simp [byteRows_len, low_len]; have := sized_inv hk; omega) (by simp [byteRows_len, low_len]; have := sized_inv hk; omega)
    rw [← byteRows_app, List.singleton_append, ← hc] at happ
    refine ⟨v1, s1, hap none, hown.app.lv.rows s, happ, hown.fr.trans ⟨by rw [ho]; exact Nat.le_refl _, fun q _ _ => by rw [ho]⟩, ?_⟩
    refine ⟨Nat.le_trans hown.tk.len ht.len, fun t k h1 h2 => ht.other t k (hown.tk.other t k h1 h2) (by simp [own]), ?_⟩
    rcases ht.own with h1 | ⟨t, h1, h2⟩
    · exact .inl h1
    · exact .inr ⟨t, h1, Nat.le_trans hown.tk.len h2⟩
  by_cases h1 : n ≤ 252
  · simp -implicitDefEqProofs [c39, c39_k9, c39_k8, c39_k7, c39_k6, c39_k5, h0, h1, w]
    refine use_raw (s_rNum σ n (by omega) (by omega) 1) fun v s hv => ?_
    simp -implicitDefEqProofs
    have : numB n 1 = countB n := by simp [numB, sized, countB, h0, h1]
    rw [← this]
    exact hv
  by_cases h2 : n ≤ 65535
  · simp -implicitDefEqProofs [c39, c39_k9, c39_k8, c39_k7, c39_k6, c39_k5, c39_k4, c39_k3, h0, h1, h2, w, repl, rowsOf]
    refine use_raw (s_rNum σ n (by omega) (by omega) 2) fun v s hv => ?_
    obtain ⟨v1, s1, e1, e2, e3⟩ := step 253 2 rfl (by simp [countB, h0, h1, h2]) v s hv
    simp -implicitDefEqProofs
    refine i_app_f (v := v1) (s := s1) ?_ ?_
    · simp [evalE, Opd.ev, Env.get, e2]; exact e1
    · simp -implicitDefEqProofs; exact e3
  by_cases h3 : n ≤ 4294967295
  · simp -implicitDefEqProofs [c39, c39_k9, c39_k8, c39_k7, c39_k6, c39_k5, c39_k4, c39_k3, c39_k2, c39_k1, h0, h1, h2, h3, w, repl, rowsOf]
    refine use_raw (s_rNum σ n (by omega) (by omega) 4) fun v s hv => ?_
    obtain ⟨v1, s1, e1, e2, e3⟩ := step 254 4 rfl (by simp [countB, h0, h1, h2, h3]) v s hv
    simp -implicitDefEqProofs
    refine i_app_f (v := v1) (s := s1) ?_ ?_
    · simp [evalE, Opd.ev, Env.get, e2]; exact e1
    · simp -implicitDefEqProofs; exact e3
  · simp -implicitDefEqProofs [c39, c39_k9, c39_k8, c39_k7, c39_k6, c39_k5, c39_k4, c39_k3, c39_k2, c39_k1, c39_k0, h0, h1, h2, h3, w, repl, rowsOf]
    refine use_raw (s_rNum σ n (by omega) (by omega) 8) fun v s hv => ?_
    obtain ⟨v1, s1, e1, e2, e3⟩ := step 255 8 rfl (by simp [countB, h0, h1, h2, h3]) v s hv
    simp -implicitDefEqProofs
    refine i_app_f (v := v1) (s := s1) ?_ ?_
    · simp [evalE, Opd.ev, Env.get, e2]; exact e1
    · simp -implicitDefEqProofs; exact e3

theorem s_rText (σ : St) (t : List UInt8) (ht0 : t.length ≤ 1000000) : Dn.Call Γ cx .raw 38 [.d (.str t)] σ fun v σ' => Own σ σ' v (countB t.length ++ t) := by
  refine Dn.Call.body (fc := c38) rfl ?_
  simp -implicitDefEqProofs [c38, c38_k0, lenT]
  refine use_raw (s_rCount σ t.length (by omega)) fun v s hv => ?_
  simp -implicitDefEqProofs
  have hcl := countB_len t.length
  obtain ⟨v1, σ1, hap, happ, ho, ht, _⟩ := hv.app.push (bytes := 1) (by decide) (byteRows_fit _) (ys := byteRows t) (byteRows_fit _) (by simp [byteRows_len]; omega) (by simp [byteRows_len]; omega)
  rw [← byteRows_app] at happ
  refine i_app_f (v := v1) (s := σ1) ?_ ?_
  · simp -implicitDefEqProofs; exact hap none
  simp -implicitDefEqProofs
  exact hv.trans happ ho ht

def InvRHash (σ : St) (t : List UInt8) (m : Nat) (e : Env) (σ' : St) : Prop := ∃ (i : Nat) (v' : V), e = [(1, .ref σ.objs.length 0), (3, v'), (4, I i)] ∧ i ≤ 32 ∧ m = 32 - i ∧ Own σ σ' v' (t.take i) ∧ σ'.objs[σ.objs.length]? = some (.cells ((hd t).map V.d))

theorem s_rHash (σ : St) (t : List UInt8) (ht0 : t.length = 32) : Dn.Call Γ cx .raw 26 [.da (hd t)] σ fun v σ' => Own σ σ' v t := by
  refine Dn.Call.body (fc := c26) rfl ?_
  have hrl : (hd t).length = 32 := by rw [hd_len, ht0]
  simp -implicitDefEqProofs [c26, c26_k7, c26_k6, c26_k5]
  refine wloopI (InvRHash σ t) (m := 32) ⟨0, .d .nils, rfl, by omega, by omega, ⟨by simpa [byteRows] using App.nil, ⟨by simp, fun q _ hq => by simp [List.getElem?_append_left hq]⟩, Toks.refl _ _⟩, by simp⟩ ?_
  rintro m e σ' ⟨i, v', rfl, hi, rfl, hp, hob⟩
  simp -implicitDefEqProofs [c26_l4, c26_k3]
  by_cases hik : i < 32
  rotate_left
  · obtain rfl : i = 32 := by omega
    simp -implicitDefEqProofs [c26_k0]
    rw [List.take_of_length_le (by omega)] at hp
    exact hp
  have hb : t[i]? = some (t[i]'(by omega)) := by simp [show i < t.length by omega]
  have hcell : ((hd t).map V.d)[i]? = some (Y (t[i]'(by omega)).toNat) := by simp [hd, hb]
  have hik' : (i : Int) < 32 := by omega
  simp -implicitDefEqProofs [hik', c26_k2, iaddrArrV, asIdx, hob, hcell, repl, rowsOf]
  obtain ⟨v1, σ1, hap, happ, ho, ht, _⟩ := hp.app.push (bytes := 1) (by decide) (byteRows_fit _) (ys := byteRows [t[i]'(by omega)]) (byteRows_fit _) (by simp [byteRows_len]; omega) (by simp [byteRows_len]; omega)
  rw [← byteRows_app, ← List.take_succ_eq_append_getElem (by omega)] at happ
  refine i_app_f (v := v1) (s := σ1) ?_ ?_
  · simp -implicitDefEqProofs [V.rows]
    rw [← hap none]
    simp [byteRows]
  simp -implicitDefEqProofs [c26_k1, wrap_i64 (n := (i : Int) + 1) (by omega) (by omega)]
  exact ⟨32 - (i + 1), by omega, i + 1, v1, rfl, by omega, rfl, hp.trans happ ho ht, by rw [ho]; exact hob⟩

end Go.Proofs.YtmcojkkpanijjaaDoor.T
