import Derived.Test.YtmcojkkpanijjaaE42
namespace Go.Proofs.Ytmcojkkpanijjaa.T
open Go.Dn
attribute [local simp] body_eq globEnv GB List.map_nil List.map_cons List.append_nil w_rangeF i_next i_makeMap i_range i_update i_delete i_entry i_clone entryV cloneV q_rndA q_rndB_n q_rndB_e q_rndB_r setAll w_skip w_ops w_seq w_cond w_block w_exit w_ret q_then_n q_then_e q_then_r q_blk_n q_blk_e q_blk_r q_ops q_cont q_end_n q_end_r q_end_e q_loop_n q_loop_e q_loop_r i_nil i_p i_alloc i_box i_store i_copy i_clear i_call i_callv i_when t_nil t_p t_call t_alloc t_box t_store kept_nil t_copy t_clear q_tcont gsel List.cons_append List.nil_append evalP evalE evalF evalB isObj thaw Opd.ev Env.get Env.set Env.pick putE initEnv evalBin intBin evalUn evalConv goneAll goneOne retV resAll Res.ev tupOf byVals byValsN bv_d bv_da bv_fl bv_tl bn_d bn_da bn_fl bn_tl cx Dn.newObj St.place St.push St.spot St.empty cell_d cell_da cell_agg cell_ref cell_sl cell_fl cell_tl cell_map cell_fn cell_ifc loadAt faddrV partOf extractV mkAgg ofD splice St.setObj fillV
set_option linter.unusedSimpArgs false
set_option linter.unusedVariables false
open Sip

/-! ### the sketch of an index -/
theorem s_skBad {σ : St} {n : Int} (hn : n < 1 ∨ 40 < n) {v : V} (hv : v.cells = some [v]) : Dn.Call Γ cx .raw 37 [I n, v] σ fun w s => w = .tup [.d .nilp, errV 1] ∧ s = σ := by
  refine Dn.Call.body (fc := c37) rfl ?_
  rcases hb : decide (n < 1) with _ | _
  · have h1 : ¬ n < 1 := of_decide_eq_false hb
    have h2 : 40 < n := by omega
    simp -implicitDefEqProofs [c37, c37_k6, h1, h2, c37_k5, mkifV, errV]
  · have h1 : n < 1 := of_decide_eq_true hb
    simp -implicitDefEqProofs [c37, c37_k6, h1, c37_k5, mkifV, errV]

theorem s_ixSketch {σ : St} {x q : Nat} {K0 K1 : W64} {es : List Ent} {clock : Nat} {M : List Item} (h : Ix σ x q (un K0) (un K1) es clock M) (ho : Hon K0 K1 M) {n : Nat} (h1 : 1 ≤ n) (h2 : n ≤ 40) :
    Dn.Call Γ cx .raw 19 [.ref x 0, I n] σ fun w s => (∃ y r, w = .tup [.ref y 0, .d .nili] ∧ Sk s y r n (acc (fun _ => 0) (M.map (·.1)))) ∧ Fr [] σ s ∧ s.toks = σ.toks := by
  refine Dn.Call.body (fc := c19) rfl ?_
  simp -implicitDefEqProofs [c19, c19_k2, eqV, V.isNil, Opd.isC, c19_k1, c19_k0]
  refine use_rd' (s_IDs h) fun v s ⟨d, hv, hd⟩ => ?_
  subst hv
  have hb : ∀ i ∈ M.map (·.1), 0 ≤ i ∧ i ≤ 4294967295 := fun i hm => by
    obtain ⟨p, hp, rfl⟩ := List.mem_map.1 hm
    exact h.pl.i p hp
  have hz : (0 : Int) ∉ M.map (·.1) := fun hm => by
    obtain ⟨p, hp, he⟩ := List.mem_map.1 hm
    have h3 := ho p hp
    have h4 := (short_bound K0 K1 p.2).1
    omega
  have hn := h.pl.n
  simp -implicitDefEqProofs
  refine use_raw (s_skNew h1 h2 hd hb hz (by simp; omega)) fun w s2 ⟨hw, hS, hfr, htk⟩ => ?_
  subst hw
  simp -implicitDefEqProofs
  exact ⟨⟨_, hS⟩, hfr, htk⟩
theorem s_ixSkBad {σ : St} {x q : Nat} {k0 k1 : Int} {es : List Ent} {clock : Nat} {M : List Item} (h : Ix σ x q k0 k1 es clock M) {n : Int} (hn : n < 1 ∨ 40 < n) :
    Dn.Call Γ cx .raw 19 [.ref x 0, I n] σ fun w s => w = .tup [.d .nilp, errV 1] ∧ s = σ := by
  refine Dn.Call.body (fc := c19) rfl ?_
  simp -implicitDefEqProofs [c19, c19_k2, eqV, V.isNil, Opd.isC, c19_k1, c19_k0]
  refine use_rd' (s_IDs h) fun v s ⟨d, hv, hd⟩ => ?_
  subst hv
  simp -implicitDefEqProofs
  refine use_raw (s_skBad hn rfl) fun w s2 ⟨hw, hs⟩ => ?_
  subst hw hs
  simp -implicitDefEqProofs [errV]

/-! ### a sketch's bytes -/
def bt (w : W32) (i : Nat) : UInt8 := UInt8.ofNat ((w >>> (8 * i)).toNat)
def le4 (w : W32) : List UInt8 := [bt w 0, bt w 1, bt w 2, bt w 3]
def skB (f : Nat → W32) : Nat → List UInt8
  | 0 => []
  | n + 1 => skB f n ++ le4 (f n)
theorem skB_len (f : Nat → W32) : ∀ n, (skB f n).length = 4 * n
  | 0 => rfl
  | n + 1 => by simp [skB, skB_len f n, le4]; omega
def InvSb (σ : St) (r n : Nat) (f : Nat → W32) (m : Nat) (e : Env) (s : St) : Prop := ∃ (i : Nat) (v : V), e = [(3, v), (7, .sl r 0 n 1), (8, I n), (9, I i)] ∧ m = n - i ∧ i ≤ n ∧ Two σ s 1 1 v (.d .nils) (byteRows (skB f i)) []
def InvSb2 (σ : St) (r n : Nat) (f : Nat → W32) (i : Nat) (m : Nat) (e : Env) (s : St) : Prop := ∃ (k : Nat) (v : V), e = [(3, v), (5, Xw (f i)), (7, .sl r 0 n 1), (8, I n), (9, I i), (13, I k)] ∧ m = 4 - k ∧ k ≤ 4 ∧ Two σ s 1 1 v (.d .nils) (byteRows (skB f i ++ (le4 (f i)).take k)) []

theorem s_skBytes {σ : St} {r n : Nat} {f : Nat → W32} (h : σ.objs[r]? = some (.cells (fnV n f))) (hn : n ≤ 1000) : Dn.Call Γ cx .rd 38 [.sl r 0 n 1] σ fun v _ => ∃ d, v = .d d ∧ LV (.d d) (byteRows (skB f n)) := by
  refine Dn.Call.body (fc := c38) rfl ?_
  simp -implicitDefEqProofs [c38, c38_k13, c38_k12, lenT, lenV, c38_k11]
  refine wloopI (InvSb σ r n f) (m := n) ⟨0, _, rfl, rfl, by omega, Two.nil σ 1 1⟩ ?_
  rintro m e s ⟨i, v, rfl, rfl, hi, hT⟩
  have hob : s.objs[r]? = some (.cells (fnV n f)) := hT.fr.get h (by simp)
  rcases hin : decide ((i : Int) < n) with _ | _
  · have hlt : ¬ (i : Int) < n := of_decide_eq_false hin
    obtain rfl : i = n := by omega
    have hdv := hT.pa.lv.dv s
    obtain ⟨d, hd⟩ := hdv.2.2.1
    simp -implicitDefEqProofs [c38_l10, c38_k9, c38_k0, hT.pa.lv.byValN, hdv.1]
    exact ⟨hT.keeps, d, hd, hd ▸ hdv.2.1⟩
  have hlt : (i : Int) < n := of_decide_eq_true hin
  have ia := fun σ => iaddr_sl σ (q := r) (n := n) (i := i) (by omega)
  have hat := fnV_at f (n := n) (k := i) (by omega)
  have w9 : IntKind.i64.wrap ((i : Int) + 1) = ((i + 1 : Nat) : Int) := by rw [wrap_i64 (by omega) (by omega)]; omega
  simp -implicitDefEqProofs [hlt, c38_l10, c38_k9, c38_k8, ia, hob, hat, c38_k7, c38_k6]
  refine wloopI (InvSb2 σ r n f i) (m := 4) ⟨0, v, rfl, rfl, by omega, by simpa using hT⟩ ?_
  rintro m e s2 ⟨k, v2, rfl, rfl, hk, hT2⟩
  by_cases hk4 : k < 4
  rotate_left
  · obtain rfl : k = 4 := by omega
    simp -implicitDefEqProofs [c38_l5, c38_k4, w9]
    exact ⟨n - (i + 1), by omega, i + 1, v2, rfl, rfl, by omega, hT2⟩
  have hkk : (k : Int) < 4 := by omega
  have h8 : IntKind.i64.wrap (8 * (k : Int)) = ((8 * k : Nat) : Int) := by rw [wrap_i64 (by omega) (by omega)]; omega
  have hsr := shr_32 (f i) (8 * k) (by omega)
  have hc8 : IntKind.u8.wrap (un (f i >>> (8 * k))) = ((bt (f i) k).toNat : Int) := by
    have := wrap_u8n (f i >>> (8 * k)).toNat
    simp only [un] at this ⊢
    rw [this]
    simp [bt]
  have hle : (le4 (f i)).take (k + 1) = (le4 (f i)).take k ++ [bt (f i) k] := by
    match k, hk4 with
    | 0, _ | 1, _ | 2, _ | 3, _ => rfl
  have hln := skB_len f i
  obtain ⟨v3, s3, hap, hT3, ho3⟩ := hT2.push (bytes := 1) (by decide) (byteRows_fit _) (y := [.int .u8 (bt (f i) k).toNat]) rfl (by simp [byteRows_len, hln]; omega) (by simp [byteRows_len, hln]; omega)
  rw [show byteRows (skB f i ++ (le4 (f i)).take k) ++ [[.int .u8 (bt (f i) k).toNat]] = byteRows (skB f i ++ (le4 (f i)).take (k + 1)) by rw [hle, ← List.append_assoc, byteRows_app _ [bt (f i) k]]; rfl] at hT3
  obtain ⟨k8, hk8⟩ : ∃ k8, 8 * k = k8 := ⟨_, rfl⟩
  rw [hk8] at h8 hsr hc8
  clear hk4
  simp -implicitDefEqProofs [hkk, c38_l5, c38_k4, c38_k3, c38_k2, c38_k1, h8, hsr, hc8, repl, rowsOf, frzV]
  refine i_app_f (v := v3) (s := s3) ?_ ?_
  · simp -implicitDefEqProofs [V.rows]
    exact hap none
  simp -implicitDefEqProofs [wrap_i64 (n := (k : Int) + 1) (by omega) (by omega)]
  exact ⟨4 - (k + 1), by omega, k + 1, v3, rfl, rfl, by omega, hT3⟩
theorem s_skBytesOf {σ : St} {y r n : Nat} {f : Nat → W32} (h : Sk σ y r n f) (hn : n ≤ 1000) : Dn.Call Γ cx .rd 21 [.ref y 0] σ fun v _ => ∃ d, v = .d d ∧ LV (.d d) (byteRows (skB f n)) := by
  refine Dn.Call.body (fc := c21) rfl ?_
  simp -implicitDefEqProofs [c21, c21_k2, eqV, V.isNil, Opd.isC, c21_k1, c21_k0, nilCheckV, h.o]
  refine use_rd' (s_skBytes h.l hn) fun v s ⟨d, hv, hd⟩ => ?_
  subst hv
  simp -implicitDefEqProofs
  exact ⟨⟨fun i hi => rfl, fun t k ht => ht⟩, hd⟩


/-! ### the reference's field: rests of polynomials -/
namespace Gf
abbrev P64 := BitVec 64
/-- An element of a polynomial of 64 bits. -/
def phi (x : P64) : W := sum 64 fun i => bit (x.getLsbD i) (pw i 1)
theorem phi_xor (x y : P64) : phi (x ^^^ y) = phi x ^^^ phi y := by
  unfold phi
  rw [← sum_xor]
  exact sum_congr fun i _ => by rw [BitVec.getLsbD_xor, bit_xorb]
theorem phi_zero : phi 0 = 0 := by
  unfold phi
  exact (sum_congr (g := fun _ => 0) fun i _ => by rw [show BitVec.getLsbD (0 : P64) i = false from BitVec.getLsbD_zero]; rfl).trans (sum_zero 64)
theorem phi_mod : ∀ k, k < 32 → phi (0x10000008d#64 <<< k) = 0 := by decide +kernel
theorem sum_trunc {f : Nat → W} {n : Nat} (h : ∀ i, n ≤ i → f i = 0) : ∀ k, sum (n + k) f = sum n f
  | 0 => rfl
  | k + 1 => by
    show sum (n + k) f ^^^ f (n + k) = _
    rw [h (n + k) (by omega), sum_trunc h k]
    simp
theorem phi_low {x : P64} (h : ∀ j, 32 ≤ j → x.getLsbD j = false) : phi x = x.setWidth 32 := by
  unfold phi
  have h1 := sum_trunc (n := 32) (f := fun i => bit (x.getLsbD i) (pw i 1)) (fun i hi => by simp only [h i hi]; rfl) 32
  refine Eq.trans h1 ?_
  rw [← sum_bits (x.setWidth 32)]
  refine sum_congr fun i hi => ?_
  rw [BitVec.getLsbD_setWidth]
  simp [hi]
theorem sum_first (f : Nat → W) : ∀ n, sum (n + 1) f = f 0 ^^^ sum n fun i => f (i + 1)
  | 0 => by simp [sum]
  | n + 1 => by
    show sum (n + 1) f ^^^ f (n + 1) = f 0 ^^^ (sum n (fun i => f (i + 1)) ^^^ f (n + 1))
    rw [sum_first f n, BitVec.xor_assoc]
theorem phi_shl {y : P64} (h : y.getLsbD 63 = false) : phi (y <<< 1) = sh (phi y) := by
  unfold phi
  rw [sum_lin sh_zero sh_xor]
  refine Eq.trans (sum_first _ 63) ?_
  have h0 : bit ((y <<< 1).getLsbD 0) (pw 0 1) = 0 := by simp [bit]
  rw [h0]
  show 0 ^^^ _ = sum 63 _ ^^^ sh (bit (y.getLsbD 63) (pw 63 1))
  rw [h]
  have h1 : sh (bit false (pw 63 1)) = 0 := sh_zero
  rw [h1]
  have h2 : ∀ z : W, (0 : W) ^^^ z = z ^^^ 0 := fun z => BitVec.xor_comm _ _
  rw [h2]
  congr 1
  refine sum_congr fun i hi => ?_
  have h3 : (y <<< 1).getLsbD (i + 1) = y.getLsbD i := by
    rw [BitVec.getLsbD_shiftLeft]
    simp [show i + 1 < 64 by omega]
  rw [h3]
  cases y.getLsbD i
  · exact sh_zero.symm
  · rfl
theorem hi_false (a : W) (n : Nat) (hn : n < 32) : ((a.setWidth 64) <<< n).getLsbD 63 = false := by
  rw [BitVec.getLsbD_shiftLeft, BitVec.getLsbD_setWidth]
  have : a.getLsbD (63 - n) = false := BitVec.getLsbD_of_ge a (63 - n) (by omega)
  simp [this]
theorem phi_pw (a : W) : ∀ n, n ≤ 32 → phi ((a.setWidth 64) <<< n) = pw n a
  | 0, _ => by
    rw [BitVec.shiftLeft_zero, phi_low (fun j hj => by rw [BitVec.getLsbD_setWidth, BitVec.getLsbD_of_ge a j hj]; simp)]
    simp [pw]
  | n + 1, h => by
    rw [BitVec.shiftLeft_add, phi_shl (hi_false a n (by omega)), phi_pw a n (by omega)]
    rfl
/-- A product of polynomials. -/
def pacc (a b : W) : Nat → P64
  | 0 => 0
  | n + 1 => if b.getLsbD n = true then pacc a b n ^^^ ((a.setWidth 64) <<< n) else pacc a b n
theorem phi_pacc (a b : W) : ∀ n, n ≤ 32 → phi (pacc a b n) = sum n fun i => bit (b.getLsbD i) (pw i a)
  | 0, _ => phi_zero
  | n + 1, h => by
    simp only [pacc, sum]
    cases b.getLsbD n
    · simp only [Bool.false_eq_true, if_false]
      rw [phi_pacc a b n (by omega)]
      simp [bit]
    · simp only [if_true]
      rw [phi_xor, phi_pacc a b n (by omega), phi_pw a n (by omega)]
      rfl
end Gf

theorem mod_hi (k : Nat) (h : 33 ≤ k) : (0x10000008d#64).getLsbD k = false := by
  show Nat.testBit 4294967437 k = false
  refine Nat.testBit_lt_two_pow ?_
  have := Nat.pow_le_pow_right (n := 2) (by decide) h
  have h2 : (2 : Nat) ^ 33 = 8589934592 := by decide
  omega
theorem rem2 (x : W64) (i : Nat) : (un (x >>> i)).tmod 2 = if x.getLsbD i = true then 1 else 0 := by
  have h : x.getLsbD i = decide (x.toNat / 2 ^ i % 2 = 1) := by
    show x.toNat.testBit i = _
    rw [Nat.testBit_eq_decide_div_mod_eq]
  have h0 : 0 ≤ un (x >>> i) := Int.natCast_nonneg _
  rw [Int.tmod_eq_emod_of_nonneg h0, h]
  simp only [un, BitVec.toNat_ushiftRight, Nat.shiftRight_eq_div_pow]
  generalize x.toNat / 2 ^ i = z
  by_cases hz : z % 2 = 1
  · simp [hz]; omega
  · simp [hz]; omega
def InvRest (x0 : W64) (m : Nat) (e : Env) (s : St) : Prop := ∃ (n : Nat) (x : W64), e = [(0, Wd x), (3, I (31 + (n : Int)))] ∧ n = m ∧ n ≤ 32 ∧ s = St.empty ∧ Gf.phi x = Gf.phi x0 ∧ ∀ j, 32 + n ≤ j → x.getLsbD j = false
theorem s_rest (x0 : W64) : Dn.Call Γ cx .val 59 [Wd x0] St.empty fun v _ => v = Xw (Gf.phi x0) := by
  refine Dn.Call.body (fc := c59) rfl ?_
  simp -implicitDefEqProofs [c59, c59_k8, c59_k7]
  refine wloopI (InvRest x0) (m := 32) ⟨32, x0, rfl, rfl, by omega, rfl, rfl, fun j hj => BitVec.getLsbD_of_ge _ _ (by omega)⟩ ?_
  rintro m e s ⟨n, x, rfl, rfl, hn, rfl, hph, hz⟩
  cases n with
  | zero =>
    have hlow := Gf.phi_low (x := x) hz
    have hc : IntKind.u32.wrap (un x) = un (x.setWidth 32) := by
      have := wrap_u32 x.toNat
      simp only [un] at this ⊢
      rw [this]
      simp
    simp -implicitDefEqProofs [c59_l6, c59_k5, c59_k0, hc]
    rw [← hph, hlow]
  | succ n =>
    obtain ⟨i, hi⟩ : ∃ i : Nat, 32 + n = i := ⟨_, rfl⟩
    have e0 : (31 + ((n + 1 : Nat) : Int)) = (i : Int) := by omega
    have h32 : (32 : Int) ≤ i := by omega
    have wi : IntKind.u64.wrap (i : Int) = i := wrap_u64 (by omega) (by omega)
    have w32 : IntKind.i64.wrap ((i : Int) - 32) = (n : Int) := by rw [wrap_i64 (by omega) (by omega)]; omega
    have wn : IntKind.u64.wrap (n : Int) = n := wrap_u64 (by omega) (by omega)
    have w1 : IntKind.i64.wrap ((i : Int) - 1) = 31 + (n : Int) := by rw [wrap_i64 (by omega) (by omega)]; omega
    have hsr := shr_sh x i (by omega)
    have hsl : shiftBin .shl .u64 4294967437 (n : Int) = some (Wd (0x10000008d#64 <<< n)) := shl_sh 0x10000008d#64 n (by omega)
    have hr := rem2 x i
    have hxr := xor_u64 x (0x10000008d#64 <<< n)
    rw [e0]
    cases hb : x.getLsbD i with
    | true =>
      rw [hb] at hr
      simp -implicitDefEqProofs [c59_l6, h32, c59_k5, c59_k4, c59_k3, wi, hsr, hr, c59_k2, w32, wn, hsl, hxr, c59_k1, w1]
      refine ⟨n, by omega, n, _, rfl, rfl, by omega, rfl, ?_, fun j hj => ?_⟩
      · rw [Gf.phi_xor, Gf.phi_mod n (by omega), hph]
        simp
      · rw [BitVec.getLsbD_xor, BitVec.getLsbD_shiftLeft]
        by_cases h1 : j = i
        · have h2 : (0x10000008d#64).getLsbD 32 = true := by decide
          have h3 : j - n = 32 := by omega
          rw [h3, h2, h1, hb]
          simp [show i < 64 by omega, show ¬ i < n by omega]
        · have h2 : (0x10000008d#64).getLsbD (j - n) = false := mod_hi (j - n) (by omega)
          rw [h2, hz j (by omega)]
          simp
    | false =>
      rw [hb] at hr
      simp -implicitDefEqProofs [c59_l6, h32, c59_k5, c59_k4, c59_k3, wi, hsr, hr, c59_k2, c59_k1, w1]
      refine ⟨n, by omega, n, x, rfl, rfl, by omega, rfl, hph, fun j hj => ?_⟩
      by_cases h1 : j = i
      · rw [h1]; exact hb
      · exact hz j (by omega)


/-! ### the reference's products and powers -/
theorem rem2w (x : W32) (i : Nat) : (un (x >>> i)).tmod 2 = if x.getLsbD i = true then 1 else 0 := by
  have h : x.getLsbD i = decide (x.toNat / 2 ^ i % 2 = 1) := by
    show x.toNat.testBit i = _
    rw [Nat.testBit_eq_decide_div_mod_eq]
  have h0 : 0 ≤ un (x >>> i) := Int.natCast_nonneg _
  rw [Int.tmod_eq_emod_of_nonneg h0, h]
  simp only [un, BitVec.toNat_ushiftRight, Nat.shiftRight_eq_div_pow]
  generalize x.toNat / 2 ^ i = z
  by_cases hz : z % 2 = 1
  · simp [hz]; omega
  · simp [hz]; omega
def InvRM (a b : W32) (m : Nat) (e : Env) (s : St) : Prop := ∃ n : Nat, e = [(0, Xw a), (1, Xw b), (5, Wd (Gf.pacc a b n)), (6, I n)] ∧ m = 32 - n ∧ n ≤ 32 ∧ s = St.empty
theorem s_rMul (a b : W32) : Dn.Call Γ cx .val 47 [Xw a, Xw b] St.empty fun v _ => v = Xw (Gf.mul a b) := by
  refine Dn.Call.body (fc := c47) rfl ?_
  simp -implicitDefEqProofs [c47, c47_k9, c47_k8, c47_k7]
  refine wloopI (InvRM a b) (m := 32) ⟨0, rfl, rfl, by omega, rfl⟩ ?_
  rintro m e s ⟨n, rfl, rfl, hn, rfl⟩
  by_cases hn2 : n < 32
  rotate_left
  · obtain rfl : n = 32 := by omega
    have hp : Gf.phi (Gf.pacc a b 32) = Gf.mul a b := Gf.phi_pacc a b 32 (by omega)
    have hr := s_rest (Gf.pacc a b 32)
    rw [hp] at hr
    generalize Gf.pacc a b 32 = p at *
    simp -implicitDefEqProofs [c47_l6, c47_k5, c47_k0]
    refine use_fn rfl hr rfl ?_
    simp -implicitDefEqProofs
  have hnn : (n : Int) < 32 := by omega
  have wn : IntKind.u64.wrap (n : Int) = n := wrap_u64 (by omega) (by omega)
  have wa : IntKind.u64.wrap (un a) = un (a.setWidth 64) := by
    have := a.isLt
    have h1 : un (a.setWidth 64) = un a := by simp [un]; omega
    rw [h1]
    exact wrap_u64 (by simp only [un]; omega) (by simp only [un]; omega)
  have w1 : IntKind.i64.wrap ((n : Int) + 1) = ((n + 1 : Nat) : Int) := by rw [wrap_i64 (by omega) (by omega)]; omega
  have hsr := shr_32 b n hn2
  have hsl := shl_sh (a.setWidth 64) n (by omega)
  have hr := rem2w b n
  have hxr := xor_u64 (Gf.pacc a b n) (a.setWidth 64 <<< n)
  have hpa : Gf.pacc a b (n + 1) = if b.getLsbD n = true then Gf.pacc a b n ^^^ ((a.setWidth 64) <<< n) else Gf.pacc a b n := rfl
  cases hb : b.getLsbD n with
  | true =>
    rw [hb] at hr hpa
    simp only [if_true] at hpa
    rw [← hpa] at hxr
    simp -implicitDefEqProofs [c47_l6, hnn, c47_k5, c47_k4, c47_k3, wn, hsr, hr, c47_k2, wa, hsl, hxr, c47_k1, w1]
    exact ⟨32 - (n + 1), by omega, n + 1, rfl, rfl, by omega, rfl⟩
  | false =>
    rw [hb] at hr hpa
    simp only [Bool.false_eq_true, if_false] at hpa
    simp -implicitDefEqProofs [c47_l6, hnn, c47_k5, c47_k4, c47_k3, wn, hsr, hr, c47_k2, c47_k1, w1]
    exact ⟨32 - (n + 1), by omega, n + 1, by rw [hpa]; rfl, rfl, by omega, rfl⟩

theorem npow_half (a : W32) (n : Nat) : Gf.npow a n = if n % 2 = 1 then Gf.mul (Gf.mul (Gf.npow a (n / 2)) (Gf.npow a (n / 2))) a else Gf.mul (Gf.npow a (n / 2)) (Gf.npow a (n / 2)) := by
  rw [← Gf.npow_add]
  split
  · rename_i h
    conv => lhs; rw [show n = (n / 2 + n / 2) + 1 by omega]
    rfl
  · rename_i h
    conv => lhs; rw [show n = n / 2 + n / 2 by omega]

theorem s_Power (a : W32) : ∀ n : Nat, n ≤ 1000000 → Dn.Call Γ cx .val 39 [Xw a, .d (.int .u64 (n : Int))] St.empty fun v _ => v = Xw (Gf.npow a n) := by
  intro n
  induction n using Nat.strongRecOn with
  | ind n ih =>
    intro hn
    refine Dn.Call.body (fc := c39) rfl ?_
    by_cases h0 : n = 0
    · subst h0
      simp -implicitDefEqProofs [c39, c39_k6, c39_k5]
      rfl
    have h0' : ¬ (n : Int) = 0 := by omega
    have hih := ih (n / 2) (by omega) (by omega)
    have hh := npow_half a n
    obtain ⟨z, hz⟩ : ∃ z, n / 2 = z := ⟨_, rfl⟩
    rw [hz] at hih hh
    have hd : (n : Int).tdiv 2 = (z : Int) := by rw [← hz]; rfl
    have hd2 : (n : Int) / 2 = (z : Int) := by omega
    have hwz : IntKind.u64.wrap (z : Int) = z := wrap_u64 (by omega) (by omega)
    have hr : (n : Int).tmod 2 = ((n % 2 : Nat) : Int) := rfl
    have hr2 : (n : Int) % 2 = ((n % 2 : Nat) : Int) := by omega
    simp -implicitDefEqProofs [c39, c39_k6, h0, h0', c39_k5, c39_k4, hd, hd2, hwz]
    refine use_fn rfl hih rfl ?_
    simp -implicitDefEqProofs [c39_k3]
    refine use_fn rfl (s_rMul _ _) rfl ?_
    by_cases h1 : n % 2 = 1
    · have h1' : (n : Int) % 2 = 1 := by omega
      rw [if_pos h1] at hh
      simp -implicitDefEqProofs [c39_k2, h1', hr, h1, c39_k1]
      refine use_fn rfl (s_rMul _ _) rfl ?_
      simp -implicitDefEqProofs [c39_k0, hh]
    · have h1' : ¬ (n : Int) % 2 = 1 := by omega
      rw [if_neg h1] at hh
      have h2 : n % 2 = 0 := by omega
      simp -implicitDefEqProofs [c39_k2, h1', hr, h2, c39_k1, c39_k0, hh]


/-! ### the reference's sums -/
def wRows (f : Nat → W32) (n : Nat) : List (List D) := (List.range n).map fun k => [.int .u32 (un (f k))]
theorem wRows_len (f : Nat → W32) (n : Nat) : (wRows f n).length = n := by simp [wRows]
theorem wRows_fit (f : Nat → W32) (n : Nat) : ∀ r ∈ wRows f n, r.length = 1 := by
  intro r hr
  obtain ⟨k, _, rfl⟩ := List.mem_map.1 hr
  rfl
theorem wRows_succ (f : Nat → W32) (n : Nat) : wRows f (n + 1) = wRows f n ++ [[.int .u32 (un (f n))]] := by simp [wRows, List.range_succ]
theorem wRows_at (f : Nat → W32) {n k : Nat} (h : k < n) : (wRows f n)[k]? = some [.int .u32 (un (f k))] := by simp [wRows, h]
def InvOf (n : Nat) (d : D) (f : Nat → W32) (m : Nat) (e : Env) (s : St) : Prop := ∃ (k : Nat) (v : V), e = [(0, I n), (1, .d d), (5, v), (6, I k)] ∧ m = n - k ∧ k ≤ n ∧ App s 1 v (wRows f k)
def InvOf2 (n : Nat) (d : D) (ids : List Int) (k : Nat) (v : V) (s0 : St) (m : Nat) (e : Env) (s : St) : Prop := ∃ i : Nat, e = [(0, I n), (1, .d d), (5, v), (6, I k), (7, Xw (acc (fun _ => 0) (ids.take i) k)), (8, I i)] ∧ m = ids.length - i ∧ i ≤ ids.length ∧ s = s0

theorem s_Of {n : Nat} (hn : n ≤ 1000) {d : D} {ids : List Int} (hd : LV (.d d) (uRows ids)) (hids : ∀ i ∈ ids, 0 ≤ i ∧ i ≤ 4294967295) (hlen : ids.length ≤ 1000) : Dn.Call Γ cx .val 23 [I n, .d d] St.empty fun v _ => ∃ x, v = .d x ∧ LV (.d x) (wRows (acc (fun _ => 0) ids) n) := by
  refine Dn.Call.body (fc := c23) rfl ?_
  have hld : ∀ σ, lenT σ .slice (.d d) = some ids.length := fun σ => by rw [hd.len, uRows_len]
  simp -implicitDefEqProofs [c23, c23_k16, c23_k15, c23_k14]
  refine wloopI (InvOf n d (acc (fun _ => 0) ids)) (m := n) ⟨0, _, rfl, rfl, by omega, .nil⟩ ?_
  rintro m e s ⟨k, v, rfl, rfl, hk, hv⟩
  rcases hkn : decide ((k : Int) < n) with _ | _
  · have hlt : ¬ (k : Int) < n := of_decide_eq_false hkn
    obtain rfl : k = n := by omega
    have hdv := hv.lv.dv s
    obtain ⟨x, hx⟩ := hdv.2.2.1
    simp -implicitDefEqProofs [c23_l13, c23_k12, c23_k0, hdv.1]
    exact ⟨x, hx, hx ▸ hdv.2.1⟩
  have hlt : (k : Int) < n := of_decide_eq_true hkn
  have w9 : IntKind.i64.wrap ((k : Int) + 1) = ((k + 1 : Nat) : Int) := by rw [wrap_i64 (by omega) (by omega)]; omega
  have w2 : IntKind.i64.wrap (2 * (k : Int)) = ((2 * k : Nat) : Int) := by rw [wrap_i64 (by omega) (by omega)]; omega
  have w3 : IntKind.i64.wrap (((2 * k : Nat) : Int) + 1) = ((2 * k + 1 : Nat) : Int) := by rw [wrap_i64 (by omega) (by omega)]; omega
  have w4 : IntKind.u64.wrap ((2 * k + 1 : Nat) : Int) = ((2 * k + 1 : Nat) : Int) := wrap_u64 (by omega) (by omega)
  have hpw : ∀ a : W32, Dn.Call Γ cx .val 39 [Xw a, .d (.int .u64 ((2 * k + 1 : Nat) : Int))] St.empty fun v _ => v = Xw (oddp a k) := fun a => s_Power a (2 * k + 1) (by omega)
  simp -implicitDefEqProofs [hlt, c23_l13, c23_k12, c23_k11, c23_k10, c23_k9, c23_k8]
  refine wloopI (InvOf2 n d ids k v s) (m := ids.length) ⟨0, by simp [Env.pick, Env.get, acc, un], rfl, by omega, rfl⟩ ?_
  rintro m e s2 ⟨i, rfl, rfl, hi, rfl⟩
  rcases hin : decide ((i : Int) < ids.length) with _ | _
  · have hlt2 : ¬ (i : Int) < ids.length := of_decide_eq_false hin
    obtain rfl : i = ids.length := by omega
    rw [List.take_length]
    obtain ⟨v3, s3, hap, happ, ho, -, -⟩ := hv.push (bytes := 4) (by decide) (wRows_fit _ _) (ys := [[.int .u32 (un (acc (fun _ => 0) ids k))]]) (by simp) (by simp [wRows_len]; omega) (by simp [wRows_len]; omega)
    rw [← wRows_succ] at happ
    simp -implicitDefEqProofs [c23_l7, c23_k6, hld, c23_k2, repl, rowsOf, frzV]
    refine i_app_f (v := v3) (s := s3) ?_ ?_
    · simp -implicitDefEqProofs [V.rows]
      exact hap none
    simp -implicitDefEqProofs [c23_k1, w9]
    exact ⟨n - (k + 1), by omega, k + 1, v3, rfl, rfl, by omega, happ⟩
  have hlt2 : (i : Int) < ids.length := of_decide_eq_true hin
  obtain ⟨q, hq⟩ : ∃ q, ids[i]? = some q := ⟨_, List.getElem?_eq_getElem (by omega)⟩
  have hqb := hids q (List.mem_of_getElem? hq)
  have hia := fun σ => hd.iaddr σ (k := .i64) (sz := 1) (i := i) (uRows_at hq) rfl
  have hta : ids.take (i + 1) = ids.take i ++ [q] := by rw [List.take_add_one, hq]; rfl
  have hX : X q = Xw (wof q) := by show _ = V.d (.int .u32 (un (wof q))); rw [un_wof hqb.1 hqb.2]
  have hun := un_wof hqb.1 hqb.2
  have hac : acc (fun _ => 0) (ids.take (i + 1)) k = acc (fun _ => 0) (ids.take i) k ^^^ oddp (wof q) k := by rw [hta, acc_snoc]
  have w8 : IntKind.i64.wrap ((i : Int) + 1) = ((i + 1 : Nat) : Int) := by rw [wrap_i64 (by omega) (by omega)]; omega
  have hp := hpw (wof q)
  rw [← hX] at hp
  obtain ⟨A, hA⟩ : ∃ A, acc (fun _ => 0) (ids.take i) k = A := ⟨_, rfl⟩
  rw [hA] at hac
  have hxr := xor_u32 A (oddp (wof q) k)
  rw [hA]
  obtain ⟨k2, hk2⟩ : ∃ k2, 2 * k = k2 := ⟨_, rfl⟩
  obtain ⟨k3, hk3⟩ : ∃ k3, k2 + 1 = k3 := ⟨_, rfl⟩
  rw [hk2] at w2 w3 w4 hp
  rw [hk3] at w3 w4 hp
  simp -implicitDefEqProofs [hlt2, hld, c23_l7, c23_k6, c23_k5, c23_k4, hia, w2, w3, w4]
  refine use_fn rfl hp rfl ?_
  simp -implicitDefEqProofs [hxr, c23_k3, w8]
  exact ⟨ids.length - (i + 1), by omega, i + 1, by rw [hac]; rfl, rfl, by omega, rfl⟩

theorem bt_nat (w : W32) (i : Nat) : (bt w i).toNat = w.toNat / 2 ^ (8 * i) % 256 := by
  simp [bt, Nat.shiftRight_eq_div_pow]
def InvRBy (x : D) (f : Nat → W32) (n : Nat) (m : Nat) (e : Env) (s : St) : Prop := ∃ (i : Nat) (v : V), e = [(0, .d x), (3, v), (4, I i)] ∧ m = n - i ∧ i ≤ n ∧ App s 1 v (byteRows (skB f i))
theorem s_rBytes {x : D} {f : Nat → W32} {n : Nat} (hn : n ≤ 1000) (hx : LV (.d x) (wRows f n)) : Dn.Call Γ cx .val 22 [.d x] St.empty fun v _ => ∃ d, v = .d d ∧ LV (.d d) (byteRows (skB f n)) := by
  refine Dn.Call.body (fc := c22) rfl ?_
  have hlx : ∀ σ, lenT σ .slice (.d x) = some n := fun σ => by rw [hx.len, wRows_len]
  simp -implicitDefEqProofs [c22, c22_k8, c22_k7, c22_k6]
  refine wloopI (InvRBy x f n) (m := n) ⟨0, _, rfl, rfl, by omega, .nil⟩ ?_
  rintro m e s ⟨i, v, rfl, rfl, hi, hv⟩
  rcases hin : decide ((i : Int) < n) with _ | _
  · have hlt : ¬ (i : Int) < n := of_decide_eq_false hin
    obtain rfl : i = n := by omega
    have hdv := hv.lv.dv s
    obtain ⟨d, hd⟩ := hdv.2.2.1
    simp -implicitDefEqProofs [c22_l5, c22_k4, hlx, c22_k0, hdv.1]
    exact ⟨d, hd, hd ▸ hdv.2.1⟩
  have hlt : (i : Int) < n := of_decide_eq_true hin
  have hia := fun σ => hx.iaddr σ (k := .i64) (sz := 1) (i := i) (wRows_at f (n := n) (by omega)) rfl
  have w9 : IntKind.i64.wrap ((i : Int) + 1) = ((i + 1 : Nat) : Int) := by rw [wrap_i64 (by omega) (by omega)]; omega
  have hln := skB_len f i
  simp -implicitDefEqProofs [hlt, c22_l5, c22_k4, hlx, c22_k3, c22_k2]
  refine w_drw (fun _ => .val) [] (by decide +kernel) ?_
  have w32 : ∀ m : Nat, m < 4294967296 → IntKind.u32.wrap (m : Int) = m := fun m hm => by
    simp only [IntKind.wrap, IntKind.signed, IntKind.bits]; simp; omega
  have hz := (f i).isLt
  have d1 : (un (f i)).tdiv 256 = (((f i).toNat / 256 : Nat) : Int) := rfl
  have d2 : (un (f i)).tdiv 65536 = (((f i).toNat / 65536 : Nat) : Int) := rfl
  have d3 : (un (f i)).tdiv 16777216 = (((f i).toNat / 16777216 : Nat) : Int) := rfl
  have b0 : IntKind.u8.wrap ((un (f i)).tmod 256) = ((bt (f i) 0).toNat : Int) := by
    rw [show (un (f i)).tmod 256 = (((f i).toNat % 256 : Nat) : Int) from rfl, wrap_u8n, bt_nat]
    simp
  have b1 : IntKind.u8.wrap ((IntKind.u32.wrap ((un (f i)).tdiv 256)).tmod 256) = ((bt (f i) 1).toNat : Int) := by
    rw [d1, w32 _ (by omega), show (((f i).toNat / 256 : Nat) : Int).tmod 256 = (((f i).toNat / 256 % 256 : Nat) : Int) from rfl, wrap_u8n, bt_nat]
    simp
  have b2 : IntKind.u8.wrap ((IntKind.u32.wrap ((un (f i)).tdiv 65536)).tmod 256) = ((bt (f i) 2).toNat : Int) := by
    rw [d2, w32 _ (by omega), show (((f i).toNat / 65536 : Nat) : Int).tmod 256 = (((f i).toNat / 65536 % 256 : Nat) : Int) from rfl, wrap_u8n, bt_nat]
    simp
  have b3 : IntKind.u8.wrap (IntKind.u32.wrap ((un (f i)).tdiv 16777216)) = ((bt (f i) 3).toNat : Int) := by
    rw [d3, w32 _ (by omega), wrap_u8n, bt_nat]
  have hv1 := hv.toks (room_toks s 1)
  obtain ⟨v3, s3, hap, happ, ho, -, -⟩ := hv1.push (bytes := 1) (by decide) (byteRows_fit _) (ys := byteRows (le4 (f i))) (byteRows_fit _) (by simp [byteRows_len, hln, le4]; omega) (by simp [byteRows_len, hln, le4]; omega)
  rw [← byteRows_app] at happ
  simp -implicitDefEqProofs [hia, b0, b1, b2, b3, repl, rowsOf, frzV]
  refine t_app_f (v := v3) (s := s3) ?_ ?_
  · simp -implicitDefEqProofs [V.rows]
    exact hap _
  simp -implicitDefEqProofs [c22_k1, w9]
  exact ⟨n - (i + 1), by omega, i + 1, v3, rfl, rfl, by omega, happ⟩

open Sip

/-! ### the second law: sketches of indices -/
theorem lv_list {d : D} {rows : List (List D)} (h : LV (.d d) rows) (hne : rows ≠ []) : d = .list rows := by
  cases h with
  | nil => exact absurd rfl hne
  | list => rfl
theorem skB_ne (f : Nat → W32) {n : Nat} (h : 1 ≤ n) : byteRows (skB f n) ≠ [] := by
  intro e
  have := congrArg List.length e
  rw [byteRows_len, skB_len] at this
  simp at this
  omega
theorem s_skB {σ : St} {y r n : Nat} {f : Nat → W32} (h : Sk σ y r n f) (h1 : 1 ≤ n) (hn : n ≤ 1000) : Dn.Call Γ cx .rd 21 [.ref y 0] σ fun v _ => v = .d (.list (byteRows (skB f n))) :=
  (s_skBytesOf h hn).mono fun v s ⟨d, hv, hd⟩ => by rw [hv, lv_list hd (skB_ne f h1)]

theorem law4_k0 {s : St} {y r n : Nat} {M : List Item} (hS : Sk s y r n (acc (fun _ => 0) (M.map (·.1)))) (h1 : 1 ≤ n) (hn : n ≤ 40) {d : D} (hd : LV (.d d) (mRows M)) (hM : ∀ p ∈ M, p.2.length = 32) (hb : ∀ p ∈ M, 0 ≤ p.1 ∧ p.1 ≤ 4294967295) (hml : M.length ≤ 90) {w : V} :
    wcode (Dn.Call Γ cx) cx c4_k0 [(2, I n), (8, .d .nili), (9, .d d), (11, .ref y 0), (44, w)] s lawQ := by
  simp only [c4_k0, w_seq]
  refine w_drw (fun f => if f = 21 then .rd else .val) [] (by decide +kernel) ?_
  simp only [room_zero]
  have hyl : y < s.objs.length := (List.getElem?_eq_some_iff.1 hS.o).1
  have hrl : r < s.objs.length := (List.getElem?_eq_some_iff.1 hS.l).1
  simp -implicitDefEqProofs [eqV, V.isNil, Opd.isC]
  refine use_rdN rfl (fun s2 ha => s_skB (σ := s2) ⟨(ha.1 y hyl).trans hS.o, (ha.1 r hrl).trans hS.l⟩ h1 (by omega)) ?_
  have hbs := skB_ne (acc (fun _ => 0) (M.map (·.1))) h1
  have hids : ∀ i ∈ M.map (·.1), 0 ≤ i ∧ i ≤ 4294967295 := fun i hm => by
    obtain ⟨p, hp, rfl⟩ := List.mem_map.1 hm
    exact hb p hp
  have hOf := fun {d1 : D} (h : LV (.d d1) (uRows (M.map (·.1)))) => s_Of (n := n) (by omega) h hids (by simp; omega)
  generalize acc (fun _ => 0) (M.map (·.1)) = F at *
  simp only [q_tcont, putE, Env.set]
  simp -implicitDefEqProofs [V.rows, rowBytes_byteRows]
  refine use_valN rfl rfl (s_rIDs hd hM (by omega)) ⟨_, St.empty, _, rfl, .list _⟩ fun v _ ⟨d1, hv, hd1⟩ => ?_
  subst hv
  refine ⟨rfl, (fun h => by cases h), ?_⟩
  simp only [q_tcont, putE, Env.set]
  simp -implicitDefEqProofs
  refine use_valN rfl rfl (hOf hd1) ⟨_, St.empty, _, rfl, .list _⟩ fun v _ ⟨d2, hv, hd2⟩ => ?_
  subst hv
  refine ⟨rfl, (fun h => by cases h), ?_⟩
  simp only [q_tcont, putE, Env.set]
  simp -implicitDefEqProofs
  refine use_valN rfl rfl (s_rBytes (by omega) hd2) ⟨_, St.empty, _, rfl, .list _⟩ fun v _ ⟨d3, hv, hd3⟩ => ?_
  subst hv
  obtain rfl := lv_list hd3 hbs
  refine ⟨rfl, (fun h => by cases h), ?_⟩
  simp only [q_tcont, putE, Env.set]
  simp -implicitDefEqProofs [V.rows, rowBytes_byteRows, strBin]

theorem law4_k1 {s : St} {n : Int} {w1 w2 w3 : V} : wcode (Dn.Call Γ cx) cx c4_k1 [(2, I n), (8, errV 1), (9, w1), (11, .d .nilp), (44, B true)] s lawQ := by
  simp -implicitDefEqProofs [c4_k1]
  refine use_fn (ds := [errV 1, I 1]) rfl (s_Is 1 1) (Bool.or_true _) ?_
  simp -implicitDefEqProofs [eqV, V.isNil, Opd.isC]

theorem law4 {x0 : List D} {x1 x2 : D} (h0 : Lks [.int .u64, .int .u64] x0) (h1 : (Lk.list actK).fits x1) (h2 : (Lk.int .i64).fits x2) : Dn.Call Γ cx .val 4 [.da x0, .d x1, .d x2] St.empty fun r _ => r = B true := by
  obtain ⟨K0, K1, rfl⟩ := salt_of h0
  obtain ⟨S, hS, hs⟩ := acts_fit h1
  simp only [Lk.fits] at h2
  obtain ⟨cap, rfl, c0, c1⟩ := h2
  refine Dn.Call.body (fc := c4) rfl ?_
  have hls : ∀ σ, lenT σ .slice (.d x1) = some S.length := fun σ => by rw [hs.len, aRows_len]
  simp -implicitDefEqProofs [c4, c4_k13]
  refine use_fn rfl s_alive rfl ?_
  rcases hb1 : decide ((20 : Int) < S.length) with _ | _
  rotate_left
  · simp -implicitDefEqProofs [c4_k12, c4_k11, hls, show (20 : Int) < S.length from of_decide_eq_true hb1, c4_k10]
  have hSle : (S.length : Int) ≤ 20 := Int.not_lt.1 (of_decide_eq_false hb1)
  simp -implicitDefEqProofs [c4_k12, c4_k11, hls, Int.not_lt.2 hSle, c4_k10]
  simp -implicitDefEqProofs [c4_k9, mkAgg, ofD]
  refine use_raw (s_New K0 K1 (d := .d .nils) (L := []) .nil (by simp) (by simp)) fun v s hP => ?_
  rcases hP.r with ⟨-, x, q, es, clock, hv, hx1, hq1, hix, hon⟩ | ⟨hc, -⟩
  rotate_left
  · exact absurd rfl hc
  have o0 : s.objs[0]? = some (.cells [Wd K0, Wd K1]) := hP.fr.get (by simp) (by simp)
  simp only [putAll] at hix hon
  simp at hx1 hq1
  subst hv
  simp -implicitDefEqProofs [c4_k8, eqV, V.isNil, Opd.isC, c4_k7]
  simp -implicitDefEqProofs [c4_k6, o0, mkAgg, ofD]
  refine use_raw (s_play hix hon .nil hs hS (by simp; omega)) fun v s2 hp => ?_
  obtain ⟨d, hv, hd⟩ := hp.r
  obtain ⟨es2, clock2, hix2⟩ := hp.ix
  have ho2 := hp.ho
  generalize playM K0 K1 S [] = M at *
  subst hv
  simp -implicitDefEqProofs [c4_k5, c4_k4, c4_k3]
  rcases hc1 : decide (cap < 1) with _ | _
  rotate_left
  · have l1 : cap < 1 := of_decide_eq_true hc1
    refine use_raw (s_ixSkBad hix2 (.inl l1)) fun v s3 ⟨hv, hs3⟩ => ?_
    subst hv
    simp -implicitDefEqProofs [l1, c4_k2]
    exact law4_k1 (w2 := .gone) (w3 := .gone)
  have l1 : ¬ cap < 1 := of_decide_eq_false hc1
  rcases hc2 : decide ((40 : Int) < cap) with _ | _
  rotate_left
  · have l2 : 40 < cap := of_decide_eq_true hc2
    refine use_raw (s_ixSkBad hix2 (.inr l2)) fun v s3 ⟨hv, hs3⟩ => ?_
    subst hv
    simp -implicitDefEqProofs [l1, l2, c4_k2]
    exact law4_k1 (w2 := .gone) (w3 := .gone)
  have l2 : ¬ 40 < cap := of_decide_eq_false hc2
  obtain ⟨n, hn⟩ : ∃ n : Nat, cap = (n : Int) := ⟨cap.toNat, by omega⟩
  subst hn
  refine use_raw (s_ixSketch hix2 ho2 (n := n) (by omega) (by omega)) fun v s3 ⟨⟨y, r, hv, hS3⟩, hfr3, htk3⟩ => ?_
  subst hv
  simp -implicitDefEqProofs [l1, l2, c4_k2]
  exact law4_k0 hS3 (by omega) (by omega) hd hix2.pl.h (fun p hp => hix2.pl.i p hp) hix2.pl.n
end Go.Proofs.Ytmcojkkpanijjaa.T
