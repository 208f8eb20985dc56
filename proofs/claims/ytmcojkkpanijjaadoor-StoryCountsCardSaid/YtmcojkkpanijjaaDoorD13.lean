import Derived.Test.YtmcojkkpanijjaaDoorD1
namespace Go.Proofs.YtmcojkkpanijjaaDoor.T
open Go.Dn
attribute [local simp] body_eq globEnv GB List.map_nil List.map_cons List.append_nil w_rangeF i_next i_makeMap i_range i_update i_delete q_rndA q_rndB_n q_rndB_e q_rndB_r setAll w_skip w_ops w_seq w_cond w_block w_exit w_ret q_then_n q_then_e q_then_r q_blk_n q_blk_e q_blk_r q_ops q_cont q_end_n q_end_r q_end_e q_loop_n q_loop_e q_loop_r i_nil i_p i_alloc i_box i_store i_copy i_clear i_call i_callv i_when t_nil t_p t_call t_alloc t_box t_store kept_nil t_copy t_clear q_tcont gsel List.cons_append List.nil_append evalP evalE evalF evalB isObj thaw Opd.ev Env.get Env.set Env.pick putE initEnv evalBin intBin evalUn evalConv goneAll goneOne retV resAll Res.ev tupOf byVals byValsN bv_d bv_da bv_fl bv_tl bn_d bn_da bn_fl bn_tl cx Dn.newObj St.place St.push St.spot St.empty cell_d cell_da cell_agg cell_ref cell_sl cell_fl cell_tl cell_map cell_fn cell_ifc loadAt faddrV partOf extractV mkAgg ofD splice St.setObj fillV
set_option linter.unusedSimpArgs false
set_option linter.unusedVariables false

abbrev I (n : Int) : V := .d (.int .i64 n)
abbrev U (n : Int) : V := .d (.int .u64 n)
abbrev B (b : Bool) : V := .d (.bool b)
abbrev Y (n : Int) : V := .d (.int .u8 n)
abbrev W (x : W32) : V := .d (.int .u32 (un x))

theorem and31 : ∀ k : Fin 32, 1 ≤ k.val → bits .and .u64 (IntKind.u64.wrap (IntKind.i64.wrap (-(k.val : Int)))) 31 = 32 - (k.val : Int) := by decide +kernel

theorem shl_sh (x : W32) (n : Nat) (h : n < 32) : shiftBin .shl .u32 (un x) (n : Int) = some (W (x <<< n)) := by
  have h1 : min n 32 = n := by omega
  have h2 : IntKind.u32.bits = 32 := rfl
  have h3 : ¬ ((n : Int) < 0) := by omega
  simp [shiftBin, h1, h2, h3, shl_u32]
theorem shr_sh (x : W32) (n : Nat) (h : n < 32) : shiftBin .shr .u32 (un x) (n : Int) = some (W (x >>> n)) := by
  have h1 : min n 32 = n := by omega
  have h2 : IntKind.u32.bits = 32 := rfl
  have h3 : ¬ ((n : Int) < 0) := by omega
  simp [shiftBin, h1, h2, h3, shr_u32]

theorem shr_un (x : W32) (n : Nat) (h : n < 32) : un x / 2 ^ min n IntKind.u32.bits = un (x >>> n) := by
  have h1 : min n 32 = n := by omega
  have h2 : IntKind.u32.bits = 32 := rfl
  rw [h2, h1, shr_u32]

theorem s_rotl (x : W32) (k : Nat) (h1 : 1 ≤ k) (h2 : k < 32) : Dn.Call Γ cx .val 91 [W x, I (IntKind.i64.wrap (-(k : Int)))] St.empty fun v _ => v = W (Sha.rotr x k) := by
  have ha := and31 ⟨k, h2⟩ h1
  simp only at ha
  refine Dn.Call.body (fc := c91) rfl ?_
  have e1 : shiftBin .shl .u32 (un x) (32 - (k : Int)) = some (W (x <<< (32 - k))) := by
    have h : (32 : Int) - (k : Int) = ((32 - k : Nat) : Int) := by omega
    rw [h]
    exact shl_sh x (32 - k) (by omega)
  have e2 : IntKind.u64.wrap (32 - (32 - (k : Int))) = (k : Int) := by simp only [IntKind.wrap, IntKind.signed, IntKind.bits]; simp; omega
  have e3 := shr_sh x k h2
  simp -implicitDefEqProofs [c91, c91_k0, c91_k1, ha, e1, e2, e3, or_u32, Sha.rotl]

theorem s_right (x : W32) (k : Nat) (h1 : 1 ≤ k) (h2 : k < 32) : Dn.Call Γ cx .val 86 [W x, I k] St.empty fun v _ => v = W (Sha.rotr x k) := by
  refine Dn.Call.body (fc := c86) rfl ?_
  simp -implicitDefEqProofs [c86, c86_k0]
  refine use_fn rfl (s_rotl x k h1 h2) rfl ?_
  simp -implicitDefEqProofs

/-! ### word -/
theorem conv_u32b (b : UInt8) : IntKind.u32.wrap (b.toNat : Int) = un (BitVec.ofNat 32 b.toNat) := wrap_u32 _

def InvWord (v : V) (l : List UInt8) (m : Nat) (e : Env) (σ : St) : Prop := ∃ i : Nat, e = [(3, W (Sha.beW (l.take i))), (6, v), (7, I l.length), (8, I i)] ∧ i ≤ l.length ∧ m = l.length - i ∧ σ = St.empty

theorem s_word {v : V} {l : List UInt8} (hv : LV v (byteRows l)) (hl : (l.length : Int) ≤ 9223372036854775806) : Dn.Call Γ cx .val 90 [v] St.empty fun r _ => r = W (Sha.beW l) := by
  refine Dn.Call.body (fc := c90) rfl ?_
  have hlen : ∀ σ, lenT σ .slice v = some l.length := fun σ => by rw [hv.len, byteRows_len]
  simp -implicitDefEqProofs [c90, c90_k5, c90_k6, c90_k7, hlen]
  refine wloopI (InvWord v l) (m := l.length) ⟨0, rfl, by omega, by omega, rfl⟩ ?_
  rintro m e σ ⟨i, rfl, hi, rfl, rfl⟩
  simp -implicitDefEqProofs [c90_l4, c90_k3, c90_k2]
  by_cases hil : i < l.length
  rotate_left
  · obtain rfl : i = l.length := by omega
    simp -implicitDefEqProofs [c90_k0]
  simp -implicitDefEqProofs [hil]
  have hia := fun σ => hv.iaddr σ (k := .i64) (i := i) (byteRows_at (List.getElem?_eq_getElem hil)) (sz := 1) rfl
  have e1 := shl_sh (Sha.beW (l.take i)) 8 (by omega)
  have e2 : ((l[i]'hil).toNat : Int) = (((l[i]'hil).toNat : Nat) : Int) := rfl
  have e3 : Sha.beW (l.take (i + 1)) = (Sha.beW (l.take i) <<< 8) ||| BitVec.ofNat 32 (l[i]'hil).toNat := by
    unfold Sha.beW
    rw [← List.take_append_getElem hil, List.foldl_append]
    rfl
  simp -implicitDefEqProofs [hia, c90_k1, conv_u32b, wrap_i64 (n := (i : Int) + 1) (by omega) (by omega)]
  simp at e1
  simp -implicitDefEqProofs [e1, or_u32]
  exact ⟨l.length - (i + 1), by omega, i + 1, by rw [e3]; rfl, by omega, rfl, rfl⟩


theorem wds_rep (n : Nat) : List.replicate n (V.d (.int .u32 0)) = (wds (List.replicate n (0 : W32))).map .d := by
  simp [wds, un]

def warr (blk : List UInt8) (i : Nat) : List W32 := Sha.wsN blk i ++ List.replicate (64 - i) 0
theorem warr_len (blk : List UInt8) {i : Nat} (h : i ≤ 64) : (warr blk i).length = 64 := by simp [warr, Sha.wsN_len]; omega
theorem warr_at (blk : List UInt8) {i j : Nat} (h : j < i) : (warr blk i)[j]? = some ((Sha.wsN blk i).getD j 0) := by
  unfold warr
  rw [List.getElem?_append_left (by rw [Sha.wsN_len]; exact h)]
  rw [List.getD_eq_getElem?_getD]
  rw [List.getElem?_eq_getElem (by rw [Sha.wsN_len]; exact h)]
  rfl
theorem warr_set (blk : List UInt8) {i : Nat} (h : i < 64) (x : W32) (hx : Sha.wsN blk (i + 1) = Sha.wsN blk i ++ [x]) : (warr blk i).set i x = warr blk (i + 1) := by
  unfold warr
  rw [hx, show 64 - i = (64 - (i + 1)) + 1 by omega, List.replicate_succ, List.append_assoc]
  rw [List.set_append_right _ _ (by rw [Sha.wsN_len]; exact Nat.le_refl _), Sha.wsN_len, Nat.sub_self]
  rfl

theorem wds_take {l : List W32} {n : Nat} (h : l.length = n) : (List.map V.d (wds l)).take n = List.map V.d (wds l) := List.take_of_length_le (by simp [wds_len, h])
theorem wds_drop {l : List W32} {n : Nat} (h : l.length = n) : (List.map V.d (wds l)).drop n = [] := List.drop_of_length_le (by simp [wds_len, h])
theorem wdv_set' (l : List W32) (i : Nat) (hi : i < l.length) (x : W32) : List.take i (List.map V.d (wds l)) ++ V.d (.int .u32 (un x)) :: List.drop (i + 1) (List.map V.d (wds l)) = (wds (l.set i x)).map V.d := by
  rw [← wdv_set l i hi x]
  simp [splice]

theorem iaddr_ref {r n j : Nat} (h : j < n) : iaddrArrV n 1 (.ref r 0) (.d (.int .i64 (j : Int))) = some (.ref r j) := by
  have : (j : Int) < n := by omega
  simp [iaddrArrV, asIdx, this]
theorem sliceX_nn {v : V} {rows : List (List D)} (hv : LV v rows) (σ : St) {sz lo hi : Nat} {v' : V} (hf : ∀ r ∈ rows, r.length = sz) (h : sliceV sz v lo hi none = some v') (hlo : lo ≤ hi) (hhi : hi ≤ rows.length) : sliceX σ sz v (some (.d (.int .i64 (lo : Int)))) (some (.d (.int .i64 (hi : Int)))) none = some v' := by
  have := hv.lenV σ
  simp [sliceX, this, boundV, asIdx, h, hlo]

def InvSch (v : V) (blk : List UInt8) (m : Nat) (e : Env) (σ : St) : Prop := ∃ i : Nat, e = [(0, v), (2, .ref 0 0), (3, .ref 1 0), (9, I i)] ∧ i ≤ 64 ∧ m = 64 - i ∧ σ = ⟨[.cells ((wds (List.replicate 64 0#32)).map .d), .cells ((wds (warr blk i)).map .d)], []⟩

theorem s_schedule {v : V} {blk : List UInt8} (hv : LV v (byteRows blk)) (hts : ∀ r t st s, v ≠ .tl r t st s) (hl : blk.length = 64) : Dn.Call Γ cx .val 85 [v] St.empty fun r _ => r = .da (wds (Sha.sched blk)) := by
  refine Dn.Call.body (fc := c85) rfl ?_
  simp -implicitDefEqProofs [-List.reduceReplicate, c85, c85_k14, c85_k13, c85_k12, wds_rep]
  refine wloopI (InvSch v blk) (m := 64) ⟨0, rfl, by omega, rfl, by simp [warr, Sha.wsN, -List.reduceReplicate]⟩ ?_
  rintro m e σ ⟨i, rfl, hi, rfl, rfl⟩
  simp -implicitDefEqProofs [-List.reduceReplicate, c85_l11, c85_k10, c85_k9]
  have hwl := warr_len blk hi
  have hrl : (List.replicate 64 (0#32)).length = 64 := by simp
  by_cases hil : i < 64
  rotate_left
  · obtain rfl : i = 64 := by omega
    simp -implicitDefEqProofs [-List.reduceReplicate, c85_k0, wds_len, hwl, hrl, wds_take hwl, ofD_wds, wds_drop hrl]
    simp [warr, Sha.sched]
  have hii : (i : Int) < 64 := by omega
  simp -implicitDefEqProofs [-List.reduceReplicate, hii, c85_k8, c85_k7, c85_k6]
  by_cases h16 : i < 16
  · have h16' : (i : Int) < 16 := by omega
    have e1 : IntKind.i64.wrap (4 * (i : Int)) = (4 * i : Nat) := by rw [wrap_i64 (by omega) (by omega)]; omega
    have e2 : IntKind.i64.wrap (((4 * i : Nat) : Int) + 4) = (4 * i + 4 : Nat) := by rw [wrap_i64 (by omega) (by omega)]; omega
    simp -implicitDefEqProofs [-List.reduceReplicate, h16', c85_k5, e1, e2]
    obtain ⟨z, hz, hzl, -⟩ := hv.slice (σ := ⟨[.cells ((wds (List.replicate 64 0#32)).map .d), .cells ((wds (warr blk i)).map .d)], []⟩) (sz := 1) (byteRows_fit blk) (fun r t st s h => absurd h (hts r t st s)) (lo := 4 * i) (hi := 4 * i + 4) (by omega) (by rw [byteRows_len]; omega)
    rw [byteRows_drop, byteRows_take] at hzl
    have hsx := fun σ => sliceX_nn hv σ (byteRows_fit blk) hz (by omega) (by rw [byteRows_len]; omega)
    have e3 : (4 * (i : Int)) = ((4 * i : Nat) : Int) := by omega
    have e4 : IntKind.i64.wrap (4 * (i : Int) + 4) = ((4 * i + 4 : Nat) : Int) := by rw [wrap_i64 (by omega) (by omega)]; omega
    rw [e4, e3, hsx]
    have hx0 : Sha.wsN blk (i + 1) = Sha.wsN blk i ++ [Sha.beW (List.take 4 (List.drop (4 * i) blk))] := by
      rw [Sha.wsN, if_pos h16]
    obtain ⟨z1, z2, -, z3, -⟩ := hzl.dv ⟨[.cells ((wds (List.replicate 64 0#32)).map .d), .cells ((wds (warr blk i)).map .d)], []⟩
    simp only []
    refine use_val (ds := [Dn.dv z]) (by simp only [byVals, z1]) (s_word z2 (by simp; omega)) ?_
    rintro r s rfl
    simp -implicitDefEqProofs [-List.reduceReplicate, -List.getElem?_map, iaddr_ref hil, wds_len, hwl, show i ≤ 63 by omega, wdv_set' _ _ (show i < (warr blk i).length by omega), V.pure, V.scalars, V.scalar, D.scalar, wrap_i64 (n := (i : Int) + 1) (by omega) (by omega), warr_set blk hil _ hx0]
    exact ⟨64 - (i + 1), by omega, i + 1, rfl, by omega, rfl, rfl⟩
  · have h16' : ¬ (i : Int) < 16 := by omega
    simp -implicitDefEqProofs [-List.reduceReplicate, h16', c85_k4]
    refine w_drw (fun _ => .val) [] (by decide +kernel) ?_
    have e1 : IntKind.i64.wrap ((i : Int) - 15) = ((i - 15 : Nat) : Int) := by rw [wrap_i64 (by omega) (by omega)]; omega
    have e2 : IntKind.i64.wrap ((i : Int) - 2) = ((i - 2 : Nat) : Int) := by rw [wrap_i64 (by omega) (by omega)]; omega
    have e7 : IntKind.i64.wrap ((i : Int) - 7) = ((i - 7 : Nat) : Int) := by rw [wrap_i64 (by omega) (by omega)]; omega
    have e16 : IntKind.i64.wrap ((i : Int) - 16) = ((i - 16 : Nat) : Int) := by rw [wrap_i64 (by omega) (by omega)]; omega
    have hx15 := warr_at blk (show i - 15 < i by omega)
    have hx2 := warr_at blk (show i - 2 < i by omega)
    have hx7 := warr_at blk (show i - 7 < i by omega)
    have hx16 := warr_at blk (show i - 16 < i by omega)
    have hnext : Sha.wsN blk (i + 1) = Sha.wsN blk i ++ [Sha.sg1 ((Sha.wsN blk i).getD (i - 2) 0) + (Sha.wsN blk i).getD (i - 7) 0 + Sha.sg0 ((Sha.wsN blk i).getD (i - 15) 0) + (Sha.wsN blk i).getD (i - 16) 0] := by
      rw [Sha.wsN, if_neg h16]
    generalize (Sha.wsN blk i).getD (i - 15) 0 = x15 at *
    generalize (Sha.wsN blk i).getD (i - 2) 0 = x2 at *
    generalize (Sha.wsN blk i).getD (i - 7) 0 = x7 at *
    generalize (Sha.wsN blk i).getD (i - 16) 0 = x16 at *
    simp -implicitDefEqProofs [-List.reduceReplicate, -List.getElem?_map, St.room, e1, e2, iaddr_ref (show i - 15 < 64 by omega), iaddr_ref (show i - 2 < 64 by omega), List.replicate_zero, wdv_get hx15, wdv_get hx2]
    simp -implicitDefEqProofs [-List.reduceReplicate, -List.getElem?_map, c85_k3]
    have q3 : shiftBin .shr .u32 (un x15) 3 = some (W (x15 >>> 3)) := shr_sh x15 3 (by omega)
    have q10 : shiftBin .shr .u32 (un x2) 10 = some (W (x2 >>> 10)) := shr_sh x2 10 (by omega)
    refine use_fn rfl (s_right x15 7 (by omega) (by omega)) rfl ?_
    simp -implicitDefEqProofs [-List.reduceReplicate, -List.getElem?_map]
    refine use_fn rfl (s_right x15 18 (by omega) (by omega)) rfl ?_
    simp -implicitDefEqProofs [-List.reduceReplicate, -List.getElem?_map, xor_u32, q3, c85_k2]
    refine use_fn rfl (s_right x2 17 (by omega) (by omega)) rfl ?_
    simp -implicitDefEqProofs [-List.reduceReplicate, -List.getElem?_map]
    refine use_fn rfl (s_right x2 19 (by omega) (by omega)) rfl ?_
    simp -implicitDefEqProofs [-List.reduceReplicate, -List.getElem?_map, xor_u32, q10, c85_k1]
    refine w_drw (fun _ => .val) [] (by decide +kernel) ?_
    simp -implicitDefEqProofs [-List.reduceReplicate, -List.getElem?_map, St.room, e7, e16, iaddr_ref (show i - 7 < 64 by omega), iaddr_ref (show i - 16 < 64 by omega), iaddr_ref hil, List.replicate_zero, wdv_get hx7, wdv_get hx16, add_u32, wds_len, hwl, show i + 1 ≤ 64 by omega, wdv_set' _ _ (show i < (warr blk i).length by omega), wrap_i64 (n := (i : Int) + 1) (by omega) (by omega)]
    have hset := warr_set blk hil _ hnext
    unfold Sha.sg1 Sha.sg0 at hset
    rw [hset]
    exact ⟨64 - (i + 1), by omega, i + 1, rfl, by omega, rfl, rfl⟩


theorem wds8 (x : Sha.S8) : wds x.l = [.int .u32 (un x.a), .int .u32 (un x.b), .int .u32 (un x.c), .int .u32 (un x.d), .int .u32 (un x.e), .int .u32 (un x.f), .int .u32 (un x.g), .int .u32 (un x.h)] := rfl

def InvTake (h : Sha.S8) (blk : List UInt8) (m : Nat) (e : Env) (σ : St) : Prop := ∃ (i : Nat) (y : Sha.S8), e = [(2, .ref 0 0), (4, .ref 1 0), (5, .ref 2 0), (15, .da (wds (Sha.sched blk))), (16, I i), (1000002, .ro (wds Sha.K256))] ∧ i ≤ 64 ∧ m = 64 - i ∧
  σ = ⟨[.cells ((wds h.l).map .d), .cells (List.replicate 8 (.d (.int .u32 0))), .cells ((wds y.l).map .d)], []⟩ ∧ y = Sha.rN h (Sha.sched blk) i

def plN (x y : Sha.S8) (i : Nat) : Sha.S8 := ⟨if 0 < i then x.a + y.a else x.a, if 1 < i then x.b + y.b else x.b, if 2 < i then x.c + y.c else x.c, if 3 < i then x.d + y.d else x.d, if 4 < i then x.e + y.e else x.e, if 5 < i then x.f + y.f else x.f, if 6 < i then x.g + y.g else x.g, if 7 < i then x.h + y.h else x.h⟩
def InvPlus (x y : Sha.S8) (m : Nat) (e : Env) (σ : St) : Prop := ∃ i : Nat, e = [(2, .ref 0 0), (4, .ref 1 0), (5, .ref 2 0), (89, I i)] ∧ i ≤ 8 ∧ m = 8 - i ∧
  σ = ⟨[.cells ((wds (plN x y i).l).map .d), .cells (List.replicate 8 (.d (.int .u32 0))), .cells ((wds y.l).map .d)], []⟩

theorem index_wds {l : List W32} {i : Nat} {x : W32} (h : l[i]? = some x) (n : Nat) (hn : i < n) : indexV false n 1 (.da (wds l)) (.d (.int .i64 (i : Int))) = some (W x) := by
  have h1 : (i : Int) < n := by omega
  have hlt := (List.getElem?_eq_some_iff.1 h).1
  have h2 : (wds l)[i]? = some (.int .u32 (un x)) := wds_get h
  simp [indexV, asIdx, h1, partOf, h2]
  done

theorem iaddr_lit {r n : Nat} (j : Int) (h0 : 0 ≤ j) (h : j < n) : iaddrArrV n 1 (.ref r 0) (.d (.int .i64 j)) = some (.ref r j.toNat) := by
  simp [iaddrArrV, asIdx, h0, h]
theorem signed32 : IntKind.u32.signed = false := rfl

theorem iaddr_ro {l : List W32} {i : Nat} {x : W32} (h : l[i]? = some x) (n : Nat) (hn : i < n) : ∃ r, iaddrArrV n 1 (.ro (wds l)) (.d (.int .i64 (i : Int))) = some (.ro (.int .u32 (un x) :: r)) := by
  have h1 : (i : Int) < n := by omega
  obtain ⟨hlt, hx⟩ := List.getElem?_eq_some_iff.1 h
  refine ⟨(wds l).drop (i + 1), ?_⟩
  have h3 : (wds l).drop i = .int .u32 (un x) :: (wds l).drop (i + 1) := by
    rw [List.drop_eq_getElem_cons (by rw [wds_len]; exact hlt)]
    simp [wds, hx]
  have h4 : i ≤ (wds l).length := by rw [wds_len]; omega
  simp [iaddrArrV, asIdx, h1, h3, h4]

theorem s_take (h : Sha.S8) {v : D} {blk : List UInt8} (hv : LV (.d v) (byteRows blk)) (hl : blk.length = 64) : Dn.Call Γ cx .val 73 [.da (wds h.l), .d v] St.empty fun r _ => r = .da (wds (Sha.take h blk).l) := by
  refine Dn.Call.body (fc := c73) rfl ?_
  simp -implicitDefEqProofs [-List.reduceReplicate, c73, c73_k20, c73_k19, c73_k18, g2, wds8]
  refine use_fn (ds := [.d v]) rfl (s_schedule hv (by rintro r t st s h; cases h) hl) (by
    have : ∀ l : List W32, (wds l).all D.scalar = true := fun l => by simp [wds, D.scalar]
    simp [V.pure, V.scalars, V.scalar, this]
    done) ?_
  simp -implicitDefEqProofs [-List.reduceReplicate]
  refine wloopI (InvTake h blk) (m := 64) ⟨0, h, rfl, by omega, rfl, rfl, rfl⟩ ?_
  rintro m e σ ⟨i, y, rfl, hi, rfl, rfl, hy⟩
  simp -implicitDefEqProofs [-List.reduceReplicate, c73_l17, c73_k16, c73_k15]
  by_cases hil : i < 64
  rotate_left
  · obtain rfl : i = 64 := by omega
    simp -implicitDefEqProofs [-List.reduceReplicate, c73_k7, c73_k6]
    refine wloopI (InvPlus h y) (m := 8) ⟨0, rfl, by omega, rfl, rfl⟩ ?_
    rintro m e σ ⟨i, rfl, hi, rfl, rfl⟩
    simp -implicitDefEqProofs [-List.reduceReplicate, c73_l5, c73_k4, c73_k3]
    by_cases hil : i < 8
    · have hii : (i : Int) < 8 := by omega
      simp -implicitDefEqProofs [-List.reduceReplicate, hii, c73_k2, c73_k1]
      refine w_drw (fun _ => .val) [] (by decide +kernel) ?_
      have hir := fun r => iaddr_ref (r := r) (n := 8) hil
      have hex : ∀ k, k < 9 → (k = i + 1) → ∃ m', m' < 8 - i ∧ InvPlus h y m' [(2, .ref 0 0), (4, .ref 1 0), (5, .ref 2 0), (89, I ((k : Nat) : Int))] ⟨[.cells ((wds (plN h y k).l).map .d), .cells (List.replicate 8 (.d (.int .u32 0))), .cells ((wds y.l).map .d)], []⟩ := fun k hk e => ⟨8 - k, by omega, k, rfl, by omega, rfl, rfl⟩
      have hcase : i = 0 ∨ i = 1 ∨ i = 2 ∨ i = 3 ∨ i = 4 ∨ i = 5 ∨ i = 6 ∨ i = 7 := by omega
      rcases hcase with rfl | rfl | rfl | rfl | rfl | rfl | rfl | rfl
      · simpa -implicitDefEqProofs [-List.reduceReplicate, iaddr_lit, St.room, wds8, add_u32, plN, wrap_i64] using hex 1 (by omega) rfl
      · simpa -implicitDefEqProofs [-List.reduceReplicate, iaddr_lit, St.room, wds8, add_u32, plN, wrap_i64] using hex 2 (by omega) rfl
      · simpa -implicitDefEqProofs [-List.reduceReplicate, iaddr_lit, St.room, wds8, add_u32, plN, wrap_i64] using hex 3 (by omega) rfl
      · simpa -implicitDefEqProofs [-List.reduceReplicate, iaddr_lit, St.room, wds8, add_u32, plN, wrap_i64] using hex 4 (by omega) rfl
      · simpa -implicitDefEqProofs [-List.reduceReplicate, iaddr_lit, St.room, wds8, add_u32, plN, wrap_i64] using hex 5 (by omega) rfl
      · simpa -implicitDefEqProofs [-List.reduceReplicate, iaddr_lit, St.room, wds8, add_u32, plN, wrap_i64] using hex 6 (by omega) rfl
      · simpa -implicitDefEqProofs [-List.reduceReplicate, iaddr_lit, St.room, wds8, add_u32, plN, wrap_i64] using hex 7 (by omega) rfl
      · simpa -implicitDefEqProofs [-List.reduceReplicate, iaddr_lit, St.room, wds8, add_u32, plN, wrap_i64] using hex 8 (by omega) rfl
    · obtain rfl : i = 8 := by omega
      simp -implicitDefEqProofs [-List.reduceReplicate, c73_k0, wds8, plN]
      rw [hy]
      exact ⟨rfl, rfl, rfl, rfl, rfl, rfl, rfl, rfl⟩
  have hii : (i : Int) < 64 := by omega
  have hw := List.getElem?_eq_getElem (l := Sha.sched blk) (i := i) (by rw [Sha.sched, Sha.wsN_len]; exact hil)
  have hk := List.getElem?_eq_getElem (l := Sha.K256) (i := i) (by rw [Sha.K256_len]; exact hil)
  generalize (Sha.sched blk)[i]'(by rw [Sha.sched, Sha.wsN_len]; exact hil) = w at hw
  generalize Sha.K256[i]'(by rw [Sha.K256_len]; exact hil) = k at hk
  obtain ⟨kr, hkr⟩ := iaddr_ro hk 64 hil
  have hnx : Sha.rN h (Sha.sched blk) (i + 1) = Sha.rnd y k w := by
    rw [Sha.rN, ← hy, List.getD_eq_getElem?_getD, List.getD_eq_getElem?_getD, hw, hk]
    rfl
  simp -implicitDefEqProofs [-List.reduceReplicate, hii, c73_k14, index_wds hw 64 hil, c73_k13]
  refine w_drw (fun _ => .val) [] (by decide +kernel) ?_
  simp -implicitDefEqProofs [-List.reduceReplicate, iaddr_lit, St.room, wds8, c73_k12]
  refine w_drw (fun _ => .val) [] (by decide +kernel) ?_
  simp -implicitDefEqProofs [-List.reduceReplicate, iaddr_lit, St.room, wds8]
  refine use_fnN rfl rfl (s_right y.e 6 (by omega) (by omega)) rfl ?_
  simp -implicitDefEqProofs [-List.reduceReplicate]
  refine use_fnN rfl rfl (s_right y.e 11 (by omega) (by omega)) rfl ?_
  simp -implicitDefEqProofs [-List.reduceReplicate, xor_u32]
  refine use_fnN rfl rfl (s_right y.e 25 (by omega) (by omega)) rfl ?_
  simp -implicitDefEqProofs [-List.reduceReplicate, xor_u32, add_u32, and_u32, iaddr_lit, hkr, sub_max32, not_u32, signed32, c73_k11]
  refine w_drw (fun _ => .val) [] (by decide +kernel) ?_
  simp -implicitDefEqProofs [-List.reduceReplicate, iaddr_lit, St.room]
  generalize hone : y.h + (Sha.rotr y.e 6 ^^^ Sha.rotr y.e 11 ^^^ Sha.rotr y.e 25) + (y.e &&& y.f ^^^ ~~~y.e &&& y.g) + k + w = one
  refine use_fnN rfl rfl (s_right y.a 2 (by omega) (by omega)) rfl ?_
  simp -implicitDefEqProofs [-List.reduceReplicate]
  refine use_fnN rfl rfl (s_right y.a 13 (by omega) (by omega)) rfl ?_
  simp -implicitDefEqProofs [-List.reduceReplicate, xor_u32]
  refine use_fnN rfl rfl (s_right y.a 22 (by omega) (by omega)) rfl ?_
  simp -implicitDefEqProofs [-List.reduceReplicate, xor_u32, add_u32, and_u32, iaddr_lit, c73_k10]
  generalize htwo : (Sha.rotr y.a 2 ^^^ Sha.rotr y.a 13 ^^^ Sha.rotr y.a 22) + (y.a &&& y.b ^^^ y.a &&& y.c ^^^ y.b &&& y.c) = two
  refine w_drw (fun _ => .val) [5, 5] (by decide +kernel) ?_
  simp -implicitDefEqProofs [-List.reduceReplicate, iaddr_lit, St.room, sliceArrV, boundV, asIdx, V.rows, copyV, rowsOf, fitR, c73_k9, c73_k8, add_u32, wrap_i64 (n := (i : Int) + 1) (by omega) (by omega)]
  refine ⟨64 - (i + 1), by omega, i + 1, ⟨one + two, y.a, y.b, y.c, y.d + one, y.e, y.f, y.g⟩, rfl, by omega, rfl, rfl, ?_⟩
  rw [hnx, ← hone, ← htwo]
  rfl


/-- slices.Clone of bytes, into what may be appended to. -/
theorem s_CloneA {σ : St} {x : D} {l : List UInt8} (hx : LV (.d x) (byteRows l)) (hl : l.length ≤ 1099511627776) :
    Dn.Call Γ cx .raw 49 [.d x] σ fun w s => App s 1 w (byteRows l) ∧ s.objs = σ.objs := by
  refine Dn.Call.body (fc := c49) rfl ?_
  have hr := hx.rows σ
  generalize hrw : byteRows l = rows at *
  have hfit : ∀ r ∈ rows, r.length = 1 := by rw [← hrw]; exact byteRows_fit l
  have hlen : rows.length = l.length := by rw [← hrw, byteRows_len]
  cases hx with
  | nil =>
    simp -implicitDefEqProofs [c49, c49_k2, c49_k1, eqV, V.isNil, Opd.isC]
    exact .nil
  | list rows =>
    simp -implicitDefEqProofs [c49, c49_k2, c49_k1, c49_k0, eqV, V.isNil, Opd.isC, repl, rowsOf]
    obtain ⟨v1, σ1, hap, happ, ho, ht, hdv⟩ := (App.fl (σ := σ) (sz := 1) []).push (bytes := 1) (by decide) (by simp) (ys := rows) hfit (by simp; omega) (by simp; omega)
    rw [List.nil_append] at happ
    refine i_app_f (v := v1) (s := σ1) ?_ ?_
    · simp -implicitDefEqProofs [V.rows]
      exact hap none
    · simp -implicitDefEqProofs
      exact ⟨happ, ho⟩

def InvFill1 (x : D) (l : List UInt8) (m : Nat) (e : Env) (σ : St) : Prop := ∃ (j : Nat) (v : V), e = [(0, .d x), (3, v)] ∧ j ≤ Sha.zs l.length ∧ m = Sha.zs l.length - j ∧ App σ 1 v (byteRows (l ++ [128] ++ List.replicate j 0))

def pre8 (n : W64) (j : Nat) : List UInt8 := (List.range j).map fun i => UInt8.ofNat ((n >>> (8 * (7 - i))).toNat % 256)
theorem pre8_succ (n : W64) (j : Nat) : pre8 n (j + 1) = pre8 n j ++ [UInt8.ofNat ((n >>> (8 * (7 - j))).toNat % 256)] := by simp [pre8, List.range_succ]
theorem pre8_len (n : W64) (j : Nat) : (pre8 n j).length = j := by simp [pre8]

def InvFill2 (b : List UInt8) (n : W64) (m : Nat) (e : Env) (σ : St) : Prop := ∃ (j : Nat) (v : V), e = [(3, v), (4, .d (.int .u64 (un n))), (5, I (7 - (j : Int)))] ∧ j ≤ 8 ∧ m = 8 - j ∧ App σ 1 v (byteRows (b ++ pre8 n j))

theorem s_filled {σ : St} {x : D} {l : List UInt8} (hx : LV (.d x) (byteRows l)) (hl : l.length ≤ 1000000000) :
    Dn.Call Γ cx .raw 72 [.d x] σ fun w s => App s 1 w (byteRows (Sha.pad l)) := by
  refine Dn.Call.body (fc := c72) rfl ?_
  simp -implicitDefEqProofs [c72, c72_k12]
  refine use_raw (s_CloneA hx (by omega)) fun w s ⟨hw, ho⟩ => ?_
  simp -implicitDefEqProofs [repl, rowsOf]
  obtain ⟨v1, σ1, hap, happ, ho1, ht, hdv⟩ := hw.push (bytes := 1) (by decide) (byteRows_fit _) (ys := byteRows [128]) (byteRows_fit _) (by simp [byteRows_len]; omega) (by simp [byteRows_len]; omega)
  rw [← byteRows_app] at happ
  refine i_app_f (v := v1) (s := σ1) ?_ ?_
  · simp -implicitDefEqProofs [V.rows]
    exact hap none
  simp -implicitDefEqProofs [c72_k11]
  refine wloopI (InvFill1 x l) (m := Sha.zs l.length) ⟨0, v1, rfl, by omega, by omega, by simpa using happ⟩ ?_
  rintro m e σ ⟨j, v, rfl, hj, rfl, hv⟩
  simp -implicitDefEqProofs [c72_l10, c72_k9]
  have hlen := hv.lv.len σ
  rw [byteRows_len] at hlen
  simp at hlen
  have hzs : Sha.zs l.length < 64 := by unfold Sha.zs; omega
  have hzm : (l.length + 1 + Sha.zs l.length + 8) % 64 = 0 := by have := Sha.pad_mod l; rw [Sha.pad_len] at this; exact this
  have e9 : (IntKind.i64.wrap ((l.length : Int) + ((j : Int) + 1) + 8)).tmod 64 = (((l.length + 1 + j + 8) % 64 : Nat) : Int) := by
    rw [wrap_i64 (by omega) (by omega), Int.tmod_eq_emod_of_nonneg (by omega)]
    omega
  by_cases hjz : j = Sha.zs l.length
  rotate_left
  · have hne : (l.length + 1 + j + 8) % 64 ≠ 0 := by unfold Sha.zs at hjz hj; omega
    have hne' : ¬ ((((l.length + 1 + j + 8) % 64 : Nat) : Int) = 0) := by omega
    simp only [hlen]
    simp -implicitDefEqProofs [e9, -Int.natCast_emod, hne', hne, c72_k8, repl, rowsOf, frzV]
    obtain ⟨v2, σ2, hap2, happ2, -, -, -⟩ := hv.push (bytes := 1) (by decide) (byteRows_fit _) (ys := byteRows [0]) (byteRows_fit _) (by simp [byteRows_len]; omega) (by simp [byteRows_len]; omega)
    rw [← byteRows_app, List.append_assoc, ← List.replicate_succ'] at happ2
    refine i_app_f (v := v2) (s := σ2) ?_ ?_
    · simp -implicitDefEqProofs [V.rows]
      exact hap2 none
    simp -implicitDefEqProofs
    exact ⟨Sha.zs l.length - (j + 1), by omega, j + 1, v2, rfl, by omega, rfl, happ2⟩
  subst hjz
  have hzm2 : (l.length + 1 + Sha.zs l.length + 8) % 64 = 0 := hzm
  have heq : ((((l.length + 1 + Sha.zs l.length + 8) % 64 : Nat) : Int) = 0) := by omega
  have hn : IntKind.u64.wrap (IntKind.u64.wrap (l.length : Int) * 8) = un (BitVec.ofNat 64 (l.length * 8)) := by
    have h1 : IntKind.u64.wrap (l.length : Int) = (l.length : Int) := by simp only [IntKind.wrap, IntKind.signed, IntKind.bits]; simp; omega
    rw [h1, show (l.length : Int) * 8 = ((l.length * 8 : Nat) : Int) by omega, wrap_u64n]
  simp only [hlen]
  simp -implicitDefEqProofs [e9, -Int.natCast_emod, heq, hzm2, c72_k7, c72_k6, c72_k5, hx.len, byteRows_len, hn]
  generalize hb : l ++ [128] ++ List.replicate (Sha.zs l.length) 0 = b at *
  have hbl : b.length = l.length + 1 + Sha.zs l.length := by rw [← hb]; simp; omega
  generalize hN : BitVec.ofNat 64 (l.length * 8) = N at *
  refine wloopI (InvFill2 b N) (m := 8) ⟨0, v, rfl, by omega, rfl, by simpa [pre8, hb] using hv⟩ ?_
  rintro m e σ' ⟨j, v', rfl, hj, rfl, hv'⟩
  simp -implicitDefEqProofs [c72_l4, c72_k3]
  by_cases hj8 : j < 8
  · have hge : (0 : Int) ≤ 7 - j := by omega
    have e8 : IntKind.i64.wrap (8 * (7 - (j : Int))) = ((8 * (7 - j) : Nat) : Int) := by rw [wrap_i64 (by omega) (by omega)]; omega
    have em : IntKind.i64.wrap (7 - (j : Int) - 1) = 7 - ((j + 1 : Nat) : Int) := by rw [wrap_i64 (by omega) (by omega)]; omega
    have hsh : shiftBin .shr .u64 (un N) ((8 * (7 - j) : Nat) : Int) = some (.d (.int .u64 (un (N >>> (8 * (7 - j)))))) := by
      have h1 : min (8 * (7 - j)) 64 = 8 * (7 - j) := by omega
      have h2 : IntKind.u64.bits = 64 := rfl
      have h3 : ¬ (((8 * (7 - j) : Nat) : Int) < 0) := by omega
      simp only [shiftBin, h3, if_false, Int.toNat_natCast, h2, h1, shr_u64]
    have hby : IntKind.u8.wrap (un (N >>> (8 * (7 - j)))) = ((UInt8.ofNat ((N >>> (8 * (7 - j))).toNat % 256)).toNat : Int) := by
      unfold un
      rw [wrap_u8n]
      simp
    have hps := pre8_succ N j
    generalize hc : UInt8.ofNat ((N >>> (8 * (7 - j))).toNat % 256) = c at *
    have hle : (j : Int) ≤ 7 := by omega
    obtain ⟨v2, σ2, hap2, happ2, -, -, -⟩ := hv'.push (bytes := 1) (by decide) (byteRows_fit _) (ys := byteRows [c]) (byteRows_fit _) (by simp [byteRows_len, pre8_len]; omega) (by simp [byteRows_len, pre8_len]; omega)
    rw [← byteRows_app, List.append_assoc, ← hps] at happ2
    simp -implicitDefEqProofs [hle, e8, -Int.natCast_mul, hsh, hby, c72_k2, c72_k1, repl, rowsOf, frzV]
    refine i_app_f (v := v2) (s := σ2) ?_ ?_
    · simp -implicitDefEqProofs [V.rows]
      exact hap2 none
    simp -implicitDefEqProofs [em]
    exact ⟨8 - (j + 1), by omega, j + 1, v2, rfl, by omega, rfl, happ2⟩
  · obtain rfl : j = 8 := by omega
    simp -implicitDefEqProofs [c72_k0]
    have : b ++ pre8 N 8 = Sha.pad l := by rw [← hb, ← hN]; rfl
    rw [← this]
    exact hv'


theorem repl_one (n : Nat) (d : D) : repl n [d] = List.replicate n (.d d) := by
  induction n with
  | zero => rfl
  | succ n ih => simp [repl, ih, List.replicate_succ]

theorem s_GrowN {σ : St} {n : Nat} (h0 : 0 < n) (hn : n ≤ 1000000000) : Dn.Call Γ cx .raw 79 [.d .nils, I n] σ fun w s => w = .sl σ.objs.length 0 0 1 ∧ s = ⟨σ.objs ++ [.cells (List.replicate n (Y 0))], σ.toks⟩ := by
  refine Dn.Call.body (fc := c79) rfl ?_
  have e0 : ¬ ((n : Int) < 0) := by omega
  have e1 : IntKind.i64.wrap ((n : Int) - IntKind.i64.wrap 0) = n := by
    have : IntKind.i64.wrap 0 = 0 := rfl
    rw [this, wrap_i64 (by omega) (by omega)]; omega
  have e2 : (0 : Int) < n := by omega
  simp -implicitDefEqProofs [c79, c79_k5, c79_k4, c79_k3, c79_k2, c79_k1, c79_k0, e0, e1, e2, lenT, Dn.lenV, sliceX, sliceV, boundV, asIdx, h0]
  refine i_app_f (v := .sl σ.objs.length 0 n 1) (s := ⟨σ.objs ++ [.cells (List.replicate n (Y 0))], σ.toks⟩) ?_ ?_
  · have e3 : (n : Int) ≤ 140737488355328 := by omega
    have e4 : (n : Int) ≤ 9223372036854775807 := by omega
    simp -implicitDefEqProofs [e3, e4, h0, newObj, St.place, St.push, St.spot, repl_one]
  simp -implicitDefEqProofs [c79_k0, lenT, Dn.lenV, sliceX, sliceV, boundV, asIdx]
  done

/-- Parts: what stands in the list, and their bytes. -/
abbrev Part := D × List UInt8
def partRows (ps : List Part) : List (List D) := ps.map fun p => [p.1]
def joined (ps : List Part) : List UInt8 := (ps.map (·.2)).flatten
def byV (l : List UInt8) : List V := l.map fun b => Y b.toNat
theorem byV_len (l : List UInt8) : (byV l).length = l.length := by simp [byV]
theorem joined_take (ps : List Part) {i : Nat} {p : Part} (h : ps[i]? = some p) : joined (ps.take (i + 1)) = joined (ps.take i) ++ p.2 := by
  obtain ⟨hi, rfl⟩ := List.getElem?_eq_some_iff.1 h
  unfold joined
  rw [← List.take_append_getElem hi]
  simp only [List.map_append, List.flatten_append]
  simp
theorem joined_split (ps : List Part) (i : Nat) : joined ps = joined (ps.take i) ++ joined (ps.drop i) := by
  unfold joined
  rw [← List.flatten_append, ← List.map_append, List.take_append_drop]

theorem byV_app (a b : List UInt8) : byV (a ++ b) = byV a ++ byV b := by simp [byV]
theorem byV_rows (b : List UInt8) : (byteRows b).flatten.map V.d = byV b := by
  induction b with
  | nil => rfl
  | cons c r ih => simp [byteRows, byV] at ih ⊢; exact ih
theorem splice_byV (a b : List UInt8) (k : Nat) (hk : b.length ≤ k) : splice (byV a ++ List.replicate k (Y 0)) a.length (byV b) = byV (a ++ b) ++ List.replicate (k - b.length) (Y 0) := by
  unfold splice
  rw [byV_app, byV_len]
  rw [List.take_append_of_le_length (by rw [byV_len]; exact Nat.le_refl _), List.take_of_length_le (by rw [byV_len]; exact Nat.le_refl _)]
  rw [List.drop_append]
  rw [List.drop_of_length_le (by rw [byV_len]; omega), byV_len, List.nil_append, List.drop_replicate]
  congr 2
  omega
theorem ofD_byV (l : List UInt8) : ofD (byV l) = some (l.map fun b => .int .u8 b.toNat) := by
  induction l with
  | nil => rfl
  | cons a r ih => simp only [byV, List.map_cons, ofD] at ih ⊢; rw [ih]
theorem rows_byte : ∀ l : List UInt8, rowsOf 1 l.length (l.map fun b => D.int .u8 b.toNat) = byteRows l
  | [] => rfl
  | a :: r => by
    have := rows_byte r
    simp [rowsOf, byteRows] at this ⊢
    exact this

def InvCat1 (ps : List Part) (x : D) (m : Nat) (e : Env) (σ : St) : Prop := ∃ i : Nat, e = [(0, .d x), (3, I (joined (ps.take i)).length), (9, .d x), (10, I ps.length), (11, I i)] ∧ i ≤ ps.length ∧ m = ps.length - i ∧ σ = St.empty
def InvCat2 (ps : List Part) (x : D) (n : Nat) (m : Nat) (e : Env) (σ : St) : Prop := ∃ i : Nat, e = [(6, .sl 0 0 (joined (ps.take i)).length 1), (25, .d x), (26, I ps.length), (27, I i)] ∧ i ≤ ps.length ∧ m = ps.length - i ∧ σ = ⟨[.cells (byV (joined (ps.take i)) ++ List.replicate (n - (joined (ps.take i)).length) (Y 0))], []⟩

theorem s_ConcatP {ps : List Part} {x : D} (hx : LV (.d x) (partRows ps)) (hps : ∀ p ∈ ps, LV (.d p.1) (byteRows p.2)) (hn : 0 < (joined ps).length) (hN : (joined ps).length ≤ 1000000000) (hpl : ps.length ≤ 1000000000) :
    Dn.Call Γ cx .val 60 [.d x] St.empty fun w _ => w = .d (.list (byteRows (joined ps))) := by
  refine Dn.Call.body (fc := c60) rfl ?_
  have hlx : ∀ σ, lenT σ .slice (.d x) = some ps.length := fun σ => by rw [hx.len]; simp [partRows]
  simp -implicitDefEqProofs [c60, c60_k17, c60_k16, c60_k15, hlx]
  refine wloopI (InvCat1 ps x) (m := ps.length) ⟨0, rfl, by omega, by omega, rfl⟩ ?_
  rintro m e σ ⟨i, rfl, hi, rfl, rfl⟩
  simp -implicitDefEqProofs [c60_l14, c60_k13]
  have hsp := joined_split ps i
  by_cases hil : i < ps.length
  · obtain ⟨p, hp⟩ : ∃ p, ps[i]? = some p := ⟨ps[i], by simp [hil]⟩
    have hpm := List.mem_of_getElem? hp
    have hrow : (partRows ps)[i]? = some [p.1] := by simp [partRows, hp]
    have hia := hx.iaddr St.empty (k := .i64) (sz := 1) hrow rfl
    have hpl2 := (hps p hpm).len St.empty
    rw [byteRows_len] at hpl2
    have hjt := joined_take ps hp
    have hsp1 := joined_split ps (i + 1)
    have hjl : (joined (ps.take (i + 1))).length = (joined (ps.take i)).length + p.2.length := by rw [hjt]; simp
    have hjn : (joined (ps.take (i + 1))).length ≤ 1000000000 := by
      have : (joined ps).length = (joined (ps.take (i + 1))).length + (joined (ps.drop (i + 1))).length := by rw [hsp1]; simp
      omega
    have e1 : IntKind.i64.wrap (((joined (ps.take i)).length : Int) + (p.2.length : Int)) = ((joined (ps.take (i + 1))).length : Int) := by
      rw [wrap_i64 (by omega) (by omega)]; omega
    have e2 : ¬ (((joined (ps.take (i + 1))).length : Int) < 0) := by omega
    have hia' : iaddrV ⟨[], []⟩ 1 (.d x) (.d (.int .i64 (i : Int))) = some (.ro [p.1]) := hia
    have hpl3 : lenT ⟨[], []⟩ .slice (.d p.1) = some p.2.length := hpl2
    simp -implicitDefEqProofs [hil, c60_k12, c60_k11, c60_k10, c60_k9, c60_k8, hia', hpl3, e1, e2, wrap_i64 (n := (i : Int) + 1) (by omega) (by omega)]
    exact ⟨ps.length - (i + 1), by omega, i + 1, rfl, by omega, rfl, rfl⟩
  · obtain rfl : i = ps.length := by omega
    simp -implicitDefEqProofs [c60_k7]
    refine use_raw (s_GrowN hn hN) fun w s ⟨hw, hs⟩ => ?_
    subst hw hs
    simp -implicitDefEqProofs [c60_k6, c60_k5, hlx]
    refine wloopI (InvCat2 ps x (joined ps).length) (m := ps.length) ⟨0, rfl, by omega, by omega, by simp [joined, byV]⟩ ?_
    rintro m e σ ⟨i, rfl, hi, rfl, rfl⟩
    simp -implicitDefEqProofs [c60_l4, c60_k3]
    have hsp := joined_split ps i
    have hl0 : (joined ps).length = (joined (ps.take i)).length + (joined (ps.drop i)).length := by rw [hsp]; simp
    by_cases hil : i < ps.length
    · obtain ⟨p, hp⟩ : ∃ p, ps[i]? = some p := ⟨ps[i], by simp [hil]⟩
      have hpm := List.mem_of_getElem? hp
      have hrow : (partRows ps)[i]? = some [p.1] := by simp [partRows, hp]
      have hia := fun σ => hx.iaddr σ (k := .i64) (sz := 1) hrow rfl
      have hrw := fun σ => (hps p hpm).rows σ
      have hjt := joined_take ps hp
      have hsp1 := joined_split ps (i + 1)
      have hjl : (joined (ps.take (i + 1))).length = (joined (ps.take i)).length + p.2.length := by rw [hjt]; simp
      have hjn : (joined ps).length = (joined (ps.take (i + 1))).length + (joined (ps.drop (i + 1))).length := by rw [hsp1]; simp
      simp -implicitDefEqProofs [hil, c60_k2, c60_k1, hia]
      refine i_app_f (v := .sl 0 0 (joined (ps.take (i + 1))).length 1) (s := ⟨[.cells (byV (joined (ps.take (i + 1))) ++ List.replicate ((joined ps).length - (joined (ps.take (i + 1))).length) (Y 0))], []⟩) ?_ ?_
      · have hfr := fitR_iff.2 (byteRows_fit p.2)
        have e1 : (joined (ps.take i)).length + p.2.length ≤ (joined (ps.take i)).length + ((joined ps).length - (joined (ps.take i)).length) := by omega
        have e2 := splice_byV (joined (ps.take i)) p.2 ((joined ps).length - (joined (ps.take i)).length) (by omega)
        have e3 : (joined ps).length - (joined (ps.take i)).length - p.2.length = (joined ps).length - (joined (ps.take (i + 1))).length := by omega
        rw [e3, ← hjt] at e2
        simp only [evalE, Env.get, if_true, hrw, appendV, hfr, Opd.ev]
        simp [-splice, hrw, appendV, hfr, byteRows_len, byV_len, e1, St.setObj, byV_rows, hjl]
        rw [← List.map_flatten, byV_rows, e2, hjl]
      · simp -implicitDefEqProofs [wrap_i64 (n := (i : Int) + 1) (by omega) (by omega)]
        exact ⟨ps.length - (i + 1), by omega, i + 1, rfl, by omega, rfl, rfl⟩
    · obtain rfl : i = ps.length := by omega
      simp -implicitDefEqProofs [c60_k0, V.byVal, V.rows, byV_len, ofD_byV, List.take_of_length_le, rows_byte]
theorem s_GrowZ {σ : St} : Dn.Call Γ cx .raw 79 [.d .nils, I 0] σ fun w s => w = .d .nils ∧ s = σ := by
  refine Dn.Call.body (fc := c79) rfl ?_
  have e1 : IntKind.i64.wrap 0 = 0 := rfl
  simp -implicitDefEqProofs [c79, c79_k5, c79_k4, c79_k3, c79_k2, c79_k1, c79_k0, e1, lenT, Dn.lenV]

def InvCat3 (ps : List Part) (x : D) (m : Nat) (e : Env) (σ : St) : Prop := ∃ i : Nat, e = [(6, .d .nils), (25, .d x), (26, I ps.length), (27, I i)] ∧ i ≤ ps.length ∧ m = ps.length - i ∧ σ = St.empty

theorem joined_at0 {ps : List Part} (h0 : joined ps = []) {p : Part} (hp : p ∈ ps) : p.2 = [] := by
  unfold joined at h0
  rw [List.flatten_eq_nil_iff] at h0
  exact h0 _ (List.mem_map.2 ⟨p, hp, rfl⟩)
theorem joined_take0 {ps : List Part} (h0 : joined ps = []) (i : Nat) : joined (ps.take i) = [] := by
  have := joined_split ps i
  rw [h0] at this
  exact (List.append_eq_nil_iff.1 this.symm).1

theorem s_ConcatZ {ps : List Part} {x : D} (hx : LV (.d x) (partRows ps)) (hps : ∀ p ∈ ps, LV (.d p.1) (byteRows p.2)) (hn : joined ps = []) (hpl : ps.length ≤ 1000000000) :
    Dn.Call Γ cx .val 60 [.d x] St.empty fun w _ => w = .d .nils := by
  refine Dn.Call.body (fc := c60) rfl ?_
  have hlx : ∀ σ, lenT σ .slice (.d x) = some ps.length := fun σ => by rw [hx.len]; simp [partRows]
  simp -implicitDefEqProofs [c60, c60_k17, c60_k16, c60_k15, hlx]
  refine wloopI (InvCat1 ps x) (m := ps.length) ⟨0, rfl, by omega, by omega, rfl⟩ ?_
  rintro m e σ ⟨i, rfl, hi, rfl, rfl⟩
  have ht0 := joined_take0 hn
  simp -implicitDefEqProofs [c60_l14, c60_k13, ht0]
  by_cases hil : i < ps.length
  · obtain ⟨p, hp⟩ : ∃ p, ps[i]? = some p := ⟨ps[i], by simp [hil]⟩
    have hpm := List.mem_of_getElem? hp
    have hrow : (partRows ps)[i]? = some [p.1] := by simp [partRows, hp]
    have hia' : iaddrV ⟨[], []⟩ 1 (.d x) (.d (.int .i64 (i : Int))) = some (.ro [p.1]) := hx.iaddr St.empty (k := .i64) (sz := 1) hrow rfl
    have hpl2 := (hps p hpm).len St.empty
    rw [byteRows_len, joined_at0 hn hpm] at hpl2
    have hpl3 : lenT ⟨[], []⟩ .slice (.d p.1) = some 0 := hpl2
    have e1 : IntKind.i64.wrap 0 = 0 := rfl
    simp -implicitDefEqProofs [hil, c60_k12, c60_k11, c60_k10, c60_k9, c60_k8, hia', hpl3, e1, wrap_i64 (n := (i : Int) + 1) (by omega) (by omega)]
    exact ⟨ps.length - (i + 1), by omega, i + 1, by simp [ht0], by omega, rfl, rfl⟩
  · obtain rfl : i = ps.length := by omega
    simp -implicitDefEqProofs [c60_k7]
    refine use_raw s_GrowZ fun w s ⟨hw, hs⟩ => ?_
    subst hw hs
    simp -implicitDefEqProofs [c60_k6, c60_k5, hlx]
    refine wloopI (InvCat3 ps x) (m := ps.length) ⟨0, rfl, by omega, by omega, rfl⟩ ?_
    rintro m e σ ⟨i, rfl, hi, rfl, rfl⟩
    simp -implicitDefEqProofs [c60_l4, c60_k3]
    by_cases hil : i < ps.length
    · obtain ⟨p, hp⟩ : ∃ p, ps[i]? = some p := ⟨ps[i], by simp [hil]⟩
      have hpm := List.mem_of_getElem? hp
      have hrow : (partRows ps)[i]? = some [p.1] := by simp [partRows, hp]
      have hia := fun σ => hx.iaddr σ (k := .i64) (sz := 1) hrow rfl
      have hrw := fun σ => (hps p hpm).rows σ
      rw [joined_at0 hn hpm] at hrw
      simp -implicitDefEqProofs [hil, c60_k2, c60_k1, hia]
      refine i_app_f (v := .d .nils) (s := St.empty) ?_ ?_
      · simp only [evalE, Env.get, if_true, if_false, Opd.ev, hrw, reduceCtorEq, Nat.reduceEqDiff]
        simp [hrw, appendV, byteRows, fitR, V.rows]
      · simp -implicitDefEqProofs [wrap_i64 (n := (i : Int) + 1) (by omega) (by omega)]
        exact ⟨ps.length - (i + 1), by omega, i + 1, rfl, by omega, rfl, rfl⟩
    · obtain rfl : i = ps.length := by omega
      simp -implicitDefEqProofs [c60_k0, V.byVal]

theorem s_Concat {ps : List Part} {x : D} (hx : LV (.d x) (partRows ps)) (hps : ∀ p ∈ ps, LV (.d p.1) (byteRows p.2)) (hN : (joined ps).length ≤ 1000000000) (hpl : ps.length ≤ 1000000000) :
    Dn.Call Γ cx .val 60 [.d x] St.empty fun w _ => ∃ d, w = .d d ∧ LV (.d d) (byteRows (joined ps)) := by
  by_cases h0 : joined ps = []
  · exact Call.mono (fun v s hv => ⟨_, hv, by rw [h0]; exact .nil⟩) (s_ConcatZ hx hps h0 hpl)
  · exact Call.mono (fun v s hv => ⟨_, hv, .list _⟩) (s_ConcatP hx hps (List.length_pos_iff.2 h0) hN hpl)


def InvChunk (r rs rn n : Nat) (rows : List (List D)) (J : Nat → St → Prop) (m : Nat) (e : Env) (σ : St) : Prop := ∃ i : Nat, e = [(0, .yld r), (1, .ref rs 0), (2, .ref rn 0), (4, I ((i * n : Nat) : Int))] ∧ m = rows.length - i * n ∧ J i σ ∧ ∀ j, j < i → j * n < rows.length

theorem sliceV_max {v : V} {rows : List (List D)} (hv : LV v rows) {sz lo hi : Nat} (hf : ∀ r ∈ rows, r.length = sz) (h1 : lo < hi) (h2 : hi ≤ rows.length) : sliceV sz v lo hi (some hi) = some (.fl ((rows.drop lo).take (hi - lo))) := by
  have hf' := fitR_iff.2 hf
  cases hv with
  | nil => simp at h2; omega
  | list rows => simp [sliceV, hf', h2]
  | fl rows => simp [sliceV, hf', h2]
  | tl rows t st s => simp [sliceV, hf', h2]

/-- The loop of slices.Chunk, for a round that keeps J. -/
theorem s_Chunk1 {σ : St} {r rs rn n : Nat} {v : V} {rows : List (List D)} (hn : 0 < n) (hnb : n ≤ 1000000) (hv : LV v rows) (hfit : ∀ x ∈ rows, x.length = 1) (hts : ∀ r t st s, v = .tl r t st s → s = 1) (hl : rows.length ≤ 1000000000000)
    (J : Nat → St → Prop) (h0 : J 0 σ) (hst : ∀ i s, J i s → s.objs[rs]? = some (.cells [v]) ∧ s.objs[rn]? = some (.cells [I n]))
    (hround : ∀ i s, J i s → i * n < rows.length → Dn.Call Γ cx .rnd r [.fl ((rows.drop (i * n)).take n)] s fun w s' => w = B true ∧ J (i + 1) s') :
    Dn.Call Γ cx .raw 84 [.yld r, .ref rs 0, .ref rn 0] σ fun _ s => ∃ k, J k s ∧ rows.length ≤ k * n ∧ ∀ j, j < k → j * n < rows.length := by
  refine Dn.Call.body (fc := c84) rfl ?_
  simp -implicitDefEqProofs [c84, c84_k7]
  refine wloopI (InvChunk r rs rn n rows J) (m := rows.length) ⟨0, by simp [Env.pick, Env.get], by simp, h0, fun j hj => by omega⟩ ?_
  rintro m e σ ⟨i, rfl, rfl, hJ, hlt⟩
  obtain ⟨hs, hnn⟩ := hst i σ hJ
  have hlen := hv.len σ
  obtain ⟨p, hp⟩ : ∃ p, i * n = p := ⟨_, rfl⟩
  have hr1 := hround i σ hJ
  rw [hp] at hr1 ⊢
  simp -implicitDefEqProofs [c84_l6, c84_k5, hs, hnn, hlen]
  by_cases hil : p < rows.length
  rotate_left
  · have h1 : ¬ ((p : Int) < (rows.length : Int)) := by omega
    simp -implicitDefEqProofs [h1, hil]
    exact ⟨i, hJ, by omega, hlt⟩
  have h1 : ((p : Int) < (rows.length : Int)) := by omega
  simp -implicitDefEqProofs [h1, hil, c84_k4, c84_k3]
  refine w_drw (fun _ => .val) [2, 1] (by decide +kernel) ?_
  obtain ⟨z, hz, hzl, -⟩ := hv.slice σ hfit hts (lo := p) (hi := rows.length) (by omega) (Nat.le_refl _)
  have hlv := hv.lenV σ
  have hsx : sliceX σ 1 v (some (I p)) none none = some z := by simp [sliceX, hlv, boundV, asIdx, hz, show p ≤ rows.length by omega]
  have hzlen := hzl.len σ
  have hdl : (List.take (rows.length - p) (rows.drop p)).length = rows.length - p := by simp
  rw [hdl] at hzlen
  obtain ⟨t, ht⟩ : ∃ t, min n (rows.length - p) = t := ⟨_, rfl⟩
  have hmin : minAll [I n, I ((rows.length - p : Nat) : Int)] = some (I t) := by
    have : minInts (n : Int) [I ((rows.length - p : Nat) : Int)] .i64 = some (min (n : Int) ((rows.length - p : Nat) : Int)) := by
      simp [minInts]
      split <;> omega
    simp only [minAll, this]
    congr 3
    omega
  have htk : (rows.drop p).take t = (rows.drop p).take n := by
    rcases Nat.le_total n (rows.length - p) with h | h
    · rw [Nat.min_eq_left h] at ht; rw [← ht]
    · rw [Nat.min_eq_right h] at ht
      rw [List.take_of_length_le (i := n) (by simp; omega), ← ht, List.take_of_length_le (by simp)]
  have hsx3 : sliceX σ 1 v (some (I p)) (some (.d (.int .i64 ((p : Int) + (t : Int))))) (some (.d (.int .i64 ((p : Int) + (t : Int))))) = some (.fl ((rows.drop p).take n)) := by
    have h3 := sliceV_max hv (lo := p) (hi := p + t) hfit (by omega) (by omega)
    rw [Nat.add_sub_cancel_left, htk] at h3
    have e1 : ((p : Int) + (t : Int)).toNat = p + t := by omega
    have e2 : (p : Int) + (t : Int) ≤ rows.length := by omega
    have e3 : (0 : Int) ≤ (p : Int) + t := by omega
    simp [sliceX, hlv, boundV, asIdx, h3, e1, e2, e3]
    try omega
  simp -implicitDefEqProofs [room_zero, hs, hnn, hsx, hzlen, hmin, hsx3, c84_k2, wrap_i64 (n := (p : Int) + t) (by omega) (by omega)]
  refine ⟨_, hr1 hil, fun w s ⟨hw, hJ'⟩ => ?_⟩
  obtain ⟨-, hn2⟩ := hst (i + 1) s hJ'
  subst hw
  have hp1 : (i + 1) * n = p + n := by rw [Nat.add_mul, hp, Nat.one_mul]
  simp -implicitDefEqProofs [c84_k1, c84_k0, hn2, wrap_i64 (n := (p : Int) + n) (by omega) (by omega)]
  refine ⟨rows.length - (p + n), by omega, i + 1, by rw [hp1]; rfl, by rw [hp1], hJ', fun j hj => ?_⟩
  rcases Nat.lt_or_ge j i with h | h
  · exact hlt j h
  · obtain rfl : j = i := by omega
    omega


theorem s_Chunk {σ : St} {v : V} {n : Nat} (hn : 0 < n) (hc : v.cells = some [v]) : Dn.Call Γ cx .raw 71 [v, I n] σ fun w s => w = .fn (.func 84) [] [.ref σ.objs.length 0, .ref (σ.objs.length + 1) 0] ∧ s = ⟨σ.objs ++ [.cells [v], .cells [I n]], σ.toks⟩ := by
  refine Dn.Call.body (fc := c71) rfl ?_
  have h1 : ¬ ((n : Int) < 1) := by omega
  have e1 : (σ.objs ++ [Dn.Obj.cells [v], Dn.Obj.cells [I n]])[σ.objs.length + 1]? = some (.cells [I n]) := by
    rw [List.getElem?_append_right (by omega)]
    simp
  simp -implicitDefEqProofs [c71, c71_k2, c71_k1, c71_k0, hc, h1, e1]

theorem App.frozen {σ : St} {sz : Nat} {v : V} {rows : List (List D)} (h : App σ sz v rows) (hne : rows ≠ []) : V.byVal σ v = some (.d (.list rows)) := by
  cases h with
  | nil => exact absurd rfl hne
  | fl => rfl
  | tl => rfl

theorem s_filledV {x : D} {l : List UInt8} (hx : LV (.d x) (byteRows l)) (hl : l.length ≤ 1000000000) :
    Dn.Call Γ cx .val 72 [.d x] St.empty fun w _ => w = .d (.list (byteRows (Sha.pad l))) :=
  Call.as_val (fc := c72) rfl rfl (s_filled hx hl) fun v s h => ⟨_, App.frozen h (by
    intro e
    have := congrArg List.length e
    rw [byteRows_len, Sha.pad_len] at this
    simp at this), rfl⟩

theorem sha_blocks (l : List UInt8) {k : Nat} (h1 : (Sha.pad l).length ≤ k * 64) (h2 : ∀ j, j < k → j * 64 < (Sha.pad l).length) : k = (Sha.pad l).length / 64 := by
  have hm := Sha.pad_mod l
  rcases Nat.eq_zero_or_pos k with h | h
  · subst h; omega
  · have := h2 (k - 1) (by omega)
    omega

def hashD (l : List UInt8) : List D := l.map fun b => .int .u8 b.toNat
def rndE : Env := [(2, .ref 0 0), (3, .ref 1 0)]
def InvSum (l : List UInt8) (i : Nat) (s : St) : Prop := s = ⟨[.cells (List.replicate 32 (Y 0)), .cells ((wds (Sha.hN (Sha.pad l) i).l).map .d), .cells [.d (.list (byteRows (Sha.pad l)))], .cells [I 64], .loop rndE [12] c53_a9 c53_b10 .ready], []⟩

def oarr (l : List UInt8) (n i : Nat) : List UInt8 := l.take i ++ List.replicate (n - i) 0
theorem oarr_len (l : List UInt8) {n i : Nat} (hl : l.length = n) (hi : i ≤ n) : (oarr l n i).length = n := by simp [oarr]; omega
theorem oarr_set (l : List UInt8) {n i : Nat} (hl : l.length = n) {c : UInt8} (h : l[i]? = some c) : (oarr l n i).set i c = oarr l n (i + 1) := by
  obtain ⟨hi, rfl⟩ := List.getElem?_eq_some_iff.1 h
  unfold oarr
  rw [← List.take_append_getElem hi, show n - i = (n - (i + 1)) + 1 by omega, List.replicate_succ]
  rw [List.set_append_right _ _ (by simp; omega)]
  have : i - (l.take i).length = 0 := by simp; omega
  rw [this, List.set_cons_zero, List.append_assoc]
  rfl
theorem oarr_full (l : List UInt8) {n : Nat} (hl : l.length = n) : oarr l n n = l := by simp [oarr, ← hl]
theorem byV_set (l : List UInt8) (i : Nat) (hi : i < l.length) (c : UInt8) : List.take i (byV l) ++ V.d (.int .u8 (c.toNat : Int)) :: List.drop (i + 1) (byV l) = byV (l.set i c) := by
  unfold byV
  rw [List.map_set, List.set_eq_take_append_cons_drop]
  simp [hi]

theorem ofD_hashD (l : List UInt8) : ofD (byV l) = some (hashD l) := ofD_byV l
theorem hashD_byV (l : List UInt8) : (hashD l).map V.d = byV l := by simp [hashD, byV]
theorem hashD_len (l : List UInt8) : (hashD l).length = l.length := by simp [hashD]

def InvOut (H : Sha.S8) (rows : List (List D)) (m : Nat) (e : Env) (s : St) : Prop := ∃ i : Nat, e = [(2, .ref 0 0), (3, .ref 1 0), (5, .ref 5 0), (16, I i)] ∧ i ≤ 32 ∧ m = 32 - i ∧
  s = ⟨[.cells (List.replicate 32 (Y 0)), .cells ((wds H.l).map .d), .cells [.d (.list rows)], .cells [I 64], .dead, .cells (byV (oarr (Sha.out H) 32 i))], []⟩

theorem s_Sum {ps : List Part} {x : D} (hx : LV (.d x) (partRows ps)) (hps : ∀ p ∈ ps, LV (.d p.1) (byteRows p.2)) (hN : (joined ps).length ≤ 1000000000) (hpl : ps.length ≤ 1000000000) :
    Dn.Call Γ cx .val 53 [.d x] St.empty fun w _ => w = .da (hashD (Sha.sha (joined ps))) := by
  refine Dn.Call.body (fc := c53) rfl ?_
  simp -implicitDefEqProofs [-List.reduceReplicate, c53, c53_k13, c53_k12, g1, wds8]
  refine use_val rfl (s_Concat hx hps hN hpl) fun w _ ⟨y, hw, hy⟩ => ?_
  subst hw
  refine ⟨rfl, fun h => by simp [V.borrows] at h, ?_⟩
  simp -implicitDefEqProofs [-List.reduceReplicate]
  refine use_fn rfl (s_filledV hy hN) rfl ?_
  clear hy
  simp -implicitDefEqProofs [-List.reduceReplicate]
  refine use_raw (s_Chunk (n := 64) (by omega) rfl) fun w s ⟨hw, hs⟩ => ?_
  subst hw hs
  simp -implicitDefEqProofs [-List.reduceReplicate, c53_k11]
  generalize joined ps = L at *
  refine ⟨_, s_Chunk1 (n := 64) (by omega) (by omega) (LV.list (byteRows (Sha.pad L))) (byteRows_fit _) (by rintro r t st s h; cases h) (by rw [byteRows_len, Sha.pad_len]; unfold Sha.zs; omega) (InvSum L) ?_ ?_ ?_, ?_⟩
  · simp [InvSum, rndE, -List.reduceReplicate, Sha.hN, wds8, Sha.H0]
  · rintro i s rfl
    exact ⟨rfl, rfl⟩
  · rintro i s rfl hi
    refine Call.rnd (e := rndE) (ps := [12]) (a := c53_a9) (b := c53_b10) rfl rfl ?_
    have hlen64 : (((Sha.pad L).drop (i * 64)).take 64).length = 64 := by
      have := Sha.pad_mod L
      rw [byteRows_len] at hi
      simp
      omega
    have htk := s_take (Sha.hN (Sha.pad L) i) (v := .list (byteRows (((Sha.pad L).drop (i * 64)).take 64))) (.list _) hlen64
    rw [byteRows_drop, byteRows_take]
    have hnx : Sha.hN (Sha.pad L) (i + 1) = Sha.take (Sha.hN (Sha.pad L) i) (((Sha.pad L).drop (i * 64)).take 64) := by rw [Sha.hN, Nat.mul_comm]
    generalize ((Sha.pad L).drop (i * 64)).take 64 = blk at *
    unfold InvSum
    rw [hnx]
    generalize Sha.hN (Sha.pad L) i = y at *
    generalize Sha.take y blk = z at *
    simp -implicitDefEqProofs [-List.reduceReplicate, rndE, c53_a9, c53_b10, wds8]
    simp only [wds8] at htk
    refine use_fn (ds := [.da (wds y.l), .d (.list (byteRows blk))]) rfl htk (by simp [V.pure, V.scalars, V.scalar, D.scalar]) ?_
    simp -implicitDefEqProofs [-List.reduceReplicate, InvSum, rndE, wds8]
  · rintro v s ⟨k, rfl, hk1, hk2⟩
    refine rfQ_ready rfl ?_
    rw [byteRows_len] at hk1 hk2
    have hkk := sha_blocks L hk1 hk2
    have hsha : Sha.sha L = Sha.out (Sha.hN (Sha.pad L) k) := by rw [Sha.sha, hkk]
    rw [hsha]
    generalize Sha.hN (Sha.pad L) k = H
    simp -implicitDefEqProofs [-List.reduceReplicate, c53_k8, c53_k7, c53_k6]
    refine wloopI (InvOut H (byteRows (Sha.pad L))) (m := 32) ⟨0, rfl, by omega, rfl, by simp [byV, oarr, -List.reduceReplicate]⟩ ?_
    rintro m e σ ⟨i, rfl, hi, rfl, rfl⟩
    simp -implicitDefEqProofs [-List.reduceReplicate, c53_l5, c53_k4, c53_k3]
    by_cases hil : i < 32
    · have hii : (i : Int) < 32 := by omega
      have eq : ((i : Int).tdiv 4) = ((i / 4 : Nat) : Int) := by rw [Int.tdiv_eq_ediv_of_nonneg (by omega)]; omega
      have er : ((i : Int).tmod 4) = ((i % 4 : Nat) : Int) := by rw [Int.tmod_eq_emod_of_nonneg (by omega)]; omega
      have e3 : IntKind.i64.wrap (3 - ((i % 4 : Nat) : Int)) = ((3 - i % 4 : Nat) : Int) := by rw [wrap_i64 (by omega) (by omega)]; omega
      have e8 : IntKind.i64.wrap (8 * ((3 - i % 4 : Nat) : Int)) = ((8 * (3 - i % 4) : Nat) : Int) := by rw [wrap_i64 (by omega) (by omega)]; omega
      have hw : H.l[i / 4]? = some (H.l.getD (i / 4) 0) := by
        have : i / 4 < H.l.length := by simp [Sha.S8.l]; omega
        rw [List.getD_eq_getElem?_getD, List.getElem?_eq_getElem this]
        rfl
      have hsh := shr_sh (H.l.getD (i / 4) 0) (8 * (3 - i % 4)) (by omega)
      have hby : IntKind.u8.wrap (un (H.l.getD (i / 4) 0 >>> (8 * (3 - i % 4)))) = ((UInt8.ofNat ((H.l.getD (i / 4) 0 >>> (8 * (3 - i % 4))).toNat % 256)).toNat : Int) := by
        unfold un
        rw [wrap_u8n]
        simp
      have hout : (Sha.out H)[i]? = some (UInt8.ofNat ((H.l.getD (i / 4) 0 >>> (8 * (3 - i % 4))).toNat % 256)) := by simp [Sha.out, hil]
      generalize UInt8.ofNat ((H.l.getD (i / 4) 0 >>> (8 * (3 - i % 4))).toNat % 256) = c at *
      generalize H.l.getD (i / 4) 0 >>> (8 * (3 - i % 4)) = sh at *
      have e4 : IntKind.i64.wrap ((i / 4 : Nat) : Int) = ((i / 4 : Nat) : Int) := wrap_i64 (by omega) (by omega)
      have hq8 : i / 4 < 8 := by omega
      have hr8 : 8 * (3 - i % 4) < 32 := by omega
      have hol : (Sha.out H).length = 32 := by simp [Sha.out]
      have hos := oarr_set (Sha.out H) hol hout
      have hal := oarr_len (Sha.out H) hol hi
      have hbs := byV_set (oarr (Sha.out H) 32 i) i (by omega) c
      generalize H.l.getD (i / 4) 0 = wv at *
      generalize 8 * (3 - i % 4) = s8 at *
      generalize i / 4 = q4 at *
      generalize 3 - i % 4 = r4 at *
      generalize i % 4 = m4 at *
      simp -implicitDefEqProofs [-List.reduceReplicate, hii, c53_k2, c53_k1, eq, er, e3, e8, e4, iaddr_ref hq8, iaddr_ref hil, wdv_get hw, hsh, hby, byV_len, hal, hbs, show i + 1 ≤ 32 by omega, hos, wrap_i64 (n := (i : Int) + 1) (by omega) (by omega)]
      exact ⟨32 - (i + 1), by omega, i + 1, rfl, by omega, rfl, rfl⟩
    · obtain rfl : i = 32 := by omega
      have hol : (Sha.out H).length = 32 := by simp [Sha.out]
      rw [oarr_full _ hol]
      simp -implicitDefEqProofs [-List.reduceReplicate, c53_k0, byV_len, hol, List.take_of_length_le, ofD_hashD, hashD_byV, hashD_len, V.byVal]


theorem hashD_pure (l : List UInt8) : (V.da (hashD l)).pure = true ∧ (V.da (hashD l)).scalars = true := by simp [V.pure, V.scalars, V.scalar, D.scalar, hashD]
theorem hashD_ps (l : List UInt8) {b : Bool} : ((V.da (hashD l)).pure && (!b || (V.da (hashD l)).scalars)) = true := by simp [hashD_pure]
theorem hashD_take {l : List UInt8} {n : Nat} (h : l.length = n) : (byV l).take n = byV l := List.take_of_length_le (by simp [byV_len, h])
theorem hashD_rows {l : List UInt8} {n : Nat} (h : l.length = n) : rowsOf 1 n (hashD l) = byteRows l := by rw [← h]; exact rows_byte l

theorem row11 (x : D) : rowsOf 1 1 [x] = [[x]] := rfl

theorem s_Double {ps : List Part} {x : D} (hx : LV (.d x) (partRows ps)) (hps : ∀ p ∈ ps, LV (.d p.1) (byteRows p.2)) (hN : (joined ps).length ≤ 1000000000) (hpl : ps.length ≤ 1000000000) :
    Dn.Call Γ cx .val 33 [.d x] St.empty fun w _ => w = .da (hashD (Sha.dbl (joined ps))) := by
  refine Dn.Call.body (fc := c33) rfl ?_
  simp -implicitDefEqProofs [-List.reduceReplicate, c33, c33_k1]
  refine use_fn rfl (s_Sum hx hps hN hpl) (hashD_ps _) ?_
  have hl := Sha.sha_len (joined ps)
  unfold Sha.dbl
  generalize Sha.sha (joined ps) = a at *
  simp -implicitDefEqProofs [-List.reduceReplicate, c33_k0, hashD_byV, byV_len, hl, hashD_len, sliceArrV, boundV, asIdx, repl, frzV, ofD, V.rows, List.take_of_length_le, ofD_hashD, row11, hashD_rows hl]
  have hxs : LV (.d (.list [[.list (byteRows a)]])) (partRows [(.list (byteRows a), a)]) := .list _
  have hj : joined [((.list (byteRows a) : D), a)] = a := by simp [joined]
  have h2 := s_Sum (ps := [(.list (byteRows a), a)]) hxs (by intro p hp; simp at hp; subst hp; exact .list _) (by rw [hj]; omega) (by simp)
  rw [hj] at h2
  refine use_fn rfl h2 (hashD_ps _) ?_
  have hl2 := Sha.sha_len a
  generalize Sha.sha a = z at *
  simp -implicitDefEqProofs [-List.reduceReplicate, hashD_byV, byV_len, hashD_len, hl2, V.byVal, ofD_hashD, List.take_of_length_le]

/-! ### gossamerref07 -/
theorem s_turn (x : W32) (k : Nat) (h1 : 1 ≤ k) (h2 : k < 32) : Dn.Call Γ cx .val 57 [W x, U k] St.empty fun v _ => v = W (Sha.rotr x k) := by
  refine Dn.Call.body (fc := c57) rfl ?_
  have e1 : IntKind.u64.wrap (32 - (k : Int)) = ((32 - k : Nat) : Int) := by simp only [IntKind.wrap, IntKind.signed, IntKind.bits]; simp; omega
  have e2 := shl_sh x (32 - k) (by omega)
  have e3 := shr_sh x k h2
  simp -implicitDefEqProofs [c57, c57_k0, e1, e2, e3, or_u32, Sha.rotl]
  rw [Sha.rotr_r]

def InvBytes (l : List UInt8) (m : Nat) (e : Env) (σ : St) : Prop := ∃ (i : Nat) (v : V), e = [(1, .ref 0 0), (3, v), (4, I i)] ∧ i ≤ 32 ∧ m = 32 - i ∧ σ.objs = [.cells (byV l)] ∧ App σ 1 v (byteRows (l.take i))

theorem s_bytes {l : List UInt8} (hl : l.length = 32) : Dn.Call Γ cx .val 41 [.da (hashD l)] St.empty fun v _ => v = .d (.list (byteRows l)) := by
  refine Dn.Call.body (fc := c41) rfl ?_
  simp -implicitDefEqProofs [c41, c41_k7, c41_k6, c41_k5, hashD_byV]
  refine wloopI (InvBytes l) (m := 32) ⟨0, _, rfl, by omega, rfl, rfl, .nil⟩ ?_
  rintro m e σ ⟨i, v, rfl, hi, rfl, hobj, hv⟩
  simp -implicitDefEqProofs [c41_l4, c41_k3]
  by_cases hil : i < 32
  · have hii : (i : Int) < 32 := by omega
    have hb : (byV l)[i]? = some (Y (l[i]'(by omega)).toNat) := by simp [byV, List.getElem?_eq_getElem (show i < l.length by omega)]
    have hta : l.take (i + 1) = l.take i ++ [l[i]'(by omega)] := (List.take_append_getElem (by omega)).symm
    generalize l[i]'(by omega) = c at *
    obtain ⟨v2, σ2, hap2, happ2, ho2, -, -⟩ := hv.push (bytes := 1) (by decide) (byteRows_fit _) (ys := byteRows [c]) (byteRows_fit _) (by simp [byteRows_len]; omega) (by simp [byteRows_len]; omega)
    rw [← byteRows_app, ← hta] at happ2
    simp -implicitDefEqProofs [hii, c41_k2, c41_k1, iaddr_ref hil, hobj, hb, repl, rowsOf, frzV]
    refine i_app_f (v := v2) (s := σ2) ?_ ?_
    · simp -implicitDefEqProofs [V.rows]
      exact hap2 none
    simp -implicitDefEqProofs [wrap_i64 (n := (i : Int) + 1) (by omega) (by omega)]
    exact ⟨32 - (i + 1), by omega, i + 1, v2, rfl, by omega, rfl, by rw [ho2, hobj], happ2⟩
  · obtain rfl : i = 32 := by omega
    rw [List.take_of_length_le (by omega)] at hv
    have hfz := App.frozen hv (by intro e; have := congrArg List.length e; rw [byteRows_len, List.length_nil] at this; omega)
    simp -implicitDefEqProofs [c41_k0, hfz]


theorem or8 (x : W32) (c : UInt8) (hx : x.toNat < 16777216) : ((x <<< 8) ||| BitVec.ofNat 32 c.toNat).toNat = x.toNat * 256 + c.toNat := by
  have hc : c.toNat < 256 := c.toNat_lt
  have h1 : (x <<< 8).toNat = x.toNat <<< 8 := by
    rw [BitVec.toNat_shiftLeft, Nat.shiftLeft_eq, Nat.mod_eq_of_lt (by omega)]
  rw [BitVec.toNat_or, h1, BitVec.toNat_ofNat, Nat.mod_eq_of_lt (by omega), ← Nat.shiftLeft_add_eq_or_of_lt (by omega), Nat.shiftLeft_eq]

theorem be4 (a b c d : UInt8) : Sha.beW [a, b, c, d] = (BitVec.ofNat 32 a.toNat <<< 24) + (BitVec.ofNat 32 b.toNat <<< 16) + (BitVec.ofNat 32 c.toNat <<< 8) + BitVec.ofNat 32 d.toNat := by
  have ha : a.toNat < 256 := a.toNat_lt
  have hb : b.toNat < 256 := b.toNat_lt
  have hc : c.toNat < 256 := c.toNat_lt
  have hd : d.toNat < 256 := d.toNat_lt
  apply BitVec.eq_of_toNat_eq
  have e1 := or8 0 a (by simp)
  have e2 := or8 _ b (by rw [e1]; simp; omega)
  have e3 := or8 _ c (by rw [e2, e1]; simp; omega)
  have e4 := or8 _ d (by rw [e3, e2, e1]; simp; omega)
  rw [e3, e2, e1] at e4
  unfold Sha.beW
  simp only [List.foldl]
  rw [e4]
  simp [BitVec.toNat_add, BitVec.toNat_shiftLeft, Nat.shiftLeft_eq]
  omega

theorem four {l : List UInt8} (h : l.length = 4) : ∃ a b c d, l = [a, b, c, d] := by
  match l, h with
  | [a, b, c, d], _ => exact ⟨a, b, c, d, rfl⟩

def envR (b : V) (at_ : Nat) (r : List (Nat × V)) : Env := [(2, V.ref 0 0), (3, V.ref 1 0), (4, b), (7, I at_)] ++ r
abbrev KG : Nat × V := (1000000, .ro (wds Sha.K256))

def InvRS (σ0 : St) (q : Nat) (b : V) (at_ : Nat) (blk : List UInt8) (m : Nat) (e : Env) (σ : St) : Prop := ∃ i : Nat, e = [(2, V.ref 0 0), (3, V.ref 1 0), (4, b), (7, I at_), (8, .ref q 0), (9, I i), KG] ∧ i ≤ 64 ∧ m = 64 - i ∧
  σ = ⟨σ0.objs.set q (.cells ((wds (warr blk i)).map .d)), σ0.toks⟩

set_option maxRecDepth 4000 in
theorem r_sched {σ : St} {q : Nat} {b : V} {l : List UInt8} {at_ : Nat} (hb : LV b (byteRows l)) (hat : at_ + 64 ≤ l.length) (hl : l.length ≤ 2000000000) (hq : σ.objs[q]? = some (.cells ((wds (List.replicate 64 0#32)).map .d))) {Q : PostC}
    (hQ : Q .normal [(2, V.ref 0 0), (3, V.ref 1 0), (4, b), (7, I at_), (8, .ref q 0), (9, I 64), (55, B false), KG] ⟨σ.objs.set q (.cells ((wds (Sha.sched ((l.drop at_).take 64))).map .d)), σ.toks⟩) :
    wcode (Dn.Call Γ cx) cx c40_k35 [(2, V.ref 0 0), (3, V.ref 1 0), (4, b), (7, I at_), (8, .ref q 0), (9, I 0), KG] σ Q := by
  have hget : ∀ o, (σ.objs.set q o)[q]? = some o := fun o => List.getElem?_set_self (List.getElem?_eq_some_iff.1 hq).1
  generalize hblk : (l.drop at_).take 64 = blk at *
  have hbl : blk.length = 64 := by rw [← hblk]; simp; omega
  simp only [body_eq, globEnv, GB, List.map_nil, List.map_cons, List.append_nil, w_rangeF, i_next, i_makeMap, i_range, i_update, i_delete, q_rndA, q_rndB_n, q_rndB_e, q_rndB_r, setAll, w_skip, w_ops, w_seq, w_cond, w_block, w_exit, w_ret, q_then_n, q_then_e, q_then_r, q_blk_n, q_blk_e, q_blk_r, q_ops, q_cont, q_end_n, q_end_r, q_end_e, q_loop_n, q_loop_e, q_loop_r, i_nil, i_p, i_alloc, i_box, i_store, i_copy, i_clear, i_call, i_callv, i_when, t_nil, t_p, t_call, t_alloc, t_box, t_store, kept_nil, t_copy, t_clear, q_tcont, gsel, List.cons_append, List.nil_append, evalP, evalE, evalF, evalB, isObj, thaw, Opd.ev, Env.get, Env.set, Env.pick, putE, initEnv, evalBin, intBin, evalUn, evalConv, goneAll, goneOne, retV, resAll, Res.ev, tupOf, byVals, byValsN, bv_d, bv_da, bv_fl, bv_tl, bn_d, bn_da, bn_fl, bn_tl, cx, Dn.newObj, St.place, St.push, St.spot, St.empty, cell_d, cell_da, cell_agg, cell_ref, cell_sl, cell_fl, cell_tl, cell_map, cell_fn, cell_ifc, loadAt, faddrV, partOf, extractV, mkAgg, ofD, splice, St.setObj, fillV, c40_k35]
  refine wloopI (InvRS σ q b at_ blk) (m := 64) ⟨0, rfl, by omega, rfl, ?_⟩ ?_
  · have : σ.objs.set q (.cells ((wds (warr blk 0)).map .d)) = σ.objs := by
      have e0 : warr blk 0 = List.replicate 64 0#32 := by simp [warr, Sha.wsN]
      rw [e0]
      apply List.ext_getElem?
      intro j
      by_cases hj : j = q
      · subst hj; rw [hget, hq]
      · rw [List.getElem?_set_ne (fun e => hj e.symm)]
    rw [this]
  rintro m e σ' ⟨i, rfl, hi, rfl, rfl⟩
  have hwl := warr_len blk hi
  simp -implicitDefEqProofs [-List.reduceReplicate, c40_l34, c40_k33]
  by_cases hil : i < 64
  rotate_left
  · obtain rfl : i = 64 := by omega
    simp -implicitDefEqProofs [-List.reduceReplicate]
    have : warr blk 64 = Sha.sched blk := by simp [warr, Sha.sched]
    rw [this]
    exact hQ
  have hii : (i : Int) < 64 := by omega
  simp -implicitDefEqProofs [-List.reduceReplicate, hii, c40_k32, c40_k31]
  by_cases h16 : i < 16
  · have h16' : (i : Int) < 16 := by omega
    simp -implicitDefEqProofs [-List.reduceReplicate, h16', c40_k30, c40_k27]
    refine w_drw (fun _ => .val) [] (by decide +kernel) ?_
    obtain ⟨c0, c1, c2, c3, hc⟩ := four (l := (blk.drop (4 * i)).take 4) (by simp; omega)
    have hg : ∀ j c, j < 4 → [c0, c1, c2, c3][j]? = some c → l[at_ + 4 * i + j]? = some c := fun j c hj h => by
      rw [← hc, ← hblk] at h
      rw [List.getElem?_take, if_pos hj, List.getElem?_drop, List.getElem?_take, if_pos (by omega), List.getElem?_drop] at h
      rw [← h]
      congr 1
      omega
    have hnx : Sha.wsN blk (i + 1) = Sha.wsN blk i ++ [Sha.beW [c0, c1, c2, c3]] := by rw [Sha.wsN, if_pos h16, hc]
    have hset := warr_set blk hil _ hnx
    rw [be4] at hset
    have hbs := wdv_set' (warr blk i) i (by omega)
    obtain ⟨p4, hp4⟩ : ∃ p4, 4 * i = p4 := ⟨_, rfl⟩
    obtain ⟨p, hp⟩ : ∃ p, at_ + p4 = p := ⟨_, rfl⟩
    rw [hp4, hp] at hg
    have a0 := hg 0 c0 (by omega) rfl
    have a1 := hg 1 c1 (by omega) rfl
    have a2 := hg 2 c2 (by omega) rfl
    have a3 := hg 3 c3 (by omega) rfl
    have e0 : IntKind.i64.wrap (4 * (i : Int)) = (p4 : Int) := by rw [wrap_i64 (by omega) (by omega)]; omega
    have e1 : IntKind.i64.wrap ((at_ : Int) + (p4 : Int)) = (p : Int) := by rw [wrap_i64 (by omega) (by omega)]; omega
    have e2 : IntKind.i64.wrap ((p : Int) + 1) = (p : Int) + 1 := wrap_i64 (by omega) (by omega)
    have e3 : IntKind.i64.wrap ((p : Int) + 2) = (p : Int) + 2 := wrap_i64 (by omega) (by omega)
    have e4 : IntKind.i64.wrap ((p : Int) + 3) = (p : Int) + 3 := wrap_i64 (by omega) (by omega)
    have i0 := fun s => hb.iaddr s (k := .i64) (byteRows_at a0) (sz := 1) rfl
    have i1 := fun s => hb.iaddr s (k := .i64) (byteRows_at a1) (sz := 1) rfl
    have i2 := fun s => hb.iaddr s (k := .i64) (byteRows_at a2) (sz := 1) rfl
    have i3 := fun s => hb.iaddr s (k := .i64) (byteRows_at a3) (sz := 1) rfl
    simp only [Nat.add_zero] at i0
    have i1' : ∀ s, iaddrV s 1 b (.d (.int .i64 ((p : Int) + 1))) = some (.ro [.int .u8 (c1.toNat : Int)]) := i1
    have i2' : ∀ s, iaddrV s 1 b (.d (.int .i64 ((p : Int) + 2))) = some (.ro [.int .u8 (c2.toNat : Int)]) := i2
    have i3' : ∀ s, iaddrV s 1 b (.d (.int .i64 ((p : Int) + 3))) = some (.ro [.int .u8 (c3.toNat : Int)]) := i3
    have s0 : shiftBin .shl .u32 (un (BitVec.ofNat 32 c0.toNat)) 24 = some (W (BitVec.ofNat 32 c0.toNat <<< 24)) := shl_sh _ 24 (by omega)
    have s1 : shiftBin .shl .u32 (un (BitVec.ofNat 32 c1.toNat)) 16 = some (W (BitVec.ofNat 32 c1.toNat <<< 16)) := shl_sh _ 16 (by omega)
    have s2 : shiftBin .shl .u32 (un (BitVec.ofNat 32 c2.toNat)) 8 = some (W (BitVec.ofNat 32 c2.toNat <<< 8)) := shl_sh _ 8 (by omega)
    generalize BitVec.ofNat 32 c0.toNat <<< 24 = x0 at *
    generalize BitVec.ofNat 32 c1.toNat <<< 16 = x1 at *
    generalize BitVec.ofNat 32 c2.toNat <<< 8 = x2 at *
    simp -implicitDefEqProofs [-List.reduceReplicate, room_zero, e0, e1, e2, e3, e4, i0, i1', i2', i3', conv_u32b, s0, s1, s2, add_u32, iaddr_ref hil, hget, wds_len, hwl, show i + 1 ≤ 64 by omega, hbs, hset, wrap_i64 (n := (i : Int) + 1) (by omega) (by omega), c40_k26]
    exact ⟨64 - (i + 1), by omega, i + 1, rfl, by omega, rfl, rfl⟩
  · have h16' : ¬ (i : Int) < 16 := by omega
    simp -implicitDefEqProofs [-List.reduceReplicate, h16', c40_k30, c40_k29]
    refine w_drw (fun _ => .val) [] (by decide +kernel) ?_
    have e1 : IntKind.i64.wrap ((i : Int) - 15) = ((i - 15 : Nat) : Int) := by rw [wrap_i64 (by omega) (by omega)]; omega
    have e2 : IntKind.i64.wrap ((i : Int) - 2) = ((i - 2 : Nat) : Int) := by rw [wrap_i64 (by omega) (by omega)]; omega
    have e7 : IntKind.i64.wrap ((i : Int) - 7) = ((i - 7 : Nat) : Int) := by rw [wrap_i64 (by omega) (by omega)]; omega
    have e16 : IntKind.i64.wrap ((i : Int) - 16) = ((i - 16 : Nat) : Int) := by rw [wrap_i64 (by omega) (by omega)]; omega
    have hx15 := warr_at blk (show i - 15 < i by omega)
    have hx2 := warr_at blk (show i - 2 < i by omega)
    have hx7 := warr_at blk (show i - 7 < i by omega)
    have hx16 := warr_at blk (show i - 16 < i by omega)
    have hnext : Sha.wsN blk (i + 1) = Sha.wsN blk i ++ [Sha.sg1 ((Sha.wsN blk i).getD (i - 2) 0) + (Sha.wsN blk i).getD (i - 7) 0 + Sha.sg0 ((Sha.wsN blk i).getD (i - 15) 0) + (Sha.wsN blk i).getD (i - 16) 0] := by
      rw [Sha.wsN, if_neg h16]
    generalize (Sha.wsN blk i).getD (i - 15) 0 = x15 at *
    generalize (Sha.wsN blk i).getD (i - 2) 0 = x2 at *
    generalize (Sha.wsN blk i).getD (i - 7) 0 = x7 at *
    generalize (Sha.wsN blk i).getD (i - 16) 0 = x16 at *
    have q3 : shiftBin .shr .u32 (un x15) 3 = some (W (x15 >>> 3)) := shr_sh x15 3 (by omega)
    have q10 : shiftBin .shr .u32 (un x2) 10 = some (W (x2 >>> 10)) := shr_sh x2 10 (by omega)
    have hset := warr_set blk hil _ hnext
    unfold Sha.sg1 Sha.sg0 at hset
    have hbs := wdv_set' (warr blk i) i (by omega) (Sha.rotr x2 17 ^^^ Sha.rotr x2 19 ^^^ x2 >>> 10)
    simp -implicitDefEqProofs [-List.reduceReplicate, -List.getElem?_map, room_zero, e2, iaddr_ref (show i - 2 < 64 by omega), wdv_get hx2, hget]
    refine use_fnN rfl rfl (s_turn x2 17 (by omega) (by omega)) rfl ?_
    simp -implicitDefEqProofs [-List.reduceReplicate, -List.getElem?_map, e2, iaddr_ref (show i - 2 < 64 by omega), wdv_get hx2, hget]
    refine use_fnN rfl rfl (s_turn x2 19 (by omega) (by omega)) rfl ?_
    simp -implicitDefEqProofs [-List.reduceReplicate, -List.getElem?_map, e2, iaddr_ref (show i - 2 < 64 by omega), iaddr_ref hil, wdv_get hx2, hget, xor_u32, q10, wds_len, hwl, show i + 1 ≤ 64 by omega, hbs, c40_k28]
    generalize hs1 : Sha.rotr x2 17 ^^^ Sha.rotr x2 19 ^^^ x2 >>> 10 = s1 at *
    have hA : ((warr blk i).set i s1).length = 64 := by simp [hwl]
    have hA0 : ((warr blk i).set i s1)[i]? = some s1 := List.getElem?_set_self (by omega)
    have hA7 : ((warr blk i).set i s1)[i - 7]? = some x7 := by rw [List.getElem?_set_ne (by omega)]; exact hx7
    have hA15 : ((warr blk i).set i s1)[i - 15]? = some x15 := by rw [List.getElem?_set_ne (by omega)]; exact hx15
    have hA16 : ((warr blk i).set i s1)[i - 16]? = some x16 := by rw [List.getElem?_set_ne (by omega)]; exact hx16
    have hAs : ∀ v, ((warr blk i).set i s1).set i v = (warr blk i).set i v := fun v => List.set_set ..
    generalize (warr blk i).set i s1 = A at *
    have hbs2 := wdv_set' A i (by omega)
    refine w_drw (fun _ => .val) [] (by decide +kernel) ?_
    simp -implicitDefEqProofs [-List.reduceReplicate, -List.getElem?_map, room_zero, e1, e7, e16, iaddr_ref hil, iaddr_ref (show i - 7 < 64 by omega), iaddr_ref (show i - 15 < 64 by omega), wdv_get hA0, wdv_get hA7, wdv_get hA15, add_u32, hget]
    refine use_fnN rfl rfl (s_turn x15 7 (by omega) (by omega)) rfl ?_
    simp -implicitDefEqProofs [-List.reduceReplicate, -List.getElem?_map, e1, iaddr_ref (show i - 15 < 64 by omega), wdv_get hA15, hget]
    refine use_fnN rfl rfl (s_turn x15 18 (by omega) (by omega)) rfl ?_
    simp -implicitDefEqProofs [-List.reduceReplicate, -List.getElem?_map, e1, e16, iaddr_ref hil, iaddr_ref (show i - 15 < 64 by omega), iaddr_ref (show i - 16 < 64 by omega), wdv_get hA15, wdv_get hA16, hget, xor_u32, q3, add_u32, wds_len, hA, show i + 1 ≤ 64 by omega, hbs2, hAs, hset, wrap_i64 (n := (i : Int) + 1) (by omega) (by omega), c40_k26]
    exact ⟨64 - (i + 1), by omega, i + 1, rfl, by omega, rfl, rfl⟩


def InvRR (σ0 : St) (q p : Nat) (b : V) (at_ : Nat) (h : Sha.S8) (blk : List UInt8) (m : Nat) (e : Env) (σ : St) : Prop := ∃ (i : Nat) (y : Sha.S8), e = [(2, V.ref 0 0), (3, V.ref 1 0), (4, b), (7, I at_), (8, .ref q 0), (10, .ref p 0), (11, I i), KG] ∧ i ≤ 64 ∧ m = 64 - i ∧
  σ = ⟨σ0.objs.set p (.cells ((wds y.l).map .d)), σ0.toks⟩ ∧ y = Sha.rN h (Sha.sched blk) i

theorem set_same {l : List Dn.Obj} {q : Nat} {o : Dn.Obj} (h : l[q]? = some o) : l.set q o = l := by
  apply List.ext_getElem?
  intro j
  by_cases hj : j = q
  · subst hj; rw [List.getElem?_set_self (List.getElem?_eq_some_iff.1 h).1, h]
  · rw [List.getElem?_set_ne (fun e => hj e.symm)]

set_option maxRecDepth 4000 in
theorem r_rounds {σ : St} {q p : Nat} {b : V} {at_ : Nat} {h : Sha.S8} {blk : List UInt8} (hpq : p ≠ q) (hq : σ.objs[q]? = some (.cells ((wds (Sha.sched blk)).map .d))) (hp : σ.objs[p]? = some (.cells ((wds h.l).map .d))) {Q : PostC}
    (hQ : Q .normal [(2, V.ref 0 0), (3, V.ref 1 0), (4, b), (7, I at_), (8, .ref q 0), (10, .ref p 0), (11, I 64), (157, B false), KG] ⟨σ.objs.set p (.cells ((wds (Sha.rN h (Sha.sched blk) 64).l).map .d)), σ.toks⟩) :
    wcode (Dn.Call Γ cx) cx c40_k23 [(2, V.ref 0 0), (3, V.ref 1 0), (4, b), (7, I at_), (8, .ref q 0), (10, .ref p 0), (11, I 0), KG] σ Q := by
  have hgp : ∀ o, (σ.objs.set p o)[p]? = some o := fun o => List.getElem?_set_self (List.getElem?_eq_some_iff.1 hp).1
  have hgq : ∀ o, (σ.objs.set p o)[q]? = some (.cells ((wds (Sha.sched blk)).map .d)) := fun o => by rw [List.getElem?_set_ne hpq]; exact hq
  simp only [body_eq, globEnv, GB, List.map_nil, List.map_cons, List.append_nil, w_rangeF, i_next, i_makeMap, i_range, i_update, i_delete, q_rndA, q_rndB_n, q_rndB_e, q_rndB_r, setAll, w_skip, w_ops, w_seq, w_cond, w_block, w_exit, w_ret, q_then_n, q_then_e, q_then_r, q_blk_n, q_blk_e, q_blk_r, q_ops, q_cont, q_end_n, q_end_r, q_end_e, q_loop_n, q_loop_e, q_loop_r, i_nil, i_p, i_alloc, i_box, i_store, i_copy, i_clear, i_call, i_callv, i_when, t_nil, t_p, t_call, t_alloc, t_box, t_store, kept_nil, t_copy, t_clear, q_tcont, gsel, List.cons_append, List.nil_append, evalP, evalE, evalF, evalB, isObj, thaw, Opd.ev, Env.get, Env.set, Env.pick, putE, initEnv, evalBin, intBin, evalUn, evalConv, goneAll, goneOne, retV, resAll, Res.ev, tupOf, byVals, byValsN, bv_d, bv_da, bv_fl, bv_tl, bn_d, bn_da, bn_fl, bn_tl, cx, Dn.newObj, St.place, St.push, St.spot, St.empty, cell_d, cell_da, cell_agg, cell_ref, cell_sl, cell_fl, cell_tl, cell_map, cell_fn, cell_ifc, loadAt, faddrV, partOf, extractV, mkAgg, ofD, splice, St.setObj, fillV, c40_k23]
  refine wloopI (InvRR σ q p b at_ h blk) (m := 64) ⟨0, h, rfl, by omega, rfl, by rw [set_same hp], rfl⟩ ?_
  rintro m e σ' ⟨i, y, rfl, hi, rfl, rfl, hy⟩
  simp -implicitDefEqProofs [-List.reduceReplicate, c40_l22, c40_k21]
  by_cases hil : i < 64
  rotate_left
  · obtain rfl : i = 64 := by omega
    simp -implicitDefEqProofs [-List.reduceReplicate]
    rw [hy]
    exact hQ
  have hii : (i : Int) < 64 := by omega
  have hw := List.getElem?_eq_getElem (l := Sha.sched blk) (i := i) (by rw [Sha.sched, Sha.wsN_len]; exact hil)
  have hk := List.getElem?_eq_getElem (l := Sha.K256) (i := i) (by rw [Sha.K256_len]; exact hil)
  generalize (Sha.sched blk)[i]'(by rw [Sha.sched, Sha.wsN_len]; exact hil) = w at hw
  generalize Sha.K256[i]'(by rw [Sha.K256_len]; exact hil) = k at hk
  obtain ⟨kr, hkr⟩ := iaddr_ro hk 64 hil
  have hnx : Sha.rN h (Sha.sched blk) (i + 1) = Sha.rnd y k w := by
    rw [Sha.rN, ← hy, List.getD_eq_getElem?_getD, List.getD_eq_getElem?_getD, hw, hk]
    rfl
  simp -implicitDefEqProofs [-List.reduceReplicate, hii, c40_k20, c40_k19, wds8]
  refine w_drw (fun _ => .val) [] (by decide +kernel) ?_
  simp -implicitDefEqProofs [-List.reduceReplicate, room_zero, iaddr_lit, hgp, hgq]
  refine use_fnN rfl rfl (s_turn y.e 6 (by omega) (by omega)) rfl ?_
  simp -implicitDefEqProofs [-List.reduceReplicate, iaddr_lit, hgp, hgq]
  refine use_fnN rfl rfl (s_turn y.e 11 (by omega) (by omega)) rfl ?_
  simp -implicitDefEqProofs [-List.reduceReplicate, iaddr_lit, hgp, hgq, xor_u32]
  refine use_fnN rfl rfl (s_turn y.e 25 (by omega) (by omega)) rfl ?_
  simp -implicitDefEqProofs [-List.reduceReplicate, iaddr_lit, hgp, hgq, xor_u32, add_u32, and_u32, sub_max32, hkr, iaddr_ref hil, wdv_get hw, c40_k18]
  generalize hone : y.h + (Sha.rotr y.e 6 ^^^ Sha.rotr y.e 11 ^^^ Sha.rotr y.e 25) + (y.e &&& y.f ^^^ ~~~y.e &&& y.g) + k + w = one
  refine w_drw (fun _ => .val) [] (by decide +kernel) ?_
  simp -implicitDefEqProofs [-List.reduceReplicate, room_zero, iaddr_lit, hgp, hgq]
  refine use_fnN rfl rfl (s_turn y.a 2 (by omega) (by omega)) rfl ?_
  simp -implicitDefEqProofs [-List.reduceReplicate, iaddr_lit, hgp, hgq]
  refine use_fnN rfl rfl (s_turn y.a 13 (by omega) (by omega)) rfl ?_
  simp -implicitDefEqProofs [-List.reduceReplicate, iaddr_lit, hgp, hgq, xor_u32]
  refine use_fnN rfl rfl (s_turn y.a 22 (by omega) (by omega)) rfl ?_
  simp -implicitDefEqProofs [-List.reduceReplicate, iaddr_lit, hgp, hgq, xor_u32, add_u32, and_u32]
  generalize htwo : (Sha.rotr y.a 2 ^^^ Sha.rotr y.a 13 ^^^ Sha.rotr y.a 22) + (y.a &&& y.b ^^^ y.a &&& y.c ^^^ y.b &&& y.c) = two
  simp -implicitDefEqProofs [-List.reduceReplicate, iaddr_lit, hgp, hgq, add_u32, c40_k17, c40_k16, mkAgg, wrap_i64 (n := (i : Int) + 1) (by omega) (by omega)]
  refine ⟨64 - (i + 1), by omega, i + 1, ⟨one + two, y.a, y.b, y.c, y.d + one, y.e, y.f, y.g⟩, rfl, by omega, rfl, rfl, ?_⟩
  rw [hnx, ← hone, ← htwo]
  rfl

def InvRP (σ0 : St) (q p : Nat) (b : V) (at_ : Nat) (x y : Sha.S8) (m : Nat) (e : Env) (σ : St) : Prop := ∃ i : Nat, e = [(2, V.ref 0 0), (3, V.ref 1 0), (4, b), (7, I at_), (10, .ref p 0), (14, I i), KG] ∧ i ≤ 8 ∧ m = 8 - i ∧
  σ = ⟨σ0.objs.set 1 (.cells ((wds (plN x y i).l).map .d)), σ0.toks⟩

set_option maxRecDepth 4000 in
theorem r_plus {σ : St} {p : Nat} {b : V} {at_ : Nat} {x y : Sha.S8} (hpq : 1 ≠ p) (hq : σ.objs[1]? = some (.cells ((wds x.l).map .d))) (hp : σ.objs[p]? = some (.cells ((wds y.l).map .d))) {Q : PostC}
    (hQ : Q .normal [(2, V.ref 0 0), (3, V.ref 1 0), (4, b), (7, I at_), (10, .ref p 0), (14, I 8), (245, B false), KG] ⟨σ.objs.set 1 (.cells ((wds (Sha.plus x y).l).map .d)), σ.toks⟩) :
    wcode (Dn.Call Γ cx) cx c40_k14 [(2, V.ref 0 0), (3, V.ref 1 0), (4, b), (7, I at_), (10, .ref p 0), (14, I 0), KG] σ Q := by
  have hgp : ∀ o, (σ.objs.set 1 o)[1]? = some o := fun o => List.getElem?_set_self (List.getElem?_eq_some_iff.1 hq).1
  have hgq : ∀ o, (σ.objs.set 1 o)[p]? = some (.cells ((wds y.l).map .d)) := fun o => by rw [List.getElem?_set_ne hpq]; exact hp
  simp only [body_eq, globEnv, GB, List.map_nil, List.map_cons, List.append_nil, w_rangeF, i_next, i_makeMap, i_range, i_update, i_delete, q_rndA, q_rndB_n, q_rndB_e, q_rndB_r, setAll, w_skip, w_ops, w_seq, w_cond, w_block, w_exit, w_ret, q_then_n, q_then_e, q_then_r, q_blk_n, q_blk_e, q_blk_r, q_ops, q_cont, q_end_n, q_end_r, q_end_e, q_loop_n, q_loop_e, q_loop_r, i_nil, i_p, i_alloc, i_box, i_store, i_copy, i_clear, i_call, i_callv, i_when, t_nil, t_p, t_call, t_alloc, t_box, t_store, kept_nil, t_copy, t_clear, q_tcont, gsel, List.cons_append, List.nil_append, evalP, evalE, evalF, evalB, isObj, thaw, Opd.ev, Env.get, Env.set, Env.pick, putE, initEnv, evalBin, intBin, evalUn, evalConv, goneAll, goneOne, retV, resAll, Res.ev, tupOf, byVals, byValsN, bv_d, bv_da, bv_fl, bv_tl, bn_d, bn_da, bn_fl, bn_tl, cx, Dn.newObj, St.place, St.push, St.spot, St.empty, cell_d, cell_da, cell_agg, cell_ref, cell_sl, cell_fl, cell_tl, cell_map, cell_fn, cell_ifc, loadAt, faddrV, partOf, extractV, mkAgg, ofD, splice, St.setObj, fillV, c40_k14]
  refine wloopI (InvRP σ 0 p b at_ x y) (m := 8) ⟨0, rfl, by omega, rfl, by
    have : plN x y 0 = x := rfl
    rw [this, set_same hq]⟩ ?_
  rintro m e σ' ⟨i, rfl, hi, rfl, rfl⟩
  simp -implicitDefEqProofs [-List.reduceReplicate, c40_l13, c40_k12]
  by_cases hil : i < 8
  rotate_left
  · obtain rfl : i = 8 := by omega
    simp -implicitDefEqProofs [-List.reduceReplicate]
    exact hQ
  have hii : (i : Int) < 8 := by omega
  simp -implicitDefEqProofs [-List.reduceReplicate, hii, c40_k11]
  refine w_drw (fun _ => .val) [] (by decide +kernel) ?_
  have hex : ∀ k, k < 9 → (k = i + 1) → ∃ m', m' < 8 - i ∧ InvRP σ 0 p b at_ x y m' [(2, V.ref 0 0), (3, V.ref 1 0), (4, b), (7, I at_), (10, .ref p 0), (14, I ((k : Nat) : Int)), KG] ⟨σ.objs.set 1 (.cells ((wds (plN x y k).l).map .d)), σ.toks⟩ := fun k hk e => ⟨8 - k, by omega, k, rfl, by omega, rfl, rfl⟩
  have hcase : i = 0 ∨ i = 1 ∨ i = 2 ∨ i = 3 ∨ i = 4 ∨ i = 5 ∨ i = 6 ∨ i = 7 := by omega
  rcases hcase with rfl | rfl | rfl | rfl | rfl | rfl | rfl | rfl
  · simpa -implicitDefEqProofs [-List.reduceReplicate, iaddr_lit, room_zero, hgp, hgq, wds8, add_u32, plN, wrap_i64, c40_k10] using hex 1 (by omega) rfl
  · simpa -implicitDefEqProofs [-List.reduceReplicate, iaddr_lit, room_zero, hgp, hgq, wds8, add_u32, plN, wrap_i64, c40_k10] using hex 2 (by omega) rfl
  · simpa -implicitDefEqProofs [-List.reduceReplicate, iaddr_lit, room_zero, hgp, hgq, wds8, add_u32, plN, wrap_i64, c40_k10] using hex 3 (by omega) rfl
  · simpa -implicitDefEqProofs [-List.reduceReplicate, iaddr_lit, room_zero, hgp, hgq, wds8, add_u32, plN, wrap_i64, c40_k10] using hex 4 (by omega) rfl
  · simpa -implicitDefEqProofs [-List.reduceReplicate, iaddr_lit, room_zero, hgp, hgq, wds8, add_u32, plN, wrap_i64, c40_k10] using hex 5 (by omega) rfl
  · simpa -implicitDefEqProofs [-List.reduceReplicate, iaddr_lit, room_zero, hgp, hgq, wds8, add_u32, plN, wrap_i64, c40_k10] using hex 6 (by omega) rfl
  · simpa -implicitDefEqProofs [-List.reduceReplicate, iaddr_lit, room_zero, hgp, hgq, wds8, add_u32, plN, wrap_i64, c40_k10] using hex 7 (by omega) rfl
  · simpa -implicitDefEqProofs [-List.reduceReplicate, iaddr_lit, room_zero, hgp, hgq, wds8, add_u32, plN, wrap_i64, c40_k10] using hex 8 (by omega) rfl


def InvRB (b : V) (p : List UInt8) (m : Nat) (e : Env) (σ : St) : Prop := ∃ i : Nat, e = [(2, V.ref 0 0), (3, V.ref 1 0), (4, b), (7, I ((64 * i : Nat) : Int)), KG] ∧ 64 * i ≤ p.length ∧ m = p.length - 64 * i ∧
  σ.objs[0]? = some (.cells (byV (List.replicate 32 0))) ∧ σ.objs[1]? = some (.cells ((wds (Sha.hN p i).l).map .d))

theorem app_at {l : List Dn.Obj} {o : Dn.Obj} : (l ++ [o])[l.length]? = some o := by simp
theorem app_lt {l : List Dn.Obj} {o x : Dn.Obj} {i : Nat} (h : l[i]? = some x) : (l ++ [o])[i]? = some x := by
  rw [List.getElem?_append_left (List.getElem?_eq_some_iff.1 h).1]; exact h
theorem set_at {l : List Dn.Obj} {o : Dn.Obj} {i : Nat} {x : Dn.Obj} (h : l[i]? = some x) : (l.set i o)[i]? = some o := List.getElem?_set_self (List.getElem?_eq_some_iff.1 h).1
theorem set_ne {l : List Dn.Obj} {o x : Dn.Obj} {i j : Nat} (h : l[i]? = some x) (hne : j ≠ i) : (l.set j o)[i]? = some x := by rw [List.getElem?_set_ne hne]; exact h

set_option maxRecDepth 4000 in
theorem r_blocks {σ : St} {b : V} {p : List UInt8} (hb : LV b (byteRows p)) (hpl : p.length ≤ 2000000000) (hm : p.length % 64 = 0) (h0 : σ.objs[0]? = some (.cells (byV (List.replicate 32 0)))) (h1 : σ.objs[1]? = some (.cells ((wds Sha.H0.l).map .d))) {Q : PostC}
    (hQ : ∀ s, s.objs[0]? = some (.cells (byV (List.replicate 32 0))) → s.objs[1]? = some (.cells ((wds (Sha.hN p (p.length / 64)).l).map .d)) → Q .normal [(2, V.ref 0 0), (3, V.ref 1 0), (4, b), (7, I (p.length)), (51, B false), KG] s) :
    wcode (Dn.Call Γ cx) cx c40_k41 [(2, V.ref 0 0), (3, V.ref 1 0), (4, b), (7, I 0), KG] σ Q := by
  simp only [body_eq, globEnv, GB, List.map_nil, List.map_cons, List.append_nil, w_rangeF, i_next, i_makeMap, i_range, i_update, i_delete, q_rndA, q_rndB_n, q_rndB_e, q_rndB_r, setAll, w_skip, w_ops, w_seq, w_cond, w_block, w_exit, w_ret, q_then_n, q_then_e, q_then_r, q_blk_n, q_blk_e, q_blk_r, q_ops, q_cont, q_end_n, q_end_r, q_end_e, q_loop_n, q_loop_e, q_loop_r, i_nil, i_p, i_alloc, i_box, i_store, i_copy, i_clear, i_call, i_callv, i_when, t_nil, t_p, t_call, t_alloc, t_box, t_store, kept_nil, t_copy, t_clear, q_tcont, gsel, List.cons_append, List.nil_append, evalP, evalE, evalF, evalB, isObj, thaw, Opd.ev, Env.get, Env.set, Env.pick, putE, initEnv, evalBin, intBin, evalUn, evalConv, goneAll, goneOne, retV, resAll, Res.ev, tupOf, byVals, byValsN, bv_d, bv_da, bv_fl, bv_tl, bn_d, bn_da, bn_fl, bn_tl, cx, Dn.newObj, St.place, St.push, St.spot, St.empty, cell_d, cell_da, cell_agg, cell_ref, cell_sl, cell_fl, cell_tl, cell_map, cell_fn, cell_ifc, loadAt, faddrV, partOf, extractV, mkAgg, ofD, splice, St.setObj, fillV, c40_k41]
  refine wloopI (InvRB b p) (m := p.length) ⟨0, rfl, by omega, rfl, h0, h1⟩ ?_
  rintro m e σ ⟨i, rfl, hi, rfl, h0, h1⟩
  have hlen := hb.len σ
  rw [byteRows_len] at hlen
  obtain ⟨a, ha⟩ : ∃ a, 64 * i = a := ⟨_, rfl⟩
  rw [ha] at hi ⊢
  simp -implicitDefEqProofs [-List.reduceReplicate, c40_l40, c40_k39, hlen, wrap_i64 (n := (a : Int) + 64) (by omega) (by omega)]
  by_cases hil : a < p.length
  rotate_left
  · obtain rfl : a = p.length := by omega
    have e1 : ¬ ((p.length : Int) + 64 ≤ p.length) := by omega
    simp -implicitDefEqProofs [-List.reduceReplicate, e1]
    refine hQ σ h0 ?_
    rw [show p.length / 64 = i by omega]
    exact h1
  have hii : (a : Int) + 64 ≤ p.length := by omega
  simp -implicitDefEqProofs [-List.reduceReplicate, hii, c40_k38, c40_k37, c40_k36]
  refine r_sched (l := p) hb (by omega) hpl (q := σ.objs.length) (by have := wds_rep 64; simp [-List.reduceReplicate] at this ⊢; exact this) ?_
  have hnx : Sha.hN p (i + 1) = Sha.take (Sha.hN p i) ((p.drop a).take 64) := by rw [Sha.hN, ha]
  generalize (p.drop a).take 64 = blk at *
  unfold Sha.take at hnx
  generalize Sha.hN p i = h at *
  have k0 : ∀ l', (σ.objs ++ l')[0]? = some (.cells (byV (List.replicate 32 0))) := fun l' => by
    rw [List.getElem?_append_left (List.getElem?_eq_some_iff.1 h0).1]; exact h0
  have k1 : ∀ l', (σ.objs ++ l')[1]? = some (.cells ((wds h.l).map .d)) := fun l' => by
    rw [List.getElem?_append_left (List.getElem?_eq_some_iff.1 h1).1]; exact h1
  have hlen1 := (List.getElem?_eq_some_iff.1 h1).1
  have hne0 : σ.objs.length + 1 ≠ 0 := by omega
  have hne1 : σ.objs.length + 1 ≠ 1 := by omega
  simp -implicitDefEqProofs [-List.reduceReplicate, c40_k25, k0, k1, wds8, c40_k24]
  refine r_rounds (q := σ.objs.length) (p := σ.objs.length + 1) (h := h) (blk := blk) (by omega) (by simp) (by simp [wds8]) ?_
  simp -implicitDefEqProofs [-List.reduceReplicate, c40_k15, k0, k1, wds8]
  refine r_plus (p := σ.objs.length + 1) (x := h) (y := Sha.rN h (Sha.sched blk) 64) (by omega) (k1 _) (by simp [wds8]) ?_
  simp -implicitDefEqProofs [-List.reduceReplicate, c40_k9, k0, k1, wds8, wrap_i64 (n := (a : Int) + 64) (by omega) (by omega)]
  refine ⟨p.length - (a + 64), by omega, i + 1, ?_, by omega, by omega, set_ne (k0 _) (by omega), ?_⟩
  · rw [show 64 * (i + 1) = a + 64 by omega]; rfl
  · rw [hnx]
    exact set_at (k1 _)


def InvRO (σ0 : St) (H : Sha.S8) (m : Nat) (e : Env) (σ : St) : Prop := ∃ i : Nat, e = [(2, .ref 0 0), (3, .ref 1 0), (15, .ref σ0.objs.length 0), (16, I i)] ∧ i ≤ 32 ∧ m = 32 - i ∧ σ = ⟨σ0.objs ++ [.cells (byV (oarr (Sha.out H) 32 i))], σ0.toks⟩

theorem r_out {σ : St} {H : Sha.S8} (h0 : σ.objs[0]? = some (.cells (byV (List.replicate 32 0)))) (h1 : σ.objs[1]? = some (.cells ((wds H.l).map .d))) {Q : PostC}
    (hQ : Q .normal [(2, .ref 0 0), (3, .ref 1 0), (15, .ref σ.objs.length 0), (16, I 32), (258, B false)] ⟨σ.objs ++ [.cells (byV (Sha.out H))], σ.toks⟩) :
    wcode (Dn.Call Γ cx) cx c40_k6 [(2, .ref 0 0), (3, .ref 1 0), (15, .ref σ.objs.length 0), (16, I 0)] ⟨σ.objs ++ [.cells (byV (List.replicate 32 0))], σ.toks⟩ Q := by
  have k1 : ∀ l', (σ.objs ++ l')[1]? = some (.cells ((wds H.l).map .d)) := fun l' => by
    rw [List.getElem?_append_left (List.getElem?_eq_some_iff.1 h1).1]; exact h1
  have hol : (Sha.out H).length = 32 := by simp [Sha.out]
  simp only [body_eq, globEnv, GB, List.map_nil, List.map_cons, List.append_nil, w_rangeF, i_next, i_makeMap, i_range, i_update, i_delete, q_rndA, q_rndB_n, q_rndB_e, q_rndB_r, setAll, w_skip, w_ops, w_seq, w_cond, w_block, w_exit, w_ret, q_then_n, q_then_e, q_then_r, q_blk_n, q_blk_e, q_blk_r, q_ops, q_cont, q_end_n, q_end_r, q_end_e, q_loop_n, q_loop_e, q_loop_r, i_nil, i_p, i_alloc, i_box, i_store, i_copy, i_clear, i_call, i_callv, i_when, t_nil, t_p, t_call, t_alloc, t_box, t_store, kept_nil, t_copy, t_clear, q_tcont, gsel, List.cons_append, List.nil_append, evalP, evalE, evalF, evalB, isObj, thaw, Opd.ev, Env.get, Env.set, Env.pick, putE, initEnv, evalBin, intBin, evalUn, evalConv, goneAll, goneOne, retV, resAll, Res.ev, tupOf, byVals, byValsN, bv_d, bv_da, bv_fl, bv_tl, bn_d, bn_da, bn_fl, bn_tl, cx, Dn.newObj, St.place, St.push, St.spot, St.empty, cell_d, cell_da, cell_agg, cell_ref, cell_sl, cell_fl, cell_tl, cell_map, cell_fn, cell_ifc, loadAt, faddrV, partOf, extractV, mkAgg, ofD, splice, St.setObj, fillV, c40_k6]
  refine wloopI (InvRO σ H) (m := 32) ⟨0, rfl, by omega, rfl, by simp [oarr, -List.reduceReplicate]⟩ ?_
  rintro m e σ' ⟨i, rfl, hi, rfl, rfl⟩
  simp -implicitDefEqProofs [-List.reduceReplicate, c40_l5, c40_k4]
  by_cases hil : i < 32
  · have hii : (i : Int) < 32 := by omega
    have eq : ((i : Int).tdiv 4) = ((i / 4 : Nat) : Int) := by rw [Int.tdiv_eq_ediv_of_nonneg (by omega)]; omega
    have er : ((i : Int).tmod 4) = ((i % 4 : Nat) : Int) := by rw [Int.tmod_eq_emod_of_nonneg (by omega)]; omega
    have e3 : IntKind.i64.wrap (8 * ((i % 4 : Nat) : Int)) = ((8 * (i % 4) : Nat) : Int) := by rw [wrap_i64 (by omega) (by omega)]; omega
    have e8 : IntKind.i64.wrap (24 - ((8 * (i % 4) : Nat) : Int)) = ((8 * (3 - i % 4) : Nat) : Int) := by rw [wrap_i64 (by omega) (by omega)]; omega
    have e9 : IntKind.u64.wrap ((8 * (3 - i % 4) : Nat) : Int) = ((8 * (3 - i % 4) : Nat) : Int) := by simp only [IntKind.wrap, IntKind.signed, IntKind.bits]; simp; omega
    have hw : H.l[i / 4]? = some (H.l.getD (i / 4) 0) := by
      have : i / 4 < H.l.length := by simp [Sha.S8.l]; omega
      rw [List.getD_eq_getElem?_getD, List.getElem?_eq_getElem this]
      rfl
    have hsh := shr_sh (H.l.getD (i / 4) 0) (8 * (3 - i % 4)) (by omega)
    have hby : IntKind.u8.wrap (un (H.l.getD (i / 4) 0 >>> (8 * (3 - i % 4)))) = ((UInt8.ofNat ((H.l.getD (i / 4) 0 >>> (8 * (3 - i % 4))).toNat % 256)).toNat : Int) := by
      unfold un
      rw [wrap_u8n]
      simp
    have hout : (Sha.out H)[i]? = some (UInt8.ofNat ((H.l.getD (i / 4) 0 >>> (8 * (3 - i % 4))).toNat % 256)) := by simp [Sha.out, hil]
    generalize UInt8.ofNat ((H.l.getD (i / 4) 0 >>> (8 * (3 - i % 4))).toNat % 256) = c at *
    generalize H.l.getD (i / 4) 0 >>> (8 * (3 - i % 4)) = sh at *
    have e4 : IntKind.i64.wrap ((i / 4 : Nat) : Int) = ((i / 4 : Nat) : Int) := wrap_i64 (by omega) (by omega)
    have hq8 : i / 4 < 8 := by omega
    have hos := oarr_set (Sha.out H) hol hout
    have hal := oarr_len (Sha.out H) hol hi
    have hbs := byV_set (oarr (Sha.out H) 32 i) i (by omega) c
    generalize H.l.getD (i / 4) 0 = wv at *
    generalize 8 * (3 - i % 4) = s8 at *
    generalize 8 * (i % 4) = r8 at *
    generalize i / 4 = q4 at *
    generalize i % 4 = m4 at *
    simp -implicitDefEqProofs [-List.reduceReplicate, hii, c40_k3, c40_k2, c40_k1, eq, er, e3, e8, e9, e4, k1, iaddr_ref hq8, iaddr_ref hil, wdv_get hw, hsh, hby, byV_len, hal, hbs, show i + 1 ≤ 32 by omega, hos, wrap_i64 (n := (i : Int) + 1) (by omega) (by omega)]
    exact ⟨32 - (i + 1), by omega, i + 1, rfl, by omega, rfl, rfl⟩
  · obtain rfl : i = 32 := by omega
    rw [oarr_full _ hol]
    simp -implicitDefEqProofs [-List.reduceReplicate]
    exact hQ
end Go.Proofs.YtmcojkkpanijjaaDoor.T
