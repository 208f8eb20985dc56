import Derived.Test.YtmcojkkpanijjaaE28
namespace Go.Proofs.Ytmcojkkpanijjaa.T
open Go.Dn
attribute [local simp] body_eq globEnv GB List.map_nil List.map_cons List.append_nil w_rangeF i_next i_makeMap i_range i_update i_delete i_entry i_clone entryV cloneV q_rndA q_rndB_n q_rndB_e q_rndB_r setAll w_skip w_ops w_seq w_cond w_block w_exit w_ret q_then_n q_then_e q_then_r q_blk_n q_blk_e q_blk_r q_ops q_cont q_end_n q_end_r q_end_e q_loop_n q_loop_e q_loop_r i_nil i_p i_alloc i_box i_store i_copy i_clear i_call i_callv i_when t_nil t_p t_call t_alloc t_box t_store kept_nil t_copy t_clear q_tcont gsel List.cons_append List.nil_append evalP evalE evalF evalB isObj thaw Opd.ev Env.get Env.set Env.pick putE initEnv evalBin intBin evalUn evalConv goneAll goneOne retV resAll Res.ev tupOf byVals byValsN bv_d bv_da bv_fl bv_tl bn_d bn_da bn_fl bn_tl cx Dn.newObj St.place St.push St.spot St.empty cell_d cell_da cell_agg cell_ref cell_sl cell_fl cell_tl cell_map cell_fn cell_ifc loadAt faddrV partOf extractV mkAgg ofD splice St.setObj fillV
set_option linter.unusedSimpArgs false
set_option linter.unusedVariables false
open Sip

/-! ### the ids as a list that may be appended to -/
def InvRIr (σ : St) (x : D) (M : List Item) (m : Nat) (e : Env) (s : St) : Prop := ∃ (i : Nat) (v : V), e = [(0, .d x), (3, v), (4, I i)] ∧ i ≤ M.length ∧ m = M.length - i ∧ Two σ s 1 32 v (.d .nils) (uRows ((M.take i).map (·.1))) []
theorem s_rIDsR {σ : St} {x : D} {M : List Item} (hx : LV (.d x) (mRows M)) (hM : ∀ p ∈ M, p.2.length = 32) (hn : M.length ≤ 1000) : Dn.Call Γ cx .raw 12 [.d x] σ fun v s => Two σ s 1 32 v (.d .nils) (uRows (M.map (·.1))) [] := by
  refine Dn.Call.body (fc := c12) rfl ?_
  simp -implicitDefEqProofs [c12, c12_k7, c12_k6, c12_k5]
  refine wloopI (InvRIr σ x M) (m := M.length) ⟨0, _, rfl, by omega, rfl, Two.nil σ 1 32⟩ ?_
  rintro m e s ⟨i, v, rfl, hi, rfl, hT⟩
  have hlx := hx.len s
  rw [mRows_len] at hlx
  by_cases hil : i < M.length
  · have hii : (i : Int) < M.length := by omega
    obtain ⟨p, hp⟩ : ∃ p, M[i]? = some p := ⟨_, List.getElem?_eq_getElem hil⟩
    have hia := hx.iaddr s (k := .i64) (sz := 33) (i := i) (row := itemRow p) (by simp [mRows, hp]) (by simp [itemRow, hashD_len, hM p (List.mem_of_getElem? hp)])
    have hta : M.take (i + 1) = M.take i ++ [p] := by rw [List.take_add_one, hp]; rfl
    obtain ⟨v2, s2, hap, hT2, ho⟩ := hT.push (bytes := 4) (by decide) (uRows_fit _) (y := [.int .u32 p.1]) rfl (by simp [uRows_len]; omega) (by simp [uRows_len]; omega)
    rw [show uRows ((M.take i).map (·.1)) ++ [[.int .u32 p.1]] = uRows ((M.take (i + 1)).map (·.1)) by rw [hta]; simp [uRows]] at hT2
    clear hil
    simp -implicitDefEqProofs [c12_l4, c12_k3, hlx, hii, c12_k2, c12_k1, hia, itemRow, repl, rowsOf, frzV]
    refine i_app_f (v := v2) (s := s2) ?_ ?_
    · simp -implicitDefEqProofs [V.rows]
      exact hap none
    simp -implicitDefEqProofs [wrap_i64 (n := (i : Int) + 1) (by omega) (by omega)]
    exact ⟨M.length - (i + 1), by omega, i + 1, v2, rfl, by omega, rfl, hT2⟩
  · obtain rfl : i = M.length := by omega
    rw [List.take_of_length_le (by omega)] at hT
    simp -implicitDefEqProofs [c12_l4, c12_k3, hlx, c12_k0]
    exact hT

/-! ### the fixed fact -/
def h7 : List UInt8 := 7 :: List.replicate 31 0
theorem h7_len : h7.length = 32 := rfl
theorem h7_D : (D.int .u8 7 :: List.replicate 31 (.int .u8 0)) = hashD h7 := rfl
theorem ofD31 : ofD (List.replicate 31 (V.d (.int .u8 0))) = some (List.replicate 31 (.int .u8 0)) := rfl
theorem h7_take : (hashD h7).take 32 = hashD h7 := List.take_of_length_le (by rw [hashD_len, h7_len]; omega)
def iA : Int := short 1 2 h7
def jA : Int := IntKind.u32.wrap (iA + 1)
theorem jA_ne : jA ≠ iA ∧ 0 ≤ jA ∧ jA ≤ 4294967295 := by
  obtain ⟨b1, b2⟩ := short_bound 1 2 h7
  have e : jA = IntKind.u32.wrap (short 1 2 h7 + 1) := rfl
  have e2 : iA = short 1 2 h7 := rfl
  rw [e, e2]
  generalize short 1 2 h7 = i at *
  simp only [IntKind.wrap, IntKind.signed, IntKind.bits]
  simp
  omega

theorem s_alive : Dn.Call Γ cx .val 6 [] St.empty fun v _ => v = B true := by
  refine Dn.Call.body (fc := c6) rfl ?_
  simp -implicitDefEqProofs [-List.reduceReplicate, c6, c6_k5, mkAgg, ofD, repl, rowsOf, ofD31, h7_D, hashD_byV, byV_len, h7_len, frz_byV, h7_take]
  refine use_raw (s_New 1 2 (d := .fl [hashD h7]) (L := [h7]) (.fl _) (by simp [h7_len]) (by simp)) fun v s hP => ?_
  have hpa : putAll 1 2 [h7] [] = ([(iA, h7)], 0) := by simp [putAll, putI, gt, ins, iA]
  rcases hP.r with ⟨-, x, q, es, clock, hv, -, -, hix, hon⟩ | ⟨h0, -⟩
  rotate_left
  · rw [hpa] at h0; simp at h0
  rw [hpa] at hix
  subst hv
  simp -implicitDefEqProofs [c6_k4, eqV, V.isNil, Opd.isC, c6_k3]
  simp -implicitDefEqProofs [-List.reduceReplicate, c6_k2, mkAgg, ofD, ofD31, h7_D]
  have hsh : Dn.Call Γ cx .val 33 [.da [.int .u64 1, .int .u64 2], .da (hashD h7)] St.empty fun v _ => v = X iA := s_Short 1 2 h7_len
  obtain ⟨hne, hj0, hj1⟩ := jA_ne
  obtain ⟨b1, b2⟩ : 1 ≤ iA ∧ iA ≤ 4294967295 := short_bound 1 2 h7
  have hjd : IntKind.u32.wrap (iA + 1) = jA := rfl
  clear hpa
  generalize jA = j at *
  generalize iA = i at *
  refine use_fn rfl hsh rfl ?_
  have hij : ¬ i = j := fun e => hne e.symm
  have hpt : pt [(i, h7)] [j, i, j] 3 = ([h7], [j]) := by simp [pt, gt, hij]
  simp -implicitDefEqProofs [c6_k1, hjd, repl, rowsOf, frzV]
  refine use_rd' (s_ixPart hix (d := .fl [[.int .u32 j], [.int .u32 i], [.int .u32 j]]) (ids := [j, i, j]) (.fl _) (fun r t st s e => nomatch e) (by simp; omega) (by simp)) fun v s' ⟨a, b, hv, ha, hb⟩ => ?_
  subst hv
  have hpt' : pt [(i, h7)] [j, i, j] [j, i, j].length = ([h7], [j]) := hpt
  rw [hpt'] at ha hb
  have hal := ha.len s
  have hbl := hb.len s
  have haa := ha.iaddr s (k := .i64) (sz := 32) (i := 0) (hRows_at (h := h7) rfl) rfl
  have hba := hb.iaddr s (k := .i64) (sz := 1) (i := 0) (uRows_at (h := j) rfl) rfl
  rw [hRows_len] at hal
  rw [uRows_len] at hbl
  have hl32 : (hashD h7).length = 32 := by rw [hashD_len, h7_len]
  simp at hal hbl haa hba
  simp -implicitDefEqProofs [-List.reduceReplicate, c6_k0, hal, hbl, haa, hba, mkAgg, ofD, ofD31, h7_D, hjd, hl32, h7_take, eq_hash h7_len h7_len]
  done

open Sip

/-! ### the law's end: how ids are parted -/
theorem eq_bool (a b : Bool) (x y : Bool) : eqV .bool [] (B a) (B b) x y = some (a == b) := rfl
theorem App.br {σ : St} {sz : Nat} {v : V} {rows : List (List D)} (h : App σ sz v rows) : v.borrows = false := by cases h <;> rfl
abbrev lawQ : PostC := endQ .val St.empty [Res.tmp 6] fun v _ => v = B true
theorem uRows_app (a b : List Int) : uRows (a ++ b) = uRows a ++ uRows b := by simp [uRows]

theorem law_k3 {s : St} {x q : Nat} {k0 k1 : Int} {es : List Ent} {clock : Nat} {M : List Item} (h : Ix s x q k0 k1 es clock M) {d di : D} (hd : LV (.d d) (mRows M)) {ids : List Int} (hi : LV (.d di) (uRows ids)) (hids : ∀ i ∈ ids, 0 ≤ i ∧ i ≤ 4294967295) (hlen : ids.length ≤ 100) {w1 w2 w3 w4 : V} :
    wcode (Dn.Call Γ cx) cx c3_k3 [(2, .d di), (7, .ref x 0), (9, .d d), (90, w1), (91, w2), (92, w3), (93, w4)] s lawQ := by
  have hn := h.pl.n
  have hrows := hi.rows s
  obtain ⟨v1, s1, hap, happ, ho, -, -⟩ := (App.fl (σ := s) (sz := 1) []).push (bytes := 4) (by decide) (by simp) (ys := uRows ids) (uRows_fit _) (by simp [uRows_len]; omega) (by simp [uRows_len]; omega)
  rw [List.nil_append] at happ
  have h1 : Ix s1 x q k0 k1 es clock M := h.mono ⟨by rw [ho]; omega, fun r _ hr => by rw [ho]⟩
  simp -implicitDefEqProofs [c3_k3, repl, rowsOf]
  refine i_app_f (v := v1) (s := s1) ?_ ?_
  · simp -implicitDefEqProofs [hrows]
    exact hap none
  simp -implicitDefEqProofs
  refine use_val rfl (s_rIDs hd h.pl.h (by omega)) fun v _ ⟨d3, hv, hd3⟩ => ?_
  subst hv
  refine ⟨rfl, (fun h => by cases h), ?_⟩
  obtain ⟨v2, s2, hap2, happ2, ho2, -, -⟩ := happ.push (bytes := 4) (by decide) (uRows_fit _) (ys := uRows (M.map (·.1))) (uRows_fit _) (by simp [uRows_len]; omega) (by simp [uRows_len]; omega)
  have hrows3 := hd3.rows s1
  have h2 : Ix s2 x q k0 k1 es clock M := h1.mono ⟨by rw [ho2]; omega, fun r _ hr => by rw [ho2]⟩
  rw [← uRows_app] at happ2
  simp -implicitDefEqProofs
  refine i_app_f (v := v2) (s := s2) ?_ ?_
  · simp -implicitDefEqProofs [hrows3]
    exact hap2 none
  have hall : ∀ i ∈ ids ++ M.map (·.1), 0 ≤ i ∧ i ≤ 4294967295 := fun i hm => by
    rcases List.mem_append.1 hm with hm | hm
    · exact hids i hm
    · obtain ⟨p, hp, rfl⟩ := List.mem_map.1 hm
      exact h.pl.i p hp
  have hal : (ids ++ M.map (·.1)).length ≤ 1000 := by simp; omega
  generalize ids ++ M.map (·.1) = all at *
  simp -implicitDefEqProofs [c3_k2]
  refine use_rd' (s_ixPart h2 happ2.lv happ2.tls hall hal) fun v _ ⟨a, b, hv, ha, hb⟩ => ?_
  subst hv
  simp -implicitDefEqProofs [c3_k1]
  have hdv := happ2.lv.dv s2
  obtain ⟨y, hy⟩ := hdv.2.2.1
  have hbr := App.br happ2
  refine use_val (ds := [.d d, .d y]) (by simp only [byVals, bv_d, hdv.1, hy]) (s_rPart hd h.pl.h (by omega) (hy ▸ hdv.2.1) hal) fun v _ ⟨a2, b2, hv, ha2, hb2⟩ => ?_
  subst hv
  refine ⟨rfl, (fun h => by simp only [List.any_cons, List.any_nil, hbr] at h; cases h), ?_⟩
  simp -implicitDefEqProofs [c3_k0]
  have hpl := pt_len M all all.length
  refine use_fn rfl (s_Hashes ha ha2 (pt_32 h.pl.h all _) (by omega)) rfl ?_
  simp -implicitDefEqProofs
  refine use_fn rfl (s_Words hb hb2 (by omega)) rfl ?_
  simp -implicitDefEqProofs

/-! ### the law's ids -/
def z32 : List UInt8 := List.replicate 32 0
theorem z32_len : z32.length = 32 := rfl
theorem z32_D : hashD z32 = List.replicate 32 (.int .u8 0) := rfl
theorem gotV_eq (o : Option (List UInt8)) : gotV o = .tup [.da (hashD (o.getD z32)), B o.isSome] := by cases o <;> rfl
theorem gt_32 {M : List Item} (hM : ∀ p ∈ M, p.2.length = 32) (i : Int) : ((gt M i).getD z32).length = 32 := by
  cases hg : gt M i with
  | none => rfl
  | some t => exact hM _ (gt_some hg)

def InvGet (x q : Nat) (k0 k1 : Int) (M : List Item) (d di : D) (v : V) (n : Nat) (m : Nat) (e : Env) (s : St) : Prop := ∃ i : Nat, e = [(2, .d di), (7, .ref x 0), (9, .d d), (90, v), (91, I n), (92, I i)] ∧ i ≤ n ∧ m = n - i ∧ ∃ es clock, Ix s x q k0 k1 es clock M

theorem law_k13 {s : St} {x q : Nat} {k0 k1 : Int} {es : List Ent} {clock : Nat} {M : List Item} (h : Ix s x q k0 k1 es clock M) {d di : D} (hd : LV (.d d) (mRows M)) {ids : List Int} (hi : LV (.d di) (uRows ids)) (hids : ∀ i ∈ ids, 0 ≤ i ∧ i ≤ 4294967295) (hlen : ids.length ≤ 100) {w1 w2 w3 w4 : V} :
    wcode (Dn.Call Γ cx) cx c3_k13 [(2, .d di), (7, .ref x 0), (9, .d d), (59, w1), (60, w2), (61, w3), (62, w4)] s lawQ := by
  have hn := h.pl.n
  have hrows := fun s => hi.rows s
  simp -implicitDefEqProofs [c3_k13]
  refine use_raw (s_rIDsR hd h.pl.h (by omega)) fun v1 s1 hT => ?_
  obtain ⟨v2, s2, hap, happ, ho, -, -⟩ := hT.pa.push (bytes := 4) (by decide) (uRows_fit _) (ys := uRows ids) (uRows_fit _) (by simp [uRows_len]; omega) (by simp [uRows_len]; omega)
  rw [← uRows_app] at happ
  have h2 : Ix s2 x q k0 k1 es clock M := (h.mono hT.fr).mono ⟨by rw [ho]; omega, fun r _ hr => by rw [ho]⟩
  simp -implicitDefEqProofs
  refine i_app_f (v := v2) (s := s2) ?_ ?_
  · simp -implicitDefEqProofs [hrows]
    exact hap none
  have hall : ∀ i ∈ M.map (·.1) ++ ids, 0 ≤ i ∧ i ≤ 4294967295 := fun i hm => by
    rcases List.mem_append.1 hm with hm | hm
    · obtain ⟨p, hp, rfl⟩ := List.mem_map.1 hm
      exact h.pl.i p hp
    · exact hids i hm
  have hal : (M.map (·.1) ++ ids).length ≤ 1000 := by simp; omega
  generalize M.map (·.1) ++ ids = all at *
  have hla : ∀ σ, lenT σ .slice v2 = some all.length := fun σ => by rw [happ.lv.len, uRows_len]
  simp -implicitDefEqProofs [hla, c3_k12]
  refine wloopI (InvGet x q k0 k1 M d di v2 all.length) (m := all.length) ⟨0, rfl, by omega, rfl, es, clock, h2⟩ ?_
  rintro m e s ⟨i, rfl, hil, rfl, es, clock, hs⟩
  by_cases hia : i < all.length
  rotate_left
  · obtain rfl : i = all.length := by omega
    simp -implicitDefEqProofs [c3_l11, c3_k10]
    exact law_k3 hs hd hi hids hlen
  have hii : (i : Int) < all.length := by omega
  obtain ⟨n, hn'⟩ : ∃ n, all[i]? = some n := ⟨_, List.getElem?_eq_getElem hia⟩
  have hnb := hall n (List.mem_of_getElem? hn')
  have hiv := fun σ => happ.lv.iaddr σ (k := .i64) (sz := 1) (i := i) (uRows_at hn') rfl
  have ht := gt_32 h.pl.h n
  simp -implicitDefEqProofs [-List.reduceReplicate, c3_l11, c3_k10, hii, c3_k9, c3_k8, hiv]
  simp -implicitDefEqProofs [-List.reduceReplicate, c3_k7]
  refine use_rd (s_ixGet hs hnb.1 hnb.2) ?_
  rw [gotV_eq]
  have hzl : (List.replicate 32 (V.d (.int .u8 0))).length = 32 := List.length_replicate
  have hzd : (List.replicate 32 (V.d (.int .u8 0))).drop 32 = [] := List.drop_of_length_le (by rw [hzl]; omega)
  have hget := s_rGet hd h.pl.h (by omega) n
  rw [gotV_eq] at hget
  generalize (gt M n).getD z32 = t at *
  generalize (gt M n).isSome = b at *
  simp -implicitDefEqProofs [-List.reduceReplicate, hashD_byV, byV_len, ht, hzd]
  simp -implicitDefEqProofs [-List.reduceReplicate, c3_k6]
  refine use_fn rfl hget rfl ?_
  simp -implicitDefEqProofs [-List.reduceReplicate, hashD_byV, byV_len, ht, hzd]
  simp -implicitDefEqProofs [-List.reduceReplicate, c3_k5, byV_len, ht, byV_take ht, ofD_byV, eq_hash ht ht, eq_bool, c3_k4, wrap_i64 (n := (i : Int) + 1) (by omega) (by omega)]
  exact ⟨all.length - (i + 1), by omega, i + 1, rfl, by omega, rfl, es, clock, hs.mono ⟨by simp, fun r _ hr => by simp only; rw [List.getElem?_append_left hr]⟩⟩

open Sip

/-! ### the law's acts -/
theorem hasM_mem {K0 K1 : W64} {M : List Item} (h : Plain M) (ho : Hon K0 K1 M) (t : List UInt8) : hasM K0 K1 M t = decide (t ∈ M.map (·.2)) := by
  rw [Bool.eq_iff_iff, hasM_iff h, decide_eq_true_eq, List.mem_map]
  constructor
  · exact fun hm => ⟨_, hm, rfl⟩
  · rintro ⟨p, hp, rfl⟩
    rw [← ho p hp]
    exact hp

structure LawS (s : St) (x q : Nat) (K0 K1 : W64) (M : List Item) : Prop where
  ix : ∃ es clock, Ix s x q (un K0) (un K1) es clock M
theorem LawS.grow {s : St} {x q : Nat} {K0 K1 : W64} {M : List Item} (h : LawS s x q K0 K1 M) (l : List Dn.Obj) : LawS ⟨s.objs ++ l, s.toks⟩ x q K0 K1 M := by
  obtain ⟨es, clock, hi⟩ := h.ix
  exact ⟨es, clock, hi.mono ⟨by simp, fun r _ hr => by simp only; rw [List.getElem?_append_left hr]⟩⟩

def InvA (x q : Nat) (K0 K1 : W64) (M : List Item) (d di ds : D) (n : Nat) (m : Nat) (e : Env) (s : St) : Prop := ∃ i : Nat, e = [(2, .d di), (7, .ref x 0), (9, .d d), (59, .d ds), (60, I n), (61, I i)] ∧ i ≤ n ∧ m = n - i ∧ LawS s x q K0 K1 M
def InvB (x q r : Nat) (K0 K1 : W64) (M : List Item) (d di ds dh : D) (n i : Nat) (a : Act) (H : List (List UInt8)) (m : Nat) (e : Env) (s : St) : Prop := ∃ k : Nat, e = [(2, .d di), (7, .ref x 0), (9, .d d), (12, .ref r 0), (13, B (decide (a.2 ∈ H.take k))), (59, .d ds), (60, I n), (61, I i), (66, .d dh), (67, I H.length), (68, I k)] ∧ k ≤ H.length ∧ m = H.length - k ∧ LawS s x q K0 K1 M ∧ s.objs[r]? = some (.cells (B a.1 :: byV a.2))

abbrev actQ (x q : Nat) (K0 K1 : W64) (M : List Item) (d di ds : D) (n i : Nat) : PostC := blkQ 1
   (thenQ (Dn.Call Γ cx) cx
     (C.ops [2, 7, 9, 59, 60, 61] [Ins.p (some 86) (POp.bin BinOp.add Ty.int [] (Opd.t 61) (Opd.c (D.int IntKind.i64 1))), Ins.p (some 61) (POp.move (Opd.t 86))])
     (loopQ (InvA x q K0 K1 M d di ds n) (n - i) [2, 7, 9, 59, 60, 61]
       (blkQ 0 (thenQ (Dn.Call Γ cx) cx c3_k13 lawQ))))

theorem law_k22 {s : St} {x q r : Nat} {K0 K1 : W64} {M : List Item} (h : LawS s x q K0 K1 M) (ho : Hon K0 K1 M) {d di ds : D} (hd : LV (.d d) (mRows M)) {n i : Nat} (hi : i < n) (hn : n ≤ 100) {a : Act} (ha : a.2.length = 32) (oc : s.objs[r]? = some (.cells (B a.1 :: byV a.2))) :
    wcode (Dn.Call Γ cx) cx c3_k22 [(2, .d di), (7, .ref x 0), (9, .d d), (12, .ref r 0), (59, .d ds), (60, I n), (61, I i)] s (actQ x q K0 K1 M d di ds n i) := by
  obtain ⟨es, clock, hix⟩ := h.ix
  have hpl := hix.pl
  have hn49 := hpl.n
  simp -implicitDefEqProofs [c3_k22, c3_k21]
  refine use_val rfl (s_rHashes hd hpl.h (by omega)) fun v _ ⟨dh, hv, hdh⟩ => ?_
  subst hv
  refine ⟨rfl, (fun h => by cases h), ?_⟩
  have hH : ∀ t ∈ M.map (·.2), t.length = 32 := fun t ht => by obtain ⟨p, hp, rfl⟩ := List.mem_map.1 ht; exact hpl.h p hp
  have hHl : (M.map (·.2)).length ≤ 90 := by simpa using hn49
  have hhas := hasM_mem hpl ho a.2
  generalize M.map (·.2) = H at *
  have hlh : ∀ σ, lenT σ .slice (.d dh) = some H.length := fun σ => by rw [hdh.len, hRows_len]
  simp -implicitDefEqProofs [hlh, c3_k20]
  refine wloopI (InvB x q r K0 K1 M d di ds dh n i a H) (m := H.length) ⟨0, by simp [Env.pick, Env.get], by omega, rfl, h, oc⟩ ?_
  rintro m e s ⟨k, rfl, hk, rfl, hs, oc⟩
  by_cases hkl : k < H.length
  rotate_left
  · obtain rfl : k = H.length := by omega
    rw [List.take_length]
    obtain ⟨es, clock, hix2⟩ := hs.ix
    simp -implicitDefEqProofs [c3_l19, c3_k18]
    simp -implicitDefEqProofs [c3_k15, oc, byV_len, ha, byV_take ha, ofD_byV]
    refine use_rd (s_ixHas hix2 ha) ?_
    rw [hhas]
    simp -implicitDefEqProofs [c3_k14, eq_bool, wrap_i64 (n := (i : Int) + 1) (by omega) (by omega)]
    exact ⟨n - (i + 1), by omega, i + 1, rfl, by omega, rfl, hs⟩
  have hkk : (k : Int) < H.length := by omega
  obtain ⟨g, hg⟩ : ∃ g, H[k]? = some g := ⟨_, List.getElem?_eq_getElem hkl⟩
  have hg32 := hH g (List.mem_of_getElem? hg)
  have hgl := hashD_len g
  rw [hg32] at hgl
  have htk : List.take 32 (hashD g) = hashD g := List.take_of_length_le (by omega)
  have hia := fun σ => hdh.iaddr σ (k := .i64) (sz := 32) (i := k) (hRows_at hg) hgl
  have hta : H.take (k + 1) = H.take k ++ [g] := by rw [List.take_add_one, hg]; rfl
  have hzl : (List.replicate 32 (V.d (.int .u8 0))).length = 32 := List.length_replicate
  have hzd : (List.replicate 32 (V.d (.int .u8 0))).drop 32 = [] := List.drop_of_length_le (by rw [hzl]; omega)
  have hrl : r < s.objs.length := (List.getElem?_eq_some_iff.1 oc).1
  have oc2 : ∀ o, (s.objs ++ [o])[r]? = some (.cells (B a.1 :: byV a.2)) := fun o => by rw [List.getElem?_append_left hrl]; exact oc
  clear hkl hrl
  simp -implicitDefEqProofs [-List.reduceReplicate, c3_l19, c3_k18, hkk, c3_k17, hia, hgl, htk, hashD_byV, byV_len, hg32, hzd]
  by_cases hmem : a.2 ∈ H.take k
  · simp -implicitDefEqProofs [-List.reduceReplicate, c3_k16, hmem, wrap_i64 (n := (k : Int) + 1) (by omega) (by omega)]
    exact ⟨H.length - (k + 1), by omega, k + 1, by rw [hta]; simp [hmem], by omega, rfl, hs.grow _, oc2 _⟩
  · simp -implicitDefEqProofs [-List.reduceReplicate, c3_k16, hmem, oc2, byV_len, ha, hg32, byV_take ha, byV_take hg32, ofD_byV, eq_hash hg32 ha, wrap_i64 (n := (k : Int) + 1) (by omega) (by omega)]
    exact ⟨H.length - (k + 1), by omega, k + 1, by rw [hta]; simp [hmem, eq_comm], by omega, rfl, hs.grow _, oc2 _⟩

open Sip

/-! ### the law -/
theorem law_k28 {s : St} {x q : Nat} {K0 K1 : W64} {M : List Item} (h : LawS s x q K0 K1 M) (ho : Hon K0 K1 M) {d di ds : D} (hd : LV (.d d) (mRows M)) {S : List Act} (hS : LV (.d ds) (aRows S)) (hS32 : ∀ a ∈ S, a.2.length = 32) (hSn : S.length ≤ 100) {ids : List Int} (hi : LV (.d di) (uRows ids)) (hids : ∀ i ∈ ids, 0 ≤ i ∧ i ≤ 4294967295) (hlen : ids.length ≤ 100) {w : V} :
    wcode (Dn.Call Γ cx) cx c3_k28 [(1, .d ds), (2, .d di), (7, .ref x 0), (9, .d d), (58, w)] s lawQ := by
  have hls : ∀ σ, lenT σ .slice (.d ds) = some S.length := fun σ => by rw [hS.len, aRows_len]
  simp -implicitDefEqProofs [c3_k28, hls, c3_k27]
  refine wloopI (InvA x q K0 K1 M d di ds S.length) (m := S.length) ⟨0, rfl, by omega, rfl, h⟩ ?_
  rintro m e s ⟨i, rfl, hil, rfl, hs⟩
  by_cases hia : i < S.length
  rotate_left
  · obtain rfl : i = S.length := by omega
    obtain ⟨es, clock, hix⟩ := hs.ix
    simp -implicitDefEqProofs [c3_l26, c3_k25]
    exact law_k13 hix hd hi hids hlen
  have hii : (i : Int) < S.length := by omega
  obtain ⟨a, ha⟩ : ∃ a, S[i]? = some a := ⟨_, List.getElem?_eq_getElem hia⟩
  have ha32 := hS32 a (List.mem_of_getElem? ha)
  have har := actRow_len ha32
  have hiv := fun σ => hS.iaddr σ (k := .i64) (sz := 33) (i := i) (aRows_at ha) har
  have htk : List.take 33 (actRow a) = actRow a := List.take_of_length_le (by omega)
  have hcs : (actRow a).map V.d = B a.1 :: byV a.2 := by simp [actRow, hashD_byV]
  simp -implicitDefEqProofs [c3_l26, c3_k25, hii, c3_k24, c3_k23, hiv, har, htk]
  rw [hcs]
  exact law_k22 (hs.grow _) ho hd hia hSn ha32 (by simp)

theorem act_of {row : List D} (h : Lks (.bool :: List.replicate 32 (.int .u8)) row) : ∃ a : Act, a.2.length = 32 ∧ row = actRow a := by
  simp only [Lks, Lk.fits] at h
  obtain ⟨_, r, rfl, ⟨b, rfl⟩, h⟩ := h
  have key : ∀ (n : Nat) {row : List D}, Lks (List.replicate n (.int .u8)) row → ∃ h : List UInt8, h.length = n ∧ row = hashD h := by
    intro n
    induction n with
    | zero =>
      intro row h
      simp only [List.replicate, Lks] at h
      exact ⟨[], rfl, h⟩
    | succ n ih =>
      intro row h
      simp only [List.replicate_succ, Lks, Lk.fits] at h
      obtain ⟨d, r, rfl, ⟨m, rfl, h0, h1⟩, h2⟩ := h
      obtain ⟨h', hl, rfl⟩ := ih h2
      have e0 : (IntKind.u8.min : Int) = 0 := rfl
      have e1 : (IntKind.u8.max : Int) = 255 := rfl
      refine ⟨UInt8.ofNat m.toNat :: h', by simp [hl], ?_⟩
      simp only [hashD, List.map_cons, List.cons.injEq, and_true, UInt8.toNat_ofNat', D.int.injEq, true_and]
      omega
  obtain ⟨t, ht, rfl⟩ := key 32 h
  exact ⟨(b, t), ht, rfl⟩
theorem acts_of : ∀ {rows : List (List D)}, (∀ row ∈ rows, Lks (.bool :: List.replicate 32 (.int .u8)) row) → ∃ l : List Act, (∀ a ∈ l, a.2.length = 32) ∧ rows = aRows l
  | [], _ => ⟨[], by simp, rfl⟩
  | r :: rows, h => by
    obtain ⟨l, hl, rfl⟩ := acts_of (rows := rows) fun row hr => h row (by simp [hr])
    obtain ⟨t, ht, rfl⟩ := act_of (h r (by simp))
    exact ⟨t :: l, by intro a ha; rcases List.mem_cons.1 ha with rfl | ha; exact ht; exact hl a ha, rfl⟩
abbrev actK : List Lk := .bool :: List.replicate 32 (.int .u8)
theorem acts_fit {x : D} (hx : (Lk.list actK).fits x) : ∃ l : List Act, (∀ a ∈ l, a.2.length = 32) ∧ LV (.d x) (aRows l) := by
  simp only [Lk.fits] at hx
  rcases hx with rfl | ⟨rows, rfl, _, h⟩
  · exact ⟨[], by simp, .nil⟩
  · obtain ⟨l, hl, rfl⟩ := acts_of h
    exact ⟨l, hl, .list _⟩
theorem words_of : ∀ {rows : List (List D)}, (∀ row ∈ rows, Lks [.int .u32] row) → ∃ l : List Int, (∀ i ∈ l, 0 ≤ i ∧ i ≤ 4294967295) ∧ rows = uRows l
  | [], _ => ⟨[], by simp, rfl⟩
  | r :: rows, h => by
    obtain ⟨l, hl, rfl⟩ := words_of (rows := rows) fun row hr => h row (by simp [hr])
    have := h r (by simp)
    simp only [Lks, Lk.fits] at this
    obtain ⟨_, _, rfl, ⟨n, rfl, h0, h1⟩, rfl⟩ := this
    exact ⟨n :: l, by intro a ha; rcases List.mem_cons.1 ha with rfl | ha; exact ⟨h0, h1⟩; exact hl a ha, rfl⟩
theorem words_fit {x : D} (hx : (Lk.list [.int .u32]).fits x) : ∃ l : List Int, (∀ i ∈ l, 0 ≤ i ∧ i ≤ 4294967295) ∧ LV (.d x) (uRows l) := by
  simp only [Lk.fits] at hx
  rcases hx with rfl | ⟨rows, rfl, _, h⟩
  · exact ⟨[], by simp, .nil⟩
  · obtain ⟨l, hl, rfl⟩ := words_of h
    exact ⟨l, hl, .list _⟩
theorem un_of {n : Int} (h0 : (IntKind.u64.min : Int) ≤ n) (h1 : n ≤ IntKind.u64.max) : ∃ K : W64, n = un K := by
  have e0 : (IntKind.u64.min : Int) = 0 := rfl
  have e1 : (IntKind.u64.max : Int) = 18446744073709551615 := rfl
  refine ⟨BitVec.ofNat 64 n.toNat, ?_⟩
  simp only [un, BitVec.toNat_ofNat]
  omega
theorem salt_of {x : List D} (h : Lks [.int .u64, .int .u64] x) : ∃ K0 K1 : W64, x = [.int .u64 (un K0), .int .u64 (un K1)] := by
  simp only [Lks, Lk.fits] at h
  obtain ⟨_, _, rfl, ⟨a, rfl, a0, a1⟩, _, _, rfl, ⟨b, rfl, b0, b1⟩, rfl⟩ := h
  obtain ⟨K0, rfl⟩ := un_of a0 a1
  obtain ⟨K1, rfl⟩ := un_of b0 b1
  exact ⟨K0, K1, rfl⟩

theorem un_fits (K : W64) : Lf.fits (.int .u64) (.int .u64 (un K)) = true := by
  have e0 : (IntKind.u64.min : Int) = 0 := rfl
  have e1 : (IntKind.u64.max : Int) = 18446744073709551615 := rfl
  have := K.isLt
  have h0 : IntKind.u64.min ≤ un K := by simp only [un, e0]; omega
  have h1 : un K ≤ IntKind.u64.max := by simp only [un, e1]; omega
  simp [Lf.fits, h0, h1]
theorem eq_salt (K0 K1 : W64) (x y : Bool) : eqV .flat [.int .u64, .int .u64] (.da [.int .u64 (un K0), .int .u64 (un K1)]) (.da [.int .u64 (un K0), .int .u64 (un K1)]) x y = some true := by
  simp [eqV, fitsAll, un_fits]
theorem law3 {x0 : List D} {x1 x2 : D} (h0 : Lks [.int .u64, .int .u64] x0) (h1 : (Lk.list actK).fits x1) (h2 : (Lk.list [.int .u32]).fits x2) : Dn.Call Γ cx .val 3 [.da x0, .d x1, .d x2] St.empty fun r _ => r = B true := by
  obtain ⟨K0, K1, rfl⟩ := salt_of h0
  obtain ⟨S, hS, hs⟩ := acts_fit h1
  obtain ⟨ids, hids, hi⟩ := words_fit h2
  refine Dn.Call.body (fc := c3) rfl ?_
  have hls : ∀ σ, lenT σ .slice (.d x1) = some S.length := fun σ => by rw [hs.len, aRows_len]
  have hli : ∀ σ, lenT σ .slice (.d x2) = some ids.length := fun σ => by rw [hi.len, uRows_len]
  simp -implicitDefEqProofs [c3, c3_k38]
  refine use_fn rfl s_alive rfl ?_
  obtain ⟨n1, hn1⟩ : ∃ n1 : Int, (S.length : Int) = n1 := ⟨_, rfl⟩
  obtain ⟨n2, hn2⟩ : ∃ n2 : Int, (ids.length : Int) = n2 := ⟨_, rfl⟩
  rcases hb1 : decide ((30 : Int) < S.length) with _ | _
  rotate_left
  · simp -implicitDefEqProofs [c3_k37, c3_k36, hls, show (30 : Int) < S.length from of_decide_eq_true hb1, c3_k35]
  have hSle : (S.length : Int) ≤ 30 := Int.not_lt.1 (of_decide_eq_false hb1)
  rcases hb2 : decide ((30 : Int) < ids.length) with _ | _
  rotate_left
  · simp -implicitDefEqProofs [c3_k37, c3_k36, hls, hli, Int.not_lt.2 hSle, show (30 : Int) < ids.length from of_decide_eq_true hb2, c3_k35]
  have hile : (ids.length : Int) ≤ 30 := Int.not_lt.1 (of_decide_eq_false hb2)
  simp -implicitDefEqProofs [c3_k37, c3_k36, hls, hli, Int.not_lt.2 hSle, Int.not_lt.2 hile, c3_k35]
  simp -implicitDefEqProofs [c3_k34, mkAgg, ofD]
  refine use_raw (s_New K0 K1 (d := .d .nils) (L := []) .nil (by simp) (by simp)) fun v s hP => ?_
  rcases hP.r with ⟨-, x, q, es, clock, hv, hx1, hq1, hix, hon⟩ | ⟨hc, -⟩
  rotate_left
  · exact absurd rfl hc
  have o0 : s.objs[0]? = some (.cells [Wd K0, Wd K1]) := hP.fr.get (by simp) (by simp)
  simp only [putAll] at hix hon
  subst hv
  simp only [body_eq, globEnv, GB, List.map_nil, List.map_cons, List.append_nil, w_rangeF, i_next, i_makeMap, i_range, i_update, i_delete, i_entry, i_clone, entryV, cloneV, q_rndA, q_rndB_n, q_rndB_e, q_rndB_r, setAll, w_skip, w_ops, w_seq, w_cond, w_block, w_exit, w_ret, q_then_n, q_then_e, q_then_r, q_blk_n, q_blk_e, q_blk_r, q_ops, q_cont, q_end_n, q_end_r, q_end_e, q_loop_n, q_loop_e, q_loop_r, i_nil, i_p, i_alloc, i_box, i_store, i_copy, i_clear, i_call, i_callv, i_when, t_nil, t_p, t_call, t_alloc, t_box, t_store, kept_nil, t_copy, t_clear, q_tcont, gsel, List.cons_append, List.nil_append, evalP, evalE, evalF, evalB, isObj, thaw, Opd.ev, Env.get, Env.set, Env.pick, putE, initEnv, evalBin, intBin, evalUn, evalConv, goneAll, goneOne, retV, resAll, Res.ev, tupOf, byVals, byValsN, bv_d, bv_da, bv_fl, bv_tl, bn_d, bn_da, bn_fl, bn_tl, cx, Dn.newObj, St.place, St.push, St.spot, St.empty, cell_d, cell_da, cell_agg, cell_ref, cell_sl, cell_fl, cell_tl, cell_map, cell_fn, cell_ifc, loadAt, faddrV, partOf, extractV, mkAgg, ofD, splice, St.setObj, fillV, c3_k33]
  refine w_drw (fun f => if f = 8 then .rd else .val) [] (by decide +kernel) ?_
  simp only [room_zero]
  have hxl : x < s.objs.length := (List.getElem?_eq_some_iff.1 hix.o).1
  have hql : q < s.objs.length := (List.getElem?_eq_some_iff.1 hix.m).1
  simp -implicitDefEqProofs [eqV, V.isNil, Opd.isC]
  refine use_rdN rfl (fun s2 ha => s_ixSalt (σ := s2) ⟨(ha.1 x hxl).trans hix.o, (ha.1 q hql).trans hix.m, hix.mp, hix.pl⟩) ?_
  simp only [q_tcont, putE, Env.set]
  simp -implicitDefEqProofs [o0, mkAgg, ofD, eq_salt]
  simp -implicitDefEqProofs [c3_k32]
  simp -implicitDefEqProofs [c3_k31, o0, mkAgg, ofD]
  refine use_raw (s_play hix hon .nil hs hS (by simp; omega)) fun v s2 hp => ?_
  obtain ⟨d, hv, hd⟩ := hp.r
  subst hv
  simp -implicitDefEqProofs [c3_k30, c3_k29]
  exact law_k28 ⟨hp.ix⟩ hp.ho hd hs hS (by omega) hi hids (by omega)

open Sip

/-! ### a copy -/
theorem s_Clone {σ : St} {q : Nat} {es : List Ent} {clock : Nat} (hm : σ.objs[q]? = some (.map es clock)) : Dn.Call Γ cx .raw 40 [.map q] σ fun v s => v = .map σ.objs.length ∧ s = ⟨σ.objs ++ [.map es clock], σ.toks⟩ := by
  refine Dn.Call.body (fc := c40) rfl ?_
  simp -implicitDefEqProofs [c40, c40_k2, eqV, V.isNil, Opd.isC, c40_k1, c40_k0, mkifV, hm, assertV]

/-- A region, by what holds whenever some of its operations are done. -/
theorem w_drwI {K : CallP} {cx : Cx} (I : List Nat → Env → St → Prop) {ks : List Nat} {na : Nat} {l : List DOp} {e : Env} {σ : St} {Q : PostC} (hback : ∀ (i : Nat) (x : DOp), l[i]? = some x → ∀ a ∈ x.after, a < i)
    (hst : ∀ (S : List Nat) (e : Env) (s : St) (i : Nat) (o : DOp) (R : Env → St → Prop), I S e s → l[i]? = some o → i ∉ S → (∀ a ∈ o.after, a ∈ S) → (∀ e' s', I (i :: S) e' s' → R e' s') → wdop K cx σ.objs.length o e s R)
    (h0 : I [] e (σ.room na)) (hend : ∀ (S : List Nat) (e : Env) (s : St), I S e s → (∀ i, i < l.length → i ∈ S) → Q .normal (e.pick ks) s) : wcode K cx (.drw ks na l) e σ Q := by
  intro _
  have key : ∀ (fuel : Nat) (S : List Nat), (remOf l.length S).length = fuel → ∀ (e : Env) (s : St), I S e s → wany K cx σ.objs.length l fuel S e s fun e' σ' => Q .normal (e'.pick ks) σ' := by
    intro fuel
    induction fuel with
    | zero =>
      intro S hf e s hI
      have hr : remOf l.length S = [] := List.eq_nil_of_length_eq_zero hf
      have hall : ∀ i, i < l.length → i ∈ S := fun i hi => by
        refine Decidable.byContradiction fun hn => ?_
        have : i ∈ remOf l.length S := List.mem_filter.2 ⟨List.mem_range.2 hi, by simpa using hn⟩
        rw [hr] at this
        cases this
      refine ⟨?_, hend S e s hI hall⟩
      unfold readyD
      rw [List.filter_eq_nil_iff]
      intro k hk hb
      simp only [Bool.and_eq_true] at hb
      have := hall k (List.mem_range.1 hk)
      simp [this] at hb
    | succ fuel ih =>
      intro S hf e s hI
      refine ⟨fun hr => ?_, fun i hir => ?_⟩
      · exfalso
        cases hrem : remOf l.length S with
        | nil => rw [hrem] at hf; simp at hf
        | cons i r =>
          have hl := remOf_lt (pre := []) (i := i) (post := r) (by simpa using hrem)
          obtain ⟨x, hx⟩ : ∃ x, l[i]? = some x := ⟨l[i]'hl.2.2.1, by simp [hl.2.2.1]⟩
          have : i ∈ readyD l S := by
            unfold readyD
            refine List.mem_filter.2 ⟨List.mem_range.2 hl.2.2.1, ?_⟩
            rw [hx]
            simp only [Option.map_some, Option.getD_some, Bool.and_eq_true, List.all_eq_true]
            exact ⟨by simpa using hl.2.2.2, fun a ha => by simpa using hl.2.1 a (hback i x hx a ha) (by simp)⟩
          rw [hr] at this
          cases this
      · unfold readyD at hir
        obtain ⟨h1, h2⟩ := List.mem_filter.1 hir
        obtain ⟨o, ho⟩ : ∃ o, l[i]? = some o := ⟨l[i]'(List.mem_range.1 h1), by simp [List.mem_range.1 h1]⟩
        rw [ho] at h2
        simp only [Option.map_some, Option.getD_some, Bool.and_eq_true, List.all_eq_true] at h2
        have hni : i ∉ S := by simpa using h2.1
        refine ⟨o, ho, hst S e s i o _ hI ho hni (fun a ha => by simpa using h2.2 a ha) fun e' s' hI' => ih (i :: S) ?_ e' s' hI'⟩
        have hmem : i ∈ remOf l.length S := List.mem_filter.2 ⟨h1, by simpa using hni⟩
        obtain ⟨pre, post, hpp⟩ := List.append_of_mem hmem
        rw [remOf_cons hpp]
        rw [hpp] at hf
        simp at hf ⊢
        omega
  exact key l.length [] (by unfold remOf; rw [List.filter_eq_self.2 (by simp)]; exact List.length_range) e (σ.room na) h0

def cpS : Nat → Nat
  | 0 => 5 | 1 => 6 | 2 => 7 | 3 => 8 | 4 => 9 | 5 => 10 | 6 => 11 | 7 => 12 | 8 => 13 | 9 => 14 | 10 => 15 | 11 => 2 | _ => 0
def cpV (x q n : Nat) (K0 K1 : W64) : Nat → V
  | 0 => .ref x 0 | 1 => .ref x 0 | 2 => .ref x 0 | 3 => .da [.int .u64 (un K0), .int .u64 (un K1)] | 4 => .ref x 0 | 5 => .ref x 0 | 6 => .ref x 2 | 7 => .map q | 8 => .map (n + 1)
  | 9 => .agg [Wd K0, Wd K1, .map (n + 1)] | 10 => .ref n 0 | 11 => .ref n 0 | _ => .gone
def cpT (σ : St) (K0 K1 : W64) (es : List Ent) (clock : Nat) (b8 b10 : Bool) : St :=
  if b8 then ⟨σ.objs ++ [if b10 then .cells [Wd K0, Wd K1, .map (σ.objs.length + 1)] else .free, .map es clock], σ.toks⟩ else σ.room 1
structure CpI (σ : St) (x q : Nat) (K0 K1 : W64) (es : List Ent) (clock : Nat) (S : List Nat) (e : Env) (s : St) : Prop where
  z : e.get 0 = .ref x 0
  v : ∀ j, j < 12 → j ∈ S → e.get (cpS j) = cpV x q σ.objs.length K0 K1 j
  s : s = cpT σ K0 K1 es clock (decide (8 ∈ S)) (decide (10 ∈ S))
  c : 9 ∈ S → 8 ∈ S
  d : 10 ∈ S → 9 ∈ S
theorem cp_slots : ∀ i, i < 12 → (cpS i ≠ 0 ∧ ∀ j, j < 12 → cpS i = cpS j → i = j) := by decide
theorem CpI.adv {σ : St} {x q : Nat} {K0 K1 : W64} {es : List Ent} {clock : Nat} {S : List Nat} {e : Env} {s s' : St} (h : CpI σ x q K0 K1 es clock S e s) {i : Nat} (hi : i < 12) (hs : s' = cpT σ K0 K1 es clock (decide (8 ∈ i :: S)) (decide (10 ∈ i :: S))) (hc : i = 9 → 8 ∈ S) (hd : i = 10 → 9 ∈ S) : CpI σ x q K0 K1 es clock (i :: S) (e.set (cpS i) (cpV x q σ.objs.length K0 K1 i)) s' := by
  obtain ⟨h1, h2⟩ := cp_slots i hi
  refine ⟨by rw [Env.get_set, if_neg h1]; exact h.z, fun j hj hm => ?_, hs, fun hm => ?_, fun hm => ?_⟩
  · rw [Env.get_set]
    by_cases he : cpS i = cpS j
    · obtain rfl := h2 j hj he
      simp
    · rw [if_neg he]
      rcases List.mem_cons.1 hm with rfl | hm
      · exact absurd rfl he
      · exact h.v j hj hm
  · rcases List.mem_cons.1 hm with h9 | hm
    · exact List.mem_cons_of_mem _ (hc h9.symm)
    · exact List.mem_cons_of_mem _ (h.c hm)
  · rcases List.mem_cons.1 hm with h10 | hm
    · exact List.mem_cons_of_mem _ (hd h10.symm)
    · exact List.mem_cons_of_mem _ (h.d hm)
theorem CpI.same {σ : St} {x q : Nat} {K0 K1 : W64} {es : List Ent} {clock : Nat} {S : List Nat} {e : Env} {s : St} (h : CpI σ x q K0 K1 es clock S e s) {i : Nat} (h8 : i ≠ 8) (h10 : i ≠ 10) : s = cpT σ K0 K1 es clock (decide (8 ∈ i :: S)) (decide (10 ∈ i :: S)) := by
  rw [h.s]
  simp [Ne.symm h8, Ne.symm h10]
theorem CpI.at {σ : St} {x q : Nat} {K0 K1 : W64} {es : List Ent} {clock : Nat} {S : List Nat} {e : Env} {s : St} (h : CpI σ x q K0 K1 es clock S e s) {r : Nat} {o : Dn.Obj} (hr : σ.objs[r]? = some o) : s.objs[r]? = some o := by
  have hl := (List.getElem?_eq_some_iff.1 hr).1
  rw [h.s]
  unfold cpT
  split
  · simp only; rw [List.getElem?_append_left hl]; exact hr
  · exact room_at hr

theorem cp_drw {σ : St} {x q : Nat} {K0 K1 : W64} {es : List Ent} {clock : Nat} {M : List Item} (h : Ix σ x q (un K0) (un K1) es clock M) {Q : PostC} {e : Env} (he : e.get 0 = .ref x 0)
    (hQ : Q .normal [(2, .ref σ.objs.length 0)] ⟨σ.objs ++ [.cells [Wd K0, Wd K1, .map (σ.objs.length + 1)], .map es clock], σ.toks⟩) :
    wcode (Dn.Call Γ cx) cx (C.drw [2] 1 [⟨.none, .p (some 5) (.move (.t 0)), [], 0⟩,
    ⟨.none, .p (some 6) (.nilCheck (.t 5)), [0], 0⟩,
    ⟨.none, .p (some 7) (.faddr 0 (.t 6)), [1], 0⟩,
    ⟨.none, .p (some 8) (.load true 2 (.t 7)), [2], 0⟩,
    ⟨.none, .p (some 9) (.move (.t 0)), [], 0⟩,
    ⟨.none, .p (some 10) (.nilCheck (.t 9)), [4], 0⟩,
    ⟨.none, .p (some 11) (.faddr 2 (.t 10)), [5], 0⟩,
    ⟨.none, .p (some 12) (.load false 1 (.t 11)), [6], 0⟩,
    ⟨.none, .call (some 13) 40 [(.t 12)], [7], 0⟩,
    ⟨.none, .p (some 14) (.build [(.int .u64 0), (.int .u64 0), .nilm] [(0, 2, (.t 8)), (2, 1, (.t 13))]), [3, 8], 0⟩,
    ⟨.none, .e (some 15) (.box (.t 14)), [9], 0⟩,
    ⟨.none, .p (some 2) (.move (.t 15)), [10, 8, 0, 1, 2, 3, 4, 5, 6, 7, 8, 9, 10], 1⟩]) e σ Q := by
  refine w_drwI (CpI σ x q K0 K1 es clock) ?_ ?_ ⟨he, by simp, by simp [cpT], by simp, by simp⟩ ?_
  · intro i y hy a ha
    have hi : i < 12 := (List.getElem?_eq_some_iff.1 hy).1
    match i, hi with
    | 0, _ | 1, _ | 2, _ | 3, _ | 4, _ | 5, _ | 6, _ | 7, _ | 8, _ | 9, _ | 10, _ | 11, _ =>
      simp at hy
      subst hy
      simp at ha
      try omega
  · intro S e s i o R hI ho hni haf hR
    have hi : i < 12 := (List.getElem?_eq_some_iff.1 ho).1
    have ox := hI.at h.o
    have oq := hI.at h.m
    have get := hI.v
    match i, hi with
    | 0, _ => 
      simp at ho
      subst ho
      have := hR _ _ (hI.adv (i := 0) (by omega) (hI.same (by omega) (by omega)) (by omega) (by omega))
      simpa [wdop, evalP, Opd.ev, hI.z, putE, cpS, cpV] using this
    | 1, _ => 
      simp at ho
      subst ho
      have g := get 0 (by omega) (haf 0 (by simp))
      simp only [cpS, cpV] at g
      have := hR _ _ (hI.adv (i := 1) (by omega) (hI.same (by omega) (by omega)) (by omega) (by omega))
      simpa [wdop, evalP, Opd.ev, g, nilCheckV, putE, cpS, cpV] using this
    | 2, _ => 
      simp at ho
      subst ho
      have g := get 1 (by omega) (haf 1 (by simp))
      simp only [cpS, cpV] at g
      have := hR _ _ (hI.adv (i := 2) (by omega) (hI.same (by omega) (by omega)) (by omega) (by omega))
      simpa [wdop, evalP, Opd.ev, g, faddrV, putE, cpS, cpV] using this
    | 3, _ => 
      simp at ho
      subst ho
      have g := get 2 (by omega) (haf 2 (by simp))
      simp only [cpS, cpV] at g
      have := hR _ _ (hI.adv (i := 3) (by omega) (hI.same (by omega) (by omega)) (by omega) (by omega))
      simpa [wdop, evalP, Opd.ev, g, loadAt, ox, mkAgg, ofD, putE, cpS, cpV] using this
    | 4, _ => 
      simp at ho
      subst ho
      have := hR _ _ (hI.adv (i := 4) (by omega) (hI.same (by omega) (by omega)) (by omega) (by omega))
      simpa [wdop, evalP, Opd.ev, hI.z, putE, cpS, cpV] using this
    | 5, _ => 
      simp at ho
      subst ho
      have g := get 4 (by omega) (haf 4 (by simp))
      simp only [cpS, cpV] at g
      have := hR _ _ (hI.adv (i := 5) (by omega) (hI.same (by omega) (by omega)) (by omega) (by omega))
      simpa [wdop, evalP, Opd.ev, g, nilCheckV, putE, cpS, cpV] using this
    | 6, _ => 
      simp at ho
      subst ho
      have g := get 5 (by omega) (haf 5 (by simp))
      simp only [cpS, cpV] at g
      have := hR _ _ (hI.adv (i := 6) (by omega) (hI.same (by omega) (by omega)) (by omega) (by omega))
      simpa [wdop, evalP, Opd.ev, g, faddrV, putE, cpS, cpV] using this
    | 7, _ => 
      simp at ho
      subst ho
      have g := get 6 (by omega) (haf 6 (by simp))
      simp only [cpS, cpV] at g
      have := hR _ _ (hI.adv (i := 7) (by omega) (hI.same (by omega) (by omega)) (by omega) (by omega))
      simpa [wdop, evalP, Opd.ev, g, loadAt, ox, putE, cpS, cpV] using this
    | 8, _ => 
      simp at ho
      subst ho
      have g := get 7 (by omega) (haf 7 (by simp))
      simp only [cpS, cpV] at g
      have h10 : 10 ∉ S := fun hm => hni (hI.c (hI.d hm))
      have hs : s = σ.room 1 := by rw [hI.s]; simp [cpT, hni]
      have hl : s.objs.length = σ.objs.length + 1 := by rw [hs]; simp [St.room]
      have hs2 : (⟨s.objs ++ [.map es clock], s.toks⟩ : St) = cpT σ K0 K1 es clock (decide (8 ∈ 8 :: S)) (decide (10 ∈ 8 :: S)) := by rw [hs]; simp [cpT, h10, St.room]
      have := hR _ _ (hI.adv (i := 8) (by omega) hs2 (by omega) (by omega))
      simp only [wdop, wone, List.map_cons, List.map_nil, Opd.ev, g]
      refine use_raw (s_Clone oq) fun v s3 ⟨hv, hs3⟩ => ?_
      subst hv hs3
      simpa [putE, cpS, cpV, hl] using this
    | 9, _ => 
      simp at ho
      subst ho
      have g := get 3 (by omega) (haf 3 (by simp))
      have g2 := get 8 (by omega) (haf 8 (by simp))
      simp only [cpS, cpV] at g g2
      have := hR _ _ (hI.adv (i := 9) (by omega) (hI.same (by omega) (by omega)) (fun _ => haf 8 (by simp)) (by omega))
      simpa [wdop, evalP, Opd.ev, g, g2, fillV, splice, V.cells, mkAgg, ofD, putE, cpS, cpV] using this
    | 10, _ => 
      simp at ho
      subst ho
      have g := get 9 (by omega) (haf 9 (by simp))
      simp only [cpS, cpV] at g
      have h8 : 8 ∈ S := hI.c (haf 9 (by simp))
      have hs : s = ⟨σ.objs ++ [.free, .map es clock], σ.toks⟩ := by rw [hI.s]; simp [cpT, h8, hni]
      have of : s.objs[σ.objs.length]? = some .free := by rw [hs]; simp
      have hs2 : (⟨s.objs.set σ.objs.length (.cells [Wd K0, Wd K1, .map (σ.objs.length + 1)]), s.toks⟩ : St) = cpT σ K0 K1 es clock (decide (8 ∈ 10 :: S)) (decide (10 ∈ 10 :: S)) := by rw [hs]; simp [cpT, h8]
      have := hR _ _ (hI.adv (i := 10) (by omega) hs2 (by omega) (fun _ => haf 9 (by simp)))
      simp only [wdop]
      left
      simpa [evalE, Opd.ev, g, V.cells, newObj, St.place, St.spot, of, St.setObj, putE, cpS, cpV] using this
    | 11, _ => 
      simp at ho
      subst ho
      have g := get 10 (by omega) (haf 10 (by simp))
      simp only [cpS, cpV] at g
      have := hR _ _ (hI.adv (i := 11) (by omega) (hI.same (by omega) (by omega)) (by omega) (by omega))
      simpa [wdop, evalP, Opd.ev, g, putE, cpS, cpV] using this
  · intro S e s hI hall
    have g := hI.v 11 (by omega) (hall 11 (by simp))
    have h8 := hall 8 (by simp)
    have h10 := hall 10 (by simp)
    simp only [cpS, cpV] at g
    rw [hI.s]
    simpa [Env.pick, g, cpT, h8, h10] using hQ

theorem s_Copy {σ : St} {x q : Nat} {K0 K1 : W64} {es : List Ent} {clock : Nat} {M : List Item} (h : Ix σ x q (un K0) (un K1) es clock M) :
    Dn.Call Γ cx .raw 24 [.ref x 0] σ fun v s => v = .ref σ.objs.length 0 ∧ Ix s σ.objs.length (σ.objs.length + 1) (un K0) (un K1) es clock M ∧ Fr [] σ s ∧ s.toks = σ.toks := by
  refine Dn.Call.body (fc := c24) rfl ?_
  simp -implicitDefEqProofs [c24, c24_k2, eqV, V.isNil, Opd.isC, c24_k1, c24_k0]
  refine cp_drw h rfl ?_
  simp -implicitDefEqProofs
  refine ⟨⟨by simp, by simp [List.getElem?_append], h.mp, h.pl⟩, ⟨by simp, fun r _ hr => by simp only; rw [List.getElem?_append_left hr]⟩⟩

/-! ### a nil index -/
abbrev nilX : V := .d .nilp
theorem n_Len : Dn.Call Γ cx .val 30 [nilX] St.empty fun v _ => v = I 0 := by
  refine Dn.Call.body (fc := c30) rfl ?_
  simp -implicitDefEqProofs [c30, c30_k2, eqV, V.isNil, Opd.isC, c30_k1]
theorem n_IDs : Dn.Call Γ cx .val 31 [nilX] St.empty fun v _ => v = .d .nils := by
  refine Dn.Call.body (fc := c31) rfl ?_
  simp -implicitDefEqProofs [c31, c31_k2, eqV, V.isNil, Opd.isC, c31_k1]
theorem n_Hashes : Dn.Call Γ cx .val 32 [nilX] St.empty fun v _ => v = .d .nils := by
  refine Dn.Call.body (fc := c32) rfl ?_
  simp -implicitDefEqProofs [c32, c32_k8, c32_k7]
  refine use_fn rfl n_IDs rfl ?_
  simp -implicitDefEqProofs [lenT, lenV, c32_k6]
  refine wloopI (fun m e s => e = [(0, nilX), (3, .d .nils), (7, .d .nils), (8, I 0), (9, I 0)] ∧ s = St.empty) (m := 0) ⟨rfl, rfl⟩ ?_
  rintro m e s ⟨rfl, rfl⟩
  simp -implicitDefEqProofs [c32_l5, c32_k4, c32_k0]
theorem n_Salt : Dn.Call Γ cx .val 8 [nilX] St.empty fun v _ => v = .da [.int .u64 0, .int .u64 0] := by
  refine Dn.Call.body (fc := c8) rfl ?_
  simp -implicitDefEqProofs [c8, c8_k2, eqV, V.isNil, Opd.isC, c8_k1, mkAgg, ofD]
theorem n_Copy : Dn.Call Γ cx .val 24 [nilX] St.empty fun v _ => v = nilX := by
  refine Dn.Call.body (fc := c24) rfl ?_
  simp -implicitDefEqProofs [c24, c24_k2, eqV, V.isNil, Opd.isC, c24_k1]
theorem n_Has {t : List UInt8} (ht : t.length = 32) : Dn.Call Γ cx .val 11 [nilX, .da (hashD t)] St.empty fun v _ => v = B false := by
  refine Dn.Call.body (fc := c11) rfl ?_
  simp -implicitDefEqProofs [c11, c11_k3, eqV, V.isNil, Opd.isC, c11_k2]
theorem n_Remove {t : List UInt8} (ht : t.length = 32) : Dn.Call Γ cx .val 29 [nilX, .da (hashD t)] St.empty fun v _ => v = B false := by
  refine Dn.Call.body (fc := c29) rfl ?_
  simp -implicitDefEqProofs [c29, c29_k2, hashD_byV, byV_len, ht, byV_take ht, ofD_byV]
  refine use_fn rfl (n_Has ht) rfl ?_
  simp -implicitDefEqProofs [c29_k1]
theorem n_Put {t : List UInt8} (ht : t.length = 32) : Dn.Call Γ cx .val 28 [nilX, .da (hashD t)] St.empty fun v _ => v = errV 4 := by
  refine Dn.Call.body (fc := c28) rfl ?_
  simp -implicitDefEqProofs [c28, c28_k8, eqV, V.isNil, Opd.isC, c28_k7, mkifV, errV]
theorem n_Sketch : Dn.Call Γ cx .val 19 [nilX, I 3] St.empty fun v _ => v = .tup [nilX, errV 4] := by
  refine Dn.Call.body (fc := c19) rfl ?_
  simp -implicitDefEqProofs [c19, c19_k2, eqV, V.isNil, Opd.isC, c19_k1, mkifV, errV]
theorem n_Get {σ : St} (i : Int) : Dn.Call Γ cx .rd 13 [nilX, X i] σ fun v _ => v = gotV (gt [] i) := by
  refine Dn.Call.body (fc := c13) rfl ?_
  have hzm := hz_map
  have hzl : (List.replicate 32 (V.d (.int .u8 0))).length = 32 := List.length_replicate
  have hzd : (List.replicate 32 (V.d (.int .u8 0))).drop 32 = [] := List.drop_of_length_le (by rw [hzl]; omega)
  simp -implicitDefEqProofs [-List.reduceReplicate, c13, c13_k3, eqV, V.isNil, Opd.isC, c13_k2, hzm, hzl, hzd, mkAgg, ofD_z, gt, gotV]
  exact ⟨fun i hi => by simp [List.getElem?_append_left hi], fun t k ht => ht⟩
theorem s_Is (c k : Int) : Dn.Call Γ cx .val 20 [errV c, I k] St.empty fun v _ => v = B (decide (c = k)) := by
  refine Dn.Call.body (fc := c20) rfl ?_
  simp -implicitDefEqProofs [c20, c20_k0]
  refine use_fn (ds := [errV c]) (by simp only [byVals, errV_bv]) (s_Num c) (Bool.or_true _) ?_
  simp -implicitDefEqProofs

open Sip

/-! ### the third law's end: a nil index -/
set_option maxHeartbeats 2000000 in
theorem cp_k0 {s : St} {w24 w25 : D} (h24 : LV (.d w24) (hRows [])) (h25 : LV (.d w25) (uRows [5, 6])) :
    wcode (Dn.Call Γ cx) cx c5_k0 [(21, nilX), (23, errV 4), (24, .d w24), (25, .d w25), (27, B false)] s lawQ := by
  have hp : Dn.Call Γ cx .val 28 [nilX, .da (List.replicate 32 (.int .u8 0))] St.empty fun v _ => v = errV 4 := by rw [← z32_D]; exact n_Put z32_len
  have hr : Dn.Call Γ cx .val 29 [nilX, .da (List.replicate 32 (.int .u8 0))] St.empty fun v _ => v = B false := by rw [← z32_D]; exact n_Remove z32_len
  have hh : Dn.Call Γ cx .val 11 [nilX, .da (List.replicate 32 (.int .u8 0))] St.empty fun v _ => v = B false := by rw [← z32_D]; exact n_Has z32_len
  have es0 : ∀ a b, eqV .flat [.int .u64, .int .u64] (.da [.int .u64 0, .int .u64 0]) (.da [.int .u64 0, .int .u64 0]) a b = some true := eq_salt 0 0
  have hl24 := fun σ => h24.len σ
  simp [hRows] at hl24
  simp -implicitDefEqProofs [-List.reduceReplicate, c5_k0, hz_map, ofD_z]
  refine use_fn rfl hp rfl ?_
  simp only [q_cont, putE, Env.set]
  simp only [i_call]
  simp [List.map_cons, List.map_nil, Opd.ev, Env.get]
  refine use_fn (ds := [errV 4, I 4]) (by simp only [byVals, errV_bv, bv_d]) (s_Is 4 4) (Bool.or_true _) ?_
  simp -implicitDefEqProofs [-List.reduceReplicate]
  refine use_fn (ds := [errV 4, I 4]) (by simp only [byVals, errV_bv, bv_d]) (s_Is 4 4) (Bool.or_true _) ?_
  simp -implicitDefEqProofs [-List.reduceReplicate, hz_map, ofD_z]
  refine use_fn rfl hr rfl ?_
  simp -implicitDefEqProofs [-List.reduceReplicate, hz_map, ofD_z]
  refine use_fn rfl hh rfl ?_
  simp -implicitDefEqProofs [-List.reduceReplicate]
  refine use_fn rfl n_Len rfl ?_
  simp -implicitDefEqProofs [-List.reduceReplicate]
  refine use_fn rfl n_IDs rfl ?_
  have ln : ∀ σ, lenT σ .slice (.d .nils) = some 0 := fun _ => rfl
  have w0 : IntKind.i64.wrap 0 = 0 := rfl
  simp -implicitDefEqProofs [-List.reduceReplicate, ln]
  refine use_fn rfl n_Hashes rfl ?_
  simp -implicitDefEqProofs [-List.reduceReplicate, ln, hl24, w0, repl, rowsOf, frzV]
  refine use_fn (ds := [.d w25, .d (.list (uRows [5, 6]))]) rfl (s_Words h25 (.list _) (by simp)) rfl ?_
  simp -implicitDefEqProofs [-List.reduceReplicate]
  refine use_fn rfl n_Salt rfl ?_
  simp -implicitDefEqProofs [-List.reduceReplicate, mkAgg, ofD, es0]
  refine use_fn rfl n_Copy rfl ?_
  simp -implicitDefEqProofs [eqV, V.isNil, Opd.isC]

open Sip

/-! ### the third law: a nil index's questions -/
theorem cp_k4 {s : St} : wcode (Dn.Call Γ cx) cx c5_k4 [(134, B false)] s lawQ := by
  simp -implicitDefEqProofs [c5_k4, c5_k3]
  refine use_fn rfl n_Sketch rfl ?_
  simp -implicitDefEqProofs [c5_k2, repl, rowsOf, frzV]
  refine use_rd' (s_PartG (M := []) (by simp) (fun s i _ _ _ => n_Get i) (d := .fl [[.int .u32 5], [.int .u32 6], [.int .u32 5]]) (ids := [5, 6, 5]) (.fl _) (fun r t st s e => nomatch e) (by simp) (by simp)) fun v s' ⟨a, b, hv, ha, hb⟩ => ?_
  subst hv
  have hpt : pt [] [5, 6, 5] [(5 : Int), 6, 5].length = ([], [5, 6]) := by simp [pt, gt]
  rw [hpt] at ha hb
  have hzl : (List.replicate 32 (V.d (.int .u8 0))).length = 32 := List.length_replicate
  have hzd : (List.replicate 32 (V.d (.int .u8 0))).drop 32 = [] := List.drop_of_length_le (by rw [hzl]; omega)
  simp -implicitDefEqProofs [c5_k1]
  refine use_rd (n_Get 5) ?_
  simp -implicitDefEqProofs [-List.reduceReplicate, gt, gotV, hz_map, hzl, hzd]
  exact cp_k0 ha hb

open Sip

/-! ### the third law: an index of a list -/
theorem cp_k7 {s : St} {K0 K1 : W64} {v w : V} {L : List (List UInt8)} {M : List Item} {c : Int} (o0 : s.objs[0]? = some (.cells [Wd K0, Wd K1])) (hv : LV v (hRows L)) (hL : ∀ t ∈ L, t.length = 32) (hlen : L.length ≤ 89) (hw : LV w (mRows M)) (hpa : putAll K0 K1 L [] = (M, c)) {a b d e : V} :
    wcode (Dn.Call Γ cx) cx c5_k7 [(3, .ref 0 0), (13, v), (16, w), (17, I c), (92, a), (93, b), (94, d), (95, e)] s lawQ := by
  simp -implicitDefEqProofs [c5_k7, o0, mkAgg, ofD]
  refine use_raw (s_New K0 K1 hv hL hlen) fun r s2 hP => ?_
  rcases hP.r with ⟨hc, x, q, es, clock, hr, -, -, hix, hon⟩ | ⟨hc, hr⟩
  · rw [hpa] at hc hix
    simp only at hc hix
    subst hc hr
    simp -implicitDefEqProofs [c5_k6]
    refine use_fn (ds := [errV 0]) rfl (s_Num 0) rfl ?_
    simp -implicitDefEqProofs [eqV, V.isNil, Opd.isC]
    refine use_rd (s_stands hix hw) ?_
    simp -implicitDefEqProofs [c5_k5]
    exact cp_k4
  · rw [hpa] at hc hr
    simp only at hc hr
    subst hr
    simp -implicitDefEqProofs [c5_k6]
    refine use_fn (ds := [errV c]) (by simp only [byVals, errV_bv]) (s_Num c) (Bool.or_true _) ?_
    simp -implicitDefEqProofs [hc, eqV, V.isNil, Opd.isC, c5_k5]
    exact cp_k4

structure AllS (K0 K1 : W64) (L : List (List UInt8)) (i : Nat) (w : V) (M : List Item) (c : Int) : Prop where
  w : LV w (mRows M)
  p : Plain M
  h : Hon K0 K1 M
  n : M.length ≤ i
  a0 : c = 0 → putAll K0 K1 L [] = putAll K0 K1 (L.drop i) M
  a1 : c ≠ 0 → putAll K0 K1 L [] = (M, c)
def InvAll (K0 K1 : W64) (v : V) (L : List (List UInt8)) (m : Nat) (e : Env) (s : St) : Prop := ∃ (i : Nat) (w : V) (M : List Item) (c : Int), e = [(3, .ref 0 0), (13, v), (16, w), (17, I c), (92, v), (93, I L.length), (94, I i)] ∧ i ≤ L.length ∧ m = L.length - i ∧ s.objs[0]? = some (.cells [Wd K0, Wd K1]) ∧ AllS K0 K1 L i w M c

theorem cp_k16 {s : St} {K0 K1 : W64} {v : V} {L : List (List UInt8)} (o0 : s.objs[0]? = some (.cells [Wd K0, Wd K1])) (hv : LV v (hRows L)) (hL : ∀ t ∈ L, t.length = 32) (hlen : L.length ≤ 89) {a b d e : V} :
    wcode (Dn.Call Γ cx) cx c5_k16 [(3, .ref 0 0), (13, v), (79, a), (80, b), (81, d), (82, e)] s lawQ := by
  have hlv : ∀ σ, lenT σ .slice v = some L.length := fun σ => by rw [hv.len, hRows_len]
  simp -implicitDefEqProofs [c5_k16, repl, rowsOf]
  simp -implicitDefEqProofs [c5_k15, hlv, c5_k14]
  refine wloopI (InvAll K0 K1 v L) (m := L.length) ⟨0, .fl [], [], 0, rfl, by omega, rfl, o0, ⟨.fl [], ⟨by simp, by simp, by simp, by simp⟩, (by intro p hp; cases hp), by simp, fun _ => rfl, fun h => absurd rfl h⟩⟩ ?_
  rintro m e s ⟨i, w, M, c, rfl, hi, rfl, o0, hA⟩
  by_cases hil : i < L.length
  rotate_left
  · obtain rfl : i = L.length := by omega
    have hpa : putAll K0 K1 L [] = (M, c) := by
      by_cases hc : c = 0
      · rw [hA.a0 hc, List.drop_length, putAll, hc]
      · exact hA.a1 hc
    simp -implicitDefEqProofs [c5_l13, c5_k12]
    exact cp_k7 o0 hv hL hlen hA.w hpa
  have hii : (i : Int) < L.length := by omega
  obtain ⟨t, ht⟩ : ∃ t, L[i]? = some t := ⟨_, List.getElem?_eq_getElem hil⟩
  have ht32 := hL t (List.mem_of_getElem? ht)
  have htl := hashD_len t
  rw [ht32] at htl
  have htk : List.take 32 (hashD t) = hashD t := List.take_of_length_le (by omega)
  have hia := fun σ => hv.iaddr σ (k := .i64) (sz := 32) (i := i) (hRows_at ht) htl
  have hdr : L.drop i = t :: L.drop (i + 1) := by
    obtain ⟨hi', rfl⟩ := List.getElem?_eq_some_iff.1 ht
    exact List.drop_eq_getElem_cons hi'
  have hzl : (List.replicate 32 (V.d (.int .u8 0))).length = 32 := List.length_replicate
  have hzd : (List.replicate 32 (V.d (.int .u8 0))).drop 32 = [] := List.drop_of_length_le (by rw [hzl]; omega)
  have h0l : 0 < s.objs.length := (List.getElem?_eq_some_iff.1 o0).1
  have o1 : (s.objs ++ [.cells (byV t)])[0]? = some (.cells [Wd K0, Wd K1]) := by rw [List.getElem?_append_left h0l]; exact o0
  have ot : (s.objs ++ [.cells (byV t)])[s.objs.length]? = some (.cells (byV t)) := by simp
  have w9 : IntKind.i64.wrap ((i : Int) + 1) = ((i + 1 : Nat) : Int) := by rw [wrap_i64 (by omega) (by omega)]; omega
  clear hil h0l
  simp -implicitDefEqProofs [-List.reduceReplicate, c5_l13, c5_k12, hii, c5_k11, c5_k10, hia, htl, htk, hashD_byV, byV_len, ht32, hzd]
  obtain ⟨s1, hs1⟩ : ∃ s' : St, (⟨s.objs ++ [.cells (byV t)], s.toks⟩ : St) = s' := ⟨_, rfl⟩
  have o1' : s1.objs[0]? = some (.cells [Wd K0, Wd K1]) := by rw [← hs1]; exact o1
  have ot' : s1.objs[s.objs.length]? = some (.cells (byV t)) := by rw [← hs1]; exact ot
  rw [hs1]
  clear hs1 o1 ot
  by_cases hc : c = 0
  · subst hc
    have hp0 := hA.a0 rfl
    rw [hdr, putAll] at hp0
    obtain ⟨p1, p2, p3⟩ := putI_plain hA.p hA.h ht32 (by have := hA.n; omega)
    have hdv := hA.w.dv s1
    obtain ⟨y, hy⟩ := hdv.2.2.1
    have hbr := lv_br hA.w
    simp -implicitDefEqProofs [c5_k9, c5_k8, o1', ot', byV_len, ht32, byV_take ht32, ofD_byV, mkAgg, ofD]
    refine use_val (ds := [.d y, .da [.int .u64 (un K0), .int .u64 (un K1)], .da (hashD t)]) (by simp only [byVals, bv_da, hdv.1, hy]) (s_rPut K0 K1 (hy ▸ hdv.2.1) hA.p.h (by have := hA.n; omega) ht32) fun r _ ⟨d', hr, hd'⟩ => ?_
    subst hr
    refine ⟨rfl, (fun h => by simp only [List.any_cons, List.any_nil, hbr] at h; cases h), ?_⟩
    have hn := hA.n
    simp -implicitDefEqProofs [w9]
    refine ⟨L.length - (i + 1), by omega, i + 1, .d d', _, _, rfl, by omega, rfl, o1', ⟨hd', p1, p2, by omega, fun h0 => ?_, fun h0 => ?_⟩⟩
    · rw [hp0, if_pos h0]
    · rw [hp0, if_neg h0]
  · simp -implicitDefEqProofs [hc, c5_k9, c5_k8, w9]
    exact ⟨L.length - (i + 1), by omega, i + 1, w, M, c, rfl, by omega, rfl, o1', ⟨hA.w, hA.p, hA.h, by have := hA.n; omega, fun h0 => absurd h0 hc, hA.a1⟩⟩

def InvLst (K0 K1 : W64) (ds : D) (S : List Act) (m : Nat) (e : Env) (s : St) : Prop := ∃ (i : Nat) (v : V), e = [(3, .ref 0 0), (13, v), (79, .d ds), (80, I S.length), (81, I i)] ∧ i ≤ S.length ∧ m = S.length - i ∧ s.objs[0]? = some (.cells [Wd K0, Wd K1]) ∧ App s 32 v (hRows ((S.take i).map (·.2)))

theorem cp_k23 {s : St} {K0 K1 : W64} (o0 : s.objs[0]? = some (.cells [Wd K0, Wd K1])) {ds : D} {S : List Act} (hs : LV (.d ds) (aRows S)) (hS : ∀ a ∈ S, a.2.length = 32) (hlen : S.length ≤ 30) {a : V} :
    wcode (Dn.Call Γ cx) cx c5_k23 [(1, .d ds), (3, .ref 0 0), (77, a)] s lawQ := by
  have hls : ∀ σ, lenT σ .slice (.d ds) = some S.length := fun σ => by rw [hs.len, aRows_len]
  simp -implicitDefEqProofs [-List.reduceReplicate, c5_k23, repl, rowsOf]
  simp -implicitDefEqProofs [c5_k22, hls, c5_k21]
  refine wloopI (InvLst K0 K1 ds S) (m := S.length) ⟨0, .fl [], rfl, by omega, rfl, o0, .fl []⟩ ?_
  rintro m e s ⟨i, v, rfl, hi, rfl, o0, hv⟩
  have h32 : ∀ t ∈ (S.take i).map (·.2), t.length = 32 := fun t ht => by
    obtain ⟨a, ha, rfl⟩ := List.mem_map.1 ht
    exact hS a (List.mem_of_mem_take ha)
  by_cases hil : i < S.length
  rotate_left
  · obtain rfl : i = S.length := by omega
    rw [List.take_length] at hv h32
    simp -implicitDefEqProofs [c5_l20, c5_k19]
    exact cp_k16 o0 hv.lv h32 (by simp; omega)
  have hii : (i : Int) < S.length := by omega
  obtain ⟨a, ha⟩ : ∃ a, S[i]? = some a := ⟨_, List.getElem?_eq_getElem hil⟩
  have ha32 := hS a (List.mem_of_getElem? ha)
  have har := actRow_len ha32
  have hiv := fun σ => hs.iaddr σ (k := .i64) (sz := 33) (i := i) (aRows_at ha) har
  have htk : List.take 33 (actRow a) = actRow a := List.take_of_length_le (by omega)
  have hcs : (actRow a).map V.d = B a.1 :: byV a.2 := by simp [actRow, hashD_byV]
  have hta : S.take (i + 1) = S.take i ++ [a] := by rw [List.take_add_one, ha]; rfl
  have h0l : 0 < s.objs.length := (List.getElem?_eq_some_iff.1 o0).1
  have o1 : (s.objs ++ [.cells (B a.1 :: byV a.2)])[0]? = some (.cells [Wd K0, Wd K1]) := by rw [List.getElem?_append_left h0l]; exact o0
  have oa : (s.objs ++ [.cells (B a.1 :: byV a.2)])[s.objs.length]? = some (.cells (B a.1 :: byV a.2)) := by simp
  have hhl := hashD_len a.2
  rw [ha32] at hhl
  have htk2 : List.take 32 (hashD a.2) = hashD a.2 := List.take_of_length_le (by omega)
  have w9 : IntKind.i64.wrap ((i : Int) + 1) = ((i + 1 : Nat) : Int) := by rw [wrap_i64 (by omega) (by omega)]; omega
  have hv1 : App ⟨s.objs ++ [.cells (B a.1 :: byV a.2)], s.toks⟩ 32 v (hRows ((S.take i).map (·.2))) := hv.toks rfl
  obtain ⟨v2, s2, hap, happ, ho, -, -⟩ := hv1.push (bytes := 32) (by decide) (hRows_fit h32) (ys := hRows [a.2]) (hRows_fit (by simp [ha32])) (by simp [hRows_len]; omega) (by simp [hRows_len]; omega)
  rw [show hRows ((S.take i).map (·.2)) ++ hRows [a.2] = hRows ((S.take (i + 1)).map (·.2)) by rw [hta]; simp [hRows]] at happ
  clear hil h0l
  simp -implicitDefEqProofs [c5_l20, c5_k19, hii, c5_k18, hiv, har, htk]
  rw [hcs]
  simp -implicitDefEqProofs [-List.reduceReplicate, c5_k17, oa, byV_len, ha32, byV_take ha32, ofD_byV, hashD_byV, repl, rowsOf, frz_hash, frz_byV, frzV, hhl, htk2]
  refine i_app_f (v := v2) (s := s2) ?_ ?_
  · simp -implicitDefEqProofs [V.rows]
    exact hap none
  simp -implicitDefEqProofs [w9]
  exact ⟨S.length - (i + 1), by omega, i + 1, v2, rfl, by omega, rfl, by rw [ho]; exact o1, happ⟩

open Sip

/-! ### the third law -/
theorem stepM_len (K0 K1 : W64) (M : List Item) (a : Act) : (stepM K0 K1 M a).length ≤ M.length + 1 := by
  unfold stepM
  split
  · have := List.length_filter_le (fun p : Item => decide (p.2 ≠ a.2)) M
    simp only [del]
    omega
  · simp only [putI]
    split
    · simp
    · rw [(ins_perm _ _ M).length_eq]; simp
theorem playM_len (K0 K1 : W64) : ∀ (l : List Act) (M : List Item), (playM K0 K1 l M).length ≤ M.length + l.length
  | [], M => by simp [playM]
  | a :: r, M => by
    have h1 := playM_len K0 K1 r (stepM K0 K1 M a)
    have h2 := stepM_len K0 K1 M a
    have : playM K0 K1 (a :: r) M = playM K0 K1 r (stepM K0 K1 M a) := rfl
    rw [this]
    simp
    omega

theorem law5 {x0 : List D} {x1 x2 : D} (h0 : Lks [.int .u64, .int .u64] x0) (h1 : (Lk.list actK).fits x1) (h2 : (Lk.list actK).fits x2) : Dn.Call Γ cx .val 5 [.da x0, .d x1, .d x2] St.empty fun r _ => r = B true := by
  obtain ⟨K0, K1, rfl⟩ := salt_of h0
  obtain ⟨S, hS, hs⟩ := acts_fit h1
  obtain ⟨T, hT, ht⟩ := acts_fit h2
  refine Dn.Call.body (fc := c5) rfl ?_
  have hls : ∀ σ, lenT σ .slice (.d x1) = some S.length := fun σ => by rw [hs.len, aRows_len]
  have hli : ∀ σ, lenT σ .slice (.d x2) = some T.length := fun σ => by rw [ht.len, aRows_len]
  simp -implicitDefEqProofs [c5, c5_k37]
  refine use_fn rfl s_alive rfl ?_
  rcases hb1 : decide ((30 : Int) < S.length) with _ | _
  rotate_left
  · simp -implicitDefEqProofs [c5_k36, c5_k35, hls, show (30 : Int) < S.length from of_decide_eq_true hb1, c5_k34]
  have hSle : (S.length : Int) ≤ 30 := Int.not_lt.1 (of_decide_eq_false hb1)
  rcases hb2 : decide ((30 : Int) < T.length) with _ | _
  rotate_left
  · simp -implicitDefEqProofs [c5_k36, c5_k35, hls, hli, Int.not_lt.2 hSle, show (30 : Int) < T.length from of_decide_eq_true hb2, c5_k34]
  have hTle : (T.length : Int) ≤ 30 := Int.not_lt.1 (of_decide_eq_false hb2)
  simp -implicitDefEqProofs [c5_k36, c5_k35, hls, hli, Int.not_lt.2 hSle, Int.not_lt.2 hTle, c5_k34]
  simp -implicitDefEqProofs [c5_k33, mkAgg, ofD]
  refine use_raw (s_New K0 K1 (d := .d .nils) (L := []) .nil (by simp) (by simp)) fun v s hP => ?_
  rcases hP.r with ⟨-, x, q, es, clock, hv, hx1, hq1, hix, hon⟩ | ⟨hc, -⟩
  rotate_left
  · exact absurd rfl hc
  have o0 : s.objs[0]? = some (.cells [Wd K0, Wd K1]) := hP.fr.get (by simp) (by simp)
  simp only [putAll] at hix hon
  simp at hx1 hq1
  subst hv
  simp -implicitDefEqProofs [c5_k32, eqV, V.isNil, Opd.isC, c5_k31]
  simp -implicitDefEqProofs [c5_k30, o0, mkAgg, ofD]
  refine use_raw (s_play hix hon .nil hs hS (by simp; omega)) fun v s2 hp => ?_
  obtain ⟨d, hv, hd⟩ := hp.r
  obtain ⟨es2, clock2, hix2⟩ := hp.ix
  have hlen := playM_len K0 K1 S []
  have o2 : s2.objs[0]? = some (.cells [Wd K0, Wd K1]) := hp.fr.get o0 (by simp; omega)
  have ho2 := hp.ho
  generalize playM K0 K1 S [] = M at *
  subst hv
  simp -implicitDefEqProofs [c5_k29, c5_k28, c5_k27]
  refine use_raw (s_Copy hix2) fun v s3 ⟨hv, hix3, hfr3, htk3⟩ => ?_
  subst hv
  have o3 := hfr3.get o2 (by simp)
  have hix3' := hix2.mono hfr3
  have hxl : x < s2.objs.length := (List.getElem?_eq_some_iff.1 hix2.o).1
  have hql : q < s2.objs.length := (List.getElem?_eq_some_iff.1 hix2.m).1
  simp -implicitDefEqProofs [c5_k26, o3, mkAgg, ofD]
  refine use_raw (s_play hix3 ho2 hd ht hT (by simp at hlen; omega)) fun v s4 hp4 => ?_
  obtain ⟨d4, hv4, hd4⟩ := hp4.r
  obtain ⟨es4, clock4, hix4⟩ := hp4.ix
  have o4 : s4.objs[0]? = some (.cells [Wd K0, Wd K1]) := hp4.fr.get o3 (by simp)
  have hixx : Ix s4 x q (un K0) (un K1) es2 clock2 M := ⟨hp4.fr.get hix3'.o (by simp; omega), hp4.fr.get hix3'.m (by simp; omega), hix3'.mp, hix3'.pl⟩
  subst hv4
  simp -implicitDefEqProofs [c5_k25]
  refine use_rd (s_stands hixx hd) ?_
  simp -implicitDefEqProofs
  refine use_rd (s_stands hix4 hd4) ?_
  simp -implicitDefEqProofs [c5_k24]
  exact cp_k23 o4 hs hS (by omega)
end Go.Proofs.Ytmcojkkpanijjaa.T

namespace Go.Proofs.Ytmcojkkpanijjaa.T
set_option linter.unusedSimpArgs false
set_option linter.unusedVariables false

/-! ### the field of 2^32 elements, plainly -/
namespace Gf
abbrev W := BitVec 32
def sh (a : W) : W := if a.msb = true then (a <<< 1) ^^^ 0x8d#32 else a <<< 1
theorem xcc (x y c : W) : x ^^^ y = (x ^^^ c) ^^^ (y ^^^ c) := by
  apply BitVec.eq_of_getLsbD_eq
  intro i hi
  simp only [BitVec.getLsbD_xor]
  cases x.getLsbD i <;> cases y.getLsbD i <;> cases c.getLsbD i <;> rfl
theorem xc1 (x y c : W) : (x ^^^ y) ^^^ c = x ^^^ (y ^^^ c) := BitVec.xor_assoc x y c
theorem xc2 (x y c : W) : (x ^^^ y) ^^^ c = (x ^^^ c) ^^^ y := by rw [BitVec.xor_assoc, BitVec.xor_comm y, BitVec.xor_assoc]
theorem sh_xor (a b : W) : sh (a ^^^ b) = sh a ^^^ sh b := by
  unfold sh
  rw [BitVec.msb_xor, BitVec.shiftLeft_xor_distrib]
  generalize a <<< 1 = x
  generalize b <<< 1 = y
  cases a.msb <;> cases b.msb
  · rfl
  · exact xc1 x y _
  · exact xc2 x y _
  · exact xcc x y _
theorem sh_zero : sh 0 = 0 := by decide
/-- So many times x. -/
def pw : Nat → W → W
  | 0, a => a
  | n + 1, a => sh (pw n a)
theorem pw_xor (a b : W) : ∀ n, pw n (a ^^^ b) = pw n a ^^^ pw n b
  | 0 => rfl
  | n + 1 => by simp only [pw]; rw [pw_xor a b n, sh_xor]
theorem pw_zero : ∀ n, pw n 0 = 0
  | 0 => rfl
  | n + 1 => by simp only [pw]; rw [pw_zero n, sh_zero]
theorem pw_add (a : W) (m : Nat) : ∀ n, pw (n + m) a = pw n (pw m a)
  | 0 => by simp [pw]
  | n + 1 => by
    rw [show n + 1 + m = (n + m) + 1 by omega]
    simp only [pw]
    rw [pw_add a m n]

/-- The sum of so many. -/
def sum : Nat → (Nat → W) → W
  | 0, _ => 0
  | n + 1, f => sum n f ^^^ f n
theorem sum_xor (f g : Nat → W) : ∀ n, sum n (fun i => f i ^^^ g i) = sum n f ^^^ sum n g
  | 0 => by simp [sum]
  | n + 1 => by
    simp only [sum]
    rw [sum_xor f g n]
    generalize sum n f = a
    generalize sum n g = b
    rw [BitVec.xor_assoc, BitVec.xor_assoc, ← BitVec.xor_assoc b, BitVec.xor_comm b, BitVec.xor_assoc (f n)]
theorem sum_congr {f g : Nat → W} : ∀ {n : Nat}, (∀ i, i < n → f i = g i) → sum n f = sum n g
  | 0, _ => rfl
  | n + 1, h => by simp only [sum]; rw [sum_congr fun i hi => h i (by omega), h n (by omega)]
theorem sum_zero : ∀ n, sum n (fun _ => 0) = 0
  | 0 => rfl
  | n + 1 => by simp only [sum]; rw [sum_zero n]; simp
/-- What is linear goes through a sum. -/
theorem sum_lin {φ : W → W} (h0 : φ 0 = 0) (hx : ∀ a b, φ (a ^^^ b) = φ a ^^^ φ b) (f : Nat → W) : ∀ n, φ (sum n f) = sum n fun i => φ (f i)
  | 0 => by simpa [sum] using h0
  | n + 1 => by simp only [sum]; rw [hx, sum_lin h0 hx f n]
theorem sum_swap (f : Nat → Nat → W) (m : Nat) : ∀ n, sum n (fun i => sum m (fun j => f i j)) = sum m fun j => sum n fun i => f i j
  | 0 => by simp only [sum]; exact (sum_zero m).symm
  | n + 1 => by
    simp only [sum]
    rw [sum_swap f m n, ← sum_xor]

def bit (b : Bool) (a : W) : W := if b = true then a else 0
theorem bit_xor (b : Bool) (x y : W) : bit b (x ^^^ y) = bit b x ^^^ bit b y := by cases b <;> simp [bit]
theorem bit_xorb (b c : Bool) (x : W) : bit (b ^^ c) x = bit b x ^^^ bit c x := by cases b <;> cases c <;> simp [bit]
theorem bit_zero (b : Bool) : bit b 0 = 0 := by cases b <;> rfl
theorem bit_pw (b : Bool) (n : Nat) (x : W) : pw n (bit b x) = bit b (pw n x) := by
  cases b
  · exact pw_zero n
  · rfl

/-- A product. -/
def mul (a b : W) : W := sum 32 fun i => bit (b.getLsbD i) (pw i a)
theorem mul_xor (a b c : W) : mul a (b ^^^ c) = mul a b ^^^ mul a c := by
  unfold mul
  rw [← sum_xor]
  exact sum_congr fun i _ => by rw [BitVec.getLsbD_xor, bit_xorb]
theorem mul_zero (a : W) : mul a 0 = 0 := by
  unfold mul
  exact (sum_congr (g := fun _ => 0) fun i _ => by rw [show BitVec.getLsbD (0 : W) i = false from BitVec.getLsbD_zero]; rfl).trans (sum_zero 32)
theorem mul_pw_left (a b : W) (n : Nat) : mul (pw n a) b = pw n (mul a b) := by
  unfold mul
  rw [sum_lin (pw_zero n) (fun a b => pw_xor a b n)]
  refine sum_congr fun i _ => ?_
  rw [bit_pw, ← pw_add, ← pw_add, Nat.add_comm]
/-- An element is the sum of its bits. -/
theorem pw_one : ∀ j, j < 32 → pw j 1 = 1#32 <<< j := by decide +kernel
theorem sum_bits (a : W) : sum 32 (fun j => bit (a.getLsbD j) (pw j 1)) = a := by
  have key : ∀ n, n ≤ 32 → sum n (fun j => bit (a.getLsbD j) (pw j 1)) = a &&& (BitVec.ofNat 32 (2 ^ n - 1)) := by
    intro n
    induction n with
    | zero => intro _; simp [sum]
    | succ n ih =>
      intro hn
      simp only [sum]
      rw [ih (by omega), pw_one n (by omega)]
      apply BitVec.eq_of_getLsbD_eq
      intro i hi
      have hb : ∀ b : Bool, (bit b (1#32 <<< n)).getLsbD i = (b && decide (i = n)) := fun b => by
        cases b
        · simp [bit]
        · simp only [bit, if_true, BitVec.getLsbD_shiftLeft, Bool.true_and, BitVec.getLsbD_one]
          by_cases h1 : i < n
          · simp [h1, Nat.ne_of_lt h1]
          · by_cases h2 : i = n
            · simp [h2]; omega
            · simp [h1, h2]; omega
      rw [BitVec.getLsbD_xor, BitVec.getLsbD_and, BitVec.getLsbD_and, hb, BitVec.getLsbD_ofNat, BitVec.getLsbD_ofNat, Nat.testBit_two_pow_sub_one, Nat.testBit_two_pow_sub_one]
      by_cases h1 : i < n
      · simp [h1, hi, Nat.ne_of_lt h1, show i < n + 1 by omega]
      · by_cases h2 : i = n
        · subst h2; simp [hi]
        · simp [h1, h2, show ¬ i < n + 1 by omega]
  have := key 32 (by omega)
  rw [this]
  have h1 : BitVec.ofNat 32 (2 ^ 32 - 1) = BitVec.allOnes 32 := rfl
  rw [h1, BitVec.and_allOnes]
theorem mul_comm (a b : W) : mul a b = mul b a := by
  have h1 : mul a b = sum 32 fun i => sum 32 fun j => bit (b.getLsbD i) (bit (a.getLsbD j) (pw (i + j) 1)) := by
    conv => lhs; rw [← sum_bits a]
    unfold mul
    refine sum_congr fun i _ => ?_
    rw [sum_lin (pw_zero i) (fun a b => pw_xor a b i), sum_lin (bit_zero _) (bit_xor _)]
    exact sum_congr fun j _ => by rw [bit_pw, pw_add]
  have h2 : mul b a = sum 32 fun j => sum 32 fun i => bit (b.getLsbD i) (bit (a.getLsbD j) (pw (i + j) 1)) := by
    conv => lhs; rw [← sum_bits b]
    unfold mul
    refine sum_congr fun j _ => ?_
    rw [sum_lin (pw_zero j) (fun a b => pw_xor a b j), sum_lin (bit_zero _) (bit_xor _)]
    exact sum_congr fun i _ => by
      rw [bit_pw, ← pw_add, Nat.add_comm]
      cases a.getLsbD j <;> cases b.getLsbD i <;> simp [bit]
  rw [h1, h2, sum_swap]
theorem mul_assoc (a b c : W) : mul a (mul b c) = mul (mul a b) c := by
  have h : ∀ i x, mul a (pw i x) = pw i (mul a x) := fun i x => by rw [mul_comm, mul_pw_left, mul_comm]
  conv => lhs; rw [show mul b c = sum 32 fun i => bit (c.getLsbD i) (pw i b) from rfl]
  rw [sum_lin (mul_zero a) (mul_xor a)]
  unfold mul
  refine sum_congr fun i _ => ?_
  have h2 := h i b
  unfold mul at h2
  cases c.getLsbD i
  · have := mul_zero a
    unfold mul at this
    simpa [bit] using this
  · simpa [bit] using h2
theorem one_mul (a : W) : mul 1 a = a := by
  unfold mul
  exact sum_bits a
theorem mul_one (a : W) : mul a 1 = a := by rw [mul_comm, one_mul]

/-- A power. -/
def npow (a : W) : Nat → W
  | 0 => 1
  | n + 1 => mul (npow a n) a
theorem npow_add (a : W) (m : Nat) : ∀ n, npow a (m + n) = mul (npow a m) (npow a n)
  | 0 => (mul_one _).symm
  | n + 1 => by
    rw [show m + (n + 1) = (m + n) + 1 by omega]
    simp only [npow]
    rw [npow_add a m n, mul_assoc]
end Gf
end Go.Proofs.Ytmcojkkpanijjaa.T

namespace Go.Proofs.Ytmcojkkpanijjaa.T
open Go.Dn
attribute [local simp] body_eq globEnv GB List.map_nil List.map_cons List.append_nil w_rangeF i_next i_makeMap i_range i_update i_delete i_entry i_clone entryV cloneV q_rndA q_rndB_n q_rndB_e q_rndB_r setAll w_skip w_ops w_seq w_cond w_block w_exit w_ret q_then_n q_then_e q_then_r q_blk_n q_blk_e q_blk_r q_ops q_cont q_end_n q_end_r q_end_e q_loop_n q_loop_e q_loop_r i_nil i_p i_alloc i_box i_store i_copy i_clear i_call i_callv i_when t_nil t_p t_call t_alloc t_box t_store kept_nil t_copy t_clear q_tcont gsel List.cons_append List.nil_append evalP evalE evalF evalB isObj thaw Opd.ev Env.get Env.set Env.pick putE initEnv evalBin intBin evalUn evalConv goneAll goneOne retV resAll Res.ev tupOf byVals byValsN bv_d bv_da bv_fl bv_tl bn_d bn_da bn_fl bn_tl cx Dn.newObj St.place St.push St.spot St.empty cell_d cell_da cell_agg cell_ref cell_sl cell_fl cell_tl cell_map cell_fn cell_ifc loadAt faddrV partOf extractV mkAgg ofD splice St.setObj fillV
set_option linter.unusedSimpArgs false
set_option linter.unusedVariables false

/-! ### the program's field -/
abbrev Xw (x : W32) : V := .d (.int .u32 (un x))
theorem shl_32 (x : W32) (n : Nat) (h : n < 32) : shiftBin .shl .u32 (un x) (n : Int) = some (Xw (x <<< n)) := by
  have hb : IntKind.u32.bits = 32 := rfl
  have h1 : ¬ ((n : Int) < 0) := by omega
  have hm : min n 32 = n := by omega
  have h2 := shl_u32 x n
  simp only [shiftBin, h1, if_false, hb, Int.toNat_natCast, hm, h2]
theorem shr_32 (x : W32) (n : Nat) (h : n < 32) : shiftBin .shr .u32 (un x) (n : Int) = some (Xw (x >>> n)) := by
  have hb : IntKind.u32.bits = 32 := rfl
  have h1 : ¬ ((n : Int) < 0) := by omega
  have hm : min n 32 = n := by omega
  have h2 := shr_u32 x n
  simp only [shiftBin, h1, if_false, hb, Int.toNat_natCast, hm, h2]
theorem top_and (x : W32) : bits .and .u32 (un x) 2147483648 = if x.msb = true then 2147483648 else 0 := by
  have h1 : bits .and .u32 (un x) 2147483648 = un (x &&& 0x80000000#32) := and_u32 x 0x80000000#32
  have h2 : (0x80000000#32 : W32) = BitVec.twoPow 32 31 := rfl
  rw [h1, h2, BitVec.and_twoPow, BitVec.msb_eq_getLsbD_last]
  split <;> rfl

theorem s_shift (x : W32) : Dn.Call Γ cx .val 89 [Xw x] St.empty fun v _ => v = Xw (Gf.sh x) := by
  refine Dn.Call.body (fc := c89) rfl ?_
  have h1 : shiftBin .shl .u32 (un x) 1 = some (Xw (x <<< 1)) := shl_32 x 1 (by omega)
  have h2 : bits .xor .u32 (un (x <<< 1)) 141 = un ((x <<< 1) ^^^ 0x8d#32) := xor_u32 (x <<< 1) 0x8d#32
  have h3 := top_and x
  cases hm : x.msb with
  | true =>
    rw [hm] at h3
    simp -implicitDefEqProofs [c89, c89_k2, h3, c89_k1, h1, h2, Gf.sh, hm]
  | false =>
    rw [hm] at h3
    simp -implicitDefEqProofs [c89, c89_k2, h3, c89_k1, c89_k0, h1, Gf.sh, hm]

/-- What is put together of the bits from k on (Horner's way). -/
def hor (a b : W32) : Nat → W32
  | 0 => 0
  | n + 1 => Gf.sh (hor a b n) ^^^ Gf.bit (b.getLsbD (31 - n)) a
theorem hor_mul (a b : W32) : ∀ n, n ≤ 32 → Gf.mul a b = Gf.sum (32 - n) (fun i => Gf.bit (b.getLsbD i) (Gf.pw i a)) ^^^ Gf.pw (32 - n) (hor a b n)
  | 0, _ => by
    have : Gf.pw 32 (0 : W32) = 0 := Gf.pw_zero 32
    simp only [hor, Nat.sub_zero, this]
    simp [Gf.mul]
  | n + 1, h => by
    rw [hor_mul a b n (by omega)]
    obtain ⟨k, hk⟩ : ∃ k, 32 - n = k + 1 := ⟨31 - n, by omega⟩
    have hk2 : 31 - n = k := by omega
    have hk3 : 32 - (n + 1) = k := by omega
    rw [hk, hk3]
    simp only [Gf.sum, hor, hk2]
    rw [Gf.pw_xor, Gf.bit_pw]
    have : Gf.pw (k + 1) (hor a b n) = Gf.pw k (Gf.sh (hor a b n)) := Gf.pw_add _ 1 k
    rw [this, BitVec.xor_assoc, BitVec.xor_comm (Gf.bit _ _)]
theorem hor_all (a b : W32) : hor a b 32 = Gf.mul a b := by
  have := hor_mul a b 32 (by omega)
  simp only [Nat.sub_self, Gf.sum, Gf.pw] at this
  rw [this]
  simp

theorem bit_and (b : W32) (k : Nat) : bits .and .u32 (un (b >>> k)) 1 = if b.getLsbD k = true then 1 else 0 := by
  have h1 : bits .and .u32 (un (b >>> k)) 1 = un ((b >>> k) &&& 1#32) := and_u32 (b >>> k) 1#32
  have h2 : (1#32 : W32) = BitVec.twoPow 32 0 := rfl
  rw [h1, h2, BitVec.and_twoPow, BitVec.getLsbD_ushiftRight, Nat.add_zero]
  split <;> rfl

def InvMul (a b : W32) (m : Nat) (e : Env) (s : St) : Prop := ∃ n : Nat, e = [(0, Xw a), (1, Xw b), (5, Xw (hor a b n)), (6, I (31 - (n : Int)))] ∧ m = 32 - n ∧ n ≤ 32 ∧ s = St.empty
theorem s_Mul (a b : W32) : Dn.Call Γ cx .val 82 [Xw a, Xw b] St.empty fun v _ => v = Xw (Gf.mul a b) := by
  refine Dn.Call.body (fc := c82) rfl ?_
  simp -implicitDefEqProofs [c82, c82_k10, c82_k9, c82_k8]
  refine wloopI (InvMul a b) (m := 32) ⟨0, rfl, rfl, by omega, rfl⟩ ?_
  rintro m e s ⟨n, rfl, rfl, hn, rfl⟩
  by_cases hn2 : n < 32
  · obtain ⟨k, hk⟩ : ∃ k : Nat, 31 - n = k := ⟨_, rfl⟩
    have hk2 : 31 - (n : Int) = (k : Int) := by omega
    have hk0 : (0 : Int) ≤ k := by omega
    have hsr := shr_32 b k (by omega)
    have hba := bit_and b k
    have w9 : IntKind.i64.wrap ((k : Int) - 1) = 31 - ((n + 1 : Nat) : Int) := by rw [wrap_i64 (by omega) (by omega)]; omega
    have hh : hor a b (n + 1) = Gf.sh (hor a b n) ^^^ Gf.bit (b.getLsbD k) a := by simp only [hor, hk]
    rw [hk2]
    simp -implicitDefEqProofs [hk0, c82_l7, c82_k6, c82_k5, c82_k4]
    refine use_fn rfl (s_shift (hor a b n)) rfl ?_
    cases hb : b.getLsbD k with
    | true =>
      rw [hb] at hba hh
      simp -implicitDefEqProofs [c82_k3, hsr, hba, c82_k2, xor_u32, c82_k1, w9]
      exact ⟨32 - (n + 1), by omega, n + 1, by rw [hh]; rfl, rfl, by omega, rfl⟩
    | false =>
      rw [hb] at hba hh
      simp -implicitDefEqProofs [c82_k3, hsr, hba, c82_k2, c82_k1, w9]
      exact ⟨32 - (n + 1), by omega, n + 1, by rw [hh]; simp [Gf.bit], rfl, by omega, rfl⟩
  · obtain rfl : n = 32 := by omega
    simp -implicitDefEqProofs [c82_l7, c82_k6, c82_k0, hor_all]
theorem s_Square (a : W32) : Dn.Call Γ cx .val 68 [Xw a] St.empty fun v _ => v = Xw (Gf.mul a a) := by
  refine Dn.Call.body (fc := c68) rfl ?_
  simp -implicitDefEqProofs [c68, c68_k0]
  refine use_fn rfl (s_Mul a a) rfl ?_
  simp -implicitDefEqProofs


/-! ### tables -/
def tcell (a : W32) (j : Nat) : W32 := Gf.mul a (BitVec.ofNat 32 (j % 256) <<< (8 * (j / 256)))
def tpart (a : W32) (j : Nat) : List V := (List.range j).map (fun k => Xw (tcell a k)) ++ List.replicate (1024 - j) (Xw 0)
theorem tpart_len (a : W32) {j : Nat} (h : j ≤ 1024) : (tpart a j).length = 1024 := by simp [tpart]; omega
theorem tpart_set (a : W32) {j : Nat} (h : j < 1024) : splice (tpart a j) j [Xw (tcell a j)] = tpart a (j + 1) := by
  have h1 : (tpart a j).take j = (List.range j).map (fun k => Xw (tcell a k)) := by
    unfold tpart
    rw [List.take_left' (by simp)]
  have h2 : (tpart a j).drop (j + 1) = List.replicate (1024 - (j + 1)) (Xw 0) := by
    unfold tpart
    rw [List.drop_append, List.drop_of_length_le (by simp), List.length_map, List.length_range, Nat.add_sub_cancel_left, List.drop_replicate, List.nil_append, Nat.sub_sub]
  simp only [splice, List.length_singleton, h1, h2]
  simp only [tpart, List.range_succ, List.map_append, List.map_cons, List.map_nil, List.append_assoc]
theorem tpart_at (a : W32) {j : Nat} (h : j < 1024) : (tpart a 1024)[j]? = some (Xw (tcell a j)) := by
  simp [tpart, h]
theorem ofD_rep (d : D) : ∀ n, ofD (List.replicate n (V.d d)) = some (List.replicate n d)
  | 0 => rfl
  | n + 1 => by simp only [List.replicate_succ, ofD, ofD_rep d n]

def InvBy1 (σ : St) (a : W32) (m : Nat) (e : Env) (s : St) : Prop := ∃ i : Nat, e = [(0, Xw a), (3, .ref σ.objs.length 0), (8, I i)] ∧ m = 4 - i ∧ i ≤ 4 ∧ s = ⟨σ.objs ++ [.cells (tpart a (256 * i))], σ.toks⟩
structure By2 (σ : St) (a : W32) (i : Nat) (m : Nat) (e : Env) (s : St) (b : Nat) : Prop where
  e : e = [(0, Xw a), (3, .ref σ.objs.length 0), (4, I i), (8, I i), (11, I b)]
  m : m + b = 256
  s : s = ⟨σ.objs ++ [.cells (tpart a (256 * i + b))], σ.toks⟩
def InvBy2 (σ : St) (a : W32) (i : Nat) (m : Nat) (e : Env) (s : St) : Prop := ∃ b : Nat, By2 σ a i m e s b

set_option maxRecDepth 20000 in
theorem s_By {σ : St} (a : W32) : Dn.Call Γ cx .raw 67 [Xw a] σ fun v s => v = .ref σ.objs.length 0 ∧ s = ⟨σ.objs ++ [.cells (tpart a 1024)], σ.toks⟩ := by
  refine Dn.Call.body (fc := c67) rfl ?_
  have hz : List.replicate 1024 (V.d (.int .u32 0)) = tpart a 0 := by
    have e : (V.d (.int .u32 0)) = Xw 0 := rfl
    unfold tpart
    rw [List.range_zero, List.map_nil, List.nil_append, Nat.sub_zero, e]
  have hm : (List.replicate 1024 (D.int .u32 0)).map V.d = List.replicate 1024 (V.d (.int .u32 0)) := by rw [List.map_replicate]
  have ho : ofD (List.replicate 1024 (V.d (.int .u32 0))) = some (List.replicate 1024 (.int .u32 0)) := by rw [ofD_rep]
  have og : ∀ o, (σ.objs ++ [o])[σ.objs.length]? = some o := fun o => by simp
  have os : ∀ o o', (σ.objs ++ [o]).set σ.objs.length o' = σ.objs ++ [o'] := fun o o' => by simp
  simp -implicitDefEqProofs [-List.reduceReplicate, c67, c67_k13, mkAgg, hm, ho]
  rw [hz]
  simp -implicitDefEqProofs [c67_k12, c67_k11]
  refine wloopI (InvBy1 σ a) (m := 4) ⟨0, rfl, rfl, by omega, rfl⟩ ?_
  rintro m e s ⟨i, rfl, rfl, hi, rfl⟩
  by_cases hi4 : i < 4
  rotate_left
  · obtain rfl : i = 4 := by omega
    simp -implicitDefEqProofs [c67_l10, c67_k9, c67_k0]
  have hii : (i : Int) < 4 := by omega
  simp -implicitDefEqProofs [c67_l10, c67_k9, hii, c67_k8, c67_k7, c67_k6]
  refine wloopI (InvBy2 σ a i) (m := 256) ⟨0, rfl, rfl, rfl⟩ ?_
  rintro m e s ⟨b, hB⟩
  obtain ⟨he, hmm, hs⟩ := hB
  subst he hs
  have hb : b ≤ 256 := by omega
  rcases Nat.lt_or_ge b 256 with hb2 | hb2
  rotate_left
  · have hb3 : b = 256 := by omega
    subst hb3
    simp -implicitDefEqProofs [c67_l5, c67_k4, wrap_i64 (n := (i : Int) + 1) (by omega) (by omega)]
    exact ⟨4 - (i + 1), by omega, i + 1, rfl, rfl, by omega, by rw [show 256 * (i + 1) = 256 * i + 256 by omega]⟩
  have hbb : (b : Int) < 256 := by omega
  have hc : IntKind.u32.wrap (b : Int) = un (BitVec.ofNat 32 b) := wrap_u32 b
  have h8 : IntKind.i64.wrap (8 * (i : Int)) = ((8 * i : Nat) : Int) := by rw [wrap_i64 (by omega) (by omega)]; omega
  have hsl := shl_32 (BitVec.ofNat 32 b) (8 * i) (by omega)
  have hj : tcell a (256 * i + b) = Gf.mul a (BitVec.ofNat 32 b <<< (8 * i)) := by
    unfold tcell
    rw [show (256 * i + b) % 256 = b by omega, show (256 * i + b) / 256 = i by omega]
  have hset := tpart_set a (j := 256 * i + b) (by omega)
  have hlen := tpart_len a (j := 256 * i + b) (by omega)
  rw [hj] at hset
  have w9 : IntKind.i64.wrap ((b : Int) + 1) = ((b + 1 : Nat) : Int) := by rw [wrap_i64 (by omega) (by omega)]; omega
  have hidx : i * 256 + b = 256 * i + b := by omega
  obtain ⟨i8, hi8⟩ : ∃ i8, 8 * i = i8 := ⟨_, rfl⟩
  rw [hi8] at h8 hsl hset
  obtain ⟨j, hjd⟩ : ∃ j, 256 * i + b = j := ⟨_, rfl⟩
  have hj1 : j + 1 ≤ 1024 := by omega
  rw [hjd] at hset hlen hidx
  rw [hjd]
  simp -implicitDefEqProofs [c67_l5, c67_k4, hbb, c67_k3, c67_k2, c67_k1]
  refine w_drw (fun _ => .val) [] (by decide +kernel) ?_
  simp only [room_zero]
  simp -implicitDefEqProofs [hc, h8, hsl]
  refine use_fnN rfl rfl (s_Mul a _) rfl ?_
  simp only [q_tcont, putE, Env.set]
  simp -implicitDefEqProofs [-splice, nilCheckV, iaddrArrV, asIdx, hii, hbb, hidx, og, os, hlen, hj1, hset, w9]
  exact ⟨m - 1, by omega, b + 1, rfl, by omega, by rw [← hjd, Nat.add_assoc]⟩

/-- What a table gives of an element's bytes. -/
def psum (a b : W32) : Nat → W32
  | 0 => 0
  | n + 1 => psum a b n ^^^ Gf.mul a (((b >>> (8 * n)) &&& 255#32) <<< (8 * n))
theorem bytes_xor (b : W32) : (((b >>> 0) &&& 255#32) <<< 0) ^^^ (((b >>> 8) &&& 255#32) <<< 8) ^^^ (((b >>> 16) &&& 255#32) <<< 16) ^^^ (((b >>> 24) &&& 255#32) <<< 24) = b := by
  apply BitVec.eq_of_getLsbD_eq
  intro i hi
  have hl : ∀ k, (255#32).getLsbD k = decide (k < 8) := fun k => by
    have := Nat.testBit_two_pow_sub_one 8 k
    have h2 : (255#32 : W32).getLsbD k = (decide (k < 32) && Nat.testBit 255 k) := by rw [BitVec.getLsbD_ofNat]
    rw [h2]
    rw [show (255 : Nat) = 2 ^ 8 - 1 by decide, this]
    by_cases h : k < 8
    · simp [h, show k < 32 by omega]
    · simp [h]
  simp only [BitVec.getLsbD_xor, BitVec.getLsbD_shiftLeft, BitVec.getLsbD_and, BitVec.getLsbD_ushiftRight, hl, hi, decide_true, Bool.true_and]
  have ge : ∀ n : Nat, ¬ i < n → n + (i - n) = i := fun n h => by omega
  by_cases h8 : i < 8
  · simp [h8, show i < 16 by omega, show i < 24 by omega]
  · by_cases h16 : i < 16
    · simp [h8, h16, show i < 24 by omega, show i - 8 < 8 by omega, ge 8 h8]
    · by_cases h24 : i < 24
      · simp [h8, h16, h24, show ¬ i - 8 < 8 by omega, show i - 16 < 8 by omega, ge 16 h16]
      · simp [h8, h16, h24, show ¬ i - 8 < 8 by omega, show ¬ i - 16 < 8 by omega, show i - 24 < 8 by omega, ge 24 h24]
theorem psum_all (a b : W32) : psum a b 4 = Gf.mul a b := by
  conv => rhs; rw [← bytes_xor b]
  rw [Gf.mul_xor, Gf.mul_xor, Gf.mul_xor]
  simp only [psum]
  simp

def InvTm (x : Nat) (a b : W32) (s0 : St) (m : Nat) (e : Env) (s : St) : Prop := ∃ i : Nat, e = [(0, .ref x 0), (1, Xw b), (5, Xw (psum a b i)), (9, I i)] ∧ m = 4 - i ∧ i ≤ 4 ∧ s = s0
theorem s_Tmul {σ : St} {x : Nat} {a : W32} (hx : σ.objs[x]? = some (.cells (tpart a 1024))) (b : W32) : Dn.Call Γ cx .rd 69 [.ref x 0, Xw b] σ fun v _ => v = Xw (Gf.mul a b) := by
  refine Dn.Call.body (fc := c69) rfl ?_
  simp -implicitDefEqProofs [c69, c69_k10, eqV, V.isNil, Opd.isC, c69_k9, c69_k8, c69_k7, c69_k6]
  refine wloopI (InvTm x a b σ) (m := 4) ⟨0, rfl, rfl, by omega, rfl⟩ ?_
  rintro m e s ⟨i, rfl, rfl, hi, rfl⟩
  by_cases hi4 : i < 4
  rotate_left
  · obtain rfl : i = 4 := by omega
    simp -implicitDefEqProofs [c69_l5, c69_k4, c69_k0, psum_all]
    exact ⟨fun i hi => rfl, fun t k ht => ht⟩
  have hii : (i : Int) < 4 := by omega
  have h8 : IntKind.i64.wrap (8 * (i : Int)) = ((8 * i : Nat) : Int) := by rw [wrap_i64 (by omega) (by omega)]; omega
  have hsr := shr_32 b (8 * i) (by omega)
  have han : bits .and .u32 (un (b >>> (8 * i))) 255 = un ((b >>> (8 * i)) &&& 255#32) := and_u32 (b >>> (8 * i)) 255#32
  have hps : psum a b (i + 1) = psum a b i ^^^ Gf.mul a (((b >>> (8 * i)) &&& 255#32) <<< (8 * i)) := rfl
  obtain ⟨k, hk⟩ : ∃ k, (b >>> (8 * i)) &&& 255#32 = k := ⟨_, rfl⟩
  have hk256 : k.toNat < 256 := by
    rw [← hk, BitVec.toNat_and]
    have := Nat.and_le_right (n := (b >>> (8 * i)).toNat) (m := (255#32).toNat)
    have h2 : (255#32 : W32).toNat = 255 := rfl
    omega
  rw [hk] at han hps
  have hcell : (tpart a 1024)[i * 256 + k.toNat]? = some (Xw (Gf.mul a (k <<< (8 * i)))) := by
    rw [tpart_at a (by omega)]
    unfold tcell
    rw [show (i * 256 + k.toNat) % 256 = k.toNat by omega, show (i * 256 + k.toNat) / 256 = i by omega, BitVec.ofNat_toNat, BitVec.setWidth_eq]
  have hun : un k = (k.toNat : Int) := rfl
  have hkk : (k.toNat : Int) < 256 := by omega
  obtain ⟨i8, hi8⟩ : ∃ i8, 8 * i = i8 := ⟨_, rfl⟩
  rw [hi8] at h8 hsr han hps hcell
  clear hi4
  simp -implicitDefEqProofs [c69_l5, c69_k4, hii, c69_k3, c69_k2, c69_k1]
  refine w_drw (fun _ => .val) [] (by decide +kernel) ?_
  simp only [room_zero]
  simp -implicitDefEqProofs [h8, hsr, han, nilCheckV, iaddrArrV, asIdx, hii, hun, hkk, hx, hcell, xor_u32, wrap_i64 (n := (i : Int) + 1) (by omega) (by omega)]
  exact ⟨4 - (i + 1), by omega, i + 1, by rw [hps]; rfl, rfl, by omega, rfl⟩


/-! ### sketches -/
def oddp (a : W32) (k : Nat) : W32 := Gf.npow a (2 * k + 1)
theorem oddp_zero (a : W32) : oddp a 0 = a := by
  show Gf.mul 1 a = a
  exact Gf.one_mul a
theorem oddp_succ (a : W32) (k : Nat) : oddp a (k + 1) = Gf.mul (Gf.mul a a) (oddp a k) := by
  unfold oddp
  rw [show 2 * (k + 1) + 1 = (2 * k + 1) + 2 by omega, Gf.npow_add, Gf.mul_comm]
  have : Gf.npow a 2 = Gf.mul a a := by
    show Gf.mul (Gf.mul 1 a) a = _
    rw [Gf.one_mul]
  rw [this]
def fnV (n : Nat) (f : Nat → W32) : List V := (List.range n).map fun k => Xw (f k)
theorem fnV_len (n : Nat) (f : Nat → W32) : (fnV n f).length = n := by simp [fnV]
theorem fnV_at {n : Nat} (f : Nat → W32) {k : Nat} (h : k < n) : (fnV n f)[k]? = some (Xw (f k)) := by simp [fnV, h]
theorem fnV_congr {n : Nat} {f g : Nat → W32} (h : ∀ k, k < n → f k = g k) : fnV n f = fnV n g := by
  unfold fnV
  refine List.map_congr_left fun k hk => ?_
  rw [h k (List.mem_range.1 hk)]
theorem fnV_set {n : Nat} (f : Nat → W32) {i : Nat} (h : i < n) (v : W32) : splice (fnV n f) i [Xw v] = fnV n fun k => if k = i then v else f k := by
  apply List.ext_getElem?
  intro k
  simp only [splice, List.length_singleton]
  rcases Nat.lt_trichotomy k i with hk | hk | hk
  · rw [List.getElem?_append_left (by simp [fnV_len]; omega), List.getElem?_append_left (by simp [fnV_len]; omega), List.getElem?_take_of_lt hk, fnV_at _ (by omega), fnV_at _ (by omega), if_neg (by omega)]
  · subst hk
    rw [List.getElem?_append_left (by simp [fnV_len]; omega), List.getElem?_append_right (by simp [fnV_len]; omega), fnV_at _ h]
    simp [fnV_len, Nat.min_eq_left (Nat.le_of_lt h)]
  · rw [List.getElem?_append_right (by simp [fnV_len]; omega)]
    simp only [List.length_append, List.length_take, fnV_len, List.length_singleton, Nat.min_eq_left (Nat.le_of_lt h)]
    rw [List.getElem?_drop, show i + 1 + (k - (i + 1)) = k by omega]
    by_cases hkn : k < n
    · rw [fnV_at _ hkn, fnV_at _ hkn, if_neg (by omega)]
    · rw [List.getElem?_eq_none (by rw [fnV_len]; omega), List.getElem?_eq_none (by rw [fnV_len]; omega)]

def mid (a : W32) (f : Nat → W32) (i : Nat) : Nat → W32 := fun k => if k < i then f k ^^^ oddp a k else f k
structure PutS (σ s : St) (r p n : Nat) (a : W32) (f : Nat → W32) (i : Nat) : Prop where
  l : s.objs[r]? = some (.cells (fnV n (mid a f i)))
  t : s.objs[p]? = some (.cells (tpart (Gf.mul a a) 1024))
  fr : Fr [r] σ s
  tk : s.toks = σ.toks
def InvPutS (σ : St) (r p n : Nat) (a : W32) (f : Nat → W32) (m : Nat) (e : Env) (s : St) : Prop := ∃ i : Nat, e = [(0, .sl r 0 n 1), (1, Xw (oddp a i)), (4, .ref p 0), (10, I n), (11, I i)] ∧ m = n - i ∧ i ≤ n ∧ PutS σ s r p n a f i

theorem s_put {σ : St} {r n : Nat} {f : Nat → W32} (h : σ.objs[r]? = some (.cells (fnV n f))) (hn : n ≤ 1000) (a : W32) : Dn.Call Γ cx .raw 58 [.sl r 0 n 1, Xw a] σ fun _ s => s.objs[r]? = some (.cells (fnV n fun k => f k ^^^ oddp a k)) ∧ Fr [r] σ s ∧ s.toks = σ.toks := by
  refine Dn.Call.body (fc := c58) rfl ?_
  have hrl : r < σ.objs.length := (List.getElem?_eq_some_iff.1 h).1
  simp -implicitDefEqProofs [c58]
  refine use_fn rfl (s_Square a) rfl ?_
  simp -implicitDefEqProofs
  refine use_raw (s_By (Gf.mul a a)) fun v s ⟨hv, hs⟩ => ?_
  subst hv
  have h0 : PutS σ s r σ.objs.length n a f 0 := by
    refine ⟨?_, by rw [hs]; simp, ⟨by rw [hs]; simp, fun q _ hq => by rw [hs]; simp only; rw [List.getElem?_append_left hq]⟩, by rw [hs]⟩
    rw [hs]
    simp only
    rw [List.getElem?_append_left hrl, h]
    congr 2
  have hrp : r ≠ σ.objs.length := by omega
  generalize σ.objs.length = p at *
  clear hs
  simp -implicitDefEqProofs [c58_k7, lenT, lenV, c58_k6]
  refine wloopI (InvPutS σ r p n a f) (m := n) ⟨0, by rw [oddp_zero]; rfl, rfl, by omega, h0⟩ ?_
  rintro m e s ⟨i, rfl, rfl, hi, hP⟩
  rcases hin : decide ((i : Int) < n) with _ | _
  · have hlt : ¬ (i : Int) < n := of_decide_eq_false hin
    obtain rfl : i = n := by omega
    simp -implicitDefEqProofs [c58_l5, c58_k4]
    refine ⟨?_, hP.fr, hP.tk⟩
    rw [hP.l]
    congr 2
    exact fnV_congr fun k hk => by simp [mid, hk]
  have hlt : (i : Int) < n := of_decide_eq_true hin
  have hin2 : i < n := by omega
  have ia := fun σ => iaddr_sl σ (q := r) (n := n) (i := i) hin2
  have hat := fnV_at (mid a f i) hin2
  have hset := fnV_set (mid a f i) hin2 (mid a f i i ^^^ oddp a i)
  have hlen := fnV_len n (mid a f i)
  have hmid : fnV n (fun k => if k = i then mid a f i i ^^^ oddp a i else mid a f i k) = fnV n (mid a f (i + 1)) := fnV_congr fun k hk => by
    simp only [mid]
    by_cases h1 : k = i
    · subst h1; simp
    · by_cases h2 : k < i
      · simp [h1, h2, show k < i + 1 by omega]
      · simp [h1, h2, show ¬ k < i + 1 by omega]
  rw [hmid] at hset
  have hi1 : i + 1 ≤ n := by omega
  have w9 : IntKind.i64.wrap ((i : Int) + 1) = ((i + 1 : Nat) : Int) := by rw [wrap_i64 (by omega) (by omega)]; omega
  have hl := hP.l
  have hrs : r < s.objs.length := (List.getElem?_eq_some_iff.1 hl).1
  have hnext : PutS σ ⟨s.objs.set r (.cells (fnV n (mid a f (i + 1)))), s.toks⟩ r p n a f (i + 1) :=
    ⟨by simp only; rw [List.getElem?_set_self hrs], by simp only; rw [List.getElem?_set_ne hrp]; exact hP.t, hP.fr.trans ⟨by simp, fun q hq _ => by simp only; rw [List.getElem?_set_ne (fun e => hq (by simp [e]))]⟩, hP.tk⟩
  generalize mid a f i = g at *
  clear hin2 hrs
  simp -implicitDefEqProofs [-splice, hlt, c58_l5, c58_k4, c58_k3, c58_k2, c58_k1, ia, hl, hat, xor_u32, hlen, hi1, hset]
  obtain ⟨s2, hs2⟩ : ∃ s2 : St, (⟨s.objs.set r (.cells (fnV n (mid a f (i + 1)))), s.toks⟩ : St) = s2 := ⟨_, rfl⟩
  rw [hs2] at hnext ⊢
  simp -implicitDefEqProofs [c58_k0]
  refine use_rd (s_Tmul hnext.t (oddp a i)) ?_
  rw [← oddp_succ]
  simp -implicitDefEqProofs [w9]
  exact ⟨n - (i + 1), by omega, i + 1, rfl, rfl, by omega, hnext⟩


/-! ### a sketch's ids -/
def wof (i : Int) : W32 := BitVec.ofNat 32 i.toNat
theorem un_wof {i : Int} (h0 : 0 ≤ i) (h1 : i ≤ 4294967295) : un (wof i) = i := by
  simp only [un, wof, BitVec.toNat_ofNat]
  omega
def acc (f : Nat → W32) (ids : List Int) (k : Nat) : W32 := ids.foldl (fun a i => a ^^^ oddp (wof i) k) (f k)
theorem acc_snoc (f : Nat → W32) (ids : List Int) (i : Int) : acc f (ids ++ [i]) = fun k => acc f ids k ^^^ oddp (wof i) k := by
  funext k
  simp [acc]
/-- The object of a sketch. -/
structure Sk (s : St) (x r n : Nat) (f : Nat → W32) : Prop where
  o : s.objs[x]? = some (.cells [.sl r 0 n 1])
  l : s.objs[r]? = some (.cells (fnV n f))
def InvSkP (σ : St) (x r n : Nat) (f : Nat → W32) (v : V) (ids : List Int) (m : Nat) (e : Env) (s : St) : Prop := ∃ i : Nat, e = [(0, .ref x 0), (14, v), (15, I ids.length), (16, I i)] ∧ m = ids.length - i ∧ i ≤ ids.length ∧ Sk s x r n (acc f (ids.take i)) ∧ Fr [r] σ s ∧ s.toks = σ.toks

theorem s_skPut {σ : St} {x r n : Nat} {f : Nat → W32} (h : Sk σ x r n f) (hxr : x ≠ r) (hn : n ≤ 1000) {v : V} {ids : List Int} (hv : LV v (uRows ids)) (hids : ∀ i ∈ ids, 0 ≤ i ∧ i ≤ 4294967295) (hz : (0 : Int) ∉ ids) (hlen : ids.length ≤ 1000) :
    Dn.Call Γ cx .raw 46 [.ref x 0, v] σ fun w s => w = .d .nili ∧ Sk s x r n (acc f ids) ∧ Fr [r] σ s ∧ s.toks = σ.toks := by
  refine Dn.Call.body (fc := c46) rfl ?_
  have hlv : ∀ σ, lenT σ .slice v = some ids.length := fun σ => by rw [hv.len, uRows_len]
  have hdv := hv.dv σ
  obtain ⟨y, hy⟩ := hdv.2.2.1
  have hc := s_Contains (x := y) (L := ids) (hy ▸ hdv.2.1) (h := 0) (by omega)
  have hcv : decide ((0 : Int) ∈ ids) = false := by simpa using hz
  rw [hcv] at hc
  have hbr := lv_br hv
  simp -implicitDefEqProofs [c46, c46_k7, eqV, V.isNil, Opd.isC]
  refine use_fn (ds := [.d y, X 0]) (by simp only [byVals, bv_d, hdv.1, hy]) hc (Bool.or_true _) ?_
  simp -implicitDefEqProofs [c46_k6, c46_k5, hlv, c46_k4]
  refine wloopI (InvSkP σ x r n f v ids) (m := ids.length) ⟨0, rfl, rfl, by omega, h, Fr.refl _ _, rfl⟩ ?_
  rintro m e s ⟨i, rfl, rfl, hi, hS, hfr, htk⟩
  rcases hin : decide ((i : Int) < ids.length) with _ | _
  · have hlt : ¬ (i : Int) < ids.length := of_decide_eq_false hin
    obtain rfl : i = ids.length := by omega
    rw [List.take_length] at hS
    simp -implicitDefEqProofs [c46_l3, c46_k2]
    exact ⟨hS, hfr, htk⟩
  have hlt : (i : Int) < ids.length := of_decide_eq_true hin
  obtain ⟨q, hq⟩ : ∃ q, ids[i]? = some q := ⟨_, List.getElem?_eq_getElem (by omega)⟩
  have hqb := hids q (List.mem_of_getElem? hq)
  have hia := fun σ => hv.iaddr σ (k := .i64) (sz := 1) (i := i) (uRows_at hq) rfl
  have hta : ids.take (i + 1) = ids.take i ++ [q] := by rw [List.take_add_one, hq]; rfl
  have w9 : IntKind.i64.wrap ((i : Int) + 1) = ((i + 1 : Nat) : Int) := by rw [wrap_i64 (by omega) (by omega)]; omega
  have hun := un_wof hqb.1 hqb.2
  have step := s_put hS.l hn (wof q)
  have hX : Xw (wof q) = X q := by show V.d (.int .u32 (un (wof q))) = _; rw [hun]
  rw [hX] at step
  simp -implicitDefEqProofs [hlt, c46_l3, c46_k2, c46_k1, hia, c46_k0, nilCheckV, hS.o]
  refine use_raw step fun w s2 ⟨hl2, hfr2, htk2⟩ => ?_
  have hS2 : Sk s2 x r n (acc f (ids.take (i + 1))) := ⟨hfr2.get hS.o (by simp [hxr]), by rw [hl2, hta, acc_snoc]⟩
  simp -implicitDefEqProofs [w9]
  exact ⟨ids.length - (i + 1), by omega, i + 1, rfl, rfl, by omega, hS2, hfr.trans hfr2, by rw [htk2, htk]⟩

theorem zeros_fn (n : Nat) : List.replicate n (V.d (.int .u32 0)) = fnV n fun _ => 0 := by
  have e : (V.d (.int .u32 0)) = Xw 0 := rfl
  unfold fnV
  rw [e, List.map_const']
  simp

theorem repl_one : ∀ n : Nat, repl n [.int .u32 0] = List.replicate n (V.d (.int .u32 0))
  | 0 => rfl
  | n + 1 => by
    simp only [repl, repl_one n, List.replicate_succ]
    rfl
theorem s_skNew {σ : St} {n : Nat} (h1 : 1 ≤ n) (h2 : n ≤ 40) {v : V} {ids : List Int} (hv : LV v (uRows ids)) (hids : ∀ i ∈ ids, 0 ≤ i ∧ i ≤ 4294967295) (hz : (0 : Int) ∉ ids) (hlen : ids.length ≤ 1000) :
    Dn.Call Γ cx .raw 37 [I n, v] σ fun w s => w = .tup [.ref (σ.objs.length + 1) 0, .d .nili] ∧ Sk s (σ.objs.length + 1) σ.objs.length n (acc (fun _ => 0) ids) ∧ Fr [] σ s ∧ s.toks = σ.toks := by
  refine Dn.Call.body (fc := c37) rfl ?_
  have l1 : ¬ (n : Int) < 1 := by omega
  have l2 : ¬ (40 : Int) < n := by omega
  have l1' : (1 : Int) ≤ n := by omega
  have l2' : (n : Int) ≤ 40 := by omega
  obtain ⟨n1, hn1⟩ : ∃ n1 : Int, (n : Int) = n1 := ⟨_, rfl⟩
  simp -implicitDefEqProofs [c37, c37_k6, l1, l2, c37_k5]
  have hl0 : (fnV n fun _ => 0).length = n := fnV_len n _
  simp -implicitDefEqProofs [c37_k4]
  refine i_app_f (v := .sl σ.objs.length 0 n 1) (s := ⟨σ.objs ++ [.cells (fnV n fun _ => 0)], σ.toks⟩) ?_ ?_
  · have hb : (n : Int) * 4 ≤ 140737488355328 := by omega
    have hb2 : (n : Int) ≤ 9223372036854775807 := by omega
    have hr : repl n [.int .u32 0] = fnV n fun _ => 0 := by
      rw [← zeros_fn]
      exact repl_one n
    simp [evalE, Opd.ev, Env.get, hb, hb2, hr, Dn.newObj, St.place, St.push, St.spot]
  have hsk : Sk ⟨σ.objs ++ [.cells (fnV n fun _ => 0), .cells [.sl σ.objs.length 0 n 1]], σ.toks⟩ (σ.objs.length + 1) σ.objs.length n (fun _ => 0) := ⟨by simp [List.getElem?_append], by simp⟩
  simp -implicitDefEqProofs
  refine use_raw (s_skPut hsk (by omega) (by omega) hv hids hz hlen) fun w s ⟨hw, hS, hfr, htk⟩ => ?_
  subst hw
  simp -implicitDefEqProofs [eqV, V.isNil, Opd.isC, c37_k3, c37_k2, c37_k1, c37_k0]
  refine ⟨hS, ⟨Nat.le_trans (by simp) hfr.len, fun q _ hq => ?_⟩, htk⟩
  rw [hfr.at_ q (by simp; omega) (by simp; omega)]
  simp only
  rw [List.getElem?_append_left hq]
end Go.Proofs.Ytmcojkkpanijjaa.T
