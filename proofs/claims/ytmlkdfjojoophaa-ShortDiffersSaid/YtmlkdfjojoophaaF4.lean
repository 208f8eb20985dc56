import Derived.Test.YtmlkdfjojoophaaE21
namespace Go.Proofs.Ytmlkdfjojoophaa.T
open Go.Dn
attribute [local simp] body_eq globEnv GB List.map_nil List.map_cons List.append_nil w_rangeF i_next i_makeMap i_range i_update i_delete i_entry i_clone entryV cloneV q_rndA q_rndB_n q_rndB_e q_rndB_r setAll w_skip w_ops w_seq w_cond w_block w_exit w_ret q_then_n q_then_e q_then_r q_blk_n q_blk_e q_blk_r q_ops q_cont q_end_n q_end_r q_end_e q_loop_n q_loop_e q_loop_r i_nil i_p i_alloc i_box i_store i_copy i_clear i_call i_callv i_when t_nil t_p t_call t_alloc t_box t_store kept_nil t_copy t_clear q_tcont gsel List.cons_append List.nil_append evalP evalE evalF evalB isObj thaw Opd.ev Env.get Env.set Env.pick putE initEnv evalBin intBin evalUn evalConv goneAll goneOne retV resAll Res.ev tupOf byVals byValsN bv_d bv_da bv_fl bv_tl bn_d bn_da bn_fl bn_tl cx Dn.newObj St.place St.push St.spot St.empty cell_d cell_da cell_agg cell_ref cell_sl cell_fl cell_tl cell_map cell_fn cell_ifc loadAt faddrV partOf extractV mkAgg ofD splice St.setObj fillV
set_option linter.unusedSimpArgs false
set_option linter.unusedVariables false
open Sip

def pt (M : List Item) (ids : List Int) : Nat → List (List UInt8) × List Int
 | 0 => ([], [])
 | k + 1 => match ids[k]? with
  | none => pt M ids k
  | some i => if i ∈ ids.take k then pt M ids k else match gt M i with
   | some h => ((pt M ids k).1 ++ [h], (pt M ids k).2)
   | none => ((pt M ids k).1, (pt M ids k).2 ++ [i])
theorem pt_len (M : List Item) (ids : List Int) : ∀ k, (pt M ids k).1.length ≤ k ∧ (pt M ids k).2.length ≤ k
 | 0 => by simp [pt]
 | k + 1 => by
  have := pt_len M ids k
  simp only [pt]
  split
  ·omega
  ·split
   ·omega
   ·split <;> simp <;> omega
theorem pt_32 {M : List Item} (hM : ∀ p ∈ M, p.2.length = 32) (ids : List Int) : ∀ k, ∀ h ∈ (pt M ids k).1, h.length = 32
 | 0 => by simp [pt]
 | k + 1 => by
  have := pt_32 hM ids k
  simp only [pt]
  split
  ·exact this
  ·split
   ·exact this
   ·split
    ·rename_i hg
     intro h hh
     rcases List.mem_append.1 hh with hh | hh
     ·exact this h hh
     ·simp at hh
      subst hh
      exact hM _ (gt_some hg)
    ·exact this

theorem frz_byV (t : List UInt8) : ofD ((byV t).map frzV) = some (hashD t) := by
 induction t with
 | nil => rfl
 | cons a r ih => simp only [byV, hashD, List.map_cons, frzV, ofD] at ih ⊢; rw [ih]
def InvPart (σ : St) (xv : V) (d : V) (M : List Item) (ids : List Int) (m : Nat) (e : Env) (s : St) : Prop := ∃ (i : Nat) (a b : V), e = [(0, xv), (1, d), (6, a), (7, b), (12, d), (13, I ids.length), (14, I i)] ∧ i ≤ ids.length ∧ m = ids.length - i ∧ Two σ s 32 1 a b (hRows (pt M ids i).1) (uRows (pt M ids i).2)

abbrev partQ (σ : St) (xv : V) (d : V) (M : List Item) (ids : List Int) (i : Nat) : PostC := blkQ 1
         (thenQ (Dn.Call Γ cx) cx
           (C.ops [0, 1, 6, 7, 12, 13, 14]
             [Ins.p (some 41) (POp.bin BinOp.add Ty.int [] (Opd.t 14) (Opd.c (D.int IntKind.i64 1))),
               Ins.p (some 14) (POp.move (Opd.t 41))])
           (loopQ (InvPart σ xv d M ids) (ids.length - i) [0, 1, 6, 7, 12, 13, 14]
             (blkQ 0
               (thenQ (Dn.Call Γ cx) cx c33_k0
                 (endQ Mode.rd σ [Res.tmp 4, Res.tmp 5] fun v x =>
                   ∃ a b, v = V.tup [V.d a, V.d b] ∧ LV (V.d a) (hRows (pt M ids ids.length).fst) ∧ LV (V.d b) (uRows (pt M ids ids.length).snd))))))
theorem part_k5 {σ s : St} {xv : V} {i : Nat} {d : V} {dw : D} {M : List Item} {ids : List Int} {a b w : V} {n : Int} (hi : i < ids.length) (hlen : ids.length ≤ 1000) (hM : ∀ p ∈ M, p.2.length = 32)
  (hT : Two σ s 32 1 a b (hRows (pt M ids i).1) (uRows (pt M ids i).2)) (hn : ids[i]? = some n) (hsx : ∀ s, sliceX s 1 d none (some (I i)) none = some w) (hbw : ∀ s, V.byVal s w = some (.d dw))
  (hcon : Dn.Call Γ cx .val 54 [.d dw, X n] St.empty fun v _ => v = B (decide (n ∈ ids.take i))) {cs : List V} {fl : Bool} (hcs : ∀ u, gt M n = some u → cs = byV u) (hfl : fl = (gt M n).isSome) :
  wcode (Dn.Call Γ cx) cx c33_k5 [(0, xv), (1, d), (6, a), (7, b), (8, I i), (9, X n), (10, .ref s.objs.length 0), (11, B fl), (12, d), (13, I ids.length), (14, I i)] ⟨s.objs ++ [.cells cs], s.toks⟩ (partQ σ xv d M ids i) := by
 have hpt : pt M ids (i + 1) = if n ∈ ids.take i then pt M ids i else match gt M n with
   | some h => ((pt M ids i).1 ++ [h], (pt M ids i).2)
   | none => ((pt M ids i).1, (pt M ids i).2 ++ [n]) := by rw [pt, hn] <;> rfl
 have hl1 := (pt_len M ids i).1
 have hl2 := (pt_len M ids i).2
 have hT2 := hT.grow (s' := ⟨s.objs ++ [.cells cs], s.toks⟩) ⟨by simp, fun r _ hr => by simp only; rw [List.getElem?_append_left hr]⟩ rfl
 have oc : (s.objs ++ [.cells cs])[s.objs.length]? = some (.cells cs) := by simp
 simp -implicitDefEqProofs [-List.reduceReplicate, c33_k5, c33_k4, hsx]
 refine use_fn (ds := [.d dw, X n]) (by simp only [byVals, bv_d, hbw]) hcon (Bool.or_true _) ?_
 by_cases hmem : n ∈ ids.take i
 ·rw [if_pos hmem] at hpt
  simp -implicitDefEqProofs [hmem, c33_k3, wrap_i64 (n := (i : Int) + 1) (by omega) (by omega)]
  exact ⟨ids.length - (i + 1), by omega, i + 1, a, b, rfl, by omega, rfl, by rw [hpt]; exact hT2⟩
 ·rw [if_neg hmem] at hpt
  cases hg : gt M n with
  | some u =>
   have hu : u.length = 32 := hM _ (gt_some hg)
   have hcu := hcs u hg
   rw [hg] at hpt hfl
   subst hcu hfl
   simp only [Option.isSome]
   have hhl := hashD_len u
   rw [hu] at hhl
   have htk : List.take 32 (hashD u) = hashD u := List.take_of_length_le (by omega)
   obtain ⟨v2, s2, hap, hT3, ho⟩ := hT2.push (bytes := 32) (by decide) (hRows_fit (pt_32 hM ids i)) (y := hashD u) hhl (by simp [hRows_len]; omega) (by simp [hRows_len]; omega)
   rw [show hRows (pt M ids i).1 ++ [hashD u] = hRows (pt M ids (i + 1)).1 by rw [hpt]; simp [hRows], show (pt M ids i).2 = (pt M ids (i + 1)).2 by rw [hpt]] at hT3
   generalize s.objs ++ [.cells (byV u)] = l at *
   simp -implicitDefEqProofs [-List.reduceReplicate, hmem, c33_k3, c33_k2]
   simp -implicitDefEqProofs [-List.reduceReplicate, c33_k1, oc, byV_len, hu, byV_take hu, ofD_byV, hashD_byV, repl, rowsOf, frz_hash, frz_byV, frzV, hhl, htk]
   refine i_app_f (v := v2) (s := s2) ?_ ?_
   ·simp -implicitDefEqProofs [V.rows]
    exact hap none
   simp -implicitDefEqProofs [wrap_i64 (n := (i : Int) + 1) (by omega) (by omega)]
   exact ⟨ids.length - (i + 1), by omega, i + 1, v2, b, rfl, by omega, rfl, hT3⟩
  | none =>
   rw [hg] at hpt hfl
   subst hfl
   simp only [Option.isSome]
   obtain ⟨v2, s2, hap, hT3, ho⟩ := hT2.swap.push (bytes := 4) (by decide) (uRows_fit _) (y := [.int .u32 n]) rfl (by simp [uRows_len]; omega) (by simp [uRows_len]; omega)
   rw [show uRows (pt M ids i).2 ++ [[.int .u32 n]] = uRows (pt M ids (i + 1)).2 by rw [hpt]; simp [uRows], show (pt M ids i).1 = (pt M ids (i + 1)).1 by rw [hpt]] at hT3
   simp -implicitDefEqProofs [-List.reduceReplicate, hmem, c33_k3, c33_k2]
   simp -implicitDefEqProofs [-List.reduceReplicate, c33_k1, repl, rowsOf, frzV]
   refine i_app_f (v := v2) (s := s2) ?_ ?_
   ·simp -implicitDefEqProofs [V.rows]
    exact hap none
   simp -implicitDefEqProofs [wrap_i64 (n := (i : Int) + 1) (by omega) (by omega)]
   exact ⟨ids.length - (i + 1), by omega, i + 1, a, v2, rfl, by omega, rfl, hT3.swap⟩

theorem s_PartG {σ : St} {xv : V} {M : List Item} (hM : ∀ p ∈ M, p.2.length = 32) (hget : ∀ (s : St) (i : Int), Fr [] σ s → 0 ≤ i → i ≤ 4294967295 → Dn.Call Γ cx .rd 59 [xv, X i] s fun v _ => v = gotV (gt M i)) {d : V} {ids : List Int} (hd : LV d (uRows ids)) (hts : ∀ r t st s, d = .tl r t st s → s = 1) (hids : ∀ i ∈ ids, 0 ≤ i ∧ i ≤ 4294967295) (hlen : ids.length ≤ 1000) :
  Dn.Call Γ cx .rd 33 [xv, d] σ fun v _ => ∃ a b, v = .tup [.d a, .d b] ∧ LV (.d a) (hRows (pt M ids ids.length).1) ∧ LV (.d b) (uRows (pt M ids ids.length).2) := by
 refine Dn.Call.body (fc := c33) rfl ?_
 have hld : ∀ σ, lenT σ .slice d = some ids.length := fun σ => by rw [hd.len, uRows_len]
 simp -implicitDefEqProofs [c33, c33_k14, c33_k13, c33_k12, hld, c33_k11]
 refine wloopI (InvPart σ xv d M ids) (m := ids.length) ⟨0, _, _, rfl, by omega, rfl, Two.nil σ 32 1⟩ ?_
 rintro m e s ⟨i, a, b, rfl, hi, rfl, hT⟩
 by_cases hil : i < ids.length
 rotate_left
 ·obtain rfl : i = ids.length := by omega
  have hda := hT.pa.lv.dv s
  have hdb := hT.pb.lv.dv s
  obtain ⟨d1, hd1⟩ := hda.2.2.1
  obtain ⟨d2, hd2⟩ := hdb.2.2.1
  simp -implicitDefEqProofs [c33_l10, c33_k9, c33_k0, hT.pa.lv.byValN, hT.pb.lv.byValN, hda.1, hdb.1]
  exact ⟨hT.keeps, d1, d2, ⟨hd1, hd2⟩, hd1 ▸ hda.2.1, hd2 ▸ hdb.2.1⟩
 have hii : (i : Int) < ids.length := by omega
 obtain ⟨n, hn⟩ : ∃ n, ids[i]? = some n := ⟨_, List.getElem?_eq_getElem hil⟩
 have hnb := hids n (List.mem_of_getElem? hn)
 have hia := fun σ => hd.iaddr σ (k := .i64) (sz := 1) (i := i) (uRows_at hn) rfl
 simp -implicitDefEqProofs [-List.reduceReplicate, c33_l10, c33_k9, hii, c33_k8, c33_k7, hia, c33_k6]
 refine use_rd (hget s n hT.fr hnb.1 hnb.2) ?_
 have hzm := hz_map
 have hzl : (List.replicate 32 (V.d (.int .u8 0))).length = 32 := List.length_replicate
 have hzd : (List.replicate 32 (V.d (.int .u8 0))).drop 32 = [] := List.drop_of_length_le (by rw [hzl]; omega)
 obtain ⟨w, hw, hwl, -⟩ := hd.slice s (uRows_fit ids) hts (lo := 0) (hi := i) (by omega) (by rw [uRows_len]; omega)
 have hlv := hd.lenV s
 rw [uRows_len] at hlv
 have hsx : ∀ s, sliceX s 1 d none (some (I i)) none = some w := fun s => by
  have := hd.lenV s
  rw [uRows_len] at this
  simp [sliceX, this, boundV, asIdx, hw, hi]
 have hwl2 : LV w (uRows (ids.take i)) := by simpa [uRows] using hwl
 have hdw := hwl2.dv s
 obtain ⟨dw, hdw2⟩ := hdw.2.2.1
 have hcon := s_Contains (x := dw) (L := ids.take i) (hdw2 ▸ hdw.2.1) (h := n) (by simp; omega)
 have hbvw : ∀ s, V.byVal s w = some (.d dw) := fun s => by rw [← hdw2]; exact (hwl2.dv s).1
 cases hg : gt M n with
 | some u =>
  have hu : u.length = 32 := hM _ (gt_some hg)
  simp -implicitDefEqProofs [-List.reduceReplicate, gotV, hashD_byV, byV_len, hu, hzd]
  exact part_k5 hil hlen hM hT hn hsx hbvw hcon (cs := byV u) (fun v hv => by rw [hg] at hv; cases hv; rfl) (by rw [hg]; rfl)
 | none =>
  simp -implicitDefEqProofs [-List.reduceReplicate, gotV, hzm, hzl, hzd]
  exact part_k5 hil hlen hM hT hn hsx hbvw hcon (fun v hv => by rw [hg] at hv; cases hv) (by rw [hg]; rfl)
theorem s_ixPart {σ : St} {x q : Nat} {k0 k1 : Int} {es : List Ent} {clock : Nat} {M : List Item} (h : Ix σ x q k0 k1 es clock M) {d : V} {ids : List Int} (hd : LV d (uRows ids)) (hts : ∀ r t st s, d = .tl r t st s → s = 1) (hids : ∀ i ∈ ids, 0 ≤ i ∧ i ≤ 4294967295) (hlen : ids.length ≤ 1000) :
  Dn.Call Γ cx .rd 33 [.ref x 0, d] σ fun v _ => ∃ a b, v = .tup [.d a, .d b] ∧ LV (.d a) (hRows (pt M ids ids.length).1) ∧ LV (.d b) (uRows (pt M ids ids.length).2) :=
 s_PartG h.pl.h (fun s i hf h0 h1 => s_ixGet (h.mono hf) h0 h1) hd hts hids hlen

def putAll (K0 K1 : W64) : List (List UInt8) → List Item → List Item × Int
 | [], M => (M, 0)
 | t :: r, M => if (putI (short K0 K1 t) t M).2 = 0 then putAll K0 K1 r (putI (short K0 K1 t) t M).1 else putI (short K0 K1 t) t M
theorem putI_plain {K0 K1 : W64} {M : List Item} (h : Plain M) (ho : Hon K0 K1 M) {t : List UInt8} (ht : t.length = 32) (hn : M.length ≤ 89) : Plain (putI (short K0 K1 t) t M).1 ∧ Hon K0 K1 (putI (short K0 K1 t) t M).1 ∧ (putI (short K0 K1 t) t M).1.length ≤ M.length + 1 := by
 obtain ⟨b1, b2⟩ := short_bound K0 K1 t
 simp only [putI]
 split
 ·exact ⟨h, ho, by simp⟩
 ·rename_i hg
  refine ⟨h.ins ht (by omega) b2 hg hn, ho.ins t, ?_⟩
  rw [(ins_perm _ t M).length_eq]
  simp

def InvNew (σ : St) (K0 K1 : W64) (x q : Nat) (d : V) (L : List (List UInt8)) (m : Nat) (e : Env) (s : St) : Prop := ∃ (i : Nat) (es : List Ent) (clock : Nat) (M : List Item), e = [(6, .ref x 0), (15, d), (16, I L.length), (17, I i)] ∧ i ≤ L.length ∧ m = L.length - i ∧ Ix s x q (un K0) (un K1) es clock M ∧ Hon K0 K1 M ∧ M.length ≤ i ∧ Fr [] σ s ∧ s.toks = σ.toks ∧ putAll K0 K1 L [] = putAll K0 K1 (L.drop i) M

structure NewP (σ : St) (K0 K1 : W64) (L : List (List UInt8)) (v : V) (s : St) : Prop where
  fr : Fr [] σ s
  tk : s.toks = σ.toks
  r : ((putAll K0 K1 L []).2 = 0 ∧ ∃ x q es clock, v = .tup [.ref x 0, .d .nili] ∧ σ.objs.length ≤ x ∧ σ.objs.length ≤ q ∧ Ix s x q (un K0) (un K1) es clock (putAll K0 K1 L []).1 ∧ Hon K0 K1 (putAll K0 K1 L []).1) ∨
       ((putAll K0 K1 L []).2 ≠ 0 ∧ v = .tup [.d .nilp, errV (putAll K0 K1 L []).2])
theorem putI_err (i : Int) (t : List UInt8) (M : List Item) : (putI i t M).2 = 0 ∨ (putI i t M).2 = 5 ∨ (putI i t M).2 = 6 := by
 simp only [putI]
 split
 ·by_cases h : ‹List UInt8› = t <;> simp [h]
 ·exact .inl rfl

theorem s_New {σ : St} (K0 K1 : W64) {d : V} {L : List (List UInt8)} (hd : LV d (hRows L)) (hL : ∀ t ∈ L, t.length = 32) (hlen : L.length ≤ 89) :
  Dn.Call Γ cx .raw 30 [.da [.int .u64 (un K0), .int .u64 (un K1)], d] σ (NewP σ K0 K1 L) := by
 refine Dn.Call.body (fc := c30) rfl ?_
 have hld : ∀ σ, lenT σ .slice d = some L.length := fun σ => by rw [hd.len, hRows_len]
 simp -implicitDefEqProofs [c30, c30_k10, mkAgg, ofD]
 obtain ⟨σ1, hσ1⟩ : ∃ s : St, (⟨σ.objs ++ [.cells [Wd K0, Wd K1], .map [] 0, .cells [Wd K0, Wd K1, .map (σ.objs.length + 1)]], σ.toks⟩ : St) = s := ⟨_, rfl⟩
 rw [hσ1]
 have f1 : Fr [] σ σ1 := ⟨by rw [← hσ1]; simp, fun r _ hr => by rw [← hσ1]; simp only; rw [List.getElem?_append_left hr]⟩
 have h1 : Ix σ1 (σ.objs.length + 2) (σ.objs.length + 1) (un K0) (un K1) [] 0 [] :=
  ⟨by rw [← hσ1]; simp [List.getElem?_append], by rw [← hσ1]; simp [List.getElem?_append], ⟨⟨by simp, by simp⟩, by simp⟩, ⟨by simp, by simp, by simp, by simp⟩⟩
 have tk1 : σ1.toks = σ.toks := by rw [← hσ1]
 clear hσ1
 obtain ⟨x, hx⟩ : ∃ x, σ.objs.length + 2 = x := ⟨_, rfl⟩
 obtain ⟨q, hq⟩ : ∃ q, σ.objs.length + 1 = q := ⟨_, rfl⟩
 have hxl : σ.objs.length ≤ x := by omega
 have hql : σ.objs.length ≤ q := by omega
 rw [hx, hq] at h1
 rw [hx]
 clear hx hq
 simp -implicitDefEqProofs [c30_k9, hld, c30_k8]
 refine wloopI (InvNew σ K0 K1 x q d L) (m := L.length) ⟨0, [], 0, [], rfl, by omega, rfl, h1, (by intro p hp; cases hp), by simp, f1, tk1, rfl⟩ ?_
 rintro m e s ⟨i, es, clock, M, rfl, hi, rfl, hix, hon, hml, hfr, htk, hpa⟩
 by_cases hil : i < L.length
 rotate_left
 ·obtain rfl : i = L.length := by omega
  simp only [List.drop_length, putAll] at hpa
  simp -implicitDefEqProofs [c30_l7, c30_k6, c30_k0]
  exact ⟨hfr, htk, .inl ⟨by rw [hpa], x, q, es, clock, rfl, hxl, hql, by rw [hpa]; exact hix, by rw [hpa]; exact hon⟩⟩
 have hii : (i : Int) < L.length := by omega
 obtain ⟨t, ht⟩ : ∃ t, L[i]? = some t := ⟨_, List.getElem?_eq_getElem hil⟩
 have ht32 := hL t (List.mem_of_getElem? ht)
 have htl := hashD_len t
 rw [ht32] at htl
 have htk32 : List.take 32 (hashD t) = hashD t := List.take_of_length_le (by omega)
 have hia := fun σ => hd.iaddr σ (k := .i64) (sz := 32) (i := i) (hRows_at ht) htl
 have hdr : L.drop i = t :: L.drop (i + 1) := by
  obtain ⟨hi', rfl⟩ := List.getElem?_eq_some_iff.1 ht
  exact List.drop_eq_getElem_cons hi'
 rw [hdr, putAll] at hpa
 have hzl : (List.replicate 32 (V.d (.int .u8 0))).length = 32 := List.length_replicate
 have hzd : (List.replicate 32 (V.d (.int .u8 0))).drop 32 = [] := List.drop_of_length_le (by rw [hzl]; omega)
 clear hil
 simp -implicitDefEqProofs [-List.reduceReplicate, c30_l7, c30_k6, hii, c30_k5, c30_k4, hia, htl, htk32, hashD_byV, byV_len, ht32, hzd, c30_k3, byV_take ht32, ofD_byV]
 obtain ⟨s1, hs1⟩ : ∃ s' : St, (⟨s.objs ++ [.cells (byV t)], s.toks⟩ : St) = s' := ⟨_, rfl⟩
 rw [hs1]
 have f2 : Fr [] s s1 := ⟨by rw [← hs1]; simp, fun r _ hr => by rw [← hs1]; simp only; rw [List.getElem?_append_left hr]⟩
 have tk2 : s1.toks = s.toks := by rw [← hs1]
 clear hs1
 obtain ⟨p1, p2, p3⟩ := putI_plain hix.pl hon ht32 (by omega)
 refine use_raw (s_ixPut (hix.mono f2) (by omega) ht32) fun v s2 ⟨hv, ⟨es', clock', hix2⟩, hfr2, htk2⟩ => ?_
 have hfr3 : Fr [] σ s2 := ⟨Nat.le_trans hfr.len (Nat.le_trans f2.len hfr2.len), fun r _ hl => by
  rw [hfr2.at_ r (by simp; omega) (Nat.lt_of_lt_of_le hl (Nat.le_trans hfr.len f2.len))]
  exact (hfr.trans f2).at_ r (by simp) hl⟩
 have htk3 : s2.toks = σ.toks := by rw [htk2, tk2, htk]
 subst hv
 rcases putI_err (short K0 K1 t) t M with h0 | h5
 ·rw [if_pos h0] at hpa
  rw [h0]
  simp -implicitDefEqProofs [errV, c30_k2, c30_k1, eqV, V.isNil, Opd.isC, wrap_i64 (n := (i : Int) + 1) (by omega) (by omega)]
  exact ⟨L.length - (i + 1), by omega, i + 1, es', clock', _, rfl, by omega, rfl, hix2, p2, by omega, hfr3, htk3, hpa⟩
 ·have h0 : (putI (short K0 K1 t) t M).2 ≠ 0 := by omega
  rw [if_neg h0] at hpa
  simp -implicitDefEqProofs [errV, h0, c30_k2, c30_k1, eqV, V.isNil, Opd.isC]
  exact ⟨hfr3, htk3, .inr ⟨by rw [hpa]; exact h0, by rw [hpa]; simp [errV, h0]⟩⟩

theorem s_Num (c : Int) : Dn.Call Γ cx .val 40 [errV c] St.empty fun v _ => v = I c := by
 refine Dn.Call.body (fc := c40) rfl ?_
 by_cases h : c = 0
 ·subst h
  simp -implicitDefEqProofs [errV, c40, c40_k4, c40_k3, eqV, V.isNil, Opd.isC]
 ·simp -implicitDefEqProofs [errV, h, c40, c40_k4, c40_k3, c40_k2, c40_k1, c40_k0, eqV, V.isNil, Opd.isC, assertV, unwrapD]

theorem lv_br {v : V} {rows : List (List D)} (h : LV v rows) : v.borrows = false := by cases h <;> rfl
end Go.Proofs.Ytmlkdfjojoophaa.T

namespace Go.Proofs.Ytmlkdfjojoophaa.T
set_option linter.unusedSimpArgs false
set_option linter.unusedVariables false

namespace Gf
abbrev W := BitVec 32
def sh (a : W) : W := if a.msb = true then (a <<< 1) ^^^ 0x8d#32 else a <<< 1
theorem xcc (x y c : W) : x ^^^ y = (x ^^^ c) ^^^ (y ^^^ c) := by
 apply BitVec.eq_of_getLsbD_eq
 intro i hi
 simp only [BitVec.getLsbD_xor]
 cases x.getLsbD i <;> cases y.getLsbD i <;> cases c.getLsbD i <;> rfl
theorem xc1 (x y c : W) : (x ^^^ y) ^^^ c = x ^^^ (y ^^^ c) := BitVec.xor_assoc x y c
theorem xc2 (x y c : W) : (x ^^^ y) ^^^ c = (x ^^^ c) ^^^ y := by rw [BitVec.xor_assoc, BitVec.xor_comm y, BitVec.xor_assoc]
theorem sh_xor (a b : W) : sh (a ^^^ b) = sh a ^^^ sh b := by
 unfold sh
 rw [BitVec.msb_xor, BitVec.shiftLeft_xor_distrib]
 generalize a <<< 1 = x
 generalize b <<< 1 = y
 cases a.msb <;> cases b.msb
 ·rfl
 ·exact xc1 x y _
 ·exact xc2 x y _
 ·exact xcc x y _
theorem sh_zero : sh 0 = 0 := by decide
def pw : Nat → W → W
 | 0, a => a
 | n + 1, a => sh (pw n a)
theorem pw_xor (a b : W) : ∀ n, pw n (a ^^^ b) = pw n a ^^^ pw n b
 | 0 => rfl
 | n + 1 => by simp only [pw]; rw [pw_xor a b n, sh_xor]
theorem pw_zero : ∀ n, pw n 0 = 0
 | 0 => rfl
 | n + 1 => by simp only [pw]; rw [pw_zero n, sh_zero]
theorem pw_add (a : W) (m : Nat) : ∀ n, pw (n + m) a = pw n (pw m a)
 | 0 => by simp [pw]
 | n + 1 => by
  rw [show n + 1 + m = (n + m) + 1 by omega]
  simp only [pw]
  rw [pw_add a m n]

def sum : Nat → (Nat → W) → W
 | 0, _ => 0
 | n + 1, f => sum n f ^^^ f n
theorem sum_xor (f g : Nat → W) : ∀ n, sum n (fun i => f i ^^^ g i) = sum n f ^^^ sum n g
 | 0 => by simp [sum]
 | n + 1 => by
  simp only [sum]
  rw [sum_xor f g n]
  generalize sum n f = a
  generalize sum n g = b
  rw [BitVec.xor_assoc, BitVec.xor_assoc, ← BitVec.xor_assoc b, BitVec.xor_comm b, BitVec.xor_assoc (f n)]
theorem sum_congr {f g : Nat → W} : ∀ {n : Nat}, (∀ i, i < n → f i = g i) → sum n f = sum n g
 | 0, _ => rfl
 | n + 1, h => by simp only [sum]; rw [sum_congr fun i hi => h i (by omega), h n (by omega)]
theorem sum_zero : ∀ n, sum n (fun _ => 0) = 0
 | 0 => rfl
 | n + 1 => by simp only [sum]; rw [sum_zero n]; simp
theorem sum_lin {φ : W → W} (h0 : φ 0 = 0) (hx : ∀ a b, φ (a ^^^ b) = φ a ^^^ φ b) (f : Nat → W) : ∀ n, φ (sum n f) = sum n fun i => φ (f i)
 | 0 => by simpa [sum] using h0
 | n + 1 => by simp only [sum]; rw [hx, sum_lin h0 hx f n]
theorem sum_swap (f : Nat → Nat → W) (m : Nat) : ∀ n, sum n (fun i => sum m (fun j => f i j)) = sum m fun j => sum n fun i => f i j
 | 0 => by simp only [sum]; exact (sum_zero m).symm
 | n + 1 => by
  simp only [sum]
  rw [sum_swap f m n, ← sum_xor]

def bit (b : Bool) (a : W) : W := if b = true then a else 0
theorem bit_xor (b : Bool) (x y : W) : bit b (x ^^^ y) = bit b x ^^^ bit b y := by cases b <;> simp [bit]
theorem bit_xorb (b c : Bool) (x : W) : bit (b ^^ c) x = bit b x ^^^ bit c x := by cases b <;> cases c <;> simp [bit]
theorem bit_zero (b : Bool) : bit b 0 = 0 := by cases b <;> rfl
theorem bit_pw (b : Bool) (n : Nat) (x : W) : pw n (bit b x) = bit b (pw n x) := by
 cases b
 ·exact pw_zero n
 ·rfl

def mul (a b : W) : W := sum 32 fun i => bit (b.getLsbD i) (pw i a)
theorem mul_xor (a b c : W) : mul a (b ^^^ c) = mul a b ^^^ mul a c := by
 unfold mul
 rw [← sum_xor]
 exact sum_congr fun i _ => by rw [BitVec.getLsbD_xor, bit_xorb]
theorem mul_zero (a : W) : mul a 0 = 0 := by
 unfold mul
 exact (sum_congr (g := fun _ => 0) fun i _ => by rw [show BitVec.getLsbD (0 : W) i = false from BitVec.getLsbD_zero]; rfl).trans (sum_zero 32)
theorem mul_pw_left (a b : W) (n : Nat) : mul (pw n a) b = pw n (mul a b) := by
 unfold mul
 rw [sum_lin (pw_zero n) (fun a b => pw_xor a b n)]
 refine sum_congr fun i _ => ?_
 rw [bit_pw, ← pw_add, ← pw_add, Nat.add_comm]
theorem pw_one : ∀ j, j < 32 → pw j 1 = 1#32 <<< j := by decide +kernel
theorem sum_bits (a : W) : sum 32 (fun j => bit (a.getLsbD j) (pw j 1)) = a := by
 have key : ∀ n, n ≤ 32 → sum n (fun j => bit (a.getLsbD j) (pw j 1)) = a &&& (BitVec.ofNat 32 (2 ^ n - 1)) := by
  intro n
  induction n with
  | zero => intro _; simp [sum]
  | succ n ih =>
   intro hn
   simp only [sum]
   rw [ih (by omega), pw_one n (by omega)]
   apply BitVec.eq_of_getLsbD_eq
   intro i hi
   have hb : ∀ b : Bool, (bit b (1#32 <<< n)).getLsbD i = (b && decide (i = n)) := fun b => by
    cases b
    ·simp [bit]
    ·simp only [bit, if_true, BitVec.getLsbD_shiftLeft, Bool.true_and, BitVec.getLsbD_one]
     by_cases h1 : i < n
     ·simp [h1, Nat.ne_of_lt h1]
     ·by_cases h2 : i = n
      ·simp [h2]; omega
      ·simp [h1, h2]; omega
   rw [BitVec.getLsbD_xor, BitVec.getLsbD_and, BitVec.getLsbD_and, hb, BitVec.getLsbD_ofNat, BitVec.getLsbD_ofNat, Nat.testBit_two_pow_sub_one, Nat.testBit_two_pow_sub_one]
   by_cases h1 : i < n
   ·simp [h1, hi, Nat.ne_of_lt h1, show i < n + 1 by omega]
   ·by_cases h2 : i = n
    ·subst h2; simp [hi]
    ·simp [h1, h2, show ¬ i < n + 1 by omega]
 have := key 32 (by omega)
 rw [this]
 have h1 : BitVec.ofNat 32 (2 ^ 32 - 1) = BitVec.allOnes 32 := rfl
 rw [h1, BitVec.and_allOnes]
theorem mul_comm (a b : W) : mul a b = mul b a := by
 have h1 : mul a b = sum 32 fun i => sum 32 fun j => bit (b.getLsbD i) (bit (a.getLsbD j) (pw (i + j) 1)) := by
  conv => lhs; rw [← sum_bits a]
  unfold mul
  refine sum_congr fun i _ => ?_
  rw [sum_lin (pw_zero i) (fun a b => pw_xor a b i), sum_lin (bit_zero _) (bit_xor _)]
  exact sum_congr fun j _ => by rw [bit_pw, pw_add]
 have h2 : mul b a = sum 32 fun j => sum 32 fun i => bit (b.getLsbD i) (bit (a.getLsbD j) (pw (i + j) 1)) := by
  conv => lhs; rw [← sum_bits b]
  unfold mul
  refine sum_congr fun j _ => ?_
  rw [sum_lin (pw_zero j) (fun a b => pw_xor a b j), sum_lin (bit_zero _) (bit_xor _)]
  exact sum_congr fun i _ => by
   rw [bit_pw, ← pw_add, Nat.add_comm]
   cases a.getLsbD j <;> cases b.getLsbD i <;> simp [bit]
 rw [h1, h2, sum_swap]
theorem mul_assoc (a b c : W) : mul a (mul b c) = mul (mul a b) c := by
 have h : ∀ i x, mul a (pw i x) = pw i (mul a x) := fun i x => by rw [mul_comm, mul_pw_left, mul_comm]
 conv => lhs; rw [show mul b c = sum 32 fun i => bit (c.getLsbD i) (pw i b) from rfl]
 rw [sum_lin (mul_zero a) (mul_xor a)]
 unfold mul
 refine sum_congr fun i _ => ?_
 have h2 := h i b
 unfold mul at h2
 cases c.getLsbD i
 ·have := mul_zero a
  unfold mul at this
  simpa [bit] using this
 ·simpa [bit] using h2
theorem one_mul (a : W) : mul 1 a = a := by
 unfold mul
 exact sum_bits a
theorem mul_one (a : W) : mul a 1 = a := by rw [mul_comm, one_mul]

def npow (a : W) : Nat → W
 | 0 => 1
 | n + 1 => mul (npow a n) a
theorem npow_add (a : W) (m : Nat) : ∀ n, npow a (m + n) = mul (npow a m) (npow a n)
 | 0 => (mul_one _).symm
 | n + 1 => by
  rw [show m + (n + 1) = (m + n) + 1 by omega]
  simp only [npow]
  rw [npow_add a m n, mul_assoc]
end Gf
end Go.Proofs.Ytmlkdfjojoophaa.T

namespace Go.Proofs.Ytmlkdfjojoophaa.T
open Go.Dn
attribute [local simp] body_eq globEnv GB List.map_nil List.map_cons List.append_nil w_rangeF i_next i_makeMap i_range i_update i_delete i_entry i_clone entryV cloneV q_rndA q_rndB_n q_rndB_e q_rndB_r setAll w_skip w_ops w_seq w_cond w_block w_exit w_ret q_then_n q_then_e q_then_r q_blk_n q_blk_e q_blk_r q_ops q_cont q_end_n q_end_r q_end_e q_loop_n q_loop_e q_loop_r i_nil i_p i_alloc i_box i_store i_copy i_clear i_call i_callv i_when t_nil t_p t_call t_alloc t_box t_store kept_nil t_copy t_clear q_tcont gsel List.cons_append List.nil_append evalP evalE evalF evalB isObj thaw Opd.ev Env.get Env.set Env.pick putE initEnv evalBin intBin evalUn evalConv goneAll goneOne retV resAll Res.ev tupOf byVals byValsN bv_d bv_da bv_fl bv_tl bn_d bn_da bn_fl bn_tl cx Dn.newObj St.place St.push St.spot St.empty cell_d cell_da cell_agg cell_ref cell_sl cell_fl cell_tl cell_map cell_fn cell_ifc loadAt faddrV partOf extractV mkAgg ofD splice St.setObj fillV
set_option linter.unusedSimpArgs false
set_option linter.unusedVariables false

abbrev Xw (x : W32) : V := .d (.int .u32 (un x))
theorem shl_32 (x : W32) (n : Nat) (h : n < 32) : shiftBin .shl .u32 (un x) (n : Int) = some (Xw (x <<< n)) := by
 have hb : IntKind.u32.bits = 32 := rfl
 have h1 : ¬ ((n : Int) < 0) := by omega
 have hm : min n 32 = n := by omega
 have h2 := shl_u32 x n
 simp only [shiftBin, h1, if_false, hb, Int.toNat_natCast, hm, h2]
theorem shr_32 (x : W32) (n : Nat) (h : n < 32) : shiftBin .shr .u32 (un x) (n : Int) = some (Xw (x >>> n)) := by
 have hb : IntKind.u32.bits = 32 := rfl
 have h1 : ¬ ((n : Int) < 0) := by omega
 have hm : min n 32 = n := by omega
 have h2 := shr_u32 x n
 simp only [shiftBin, h1, if_false, hb, Int.toNat_natCast, hm, h2]
theorem top_and (x : W32) : bits .and .u32 (un x) 2147483648 = if x.msb = true then 2147483648 else 0 := by
 have h1 : bits .and .u32 (un x) 2147483648 = un (x &&& 0x80000000#32) := and_u32 x 0x80000000#32
 have h2 : (0x80000000#32 : W32) = BitVec.twoPow 32 31 := rfl
 rw [h1, h2, BitVec.and_twoPow, BitVec.msb_eq_getLsbD_last]
 split <;> rfl

theorem s_shift (x : W32) : Dn.Call Γ cx .val 100 [Xw x] St.empty fun v _ => v = Xw (Gf.sh x) := by
 refine Dn.Call.body (fc := c100) rfl ?_
 have h1 : shiftBin .shl .u32 (un x) 1 = some (Xw (x <<< 1)) := shl_32 x 1 (by omega)
 have h2 : bits .xor .u32 (un (x <<< 1)) 141 = un ((x <<< 1) ^^^ 0x8d#32) := xor_u32 (x <<< 1) 0x8d#32
 have h3 := top_and x
 cases hm : x.msb with
 | true =>
  rw [hm] at h3
  simp -implicitDefEqProofs [c100, c100_k2, h3, c100_k1, h1, h2, Gf.sh, hm]
 | false =>
  rw [hm] at h3
  simp -implicitDefEqProofs [c100, c100_k2, h3, c100_k1, c100_k0, h1, Gf.sh, hm]

def hor (a b : W32) : Nat → W32
 | 0 => 0
 | n + 1 => Gf.sh (hor a b n) ^^^ Gf.bit (b.getLsbD (31 - n)) a
theorem hor_mul (a b : W32) : ∀ n, n ≤ 32 → Gf.mul a b = Gf.sum (32 - n) (fun i => Gf.bit (b.getLsbD i) (Gf.pw i a)) ^^^ Gf.pw (32 - n) (hor a b n)
 | 0, _ => by
  have : Gf.pw 32 (0 : W32) = 0 := Gf.pw_zero 32
  simp only [hor, Nat.sub_zero, this]
  simp [Gf.mul]
 | n + 1, h => by
  rw [hor_mul a b n (by omega)]
  obtain ⟨k, hk⟩ : ∃ k, 32 - n = k + 1 := ⟨31 - n, by omega⟩
  have hk2 : 31 - n = k := by omega
  have hk3 : 32 - (n + 1) = k := by omega
  rw [hk, hk3]
  simp only [Gf.sum, hor, hk2]
  rw [Gf.pw_xor, Gf.bit_pw]
  have : Gf.pw (k + 1) (hor a b n) = Gf.pw k (Gf.sh (hor a b n)) := Gf.pw_add _ 1 k
  rw [this, BitVec.xor_assoc, BitVec.xor_comm (Gf.bit _ _)]
theorem hor_all (a b : W32) : hor a b 32 = Gf.mul a b := by
 have := hor_mul a b 32 (by omega)
 simp only [Nat.sub_self, Gf.sum, Gf.pw] at this
 rw [this]
 simp

theorem bit_and (b : W32) (k : Nat) : bits .and .u32 (un (b >>> k)) 1 = if b.getLsbD k = true then 1 else 0 := by
 have h1 : bits .and .u32 (un (b >>> k)) 1 = un ((b >>> k) &&& 1#32) := and_u32 (b >>> k) 1#32
 have h2 : (1#32 : W32) = BitVec.twoPow 32 0 := rfl
 rw [h1, h2, BitVec.and_twoPow, BitVec.getLsbD_ushiftRight, Nat.add_zero]
 split <;> rfl

def InvMul (a b : W32) (m : Nat) (e : Env) (s : St) : Prop := ∃ n : Nat, e = [(0, Xw a), (1, Xw b), (5, Xw (hor a b n)), (6, I (31 - (n : Int)))] ∧ m = 32 - n ∧ n ≤ 32 ∧ s = St.empty
theorem s_Mul (a b : W32) : Dn.Call Γ cx .val 79 [Xw a, Xw b] St.empty fun v _ => v = Xw (Gf.mul a b) := by
 refine Dn.Call.body (fc := c79) rfl ?_
 simp -implicitDefEqProofs [c79, c79_k10, c79_k9, c79_k8]
 refine wloopI (InvMul a b) (m := 32) ⟨0, rfl, rfl, by omega, rfl⟩ ?_
 rintro m e s ⟨n, rfl, rfl, hn, rfl⟩
 by_cases hn2 : n < 32
 ·obtain ⟨k, hk⟩ : ∃ k : Nat, 31 - n = k := ⟨_, rfl⟩
  have hk2 : 31 - (n : Int) = (k : Int) := by omega
  have hk0 : (0 : Int) ≤ k := by omega
  have hsr := shr_32 b k (by omega)
  have hba := bit_and b k
  have w9 : IntKind.i64.wrap ((k : Int) - 1) = 31 - ((n + 1 : Nat) : Int) := by rw [wrap_i64 (by omega) (by omega)]; omega
  have hh : hor a b (n + 1) = Gf.sh (hor a b n) ^^^ Gf.bit (b.getLsbD k) a := by simp only [hor, hk]
  rw [hk2]
  simp -implicitDefEqProofs [hk0, c79_l7, c79_k6, c79_k5, c79_k4]
  refine use_fn rfl (s_shift (hor a b n)) rfl ?_
  cases hb : b.getLsbD k with
  | true =>
   rw [hb] at hba hh
   simp -implicitDefEqProofs [c79_k3, hsr, hba, c79_k2, xor_u32, c79_k1, w9]
   exact ⟨32 - (n + 1), by omega, n + 1, by rw [hh]; rfl, rfl, by omega, rfl⟩
  | false =>
   rw [hb] at hba hh
   simp -implicitDefEqProofs [c79_k3, hsr, hba, c79_k2, c79_k1, w9]
   exact ⟨32 - (n + 1), by omega, n + 1, by rw [hh]; simp [Gf.bit], rfl, by omega, rfl⟩
 ·obtain rfl : n = 32 := by omega
  simp -implicitDefEqProofs [c79_l7, c79_k6, c79_k0, hor_all]
theorem s_Square (a : W32) : Dn.Call Γ cx .val 61 [Xw a] St.empty fun v _ => v = Xw (Gf.mul a a) := by
 refine Dn.Call.body (fc := c61) rfl ?_
 simp -implicitDefEqProofs [c61, c61_k0]
 refine use_fn rfl (s_Mul a a) rfl ?_
 simp -implicitDefEqProofs

def tcell (a : W32) (j : Nat) : W32 := Gf.mul a (BitVec.ofNat 32 (j % 256) <<< (8 * (j / 256)))
def tpart (a : W32) (j : Nat) : List V := (List.range j).map (fun k => Xw (tcell a k)) ++ List.replicate (1024 - j) (Xw 0)
theorem tpart_len (a : W32) {j : Nat} (h : j ≤ 1024) : (tpart a j).length = 1024 := by simp [tpart]; omega
theorem tpart_set (a : W32) {j : Nat} (h : j < 1024) : splice (tpart a j) j [Xw (tcell a j)] = tpart a (j + 1) := by
 have h1 : (tpart a j).take j = (List.range j).map (fun k => Xw (tcell a k)) := by
  unfold tpart
  rw [List.take_left' (by simp)]
 have h2 : (tpart a j).drop (j + 1) = List.replicate (1024 - (j + 1)) (Xw 0) := by
  unfold tpart
  rw [List.drop_append, List.drop_of_length_le (by simp), List.length_map, List.length_range, Nat.add_sub_cancel_left, List.drop_replicate, List.nil_append, Nat.sub_sub]
 simp only [splice, List.length_singleton, h1, h2]
 simp only [tpart, List.range_succ, List.map_append, List.map_cons, List.map_nil, List.append_assoc]
theorem tpart_at (a : W32) {j : Nat} (h : j < 1024) : (tpart a 1024)[j]? = some (Xw (tcell a j)) := by
 simp [tpart, h]
theorem ofD_rep (d : D) : ∀ n, ofD (List.replicate n (V.d d)) = some (List.replicate n d)
 | 0 => rfl
 | n + 1 => by simp only [List.replicate_succ, ofD, ofD_rep d n]

def InvBy1 (σ : St) (a : W32) (m : Nat) (e : Env) (s : St) : Prop := ∃ i : Nat, e = [(0, Xw a), (3, .ref σ.objs.length 0), (8, I i)] ∧ m = 4 - i ∧ i ≤ 4 ∧ s = ⟨σ.objs ++ [.cells (tpart a (256 * i))], σ.toks⟩
structure By2 (σ : St) (a : W32) (i : Nat) (m : Nat) (e : Env) (s : St) (b : Nat) : Prop where
 e : e = [(0, Xw a), (3, .ref σ.objs.length 0), (4, I i), (8, I i), (11, I b)]
 m : m + b = 256
 s : s = ⟨σ.objs ++ [.cells (tpart a (256 * i + b))], σ.toks⟩
def InvBy2 (σ : St) (a : W32) (i : Nat) (m : Nat) (e : Env) (s : St) : Prop := ∃ b : Nat, By2 σ a i m e s b

set_option maxRecDepth 20000 in
theorem s_By {σ : St} (a : W32) : Dn.Call Γ cx .raw 72 [Xw a] σ fun v s => v = .ref σ.objs.length 0 ∧ s = ⟨σ.objs ++ [.cells (tpart a 1024)], σ.toks⟩ := by
 refine Dn.Call.body (fc := c72) rfl ?_
 have hz : List.replicate 1024 (V.d (.int .u32 0)) = tpart a 0 := by
  have e : (V.d (.int .u32 0)) = Xw 0 := rfl
  unfold tpart
  rw [List.range_zero, List.map_nil, List.nil_append, Nat.sub_zero, e]
 have hm : (List.replicate 1024 (D.int .u32 0)).map V.d = List.replicate 1024 (V.d (.int .u32 0)) := by rw [List.map_replicate]
 have ho : ofD (List.replicate 1024 (V.d (.int .u32 0))) = some (List.replicate 1024 (.int .u32 0)) := by rw [ofD_rep]
 have og : ∀ o, (σ.objs ++ [o])[σ.objs.length]? = some o := fun o => by simp
 have os : ∀ o o', (σ.objs ++ [o]).set σ.objs.length o' = σ.objs ++ [o'] := fun o o' => by simp
 simp -implicitDefEqProofs [-List.reduceReplicate, c72, c72_k13, mkAgg, hm, ho]
 rw [hz]
 simp -implicitDefEqProofs [c72_k12, c72_k11]
 refine wloopI (InvBy1 σ a) (m := 4) ⟨0, rfl, rfl, by omega, rfl⟩ ?_
 rintro m e s ⟨i, rfl, rfl, hi, rfl⟩
 by_cases hi4 : i < 4
 rotate_left
 ·obtain rfl : i = 4 := by omega
  simp -implicitDefEqProofs [c72_l10, c72_k9, c72_k0]
 have hii : (i : Int) < 4 := by omega
 simp -implicitDefEqProofs [c72_l10, c72_k9, hii, c72_k8, c72_k7, c72_k6]
 refine wloopI (InvBy2 σ a i) (m := 256) ⟨0, rfl, rfl, rfl⟩ ?_
 rintro m e s ⟨b, hB⟩
 obtain ⟨he, hmm, hs⟩ := hB
 subst he hs
 have hb : b ≤ 256 := by omega
 rcases Nat.lt_or_ge b 256 with hb2 | hb2
 rotate_left
 ·have hb3 : b = 256 := by omega
  subst hb3
  simp -implicitDefEqProofs [c72_l5, c72_k4, wrap_i64 (n := (i : Int) + 1) (by omega) (by omega)]
  exact ⟨4 - (i + 1), by omega, i + 1, rfl, rfl, by omega, by rw [show 256 * (i + 1) = 256 * i + 256 by omega]⟩
 have hbb : (b : Int) < 256 := by omega
 have hc : IntKind.u32.wrap (b : Int) = un (BitVec.ofNat 32 b) := wrap_u32 b
 have h8 : IntKind.i64.wrap (8 * (i : Int)) = ((8 * i : Nat) : Int) := by rw [wrap_i64 (by omega) (by omega)]; omega
 have hsl := shl_32 (BitVec.ofNat 32 b) (8 * i) (by omega)
 have hj : tcell a (256 * i + b) = Gf.mul a (BitVec.ofNat 32 b <<< (8 * i)) := by
  unfold tcell
  rw [show (256 * i + b) % 256 = b by omega, show (256 * i + b) / 256 = i by omega]
 have hset := tpart_set a (j := 256 * i + b) (by omega)
 have hlen := tpart_len a (j := 256 * i + b) (by omega)
 rw [hj] at hset
 have w9 : IntKind.i64.wrap ((b : Int) + 1) = ((b + 1 : Nat) : Int) := by rw [wrap_i64 (by omega) (by omega)]; omega
 have hidx : i * 256 + b = 256 * i + b := by omega
 obtain ⟨i8, hi8⟩ : ∃ i8, 8 * i = i8 := ⟨_, rfl⟩
 rw [hi8] at h8 hsl hset
 obtain ⟨j, hjd⟩ : ∃ j, 256 * i + b = j := ⟨_, rfl⟩
 have hj1 : j + 1 ≤ 1024 := by omega
 rw [hjd] at hset hlen hidx
 rw [hjd]
 simp -implicitDefEqProofs [c72_l5, c72_k4, hbb, c72_k3, c72_k2, c72_k1]
 refine w_drw (fun _ => .val) [] (by decide +kernel) ?_
 simp only [room_zero]
 simp -implicitDefEqProofs [hc, h8, hsl]
 refine use_fnN rfl rfl (s_Mul a _) rfl ?_
 simp only [q_tcont, putE, Env.set]
 simp -implicitDefEqProofs [-splice, nilCheckV, iaddrArrV, asIdx, hii, hbb, hidx, og, os, hlen, hj1, hset, w9]
 exact ⟨m - 1, by omega, b + 1, rfl, by omega, by rw [← hjd, Nat.add_assoc]⟩

def psum (a b : W32) : Nat → W32
 | 0 => 0
 | n + 1 => psum a b n ^^^ Gf.mul a (((b >>> (8 * n)) &&& 255#32) <<< (8 * n))
theorem bytes_xor (b : W32) : (((b >>> 0) &&& 255#32) <<< 0) ^^^ (((b >>> 8) &&& 255#32) <<< 8) ^^^ (((b >>> 16) &&& 255#32) <<< 16) ^^^ (((b >>> 24) &&& 255#32) <<< 24) = b := by
 apply BitVec.eq_of_getLsbD_eq
 intro i hi
 have hl : ∀ k, (255#32).getLsbD k = decide (k < 8) := fun k => by
  have := Nat.testBit_two_pow_sub_one 8 k
  have h2 : (255#32 : W32).getLsbD k = (decide (k < 32) && Nat.testBit 255 k) := by rw [BitVec.getLsbD_ofNat]
  rw [h2]
  rw [show (255 : Nat) = 2 ^ 8 - 1 by decide, this]
  by_cases h : k < 8
  ·simp [h, show k < 32 by omega]
  ·simp [h]
 simp only [BitVec.getLsbD_xor, BitVec.getLsbD_shiftLeft, BitVec.getLsbD_and, BitVec.getLsbD_ushiftRight, hl, hi, decide_true, Bool.true_and]
 have ge : ∀ n : Nat, ¬ i < n → n + (i - n) = i := fun n h => by omega
 by_cases h8 : i < 8
 ·simp [h8, show i < 16 by omega, show i < 24 by omega]
 ·by_cases h16 : i < 16
  ·simp [h8, h16, show i < 24 by omega, show i - 8 < 8 by omega, ge 8 h8]
  ·by_cases h24 : i < 24
   ·simp [h8, h16, h24, show ¬ i - 8 < 8 by omega, show i - 16 < 8 by omega, ge 16 h16]
   ·simp [h8, h16, h24, show ¬ i - 8 < 8 by omega, show ¬ i - 16 < 8 by omega, show i - 24 < 8 by omega, ge 24 h24]
theorem psum_all (a b : W32) : psum a b 4 = Gf.mul a b := by
 conv => rhs; rw [← bytes_xor b]
 rw [Gf.mul_xor, Gf.mul_xor, Gf.mul_xor]
 simp only [psum]
 simp

def InvTm (x : Nat) (a b : W32) (s0 : St) (m : Nat) (e : Env) (s : St) : Prop := ∃ i : Nat, e = [(0, .ref x 0), (1, Xw b), (5, Xw (psum a b i)), (9, I i)] ∧ m = 4 - i ∧ i ≤ 4 ∧ s = s0
theorem s_Tmul {σ : St} {x : Nat} {a : W32} (hx : σ.objs[x]? = some (.cells (tpart a 1024))) (b : W32) : Dn.Call Γ cx .rd 73 [.ref x 0, Xw b] σ fun v _ => v = Xw (Gf.mul a b) := by
 refine Dn.Call.body (fc := c73) rfl ?_
 simp -implicitDefEqProofs [c73, c73_k10, eqV, V.isNil, Opd.isC, c73_k9, c73_k8, c73_k7, c73_k6]
 refine wloopI (InvTm x a b σ) (m := 4) ⟨0, rfl, rfl, by omega, rfl⟩ ?_
 rintro m e s ⟨i, rfl, rfl, hi, rfl⟩
 by_cases hi4 : i < 4
 rotate_left
 ·obtain rfl : i = 4 := by omega
  simp -implicitDefEqProofs [c73_l5, c73_k4, c73_k0, psum_all]
  exact ⟨fun i hi => rfl, fun t k ht => ht⟩
 have hii : (i : Int) < 4 := by omega
 have h8 : IntKind.i64.wrap (8 * (i : Int)) = ((8 * i : Nat) : Int) := by rw [wrap_i64 (by omega) (by omega)]; omega
 have hsr := shr_32 b (8 * i) (by omega)
 have han : bits .and .u32 (un (b >>> (8 * i))) 255 = un ((b >>> (8 * i)) &&& 255#32) := and_u32 (b >>> (8 * i)) 255#32
 have hps : psum a b (i + 1) = psum a b i ^^^ Gf.mul a (((b >>> (8 * i)) &&& 255#32) <<< (8 * i)) := rfl
 obtain ⟨k, hk⟩ : ∃ k, (b >>> (8 * i)) &&& 255#32 = k := ⟨_, rfl⟩
 have hk256 : k.toNat < 256 := by
  rw [← hk, BitVec.toNat_and]
  have := Nat.and_le_right (n := (b >>> (8 * i)).toNat) (m := (255#32).toNat)
  have h2 : (255#32 : W32).toNat = 255 := rfl
  omega
 rw [hk] at han hps
 have hcell : (tpart a 1024)[i * 256 + k.toNat]? = some (Xw (Gf.mul a (k <<< (8 * i)))) := by
  rw [tpart_at a (by omega)]
  unfold tcell
  rw [show (i * 256 + k.toNat) % 256 = k.toNat by omega, show (i * 256 + k.toNat) / 256 = i by omega, BitVec.ofNat_toNat, BitVec.setWidth_eq]
 have hun : un k = (k.toNat : Int) := rfl
 have hkk : (k.toNat : Int) < 256 := by omega
 obtain ⟨i8, hi8⟩ : ∃ i8, 8 * i = i8 := ⟨_, rfl⟩
 rw [hi8] at h8 hsr han hps hcell
 clear hi4
 simp -implicitDefEqProofs [c73_l5, c73_k4, hii, c73_k3, c73_k2, c73_k1]
 refine w_drw (fun _ => .val) [] (by decide +kernel) ?_
 simp only [room_zero]
 simp -implicitDefEqProofs [h8, hsr, han, nilCheckV, iaddrArrV, asIdx, hii, hun, hkk, hx, hcell, xor_u32, wrap_i64 (n := (i : Int) + 1) (by omega) (by omega)]
 exact ⟨4 - (i + 1), by omega, i + 1, by rw [hps]; rfl, rfl, by omega, rfl⟩

def oddp (a : W32) (k : Nat) : W32 := Gf.npow a (2 * k + 1)
theorem oddp_zero (a : W32) : oddp a 0 = a := by
 show Gf.mul 1 a = a
 exact Gf.one_mul a
theorem oddp_succ (a : W32) (k : Nat) : oddp a (k + 1) = Gf.mul (Gf.mul a a) (oddp a k) := by
 unfold oddp
 rw [show 2 * (k + 1) + 1 = (2 * k + 1) + 2 by omega, Gf.npow_add, Gf.mul_comm]
 have : Gf.npow a 2 = Gf.mul a a := by
  show Gf.mul (Gf.mul 1 a) a = _
  rw [Gf.one_mul]
 rw [this]
def fnV (n : Nat) (f : Nat → W32) : List V := (List.range n).map fun k => Xw (f k)
theorem fnV_len (n : Nat) (f : Nat → W32) : (fnV n f).length = n := by simp [fnV]
theorem fnV_at {n : Nat} (f : Nat → W32) {k : Nat} (h : k < n) : (fnV n f)[k]? = some (Xw (f k)) := by simp [fnV, h]
theorem fnV_congr {n : Nat} {f g : Nat → W32} (h : ∀ k, k < n → f k = g k) : fnV n f = fnV n g := by
 unfold fnV
 refine List.map_congr_left fun k hk => ?_
 rw [h k (List.mem_range.1 hk)]
theorem fnV_set {n : Nat} (f : Nat → W32) {i : Nat} (h : i < n) (v : W32) : splice (fnV n f) i [Xw v] = fnV n fun k => if k = i then v else f k := by
 apply List.ext_getElem?
 intro k
 simp only [splice, List.length_singleton]
 rcases Nat.lt_trichotomy k i with hk | hk | hk
 ·rw [List.getElem?_append_left (by simp [fnV_len]; omega), List.getElem?_append_left (by simp [fnV_len]; omega), List.getElem?_take_of_lt hk, fnV_at _ (by omega), fnV_at _ (by omega), if_neg (by omega)]
 ·subst hk
  rw [List.getElem?_append_left (by simp [fnV_len]; omega), List.getElem?_append_right (by simp [fnV_len]; omega), fnV_at _ h]
  simp [fnV_len, Nat.min_eq_left (Nat.le_of_lt h)]
 ·rw [List.getElem?_append_right (by simp [fnV_len]; omega)]
  simp only [List.length_append, List.length_take, fnV_len, List.length_singleton, Nat.min_eq_left (Nat.le_of_lt h)]
  rw [List.getElem?_drop, show i + 1 + (k - (i + 1)) = k by omega]
  by_cases hkn : k < n
  ·rw [fnV_at _ hkn, fnV_at _ hkn, if_neg (by omega)]
  ·rw [List.getElem?_eq_none (by rw [fnV_len]; omega), List.getElem?_eq_none (by rw [fnV_len]; omega)]

def mid (a : W32) (f : Nat → W32) (i : Nat) : Nat → W32 := fun k => if k < i then f k ^^^ oddp a k else f k
structure PutS (σ s : St) (r p n : Nat) (a : W32) (f : Nat → W32) (i : Nat) : Prop where
 l : s.objs[r]? = some (.cells (fnV n (mid a f i)))
 t : s.objs[p]? = some (.cells (tpart (Gf.mul a a) 1024))
 fr : Fr [r] σ s
 tk : s.toks = σ.toks
def InvPutS (σ : St) (r p n : Nat) (a : W32) (f : Nat → W32) (m : Nat) (e : Env) (s : St) : Prop := ∃ i : Nat, e = [(0, .sl r 0 n 1), (1, Xw (oddp a i)), (4, .ref p 0), (10, I n), (11, I i)] ∧ m = n - i ∧ i ≤ n ∧ PutS σ s r p n a f i

theorem s_put {σ : St} {r n : Nat} {f : Nat → W32} (h : σ.objs[r]? = some (.cells (fnV n f))) (hn : n ≤ 1000) (a : W32) : Dn.Call Γ cx .raw 55 [.sl r 0 n 1, Xw a] σ fun _ s => s.objs[r]? = some (.cells (fnV n fun k => f k ^^^ oddp a k)) ∧ Fr [r] σ s ∧ s.toks = σ.toks := by
 refine Dn.Call.body (fc := c55) rfl ?_
 have hrl : r < σ.objs.length := (List.getElem?_eq_some_iff.1 h).1
 simp -implicitDefEqProofs [c55]
 refine use_fn rfl (s_Square a) rfl ?_
 simp -implicitDefEqProofs
 refine use_raw (s_By (Gf.mul a a)) fun v s ⟨hv, hs⟩ => ?_
 subst hv
 have h0 : PutS σ s r σ.objs.length n a f 0 := by
  refine ⟨?_, by rw [hs]; simp, ⟨by rw [hs]; simp, fun q _ hq => by rw [hs]; simp only; rw [List.getElem?_append_left hq]⟩, by rw [hs]⟩
  rw [hs]
  simp only
  rw [List.getElem?_append_left hrl, h]
  congr 2
 have hrp : r ≠ σ.objs.length := by omega
 generalize σ.objs.length = p at *
 clear hs
 simp -implicitDefEqProofs [c55_k7, lenT, lenV, c55_k6]
 refine wloopI (InvPutS σ r p n a f) (m := n) ⟨0, by rw [oddp_zero]; rfl, rfl, by omega, h0⟩ ?_
 rintro m e s ⟨i, rfl, rfl, hi, hP⟩
 rcases hin : decide ((i : Int) < n) with _ | _
 ·have hlt : ¬ (i : Int) < n := of_decide_eq_false hin
  obtain rfl : i = n := by omega
  simp -implicitDefEqProofs [c55_l5, c55_k4]
  refine ⟨?_, hP.fr, hP.tk⟩
  rw [hP.l]
  congr 2
  exact fnV_congr fun k hk => by simp [mid, hk]
 have hlt : (i : Int) < n := of_decide_eq_true hin
 have hin2 : i < n := by omega
 have ia := fun σ => iaddr_sl σ (q := r) (n := n) (i := i) hin2
 have hat := fnV_at (mid a f i) hin2
 have hset := fnV_set (mid a f i) hin2 (mid a f i i ^^^ oddp a i)
 have hlen := fnV_len n (mid a f i)
 have hmid : fnV n (fun k => if k = i then mid a f i i ^^^ oddp a i else mid a f i k) = fnV n (mid a f (i + 1)) := fnV_congr fun k hk => by
  simp only [mid]
  by_cases h1 : k = i
  ·subst h1; simp
  ·by_cases h2 : k < i
   ·simp [h1, h2, show k < i + 1 by omega]
   ·simp [h1, h2, show ¬ k < i + 1 by omega]
 rw [hmid] at hset
 have hi1 : i + 1 ≤ n := by omega
 have w9 : IntKind.i64.wrap ((i : Int) + 1) = ((i + 1 : Nat) : Int) := by rw [wrap_i64 (by omega) (by omega)]; omega
 have hl := hP.l
 have hrs : r < s.objs.length := (List.getElem?_eq_some_iff.1 hl).1
 have hnext : PutS σ ⟨s.objs.set r (.cells (fnV n (mid a f (i + 1)))), s.toks⟩ r p n a f (i + 1) :=
  ⟨by simp only; rw [List.getElem?_set_self hrs], by simp only; rw [List.getElem?_set_ne hrp]; exact hP.t, hP.fr.trans ⟨by simp, fun q hq _ => by simp only; rw [List.getElem?_set_ne (fun e => hq (by simp [e]))]⟩, hP.tk⟩
 generalize mid a f i = g at *
 clear hin2 hrs
 simp -implicitDefEqProofs [-splice, hlt, c55_l5, c55_k4, c55_k3, c55_k2, c55_k1, ia, hl, hat, xor_u32, hlen, hi1, hset]
 obtain ⟨s2, hs2⟩ : ∃ s2 : St, (⟨s.objs.set r (.cells (fnV n (mid a f (i + 1)))), s.toks⟩ : St) = s2 := ⟨_, rfl⟩
 rw [hs2] at hnext ⊢
 simp -implicitDefEqProofs [c55_k0]
 refine use_rd (s_Tmul hnext.t (oddp a i)) ?_
 rw [← oddp_succ]
 simp -implicitDefEqProofs [w9]
 exact ⟨n - (i + 1), by omega, i + 1, rfl, rfl, by omega, hnext⟩

def wof (i : Int) : W32 := BitVec.ofNat 32 i.toNat
theorem un_wof {i : Int} (h0 : 0 ≤ i) (h1 : i ≤ 4294967295) : un (wof i) = i := by
 simp only [un, wof, BitVec.toNat_ofNat]
 omega
def acc (f : Nat → W32) (ids : List Int) (k : Nat) : W32 := ids.foldl (fun a i => a ^^^ oddp (wof i) k) (f k)
theorem acc_snoc (f : Nat → W32) (ids : List Int) (i : Int) : acc f (ids ++ [i]) = fun k => acc f ids k ^^^ oddp (wof i) k := by
 funext k
 simp [acc]
structure Sk (s : St) (x r n : Nat) (f : Nat → W32) : Prop where
 o : s.objs[x]? = some (.cells [.sl r 0 n 1])
 l : s.objs[r]? = some (.cells (fnV n f))
def InvSkP (σ : St) (x r n : Nat) (f : Nat → W32) (v : V) (ids : List Int) (m : Nat) (e : Env) (s : St) : Prop := ∃ i : Nat, e = [(0, .ref x 0), (14, v), (15, I ids.length), (16, I i)] ∧ m = ids.length - i ∧ i ≤ ids.length ∧ Sk s x r n (acc f (ids.take i)) ∧ Fr [r] σ s ∧ s.toks = σ.toks

theorem s_skPut {σ : St} {x r n : Nat} {f : Nat → W32} (h : Sk σ x r n f) (hxr : x ≠ r) (hn : n ≤ 1000) {v : V} {ids : List Int} (hv : LV v (uRows ids)) (hids : ∀ i ∈ ids, 0 ≤ i ∧ i ≤ 4294967295) (hz : (0 : Int) ∉ ids) (hlen : ids.length ≤ 1000) :
  Dn.Call Γ cx .raw 28 [.ref x 0, v] σ fun w s => w = .d .nili ∧ Sk s x r n (acc f ids) ∧ Fr [r] σ s ∧ s.toks = σ.toks := by
 refine Dn.Call.body (fc := c28) rfl ?_
 have hlv : ∀ σ, lenT σ .slice v = some ids.length := fun σ => by rw [hv.len, uRows_len]
 have hdv := hv.dv σ
 obtain ⟨y, hy⟩ := hdv.2.2.1
 have hc := s_Contains (x := y) (L := ids) (hy ▸ hdv.2.1) (h := 0) (by omega)
 have hcv : decide ((0 : Int) ∈ ids) = false := by simpa using hz
 rw [hcv] at hc
 have hbr := lv_br hv
 simp -implicitDefEqProofs [c28, c28_k7, eqV, V.isNil, Opd.isC]
 refine use_fn (ds := [.d y, X 0]) (by simp only [byVals, bv_d, hdv.1, hy]) hc (Bool.or_true _) ?_
 simp -implicitDefEqProofs [c28_k6, c28_k5, hlv, c28_k4]
 refine wloopI (InvSkP σ x r n f v ids) (m := ids.length) ⟨0, rfl, rfl, by omega, h, Fr.refl _ _, rfl⟩ ?_
 rintro m e s ⟨i, rfl, rfl, hi, hS, hfr, htk⟩
 rcases hin : decide ((i : Int) < ids.length) with _ | _
 ·have hlt : ¬ (i : Int) < ids.length := of_decide_eq_false hin
  obtain rfl : i = ids.length := by omega
  rw [List.take_length] at hS
  simp -implicitDefEqProofs [c28_l3, c28_k2]
  exact ⟨hS, hfr, htk⟩
 have hlt : (i : Int) < ids.length := of_decide_eq_true hin
 obtain ⟨q, hq⟩ : ∃ q, ids[i]? = some q := ⟨_, List.getElem?_eq_getElem (by omega)⟩
 have hqb := hids q (List.mem_of_getElem? hq)
 have hia := fun σ => hv.iaddr σ (k := .i64) (sz := 1) (i := i) (uRows_at hq) rfl
 have hta : ids.take (i + 1) = ids.take i ++ [q] := by rw [List.take_add_one, hq]; rfl
 have w9 : IntKind.i64.wrap ((i : Int) + 1) = ((i + 1 : Nat) : Int) := by rw [wrap_i64 (by omega) (by omega)]; omega
 have hun := un_wof hqb.1 hqb.2
 have step := s_put hS.l hn (wof q)
 have hX : Xw (wof q) = X q := by show V.d (.int .u32 (un (wof q))) = _; rw [hun]
 rw [hX] at step
 simp -implicitDefEqProofs [hlt, c28_l3, c28_k2, c28_k1, hia, c28_k0, nilCheckV, hS.o]
 refine use_raw step fun w s2 ⟨hl2, hfr2, htk2⟩ => ?_
 have hS2 : Sk s2 x r n (acc f (ids.take (i + 1))) := ⟨hfr2.get hS.o (by simp [hxr]), by rw [hl2, hta, acc_snoc]⟩
 simp -implicitDefEqProofs [w9]
 exact ⟨ids.length - (i + 1), by omega, i + 1, rfl, rfl, by omega, hS2, hfr.trans hfr2, by rw [htk2, htk]⟩

theorem zeros_fn (n : Nat) : List.replicate n (V.d (.int .u32 0)) = fnV n fun _ => 0 := by
 have e : (V.d (.int .u32 0)) = Xw 0 := rfl
 unfold fnV
 rw [e, List.map_const']
 simp

theorem repl_one : ∀ n : Nat, repl n [.int .u32 0] = List.replicate n (V.d (.int .u32 0))
 | 0 => rfl
 | n + 1 => by
  simp only [repl, repl_one n, List.replicate_succ]
  rfl
theorem s_skNew {σ : St} {n : Nat} (h1 : 1 ≤ n) (h2 : n ≤ 40) {v : V} {ids : List Int} (hv : LV v (uRows ids)) (hids : ∀ i ∈ ids, 0 ≤ i ∧ i ≤ 4294967295) (hz : (0 : Int) ∉ ids) (hlen : ids.length ≤ 1000) :
  Dn.Call Γ cx .raw 11 [I n, v] σ fun w s => w = .tup [.ref (σ.objs.length + 1) 0, .d .nili] ∧ Sk s (σ.objs.length + 1) σ.objs.length n (acc (fun _ => 0) ids) ∧ Fr [] σ s ∧ s.toks = σ.toks := by
 refine Dn.Call.body (fc := c11) rfl ?_
 have l1 : ¬ (n : Int) < 1 := by omega
 have l2 : ¬ (40 : Int) < n := by omega
 have l1' : (1 : Int) ≤ n := by omega
 have l2' : (n : Int) ≤ 40 := by omega
 obtain ⟨n1, hn1⟩ : ∃ n1 : Int, (n : Int) = n1 := ⟨_, rfl⟩
 simp -implicitDefEqProofs [c11, c11_k6, l1, l2, c11_k5]
 have hl0 : (fnV n fun _ => 0).length = n := fnV_len n _
 simp -implicitDefEqProofs [c11_k4]
 refine i_app_f (v := .sl σ.objs.length 0 n 1) (s := ⟨σ.objs ++ [.cells (fnV n fun _ => 0)], σ.toks⟩) ?_ ?_
 ·have hb : (n : Int) * 4 ≤ 140737488355328 := by omega
  have hb2 : (n : Int) ≤ 9223372036854775807 := by omega
  have hr : repl n [.int .u32 0] = fnV n fun _ => 0 := by
   rw [← zeros_fn]
   exact repl_one n
  simp [evalE, Opd.ev, Env.get, hb, hb2, hr, Dn.newObj, St.place, St.push, St.spot]
 have hsk : Sk ⟨σ.objs ++ [.cells (fnV n fun _ => 0), .cells [.sl σ.objs.length 0 n 1]], σ.toks⟩ (σ.objs.length + 1) σ.objs.length n (fun _ => 0) := ⟨by simp [List.getElem?_append], by simp⟩
 simp -implicitDefEqProofs
 refine use_raw (s_skPut hsk (by omega) (by omega) hv hids hz hlen) fun w s ⟨hw, hS, hfr, htk⟩ => ?_
 subst hw
 simp -implicitDefEqProofs [eqV, V.isNil, Opd.isC, c11_k3, c11_k2, c11_k1, c11_k0]
 refine ⟨hS, ⟨Nat.le_trans (by simp) hfr.len, fun q _ hq => ?_⟩, htk⟩
 rw [hfr.at_ q (by simp; omega) (by simp; omega)]
 simp only
 rw [List.getElem?_append_left hq]
end Go.Proofs.Ytmlkdfjojoophaa.T

namespace Go.Proofs.Ytmlkdfjojoophaa.T
open Go.Dn
attribute [local simp] body_eq globEnv GB List.map_nil List.map_cons List.append_nil w_rangeF i_next i_makeMap i_range i_update i_delete i_entry i_clone entryV cloneV q_rndA q_rndB_n q_rndB_e q_rndB_r setAll w_skip w_ops w_seq w_cond w_block w_exit w_ret q_then_n q_then_e q_then_r q_blk_n q_blk_e q_blk_r q_ops q_cont q_end_n q_end_r q_end_e q_loop_n q_loop_e q_loop_r i_nil i_p i_alloc i_box i_store i_copy i_clear i_call i_callv i_when t_nil t_p t_call t_alloc t_box t_store kept_nil t_copy t_clear q_tcont gsel List.cons_append List.nil_append evalP evalE evalF evalB isObj thaw Opd.ev Env.get Env.set Env.pick putE initEnv evalBin intBin evalUn evalConv goneAll goneOne retV resAll Res.ev tupOf byVals byValsN bv_d bv_da bv_fl bv_tl bn_d bn_da bn_fl bn_tl cx Dn.newObj St.place St.push St.spot St.empty cell_d cell_da cell_agg cell_ref cell_sl cell_fl cell_tl cell_map cell_fn cell_ifc loadAt faddrV partOf extractV mkAgg ofD splice St.setObj fillV
set_option linter.unusedSimpArgs false
set_option linter.unusedVariables false
open Sip

def bt (w : W32) (i : Nat) : UInt8 := UInt8.ofNat ((w >>> (8 * i)).toNat)
end Go.Proofs.Ytmlkdfjojoophaa.T

namespace Go.Proofs.Ytmlkdfjojoophaa.T
open Go.Dn
attribute [local simp] body_eq globEnv GB List.map_nil List.map_cons List.append_nil w_rangeF i_next i_makeMap i_range i_update i_delete i_entry i_clone entryV cloneV q_rndA q_rndB_n q_rndB_e q_rndB_r setAll w_skip w_ops w_seq w_cond w_block w_exit w_ret q_then_n q_then_e q_then_r q_blk_n q_blk_e q_blk_r q_ops q_cont q_end_n q_end_r q_end_e q_loop_n q_loop_e q_loop_r i_nil i_p i_alloc i_box i_store i_copy i_clear i_call i_callv i_when t_nil t_p t_call t_alloc t_box t_store kept_nil t_copy t_clear q_tcont gsel List.cons_append List.nil_append evalP evalE evalF evalB isObj thaw Opd.ev Env.get Env.set Env.pick putE initEnv evalBin intBin evalUn evalConv goneAll goneOne retV resAll Res.ev tupOf byVals byValsN bv_d bv_da bv_fl bv_tl bn_d bn_da bn_fl bn_tl cx Dn.newObj St.place St.push St.spot St.empty cell_d cell_da cell_agg cell_ref cell_sl cell_fl cell_tl cell_map cell_fn cell_ifc loadAt faddrV partOf extractV mkAgg ofD splice St.setObj fillV
set_option linter.unusedSimpArgs false
set_option linter.unusedVariables false

namespace Gf
theorem sum_first (f : Nat → W) : ∀ n, sum (n + 1) f = f 0 ^^^ sum n fun i => f (i + 1)
 | 0 => by simp [sum]
 | n + 1 => by
  show sum (n + 1) f ^^^ f (n + 1) = f 0 ^^^ (sum n (fun i => f (i + 1)) ^^^ f (n + 1))
  rw [sum_first f n, BitVec.xor_assoc]
end Gf

end Go.Proofs.Ytmlkdfjojoophaa.T

namespace Go.Proofs.Ytmlkdfjojoophaa.T
open Go.Dn
set_option linter.unusedSimpArgs false
set_option linter.unusedVariables false

namespace Gf
theorem xs (a : W) : a ^^^ a = 0 := BitVec.xor_self
theorem x0 (a : W) : a ^^^ 0 = a := BitVec.xor_zero
theorem zx (a : W) : 0 ^^^ a = a := BitVec.zero_xor
theorem bit_add {f : W → W} (h0 : f 0 = 0) (b : Bool) (x : W) : f (bit b x) = bit b (f x) := by
 cases b
 ·exact h0
 ·rfl
theorem lin_ext {f g : W → W} (f0 : f 0 = 0) (fx : ∀ a b, f (a ^^^ b) = f a ^^^ f b) (g0 : g 0 = 0) (gx : ∀ a b, g (a ^^^ b) = g a ^^^ g b) (h : ∀ j, j < 32 → f (pw j 1) = g (pw j 1)) (a : W) : f a = g a := by
 rw [← sum_bits a, sum_lin f0 fx, sum_lin g0 gx]
 exact sum_congr fun j hj => by rw [bit_add f0, bit_add g0, h j hj]
theorem zero_mul (a : W) : mul 0 a = 0 := by rw [mul_comm, mul_zero]
theorem xor_mul (a b c : W) : mul (a ^^^ b) c = mul a c ^^^ mul b c := by rw [mul_comm, mul_xor, mul_comm c, mul_comm c]
theorem mul_left (a b c : W) : mul a (mul b c) = mul b (mul a c) := by rw [mul_assoc, mul_comm a b, ← mul_assoc]
theorem pw_mul (j : Nat) (a : W) : mul (pw j 1) a = pw j a := by rw [mul_pw_left, one_mul]
def sq (a : W) : W := mul a a
theorem sq_xor (a b : W) : sq (a ^^^ b) = sq a ^^^ sq b := by
 unfold sq
 rw [xor_mul, mul_xor, mul_xor, mul_comm b a]
 generalize mul a a = x
 generalize mul a b = y
 generalize mul b b = z
 rw [BitVec.xor_assoc, ← BitVec.xor_assoc y, xs, zx]
theorem sq_zero : sq 0 = 0 := mul_zero 0
theorem sq_mul (a b : W) : sq (mul a b) = mul (sq a) (sq b) := by
 unfold sq
 rw [← mul_assoc, mul_left b, mul_assoc a a]
def sqn : Nat → W → W
 | 0, a => a
 | n + 1, a => sq (sqn n a)
theorem sqn_xor (a b : W) : ∀ n, sqn n (a ^^^ b) = sqn n a ^^^ sqn n b
 | 0 => rfl
 | n + 1 => by simp only [sqn]; rw [sqn_xor a b n, sq_xor]
theorem sqn_zero : ∀ n, sqn n 0 = 0
 | 0 => rfl
 | n + 1 => by simp only [sqn]; rw [sqn_zero n, sq_zero]
theorem sqn_mul (a b : W) : ∀ n, sqn n (mul a b) = mul (sqn n a) (sqn n b)
 | 0 => rfl
 | n + 1 => by simp only [sqn]; rw [sqn_mul a b n, sq_mul]
theorem sqn_one : ∀ n, sqn n 1 = 1
 | 0 => rfl
 | n + 1 => by simp only [sqn]; rw [sqn_one n]; exact mul_one 1
def nstep (a b r k : Nat) : Nat := ((r * 2 % 4294967296) ^^^ (r / 2147483648 * 141)) ^^^ (b / 2 ^ k % 2 * a)
def nmul (a b : Nat) (n : Nat) : Nat := Nat.rec 0 (fun n r => nstep a b r (31 - n)) n
theorem sh_nat (x : W) : (sh x).toNat = (x.toNat * 2 % 4294967296) ^^^ (x.toNat / 2147483648 * 141) := by
 have hx := x.isLt
 have h1 : (x <<< 1).toNat = x.toNat * 2 % 4294967296 := by
  rw [BitVec.toNat_shiftLeft, Nat.shiftLeft_eq]
 unfold sh
 rw [BitVec.msb_eq_decide]
 by_cases h : 2 ^ (32 - 1) ≤ x.toNat
 ·have hd : x.toNat / 2147483648 = 1 := by omega
  have hb : (BitVec.toNat 0x8d#32) = 141 := rfl
  rw [if_pos (by simpa using h), BitVec.toNat_xor, h1, hd, hb]
 ·have hd : x.toNat / 2147483648 = 0 := by omega
  rw [if_neg (by simpa using h), h1, hd]
  simp
theorem bit_nat (b : W) (k : Nat) (a : W) : (bit (b.getLsbD k) a).toNat = b.toNat / 2 ^ k % 2 * a.toNat := by
 have h : b.getLsbD k = decide (b.toNat / 2 ^ k % 2 = 1) := by
  show b.toNat.testBit k = _
  rw [Nat.testBit_eq_decide_div_mod_eq]
 rw [h]
 have h2 := Nat.mod_two_eq_zero_or_one (b.toNat / 2 ^ k)
 rcases h2 with h2 | h2
 ·rw [h2]; simp [bit]
 ·rw [h2]; simp [bit]
end Gf
theorem hor_nat (a b : W32) : ∀ n, (hor a b n).toNat = Gf.nmul a.toNat b.toNat n
 | 0 => rfl
 | n + 1 => by
  show (Gf.sh (hor a b n) ^^^ Gf.bit (b.getLsbD (31 - n)) a).toNat = Gf.nstep a.toNat b.toNat (Gf.nmul a.toNat b.toNat n) (31 - n)
  rw [BitVec.toNat_xor, Gf.sh_nat, Gf.bit_nat, hor_nat a b n]
  rfl
namespace Gf
def nm (a b : Nat) : Nat := nmul a b 32
theorem mul_nat (a b : W) : (mul a b).toNat = nm a.toNat b.toNat := by rw [← hor_all, hor_nat]; rfl
def nsqn (a n : Nat) : Nat := Nat.rec a (fun _ r => nm r r) n
theorem sqn_nat (a : W) : ∀ n, (sqn n a).toNat = nsqn a.toNat n
 | 0 => rfl
 | n + 1 => by
  show (mul (sqn n a) (sqn n a)).toNat = nm (nsqn a.toNat n) (nsqn a.toNat n)
  rw [mul_nat, sqn_nat a n]
theorem x32n : nsqn 2 32 = 2 := by decide +kernel
theorem x32 : sqn 32 (pw 1 1) = pw 1 1 := by
 apply BitVec.eq_of_toNat_eq
 rw [sqn_nat]
 exact x32n
theorem x32_pw : ∀ j, sqn 32 (pw j 1) = pw j 1
 | 0 => sqn_one 32
 | j + 1 => by
  have h : pw (j + 1) 1 = mul (pw 1 1) (pw j 1) := by rw [pw_mul, ← pw_add, Nat.add_comm]
  rw [h, sqn_mul, x32, x32_pw j]
theorem sqn32 (a : W) : sqn 32 a = a := lin_ext (g := fun a => a) (sqn_zero 32) (fun a b => sqn_xor a b 32) rfl (fun _ _ => rfl) (fun j _ => x32_pw j) a
theorem npow_sqn (a : W) : ∀ k, npow a (2 ^ k) = sqn k a
 | 0 => one_mul a
 | k + 1 => by
  rw [Nat.pow_succ, Nat.mul_two, npow_add, npow_sqn a k]
  rfl

def psiT : List W := [0x54fd1264#32, 0xc26fcd64#32, 0xc26fcd66#32, 0x238a7462#32, 0xc26fcd62#32, 0x973bccaa#32, 0x238a746a#32, 0x77766712#32, 0xc26fcd72#32, 0xc1bdd556#32, 0x973bcc8a#32, 0x572a094c#32, 0x238a742a#32, 0xb693be84#32, 0x77766792#32, 0x9555c03e#32, 0xc26fcc72#32, 0x568419f8#32, 0xc1bdd756#32, 0x96c3d2ca#32, 0x973bc88a#32, 0x54861fdc#32, 0x572a014c#32, 0xb79badc4#32, 0x238a642a#32, 0x0#32, 0xb6939e84#32, 0xc519fa86#32, 0x77762792#32, 0xb9b99fe0#32, 0x9555403e#32, 0x377627ba#32]
def psi (y : W) : W := sum 32 fun j => bit (y.getLsbD j) (psiT.getD j 0)
theorem psi_zero : psi 0 = 0 := by
 unfold psi
 exact (sum_congr (g := fun _ => 0) fun i _ => by rw [show BitVec.getLsbD (0 : W) i = false from BitVec.getLsbD_zero]; rfl).trans (sum_zero 32)
theorem psi_xor (a b : W) : psi (a ^^^ b) = psi a ^^^ psi b := by
 unfold psi
 rw [← sum_xor]
 exact sum_congr fun i _ => by rw [BitVec.getLsbD_xor, bit_xorb]
theorem psi_basis : ∀ j, j < 32 → psi (sq (pw j 1) ^^^ pw j 1) = pw j 1 &&& 0xfffffffe#32 := by decide +kernel
theorem psi_sq (a : W) : psi (sq a ^^^ a) = a &&& 0xfffffffe#32 := by
 refine lin_ext (f := fun a => psi (sq a ^^^ a)) (g := fun a => a &&& 0xfffffffe#32) ?_ ?_ ?_ ?_ psi_basis a
 ·show psi (sq 0 ^^^ 0) = 0
  rw [sq_zero, xs]; exact psi_zero
 ·intro a b
  show psi (sq (a ^^^ b) ^^^ (a ^^^ b)) = psi (sq a ^^^ a) ^^^ psi (sq b ^^^ b)
  rw [← psi_xor, sq_xor]
  congr 1
  rw [BitVec.xor_assoc, BitVec.xor_assoc, ← BitVec.xor_assoc (sq b), BitVec.xor_comm (sq b), BitVec.xor_assoc a]
 ·rfl
 ·intro a b
  apply BitVec.eq_of_getLsbD_eq
  intro i hi
  simp only [BitVec.getLsbD_xor, BitVec.getLsbD_and]
  cases a.getLsbD i <;> cases b.getLsbD i <;> cases (BitVec.getLsbD 0xfffffffe#32 i) <;> rfl
theorem idem {a : W} (h : sq a = a) : a = 0 ∨ a = 1 := by
 have h1 := psi_sq a
 rw [h, xs, psi_zero] at h1
 have h2 : a.toNat &&& 4294967294 = 0 := by
  have := congrArg BitVec.toNat h1
  simpa using this.symm
 have h3 : a.toNat < 2 := by
  rcases Nat.lt_or_ge a.toNat 2 with h4 | h4
  ·exact h4
  ·exfalso
   have hlt := a.isLt
   have h5 : ∃ i, 1 ≤ i ∧ i < 32 ∧ a.toNat.testBit i = true := by
    have hne : a.toNat / 2 ≠ 0 := by omega
    obtain ⟨i, hi⟩ := Nat.exists_testBit_of_ne_zero hne
    rw [Nat.testBit_div_two] at hi
    refine ⟨i + 1, by omega, ?_, hi⟩
    rcases Nat.lt_or_ge (i + 1) 32 with h6 | h6
    ·exact h6
    ·have : a.toNat.testBit (i + 1) = false := Nat.testBit_lt_two_pow (Nat.lt_of_lt_of_le hlt (Nat.pow_le_pow_right (by decide) h6))
     rw [this] at hi; cases hi
   obtain ⟨i, i1, i2, i3⟩ := h5
   have h7 : Nat.testBit 4294967294 i = true := by
    have : ∀ i, i < 32 → 1 ≤ i → Nat.testBit 4294967294 i = true := by decide
    exact this i i2 i1
   have h8 : (a.toNat &&& 4294967294).testBit i = true := by rw [Nat.testBit_and, i3, h7]; rfl
   rw [h2] at h8
   simp at h8
 rcases Nat.lt_or_ge a.toNat 1 with h4 | h4
 ·left
  apply BitVec.eq_of_toNat_eq
  show a.toNat = 0
  omega
 ·right
  apply BitVec.eq_of_toNat_eq
  show a.toNat = 1
  omega

def inv (a : W) : W := npow a (2 ^ 32 - 2)
theorem inv_mul {a : W} (ha : a ≠ 0) : mul (inv a) a = 1 := by
 have key : ∀ N, npow a (N + 2) = a → mul (npow a N) a = 1 := by
  intro N h
  have e1 : mul (npow a (N + 1)) a = a := h
  have e2 : sq (npow a (N + 1)) = npow a (N + 1) := by
   unfold sq
   rw [← npow_add, show N + 1 + (N + 1) = (N + 2) + N by omega, npow_add, h, mul_comm]
   rfl
  rcases idem e2 with h0 | h1
  ·rw [h0, zero_mul] at e1
   exact absurd e1.symm ha
  ·exact h1
 refine key (2 ^ 32 - 2) ?_
 rw [Nat.sub_add_cancel (by decide), npow_sqn, sqn32]
theorem mul_inv {a : W} (ha : a ≠ 0) : mul a (inv a) = 1 := by rw [mul_comm, inv_mul ha]
theorem mul_eq_zero {a b : W} (h : mul a b = 0) : a = 0 ∨ b = 0 := by
 by_cases ha : a = 0
 ·exact .inl ha
 ·right
  have := congrArg (mul (inv a)) h
  rwa [mul_assoc, inv_mul ha, one_mul, mul_zero] at this
theorem mul_ne {a b : W} (ha : a ≠ 0) (hb : b ≠ 0) : mul a b ≠ 0 := fun h => (mul_eq_zero h).elim ha hb
theorem inv_ne {a : W} (ha : a ≠ 0) : inv a ≠ 0 := fun h => by
 have := inv_mul ha
 rw [h, zero_mul] at this
 exact absurd this (by decide)
theorem xor_zero_eq {a b : W} (h : a ^^^ b = 0) : a = b := by
 have := congrArg (· ^^^ b) h
 simp only [BitVec.xor_assoc, xs, x0, zx] at this
 exact this
def tr (a : W) : W := sum 32 fun i => sqn i a
theorem tr_xor (a b : W) : tr (a ^^^ b) = tr a ^^^ tr b := by
 unfold tr
 rw [← sum_xor]
 exact sum_congr fun i _ => sqn_xor a b i
theorem tr_zero : tr 0 = 0 := (sum_congr (g := fun _ => 0) fun i _ => sqn_zero i).trans (sum_zero 32)
theorem tr_sq (a : W) : sq (tr a) = tr a := by
 have h1 : sq (tr a) = sum 32 fun i => sqn (i + 1) a := sum_lin sq_zero sq_xor _ 32
 have h2 : sum 33 (fun i => sqn i a) = sqn 0 a ^^^ sum 32 fun i => sqn (i + 1) a := sum_first _ 32
 have h3 : sum 33 (fun i => sqn i a) = tr a ^^^ sqn 32 a := rfl
 rw [sqn32] at h3
 rw [h3] at h2
 rw [h1]
 have h4 : a ^^^ (tr a ^^^ a) = a ^^^ (a ^^^ sum 32 fun i => sqn (i + 1) a) := congrArg (a ^^^ ·) h2
 rw [← BitVec.xor_assoc a a, xs, zx, BitVec.xor_comm, BitVec.xor_assoc, xs, x0] at h4
 exact h4.symm
theorem tr_bit (a : W) : tr a = 0 ∨ tr a = 1 := idem (tr_sq a)
def ntr (a : Nat) (n : Nat) : Nat × Nat := Nat.rec (0, a) (fun _ p => (p.1 ^^^ p.2, nm p.2 p.2)) n
theorem ntr_eq (a : W) : ∀ n, ntr a.toNat n = ((sum n fun i => sqn i a).toNat, (sqn n a).toNat)
 | 0 => rfl
 | n + 1 => by
  show ((ntr a.toNat n).1 ^^^ (ntr a.toNat n).2, nm (ntr a.toNat n).2 (ntr a.toNat n).2) = _
  rw [ntr_eq a n]
  show _ = ((sum n (fun i => sqn i a) ^^^ sqn n a).toNat, (mul (sqn n a) (sqn n a)).toNat)
  rw [BitVec.toNat_xor, mul_nat]
def npw (n a : Nat) : Nat := Nat.rec a (fun _ r => (r * 2 % 4294967296) ^^^ (r / 2147483648 * 141)) n
theorem pw_nat (a : W) : ∀ n, (pw n a).toNat = npw n a.toNat
 | 0 => rfl
 | n + 1 => by
  show (sh (pw n a)).toNat = _
  rw [sh_nat, pw_nat a n]
  rfl
def trT : List Bool := [false, false, false, false, false, false, false, false, false, false, false, false, false, false, false, false, false, false, false, false, false, false, false, false, false, true, false, false, false, true, false, false, false, false, false, false, false, false, false, false, false, false, false, false, false, false, false, false, false, false, true, false, false, false, false, true, false, true, true, true, false, true, false]
theorem trN : ∀ k, k < 63 → (ntr (npw k 1) 32).1 = (if trT.getD k false = true then 1 else 0) := by decide +kernel
theorem tr_pw (k : Nat) (h : k < 63) : tr (pw k 1) = bit (trT.getD k false) 1 := by
 apply BitVec.eq_of_toNat_eq
 have h1 := ntr_eq (pw k 1) 32
 have h2 := trN k h
 rw [pw_nat] at h1
 have h3 : (1 : W).toNat = 1 := rfl
 rw [h3] at h1
 rw [h1] at h2
 refine Eq.trans h2 ?_
 cases trT.getD k false <;> rfl
def dualT : List W := [0x2888889d#32, 0x94444408#32, 0x62aaaa99#32, 0x99dddd97#32, 0xcceeee8d#32, 0xe6777700#32, 0x733bbb80#32, 0x1115555d#32, 0x888aaae8#32, 0x44455574#32, 0x2222aaba#32, 0x1111555d#32, 0x8888aae8#32, 0x44445574#32, 0x22222aba#32, 0x1111155d#32, 0x88888ae8#32, 0x44444574#32, 0x222222ba#32, 0x1111115d#32, 0x888888e8#32, 0x44444474#32, 0x2222223a#32, 0x1111111d#32, 0x888888c8#32, 0x44444464#32, 0x22222232#32, 0x11111119#32, 0x888888ca#32, 0x44444465#32, 0xa2222274#32, 0x5111113a#32]
theorem dual_basis : ∀ i, i < 32 → (sum 32 fun j => bit (trT.getD (j + i) false) (dualT.getD j 0)) = pw i 1 := by decide +kernel
theorem mul_bit (b : Bool) (x : W) : mul (bit b 1) x = bit b x := by
 cases b
 ·exact zero_mul x
 ·exact one_mul x
theorem dual (x : W) : (sum 32 fun j => mul (tr (mul (pw j 1) x)) (dualT.getD j 0)) = x := by
 refine lin_ext (f := fun x => sum 32 fun j => mul (tr (mul (pw j 1) x)) (dualT.getD j 0)) (g := fun x => x) ?_ ?_ rfl (fun _ _ => rfl) (fun i hi => ?_) x
 ·exact (sum_congr (g := fun _ => 0) fun j _ => by rw [mul_zero, tr_zero, zero_mul]).trans (sum_zero 32)
 ·intro a b
  rw [← sum_xor]
  exact sum_congr fun j _ => by rw [mul_xor, tr_xor, xor_mul]
 ·show (sum 32 fun j => mul (tr (mul (pw j 1) (pw i 1))) (dualT.getD j 0)) = pw i 1
  refine Eq.trans (sum_congr fun j hj => ?_) (dual_basis i hi)
  rw [pw_mul, ← pw_add, tr_pw _ (by omega), mul_bit]
theorem tr_inj {x y : W} (h : ∀ j, j < 32 → tr (mul (pw j 1) x) = tr (mul (pw j 1) y)) : x = y := by
 rw [← dual x, ← dual y]
 exact sum_congr fun j hj => by rw [h j hj]
end Gf

namespace Gf
abbrev Pl := List W
def ev : Pl → W → W
 | [], _ => 0
 | c :: a, x => c ^^^ mul x (ev a x)
def dg : Pl → Nat
 | [] => 0
 | c :: a => if dg a = 0 then (if c = 0 then 0 else 1) else dg a + 1
def trim (a : Pl) : Pl := a.take (dg a)
theorem dg_le : ∀ a : Pl, dg a ≤ a.length
 | [] => Nat.le_refl _
 | c :: a => by
  have := dg_le a
  simp only [dg, List.length_cons]
  split
  ·split <;> omega
  ·omega
theorem co_dg : ∀ {a : Pl} {i : Nat}, dg a ≤ i → a.getD i 0 = 0
 | [], i, _ => by simp
 | c :: a, i, h => by
  simp only [dg] at h
  split at h
  ·rename_i h0
   split at h
   ·rename_i hc
    cases i with
    | zero => simpa using hc
    | succ i => simp only [List.getD_cons_succ]; exact co_dg (by omega)
   ·cases i with
    | zero => omega
    | succ i => simp only [List.getD_cons_succ]; exact co_dg (by omega)
  ·cases i with
   | zero => omega
   | succ i => simp only [List.getD_cons_succ]; exact co_dg (by omega)
theorem co_top : ∀ {a : Pl}, 0 < dg a → a.getD (dg a - 1) 0 ≠ 0
 | [], h => by simp [dg] at h
 | c :: a, h => by
  simp only [dg] at h ⊢
  split
  ·rename_i h0
   rw [if_pos h0] at h
   split
   ·rename_i hc; rw [if_pos hc] at h; omega
   ·rename_i hc; simpa using hc
  ·rename_i h0
   obtain ⟨k, hk⟩ : ∃ k, dg a = k + 1 := ⟨dg a - 1, by omega⟩
   have := co_top (a := a) (by omega)
   rw [hk] at this ⊢
   simpa using this
theorem dg_unique {a : Pl} {k : Nat} (h1 : ∀ i, k ≤ i → a.getD i 0 = 0) (h2 : k = 0 ∨ a.getD (k - 1) 0 ≠ 0) : dg a = k := by
 rcases Nat.lt_trichotomy (dg a) k with h | h | h
 ·rcases h2 with h2 | h2
  ·omega
  ·exact absurd (co_dg (a := a) (by omega)) h2
 ·exact h
 ·exact absurd (h1 _ (by omega)) (co_top (a := a) (by omega))
theorem trim_len (a : Pl) : (trim a).length = dg a := by
 unfold trim
 rw [List.length_take, Nat.min_eq_left (dg_le a)]
theorem trim_co (a : Pl) (i : Nat) : (trim a).getD i 0 = a.getD i 0 := by
 by_cases h : i < dg a
 ·simp only [trim, List.getD_eq_getElem?_getD, List.getElem?_take_of_lt h]
 ·rw [co_dg (by omega : dg a ≤ i), List.getD_eq_getElem?_getD, List.getElem?_eq_none (by rw [trim_len]; omega)]
  rfl
theorem dg_trim (a : Pl) : dg (trim a) = dg a := dg_unique (fun i hi => by rw [trim_co]; exact co_dg hi) (by
 by_cases h : dg a = 0
 ·exact .inl h
 ·right; rw [trim_co]; exact co_top (by omega))
theorem trim_self {a : Pl} (h : dg a = a.length) : trim a = a := by unfold trim; rw [h, List.take_length]
theorem trim_trim (a : Pl) : trim (trim a) = trim a := trim_self (by rw [dg_trim, trim_len])
theorem ev_zero : ∀ {a : Pl} {x : W}, (∀ e ∈ a, e = 0) → ev a x = 0
 | [], x, _ => rfl
 | c :: a, x, h => by
  simp only [ev]
  rw [h c (by simp), ev_zero fun e he => h e (by simp [he]), mul_zero, zx]
theorem dg_zero : ∀ {a : Pl}, dg a = 0 → ∀ e ∈ a, e = 0 := fun {a} h e he => by
 obtain ⟨i, hi⟩ := List.getElem?_of_mem he
 have := co_dg (a := a) (i := i) (by omega)
 rw [List.getD_eq_getElem?_getD, hi] at this
 exact this
theorem zero_dg {a : Pl} (h : ∀ e ∈ a, e = 0) : dg a = 0 := dg_unique (fun i _ => by
 rw [List.getD_eq_getElem?_getD]
 cases hi : a[i]? with
 | none => rfl
 | some e => exact h e (List.mem_of_getElem? hi)) (.inl rfl)
theorem ev_trim : ∀ (a : Pl) (x : W), ev (trim a) x = ev a x
 | [], x => rfl
 | c :: a, x => by
  have ih := ev_trim a x
  unfold trim at ih ⊢
  by_cases h0 : dg a = 0
  ·have hz : ev a x = 0 := ev_zero (dg_zero h0)
   by_cases hc : c = 0
   ·simp only [dg, h0, if_true, hc, List.take_zero, ev, hz, mul_zero]
    exact (zx 0).symm
   ·simp only [dg, h0, if_true, if_neg hc, List.take_succ_cons, List.take_zero, ev, hz]
  ·simp only [dg, if_neg h0, List.take_succ_cons, ev, ih]

def addP : Pl → Pl → Pl
 | [], b => b
 | a, [] => a
 | x :: a, y :: b => (x ^^^ y) :: addP a b
theorem addP_nil (a : Pl) : addP a [] = a := by cases a <;> rfl
theorem addP_len : ∀ a b : Pl, (addP a b).length = max a.length b.length
 | [], b => by simp [addP]
 | u :: us, [] => by simp [addP]
 | u :: us, w :: ws => by simp [addP, addP_len us ws, Nat.succ_max_succ]
theorem addP_co : ∀ (a b : Pl) (i : Nat), (addP a b).getD i 0 = a.getD i 0 ^^^ b.getD i 0
 | [], b, i => by simp only [addP, List.getD_nil]; exact (zx _).symm
 | u :: us, [], i => by simp only [addP, List.getD_nil]; exact (x0 _).symm
 | u :: us, w :: ws, i => by
  cases i with
  | zero => rfl
  | succ i => simp only [addP, List.getD_cons_succ]; exact addP_co us ws i
theorem x4 (a b c d : W) : (a ^^^ b) ^^^ (c ^^^ d) = (a ^^^ c) ^^^ (b ^^^ d) := by
 rw [BitVec.xor_assoc, ← BitVec.xor_assoc b, BitVec.xor_comm b, BitVec.xor_assoc c, ← BitVec.xor_assoc]
theorem ev_addP : ∀ (a b : Pl) (x : W), ev (addP a b) x = ev a x ^^^ ev b x
 | [], b, x => by simp only [addP, ev]; exact (zx _).symm
 | u :: us, [], x => by simp only [addP, ev]; exact (x0 _).symm
 | u :: us, w :: ws, x => by
  simp only [addP, ev]
  rw [ev_addP us ws x, mul_xor, x4]
def scl (c : W) (a : Pl) : Pl := a.map (mul c)
theorem scl_len (c : W) (a : Pl) : (scl c a).length = a.length := by simp [scl]
theorem scl_co (c : W) (a : Pl) (i : Nat) : (scl c a).getD i 0 = mul c (a.getD i 0) := by
 simp only [scl, List.getD_eq_getElem?_getD, List.getElem?_map]
 cases a[i]? with
 | none => exact (mul_zero c).symm
 | some e => rfl
theorem ev_scl (c : W) : ∀ (a : Pl) (x : W), ev (scl c a) x = mul c (ev a x)
 | [], x => (mul_zero c).symm
 | e :: a, x => by
  show mul c e ^^^ mul x (ev (scl c a) x) = mul c (e ^^^ mul x (ev a x))
  rw [ev_scl c a x, mul_xor, mul_left x]
def up (k : Nat) (a : Pl) : Pl := List.replicate k 0 ++ a
theorem up_len (k : Nat) (a : Pl) : (up k a).length = k + a.length := by simp [up]
theorem up_co (k : Nat) (a : Pl) (i : Nat) : (up k a).getD i 0 = if i < k then 0 else a.getD (i - k) 0 := by
 simp only [up, List.getD_eq_getElem?_getD]
 split
 ·rename_i h
  rw [List.getElem?_append_left (by simpa using h), List.getElem?_replicate, if_pos h]
  rfl
 ·rename_i h
  rw [List.getElem?_append_right (by simp; omega), List.length_replicate]
theorem npow_succ' (x : W) (k : Nat) : npow x (k + 1) = mul x (npow x k) := mul_comm _ _
theorem ev_up : ∀ (k : Nat) (a : Pl) (x : W), ev (up k a) x = mul (npow x k) (ev a x)
 | 0, a, x => (one_mul _).symm
 | k + 1, a, x => by
  show 0 ^^^ mul x (ev (up k a) x) = _
  rw [zx, ev_up k a x, npow_succ', mul_assoc]
def mulP : Pl → Pl → Pl
 | [], _ => []
 | c :: a, b => addP (scl c b) (0 :: mulP a b)
theorem ev_mulP : ∀ (a b : Pl) (x : W), ev (mulP a b) x = mul (ev a x) (ev b x)
 | [], b, x => (zero_mul _).symm
 | c :: a, b, x => by
  show ev (addP (scl c b) (0 :: mulP a b)) x = mul (c ^^^ mul x (ev a x)) (ev b x)
  rw [ev_addP, ev_scl, xor_mul]
  show _ ^^^ (0 ^^^ mul x (ev (mulP a b) x)) = _
  rw [ev_mulP a b x, zx, mul_assoc]
theorem mulP_len : ∀ (a b : Pl), b ≠ [] → (mulP a b).length ≤ a.length + b.length - 1
 | [], b, hb => by simp [mulP]
 | c :: a, b, hb => by
  have ih := mulP_len a b hb
  have : 0 < b.length := List.length_pos_iff.2 hb
  simp only [mulP, addP_len, scl_len, List.length_cons]
  omega

def syn : Pl → W → Pl
 | [], _ => []
 | _ :: [], _ => []
 | _ :: d :: a, r => ev (d :: a) r :: syn (d :: a) r
theorem syn_len : ∀ (a : Pl) (r : W), (syn a r).length = a.length - 1
 | [], _ => rfl
 | _ :: [], _ => rfl
 | _ :: d :: a, r => by
  have := syn_len (d :: a) r
  simp only [syn, List.length_cons] at this ⊢
  omega
theorem ev_syn : ∀ (a : Pl) (r x : W), ev a x = ev a r ^^^ mul (x ^^^ r) (ev (syn a r) x)
 | [], r, x => by simp only [ev, syn, mul_zero]; exact (x0 _).symm
 | [c], r, x => by
  simp only [ev, syn, mul_zero]
  rw [x0, x0]
 | c :: d :: a, r, x => by
  have ih := ev_syn (d :: a) r x
  show c ^^^ mul x (ev (d :: a) x) = (c ^^^ mul r (ev (d :: a) r)) ^^^ mul (x ^^^ r) (ev (d :: a) r ^^^ mul x (ev (syn (d :: a) r) x))
  rw [ih]
  generalize ev (d :: a) r = e
  generalize ev (syn (d :: a) r) x = q
  rw [mul_xor, mul_xor, xor_mul x r e, mul_left x]
  generalize mul (x ^^^ r) (mul x q) = z
  generalize mul x e = s
  generalize mul r e = t
  rw [BitVec.xor_assoc c t, ← BitVec.xor_assoc t, BitVec.xor_comm s t, ← BitVec.xor_assoc t t, xs, zx]
theorem syn_zero : ∀ {a : Pl} {r : W}, (∀ e ∈ syn a r, e = 0) → ev a r = 0 → ∀ e ∈ a, e = 0
 | [], r, _, _ => by simp
 | [c], r, _, h => by
  simp only [ev, mul_zero, x0] at h
  simpa using h
 | c :: d :: a, r, h, h0 => by
  simp only [syn, List.mem_cons, forall_eq_or_imp] at h
  have ih := syn_zero (a := d :: a) (r := r) h.2 h.1
  intro e he
  rcases List.mem_cons.1 he with rfl | he
  ·have h1 : e ^^^ mul r (ev (d :: a) r) = 0 := h0
   rwa [h.1, mul_zero, x0] at h1
  ·exact ih e he
theorem all_zero : ∀ {S : List W} {a : Pl}, S.Nodup → (∀ r ∈ S, ev a r = 0) → a.length ≤ S.length → ∀ e ∈ a, e = 0
 | [], a, _, _, hl => by
  have : a = [] := List.eq_nil_of_length_eq_zero (by simpa using hl)
  subst this
  simp
 | r :: S, a, hn, h, hl => by
  have hr := h r (by simp)
  have hn2 := List.nodup_cons.1 hn
  refine syn_zero (r := r) (all_zero hn2.2 (fun s hs => ?_) (by rw [syn_len]; simp at hl; omega)) hr
  have h1 := ev_syn a r s
  rw [h s (by simp [hs]), hr, zx] at h1
  refine (mul_eq_zero h1.symm).resolve_left fun h2 => ?_
  have := xor_zero_eq h2
  subst this
  exact hn2.1 hs
theorem roots_lt {S : List W} {a : Pl} (hn : S.Nodup) (h : ∀ r ∈ S, ev a r = 0) (hd : dg a ≠ 0) : S.length < dg a := by
 rcases Nat.lt_or_ge S.length (dg a) with h1 | h1
 ·exact h1
 ·exfalso
  have := all_zero (a := trim a) hn (fun r hr => by rw [ev_trim]; exact h r hr) (by rw [trim_len]; exact h1)
  have h2 := zero_dg this
  rw [dg_trim] at h2
  exact hd h2
theorem many (n : Nat) (h : n ≤ 4294967296) : ∃ S : List W, S.Nodup ∧ S.length = n := by
 refine ⟨(List.range n).map (BitVec.ofNat 32), ?_, by simp⟩
 unfold List.Nodup
 rw [List.pairwise_map]
 refine List.Pairwise.imp_of_mem ?_ List.nodup_range
 intro i j hi hj hij he
 rw [List.mem_range] at hi hj
 have := congrArg BitVec.toNat he
 simp only [BitVec.toNat_ofNat] at this
 omega

def prodL : List W → Pl
 | [] => [1]
 | r :: S => addP (0 :: prodL S) (scl r (prodL S))
theorem prodL_len : ∀ S, (prodL S).length = S.length + 1
 | [] => rfl
 | r :: S => by simp [prodL, addP_len, scl_len, prodL_len S]
theorem ev_prodL : ∀ {S : List W} {x : W}, ev (prodL S) x = 0 ↔ x ∈ S
 | [], x => by
  show (1 ^^^ mul x 0) = (0 : W) ↔ _
  rw [mul_zero, x0]
  simp
 | r :: S, x => by
  simp only [prodL]
  rw [ev_addP, ev_scl]
  show (0 ^^^ mul x (ev (prodL S) x)) ^^^ _ = 0 ↔ _
  rw [zx, ← xor_mul, List.mem_cons, ← ev_prodL (S := S)]
  constructor
  ·intro h
   rcases mul_eq_zero h with h | h
   ·exact .inl (xor_zero_eq h)
   ·exact .inr h
  ·rintro (rfl | h)
   ·rw [xs, zero_mul]
   ·rw [h, mul_zero]
theorem prodL_top : ∀ S, (prodL S).getD S.length 0 = 1
 | [] => rfl
 | r :: S => by
  simp only [prodL]
  rw [addP_co, scl_co, List.length_cons, List.getD_cons_succ, prodL_top S]
  have : (prodL S).getD (S.length + 1) 0 = 0 := by
   rw [List.getD_eq_getElem?_getD, List.getElem?_eq_none (by rw [prodL_len]; omega)]
   rfl
  rw [this, mul_zero, x0]
theorem prodL_dg (S : List W) : dg (prodL S) = S.length + 1 := dg_unique (fun i hi => by
  rw [List.getD_eq_getElem?_getD, List.getElem?_eq_none (by rw [prodL_len]; omega)]
  rfl) (.inr (by
  rw [Nat.add_sub_cancel, prodL_top]
  decide))
theorem list_ext_co {a b : Pl} (hl : a.length = b.length) (h : ∀ i, i < a.length → a.getD i 0 = b.getD i 0) : a = b := by
 refine List.ext_getElem hl fun i h1 h2 => ?_
 have := h i h1
 rw [List.getD_eq_getElem?_getD, List.getD_eq_getElem?_getD, List.getElem?_eq_getElem h1, List.getElem?_eq_getElem h2] at this
 exact this
theorem mon_unique {S : List W} (hn : S.Nodup) {a : Pl} (hl : a.length = S.length + 1) (ht : a.getD S.length 0 = 1) (h : ∀ r ∈ S, ev a r = 0) : a = prodL S := by
 have hz := all_zero (S := S) (a := (addP a (prodL S)).take S.length) hn (fun r hr => ?_) (by simp; omega)
 ·refine list_ext_co (by rw [hl, prodL_len]) fun i hi => ?_
  by_cases h1 : i < S.length
  ·have h2 : ((addP a (prodL S)).take S.length).getD i 0 = 0 := by
    rw [List.getD_eq_getElem?_getD]
    cases hc : ((addP a (prodL S)).take S.length)[i]? with
    | none => rfl
    | some e => exact hz e (List.mem_of_getElem? hc)
   rw [List.getD_eq_getElem?_getD, List.getElem?_take_of_lt h1, ← List.getD_eq_getElem?_getD, addP_co] at h2
   exact xor_zero_eq h2
  ·have : i = S.length := by omega
   subst this
   rw [ht, prodL_top]
 ·have hd : dg (addP a (prodL S)) ≤ S.length := by
   rcases Nat.lt_or_ge S.length (dg (addP a (prodL S))) with h1 | h1
   ·exfalso
    have h2 := co_top (a := addP a (prodL S)) (by omega)
    have h3 := dg_le (addP a (prodL S))
    rw [addP_len, hl, prodL_len, Nat.max_self] at h3
    have h4 : dg (addP a (prodL S)) - 1 = S.length := by omega
    rw [h4, addP_co, ht, prodL_top, xs] at h2
    exact h2 rfl
   ·exact h1
  have e1 : trim ((addP a (prodL S)).take S.length) = trim (addP a (prodL S)) := by
   have h5 : dg ((addP a (prodL S)).take S.length) = dg (addP a (prodL S)) := dg_unique (fun i hi => by
    by_cases h6 : i < S.length
    ·rw [List.getD_eq_getElem?_getD, List.getElem?_take_of_lt h6, ← List.getD_eq_getElem?_getD]
     exact co_dg hi
    ·rw [List.getD_eq_getElem?_getD, List.getElem?_eq_none (by simp; omega)]
     rfl) (by
    by_cases h7 : dg (addP a (prodL S)) = 0
    ·exact .inl h7
    ·right
     rw [List.getD_eq_getElem?_getD, List.getElem?_take_of_lt (by omega), ← List.getD_eq_getElem?_getD]
     exact co_top (by omega))
   unfold trim
   rw [h5, List.take_take, Nat.min_eq_left hd]
  rw [← ev_trim, e1, ev_trim, ev_addP, h r hr, ev_prodL.2 hr, xs]
end Gf
end Go.Proofs.Ytmlkdfjojoophaa.T

namespace Go.Proofs.Ytmlkdfjojoophaa.T
open Go.Dn
attribute [local simp] body_eq globEnv GB List.map_nil List.map_cons List.append_nil w_rangeF i_next i_makeMap i_range i_update i_delete i_entry i_clone entryV cloneV q_rndA q_rndB_n q_rndB_e q_rndB_r setAll w_skip w_ops w_seq w_cond w_block w_exit w_ret q_then_n q_then_e q_then_r q_blk_n q_blk_e q_blk_r q_ops q_cont q_end_n q_end_r q_end_e q_loop_n q_loop_e q_loop_r i_nil i_p i_alloc i_box i_store i_copy i_clear i_call i_callv i_when t_nil t_p t_call t_alloc t_box t_store kept_nil t_copy t_clear q_tcont gsel List.cons_append List.nil_append evalP evalE evalF evalB isObj thaw Opd.ev Env.get Env.set Env.pick putE initEnv evalBin intBin evalUn evalConv goneAll goneOne retV resAll Res.ev tupOf byVals byValsN bv_d bv_da bv_fl bv_tl bn_d bn_da bn_fl bn_tl cx Dn.newObj St.place St.push St.spot St.empty cell_d cell_da cell_agg cell_ref cell_sl cell_fl cell_tl cell_map cell_fn cell_ifc loadAt faddrV partOf extractV mkAgg ofD splice St.setObj fillV
set_option linter.unusedSimpArgs false
set_option linter.unusedVariables false
open Gf (dg trim)

def pR (L : List W32) : List (List D) := L.map fun w => [.int .u32 (un w)]
theorem pR_len (L : List W32) : (pR L).length = L.length := by simp [pR]
theorem pR_fit (L : List W32) : ∀ r ∈ pR L, r.length = 1 := by
 intro r hr
 simp only [pR, List.mem_map] at hr
 obtain ⟨b, _, rfl⟩ := hr
 rfl
theorem pR_at {L : List W32} {i : Nat} {w : W32} (h : L[i]? = some w) : (pR L)[i]? = some [.int .u32 (un w)] := by simp [pR, h]
theorem pR_take (L : List W32) (n : Nat) : (pR L).take n = pR (L.take n) := by simp [pR]
theorem pR_drop (L : List W32) (n : Nat) : (pR L).drop n = pR (L.drop n) := by simp [pR]
def wV (L : List W32) : List V := L.map Xw
theorem wV_len (L : List W32) : (wV L).length = L.length := by simp [wV]
theorem wV_at {L : List W32} {i : Nat} {w : W32} (h : L[i]? = some w) : (wV L)[i]? = some (Xw w) := by simp [wV, h]
theorem wV_set {L : List W32} {i : Nat} (h : i < L.length) (v : W32) : splice (wV L) i [Xw v] = wV (L.set i v) := by
 unfold splice wV
 rw [List.map_set, List.set_eq_take_append_cons_drop]
 simp [h]
theorem wV_ofD : ∀ L : List W32, ofD (wV L) = some (L.map fun w => D.int .u32 (un w))
 | [] => rfl
 | w :: L => by
  have := wV_ofD L
  simp only [wV, List.map_cons] at this ⊢
  simp only [ofD, this]
theorem rowsOf_pR : ∀ L : List W32, rowsOf 1 L.length (L.map fun w => D.int .u32 (un w)) = pR L
 | [] => rfl
 | w :: L => by
  have := rowsOf_pR L
  simp only [List.length_cons, List.map_cons, rowsOf, pR] at this ⊢
  simp [this]
theorem pR_flat : ∀ L : List W32, (pR L).flatten.map V.d = wV L
 | [] => rfl
 | w :: L => by
  have := pR_flat L
  simp only [pR, wV, List.map_cons, List.flatten_cons] at this ⊢
  simp [this]

inductive Rd (σ : St) : V → List W32 → Prop
 | lv {v : V} {L : List W32} (h : LV v (pR L)) (ht : ∀ r t st s, v = .tl r t st s → s = 1 := by intro r t st s h; cases h) : Rd σ v L
 | sl {r off n : Nat} {cs : List V} {L : List W32} (h : σ.objs[r]? = some (.cells cs)) (hb : off + n ≤ cs.length) (he : (cs.drop off).take n = wV L) (hn : L.length = n) : Rd σ (.sl r off n 1) L
theorem Rd.len {σ : St} {v : V} {L : List W32} (h : Rd σ v L) (σ' : St) : lenT σ' .slice v = some L.length := by
 cases h with
 | lv h => rw [h.len, pR_len]
 | sl h hb he hn => simp [lenT, lenV, hn]
theorem Rd.lenV {σ : St} {v : V} {L : List W32} (h : Rd σ v L) (σ' : St) : Dn.lenV σ' v = some L.length := h.len σ'
theorem Rd.rows {σ : St} {v : V} {L : List W32} (h : Rd σ v L) : V.rows σ v = some (pR L) := by
 cases h with
 | lv h => exact h.rows σ
 | sl h hb he hn =>
  subst hn
  simp [V.rows, h, he, wV_ofD, rowsOf_pR]
theorem Rd.byVal {σ : St} {v : V} {L : List W32} (h : Rd σ v L) : ∃ d, V.byVal σ v = some (.d d) ∧ LV (.d d) (pR L) := by
 cases h with
 | lv h => exact h.byVal σ
 | sl h1 hb he hn =>
  have := (Rd.sl h1 hb he hn : Rd σ _ _).rows
  exact ⟨_, by simp only [V.byVal, this], .list _⟩
theorem Rd.at {σ : St} {v : V} {L : List W32} (h : Rd σ v L) {i : Nat} {w : W32} (hw : L[i]? = some w) : ∃ a, iaddrV σ 1 v (I i) = some a ∧ loadAt σ false 1 a = some (Xw w) := by
 have hi := (List.getElem?_eq_some_iff.1 hw).1
 cases h with
 | lv h => exact ⟨_, h.iaddr σ (pR_at hw) rfl, rfl⟩
 | sl h hb he hn =>
  rename_i r off n cs
  refine ⟨.ref r (off + i * 1), by simp [iaddrV, asIdx]; omega, ?_⟩
  have h2 : cs[off + i]? = some (Xw w) := by
   have h3 := wV_at hw
   rw [← he, List.getElem?_take_of_lt (by omega), List.getElem?_drop] at h3
   exact h3
  simp [loadAt, h, h2]
theorem Rd.mono {σ s : St} {v : V} {L : List W32} (h : Rd σ v L) (hf : ∀ r off n sz, v = .sl r off n sz → s.objs[r]? = σ.objs[r]?) : Rd s v L := by
 cases h with
 | lv h ht => exact .lv h ht
 | sl h hb he hn => exact .sl ((hf _ _ _ _ rfl).trans h) hb he hn
theorem Rd.fr {σ s : St} {v : V} {L : List W32} (h : Rd σ v L) (hf : Fr [] σ s) : Rd s v L := by
 cases h with
 | lv h ht => exact .lv h ht
 | sl h hb he hn => exact .sl (hf.get h (by simp)) hb he hn
theorem Rd.cells {σ : St} {v : V} {L : List W32} (h : Rd σ v L) : v.cells = some [v] := by
 cases h with
 | lv h => exact h.cells
 | sl h => rfl
theorem Rd.whole {σ : St} {r : Nat} {L : List W32} (h : σ.objs[r]? = some (.cells (wV L))) : Rd σ (.sl r 0 L.length 1) L :=
 .sl h (by rw [wV_len]; omega) (by rw [List.drop_zero, List.take_of_length_le (by rw [wV_len]; exact Nat.le_refl _)]) rfl
inductive Ob (σ : St) : V → List W32 → Prop
 | sl {r : Nat} {L : List W32} (h : σ.objs[r]? = some (.cells (wV L))) : Ob σ (.sl r 0 L.length 1) L
 | nils : Ob σ (.d .nils) []
 | fl : Ob σ (.fl []) []
theorem Ob.rd {σ : St} {v : V} {L : List W32} (h : Ob σ v L) : Rd σ v L := by
 cases h with
 | sl h => exact .whole h
 | nils => exact .lv .nil
 | fl => exact .lv (.fl [])
def fresh (σ : St) (v : V) : Prop := ∀ r off n sz, v = .sl r off n sz → σ.objs.length ≤ r

theorem npow_sq (x : W32) (k : Nat) : Gf.npow (Gf.mul x x) k = Gf.npow x (2 * k) := by
 induction k with
 | zero => rfl
 | succ k ih =>
  show Gf.mul (Gf.npow (Gf.mul x x) k) (Gf.mul x x) = _
  rw [ih, show 2 * (k + 1) = 2 * k + 2 by omega, Gf.npow_add]
  congr 1
  show _ = Gf.mul (Gf.mul 1 x) x
  rw [Gf.one_mul]
theorem and_one (k : W64) : bits .and .u64 (un k) 1 = if k.toNat % 2 = 1 then 1 else 0 := by
 have h1 : bits .and .u64 (un k) 1 = un (k &&& 1#64) := and_u64 k 1#64
 rw [h1]
 simp only [un, BitVec.toNat_and]
 have : (1#64 : W64).toNat = 1 := rfl
 rw [this, Nat.and_one_is_mod]
 split <;> omega
def InvPow (a : W32) (n : W64) (m : Nat) (e : Env) (s : St) : Prop := ∃ (x o : W32) (k : W64), e = [(0, Xw x), (1, Wd k), (5, Xw o)] ∧ m = k.toNat ∧ s = St.empty ∧ Gf.mul o (Gf.npow x k.toNat) = Gf.npow a n.toNat
theorem s_Pow (a : W32) (n : W64) : Dn.Call Γ cx .val 133 [Xw a, Wd n] St.empty fun v _ => v = Xw (Gf.npow a n.toNat) := by
 refine Dn.Call.body (fc := c133) rfl ?_
 simp -implicitDefEqProofs [c133, c133_k9, c133_k8]
 refine wloopI (InvPow a n) (m := n.toNat) ⟨a, 1, n, rfl, rfl, rfl, Gf.one_mul _⟩ ?_
 rintro m e s ⟨x, o, k, rfl, rfl, rfl, hk⟩
 rcases hd : decide ((0 : Int) < un k) with _ | _
 ·have h0 : ¬ (0 : Int) < un k := of_decide_eq_false hd
  have hk0 : k.toNat = 0 := by simp only [un] at h0; omega
  rw [hk0] at hk
  have ho : o = Gf.npow a n.toNat := by rw [← hk]; exact (Gf.mul_one o).symm
  simp -implicitDefEqProofs [h0, c133_l7, c133_k6, c133_k0, ho]
 have h0 : (0 : Int) < un k := of_decide_eq_true hd
 have hsr := shr_sh k 1 (by omega)
 have hkt : (k >>> 1).toNat = k.toNat / 2 := by simp [Nat.shiftRight_eq_div_pow]
 have hpos : 0 < k.toNat := by simp only [un] at h0; omega
 have hba := and_one k
 simp -implicitDefEqProofs [h0, c133_l7, c133_k6, c133_k5, c133_k4, hba]
 by_cases hb : k.toNat % 2 = 1
 ·simp -implicitDefEqProofs [hb, c133_k3]
  refine use_fn rfl (s_Mul o x) rfl ?_
  simp -implicitDefEqProofs [c133_k2]
  refine use_fn rfl (s_Square x) rfl ?_
  simp -implicitDefEqProofs [c133_k1, hsr]
  refine ⟨(k >>> 1).toNat, by omega, Gf.mul x x, Gf.mul o x, k >>> 1, rfl, rfl, rfl, ?_⟩
  rw [hkt, npow_sq, ← hk, ← Gf.mul_assoc]
  congr 1
  rw [← Gf.npow_succ']
  congr 1
  omega
 ·simp -implicitDefEqProofs [hb, c133_k3, c133_k2]
  refine use_fn rfl (s_Square x) rfl ?_
  simp -implicitDefEqProofs [c133_k1, hsr]
  refine ⟨(k >>> 1).toNat, by omega, Gf.mul x x, o, k >>> 1, rfl, rfl, rfl, ?_⟩
  rw [hkt, npow_sq, ← hk]
  congr 2
  omega
theorem s_Inv (a : W32) : Dn.Call Γ cx .val 116 [Xw a] St.empty fun v _ => v = Xw (Gf.inv a) := by
 refine Dn.Call.body (fc := c116) rfl ?_
 have h := s_Pow a 4294967294#64
 have hw : Wd 4294967294#64 = .d (.int .u64 4294967294) := rfl
 have hn : (4294967294#64 : W64).toNat = 2 ^ 32 - 2 := rfl
 rw [hw, hn] at h
 simp -implicitDefEqProofs [c116, c116_k0]
 refine use_fn rfl h rfl ?_
 simp -implicitDefEqProofs
 rfl

def InvDg (d : D) (L : List W32) (m : Nat) (e : Env) (s : St) : Prop := e = [(0, .d d), (3, I ((m : Int) - 1))] ∧ m ≤ L.length ∧ (∀ i, m ≤ i → L.getD i 0 = 0) ∧ s = St.empty
theorem s_Degree {d : D} {L : List W32} (hd : LV (.d d) (pR L)) (hl : L.length ≤ 100000) : Dn.Call Γ cx .val 63 [.d d] St.empty fun v _ => v = I ((dg L : Int) - 1) := by
 refine Dn.Call.body (fc := c63) rfl ?_
 have hld : ∀ σ, lenT σ .slice (.d d) = some L.length := fun σ => by rw [hd.len, pR_len]
 have w1 : IntKind.i64.wrap ((L.length : Int) - 1) = (L.length : Int) - 1 := wrap_i64 (by omega) (by omega)
 simp -implicitDefEqProofs [c63, c63_k5, hld, w1, c63_k4]
 refine wloopI (InvDg d L) (m := L.length) ⟨rfl, Nat.le_refl _, fun i hi => by rw [List.getD_eq_getElem?_getD, List.getElem?_eq_none hi]; rfl, rfl⟩ ?_
 rintro m e s ⟨rfl, hm, hz, rfl⟩
 cases m with
 | zero =>
  have h0 : dg L = 0 := Gf.dg_unique hz (.inl rfl)
  simp -implicitDefEqProofs [c63_l3, c63_k2, c63_k0, h0]
 | succ k =>
  have e1 : ((k + 1 : Nat) : Int) - 1 = (k : Int) := by omega
  have e2 : (0 : Int) ≤ k := by omega
  obtain ⟨w, hw⟩ : ∃ w, L[k]? = some w := ⟨_, List.getElem?_eq_getElem (by omega)⟩
  have hia := fun σ => hd.iaddr σ (k := .i64) (sz := 1) (i := k) (pR_at hw) rfl
  have hgd : L.getD k 0 = w := by rw [List.getD_eq_getElem?_getD, hw]; rfl
  have w2 : IntKind.i64.wrap ((k : Int) - 1) = (k : Int) - 1 := wrap_i64 (by omega) (by omega)
  rw [e1]
  by_cases hw0 : w = 0
  ·subst hw0
   have hu : un (0 : W32) = 0 := rfl
   simp -implicitDefEqProofs [e2, hia, hu, c63_l3, c63_k2, c63_k1, w2]
   refine ⟨k, by omega, rfl, by omega, fun i hi => ?_, rfl⟩
   rcases Nat.lt_or_ge k i with h | h
   ·exact hz i (by omega)
   ·obtain rfl : i = k := by omega
    exact hgd
  ·have hu : ¬ un w = 0 := fun h => hw0 (by
    apply BitVec.eq_of_toNat_eq
    simp only [un] at h
    show w.toNat = 0
    omega)
   have h0 : dg L = k + 1 := Gf.dg_unique hz (.inr (by rw [Nat.add_sub_cancel, hgd]; exact hw0))
   simp -implicitDefEqProofs [e2, hia, hu, c63_l3, c63_k2, c63_k0, h0]

def slOf (v w : V) : Prop := ∀ r off n sz, w = .sl r off n sz → ∃ off' n' sz', v = .sl r off' n' sz'
theorem rd_slice {σ : St} {v : V} {L : List W32} (h : Rd σ v L) {lo hi : Nat} (h1 : lo ≤ hi) (h2 : hi ≤ L.length) : ∃ w, sliceV 1 v lo hi none = some w ∧ Rd σ w ((L.drop lo).take (hi - lo)) ∧ slOf v w := by
 cases h with
 | lv h ht =>
  obtain ⟨w, e1, e2, e3⟩ := h.slice σ (sz := 1) (pR_fit L) ht h1 (by rw [pR_len]; exact h2)
  rw [pR_drop, pR_take] at e2
  refine ⟨w, e1, .lv e2 e3, fun r off n sz hw => ?_⟩
  subst hw
  cases e2
 | sl h hb he hn =>
  rename_i r off n cs
  refine ⟨.sl r (off + lo * 1) (hi - lo) 1, by simp [sliceV]; omega, ?_, fun r' off' n' sz' e => by cases e; exact ⟨_, _, _, rfl⟩⟩
  refine .sl h (by omega) ?_ (by simp; omega)
  rw [Nat.mul_one]
  have e1 : wV ((L.drop lo).take (hi - lo)) = ((wV L).drop lo).take (hi - lo) := by simp [wV]
  rw [e1, ← he, List.drop_take, List.drop_drop, List.take_take]
  congr 1
  omega
theorem rd_cutX {σ : St} {v : V} {L : List W32} (h : Rd σ v L) {k : Nat} (h2 : k ≤ L.length) : ∃ w, sliceX σ 1 v none (some (I k)) none = some w ∧ Rd σ w (L.take k) ∧ slOf v w := by
 obtain ⟨w, e1, e2, e3⟩ := rd_slice h (Nat.zero_le k) h2
 refine ⟨w, ?_, by simpa using e2, e3⟩
 simp [sliceX, h.lenV, boundV, asIdx, e1]

theorem s_cut {σ : St} {v : V} {L : List W32} (h : Rd σ v L) (hl : L.length ≤ 100000) : Dn.Call Γ cx .raw 121 [v] σ fun w s => s = σ ∧ Rd σ w (trim L) ∧ slOf v w := by
 refine Dn.Call.body (fc := c121) rfl ?_
 obtain ⟨d, hbv, hd⟩ := h.byVal
 obtain ⟨w, hw, hr, hs⟩ := rd_cutX h (Gf.dg_le L)
 have hdl := Gf.dg_le L
 have w1 : IntKind.i64.wrap (dg L : Int) = (dg L : Int) := wrap_i64 (by omega) (by omega)
 simp -implicitDefEqProofs [c121, c121_k0]
 refine use_fn (ds := [.d d]) (by simp only [byVals, hbv]) (s_Degree hd hl) (Bool.or_true _) ?_
 simp -implicitDefEqProofs [w1, hw]
 exact ⟨hr, hs⟩

structure New (σ s : St) (w : V) (L : List W32) : Prop where
 ob : Ob s w L
 fr : Fr [] σ s
 nw : fresh σ w
 tk : s.toks = σ.toks
theorem fresh_d (σ : St) (d : D) : fresh σ (.d d) := fun r off n sz e => by cases e
theorem fresh_fl (σ : St) (r : List (List D)) : fresh σ (.fl r) := fun r off n sz e => by cases e
theorem Fr.push1 (σ : St) (o : Dn.Obj) : Fr [] σ ⟨σ.objs ++ [o], σ.toks⟩ := ⟨by simp, fun q _ hq => by simp only; rw [List.getElem?_append_left hq]⟩
theorem rd_nil {σ : St} {v : V} {L : List W32} (h : Rd σ v L) : ∃ b, V.isNil .slice v = some b ∧ (b = true → L = []) := by
 cases h with
 | lv h =>
  obtain ⟨b, h1, h2⟩ := h.isNil
  refine ⟨b, h1, fun hb => ?_⟩
  have := (h2 hb).2
  cases L with
  | nil => rfl
  | cons a l => cases this
 | sl h => exact ⟨false, rfl, fun h => by cases h⟩
theorem s_Clone {σ : St} {v : V} {L : List W32} (h : Rd σ v L) (hl : L.length ≤ 100000) : Dn.Call Γ cx .raw 53 [v] σ fun w s => New σ s w L := by
 refine Dn.Call.body (fc := c53) rfl ?_
 obtain ⟨b, hb, hbn⟩ := rd_nil h
 have he : evalBin .eql .slice [] v (.d .nils) (Opd.isC (.t 3)) (Opd.isC (.c .nils)) = some (B b) := by
  have e1 : eqV .slice [] v (.d .nils) (Opd.isC (.t 3)) (Opd.isC (.c .nils)) = some b := by
   unfold eqV
   simp only [hb]
   cases b <;> rfl
  cases h with
  | lv h => generalize pR L = rows at h; cases h <;> simp [evalBin, e1]
  | sl h => simp [evalBin, e1]
 simp only [c53]
 simp -implicitDefEqProofs [-evalBin, c53_k2]
 have he2 : evalBin .eql .slice [] v (.d .nils) (Opd.isC (.t 3)) true = some (B b) := he
 simp -implicitDefEqProofs [-evalBin, he, he2]
 cases b with
 | true =>
  have := hbn rfl
  subst this
  simp -implicitDefEqProofs [c53_k1]
  exact ⟨.nils, Fr.refl _ _, fresh_d _ _, rfl⟩
 | false =>
  simp -implicitDefEqProofs [c53_k1, c53_k0, isObj, repl, rowsOf]
  by_cases hne : L = []
  ·subst hne
   refine i_app_f (v := .fl []) (s := σ) ?_ ?_
   ·have hr := h.rows
    have hr2 : V.rows σ (.fl []) = some [] := rfl
    simp [evalE, Opd.ev, Env.get, hr, pR, appendV, fitR, hr2]
   simp -implicitDefEqProofs
   exact ⟨.fl, Fr.refl _ _, fresh_fl _ _, rfl⟩
  ·refine i_app_m (v := .sl σ.objs.length 0 L.length 1) (s := ⟨σ.objs ++ [.cells (wV L)], σ.toks⟩) ?_ ?_
   ·have hp : pR L ≠ [] := by simpa [pR] using hne
    have := appendM_fl (σ := σ) (sz := 1) (bytes := 4) (rows := []) (ys := pR L) (by omega) (by simp) (pR_fit L) hp (by simp [pR_len]; omega) (by simp [pR_len]; omega)
    simp [evalM, Opd.ev, Env.get, h.rows, this, St.push, pR_len]
    rw [← List.map_flatten]
    exact pR_flat L
   simp -implicitDefEqProofs
   exact ⟨.sl (by simp), Fr.push1 _ _, fun r off n sz e => by cases e; exact Nat.le_refl _, rfl⟩
theorem s_Trim {σ : St} {v : V} {L : List W32} (h : Rd σ v L) (hl : L.length ≤ 100000) : Dn.Call Γ cx .raw 134 [v] σ fun w s => New σ s w (trim L) := by
 refine Dn.Call.body (fc := c134) rfl ?_
 simp -implicitDefEqProofs [c134, c134_k0]
 refine use_raw (s_cut h hl) fun w s ⟨hs, hr, _⟩ => ?_
 subst hs
 have hl2 := Gf.trim_len L
 have hl3 := Gf.dg_le L
 simp -implicitDefEqProofs
 refine use_raw (s_Clone hr (by omega)) fun w s hn => ?_
 simp -implicitDefEqProofs
 exact hn
end Go.Proofs.Ytmlkdfjojoophaa.T
