/- Each operation that leaves the store alone does in the world what it does in the abstract: one theorem. -/
import Derived.Test.YtjkedjjahjlmfaaFw5
namespace Go.Dn
set_option linter.unusedVariables false
set_option linter.unusedSimpArgs false

variable {P : Program} {g : Gh} {σ : St} {tk : List Nat} {w : World}

/-! ### two operands -/

theorem run_eqGuard_other {op : BinOp} (h : op ≠ .eql ∧ op ≠ .neq) (t : TypeId) (x y : Operand) (a b : Value) : (eqGuard op t x y a b).run P w = .ok () w := by
  unfold eqGuard
  cases op <;> simp at h ⊢

theorem run_eqGuard_plain {op : BinOp} (t : TypeId) (x y : Operand) {a b : Value} (h : ¬ (a = .nilIface ∧ b = .nilIface)) (h' : ∀ p q, ¬ (a = .agg p ∧ b = .agg q)) : (eqGuard op t x y a b).run P w = .ok () w := by
  unfold eqGuard
  cases op <;> simp <;> (split <;> first | rfl | exact absurd ⟨rfl, rfl⟩ h | exact absurd ⟨rfl, rfl⟩ (h' _ _))

theorem run_eqGuard_nil {op : BinOp} (t : TypeId) {x y : Operand} (h : (∃ v, x = .const v) ∨ (∃ v, y = .const v)) : (eqGuard op t x y .nilIface .nilIface).run P w = .ok () w := by
  unfold eqGuard
  rcases h with ⟨v, rfl⟩ | ⟨v, rfl⟩
  · cases op <;> simp
  · cases op <;> simp

theorem run_eqGuard_flat {op : BinOp} (t : TypeId) (x y : Operand) {a b : Array Value} (h : P.eqGuardType P.depth t = false) : (eqGuard op t x y (.agg a) (.agg b)).run P w = .ok () w := by
  have hp : (program : Sem Program).run P w = .ok P w := rfl
  unfold eqGuard
  cases op <;> simp [hp, h]

theorem run_eql_other (t : TypeId) {x y : Value} (hi : ∀ k n k' n', ¬ (x = .int k n ∧ y = .int k' n')) (hs : ∀ a b, ¬ (x = .string a ∧ y = .string b)) (hf : ∀ k n k' n', ¬ (x = .float k n ∧ y = .float k' n')) (hc : ∀ k n m k' n' m', ¬ (x = .complex k n m ∧ y = .complex k' n' m')) :
    (Go.binOp .eql t x y).run P w = ((Op.equal t x y).run P w).andThen fun b w' => .ok (.bool b) w' := by
  unfold Go.binOp
  split <;> first | exact absurd ⟨rfl, rfl⟩ (hi _ _ _ _) | exact absurd ⟨rfl, rfl⟩ (hs _ _) | exact absurd ⟨rfl, rfl⟩ (hf _ _ _ _) | exact absurd ⟨rfl, rfl⟩ (hc _ _ _ _ _ _) | simp_all

theorem run_neq_other (t : TypeId) {x y : Value} (hi : ∀ k n k' n', ¬ (x = .int k n ∧ y = .int k' n')) (hs : ∀ a b, ¬ (x = .string a ∧ y = .string b)) (hf : ∀ k n k' n', ¬ (x = .float k n ∧ y = .float k' n')) (hc : ∀ k n m k' n' m', ¬ (x = .complex k n m ∧ y = .complex k' n' m')) :
    (Go.binOp .neq t x y).run P w = ((Op.equal t x y).run P w).andThen fun b w' => .ok (.bool !b) w' := by
  unfold Go.binOp
  split <;> first | exact absurd ⟨rfl, rfl⟩ (hi _ _ _ _) | exact absurd ⟨rfl, rfl⟩ (hs _ _) | exact absurd ⟨rfl, rfl⟩ (hf _ _ _ _) | exact absurd ⟨rfl, rfl⟩ (hc _ _ _ _ _ _) | simp_all

theorem nilOf_or {ty : Ty} {x : V} {v : Value} {b : Bool} (h : V.isNil ty x = some b) (hx : VR g tk w x v) : (b = true ∧ v = nilOf ty) ∨ (b = false ∧ NotNil ty v) := by
  cases b
  · exact .inr ⟨rfl, isNil_false h hx⟩
  · exact .inl ⟨rfl, isNil_true h hx⟩

theorem isNil_ty {ty : Ty} {x : V} {b : Bool} (h : V.isNil ty x = some b) : ty = .ptr ∨ ty = .slice ∨ ty = .map ∨ ty = .func ∨ ty = .iface := by
  unfold V.isNil at h
  split at h <;> first | simp | cases h

theorem notNil_ne {ty : Ty} {v : Value} (hty : ty = .ptr ∨ ty = .slice ∨ ty = .map ∨ ty = .func ∨ ty = .iface) (h : NotNil ty v) : v ≠ nilOf ty := by
  rcases hty with rfl | rfl | rfl | rfl | rfl
  · obtain ⟨a, rfl⟩ := h; simp [nilOf]
  · obtain ⟨a, n, c, rfl⟩ := h; simp [nilOf]
  · obtain ⟨a, rfl⟩ := h; simp [nilOf]
  · obtain ⟨f, a, b, rfl⟩ := h; simp [nilOf]
  · obtain ⟨t, x, rfl⟩ := h; simp [nilOf]

/-- A value of a type that has a nil is no number, text, struct. -/
theorem niled_shape {ty : Ty} {v : Value} (hty : ty = .ptr ∨ ty = .slice ∨ ty = .map ∨ ty = .func ∨ ty = .iface) (h : v = nilOf ty ∨ NotNil ty v) :
    (∀ k n, v ≠ .int k n) ∧ (∀ s, v ≠ .string s) ∧ (∀ k n, v ≠ .float k n) ∧ (∀ k n m, v ≠ .complex k n m) ∧ (∀ p, v ≠ .agg p) ∧ (v = .nilIface → ty = .iface) := by
  rcases hty with rfl | rfl | rfl | rfl | rfl
  · rcases h with rfl | ⟨a, rfl⟩ <;> simp [nilOf]
  · rcases h with rfl | ⟨a, n, c, rfl⟩ <;> simp [nilOf]
  · rcases h with rfl | ⟨a, rfl⟩ <;> simp [nilOf]
  · rcases h with rfl | ⟨f, a, b, rfl⟩ <;> simp [nilOf]
  · rcases h with rfl | ⟨t, x, rfl⟩ <;> simp [nilOf]

theorem isC_const {x : Operand} {x' : Opd} (hx : compOpd x = some x') (h : x'.isC = true) : ∃ v, x = .const v := by
  unfold compOpd at hx
  split at hx
  · cases hx; simp [Opd.isC] at h
  · exact ⟨_, rfl⟩
  · cases hx; simp [Opd.isC] at h
  · cases hx

theorem eqV_rel {t : TypeId} {ty : Ty} {ks : List Lf} (ht : compTy P t = some (ty, ks)) {x y : V} {cx cy : Value} {ox oy : Operand} {ox' oy' : Opd} (hox : compOpd ox = some ox') (hoy : compOpd oy = some oy')
    (hx : VR g tk w x cx) (hy : VR g tk w y cy) {b : Bool} (h : eqV ty ks x y ox'.isC oy'.isC = some b) (op : BinOp) (hop : op = .eql ∨ op = .neq) :
    (do eqGuard op t ox oy cx cy; Go.binOp op t cx cy : Sem Value).run P w = .ok (.bool (if op = .eql then b else !b)) w := by
  have fin : ∀ {r : Bool}, (Op.equal t cx cy).run P w = .ok r w → r = b → (∀ k n k' n', ¬ (cx = .int k n ∧ cy = .int k' n')) → (∀ a b, ¬ (cx = .string a ∧ cy = .string b)) → (∀ k n k' n', ¬ (cx = .float k n ∧ cy = .float k' n')) → (∀ k n m k' n' m', ¬ (cx = .complex k n m ∧ cy = .complex k' n' m')) →
      (eqGuard op t ox oy cx cy).run P w = .ok () w → (do eqGuard op t ox oy cx cy; Go.binOp op t cx cy : Sem Value).run P w = .ok (.bool (if op = .eql then b else !b)) w := by
    intro r hr hb h1 h2 h3 h4 hg
    subst hb
    rcases hop with rfl | rfl
    · simp [hg, run_eql_other t h1 h2 h3 h4, hr]
    · simp [hg, run_neq_other t h1 h2 h3 h4, hr]
  unfold eqV at h
  cases hty : ty
  case bool =>
    subst hty
    simp only at h
    split at h
    · cases h
      have e1 := hx.inv_bool; have e2 := hy.inv_bool
      subst e1 e2
      have hu : P.underlying t = some .bool := compTy_is ht
      exact fin (run_equal_bool w t _ _ hu) rfl (by simp) (by simp) (by simp) (by simp) (run_eqGuard_plain t ox oy (by simp) (by simp))
    · cases h
  case flat =>
    subst hty
    simp only at h
    split at h
    · rename_i l m
      split at h
      · rename_i hf
        simp only [Bool.and_eq_true] at hf
        cases h
        cases hx with
        | da _ xs dx =>
        cases hy with
        | da _ ys dy =>
        cases dx with
        | agg _ _ hl1 _ h1 =>
          cases dy with
          | agg _ _ hl2 _ h2 =>
            have hfl : ∃ ks', ks' = ks ∧ flatOf P t = some (Ty.flat, ks') := by
              unfold compTy at ht
              split at ht <;> first | (cases ht; done) | exact ⟨_, rfl, ht⟩
            obtain ⟨_, rfl, hfl⟩ := hfl
            obtain ⟨_, hlv, hkt, hgd⟩ := flatOf_inv hfl
            have hagg : aggT P t = true := by
              unfold compTy at ht
              unfold aggT
              split at ht <;> first | (cases ht; done) | simp_all
            obtain ⟨r, hr, hiff⟩ := run_equal_flat (w := w) hlv hkt hagg hf.1 hf.2 (DRs.of_get (by simpa using hl1) (fun i d v hd hv => h1 i d v hd (by simpa using hv))) (DRs.of_get (by simpa using hl2) (fun i d v hd hv => h2 i d v hd (by simpa using hv)))
            refine fin hr ?_ (by simp) (by simp) (by simp) (by simp) (run_eqGuard_flat t ox oy hgd)
            by_cases e : l = m
            · simp [e, hiff.2 e]
            · have : r = false := by cases r; rfl; exact absurd (hiff.1 rfl) e
              simp [e, this]
      · cases h
    · cases h
  all_goals
    rw [hty] at h
    simp only at h
    split at h
    · rename_i hx' hy'
      have hn := isNil_ty hx'
      have e1 := isNil_true hx' hx
      have e2 := isNil_true hy' hy
      have hb : b = true ∧ (ty = .iface → ox'.isC = true ∨ oy'.isC = true) := by
        rw [hty]
        simp at h
        first | exact ⟨by simpa using h.symm, by simp⟩ | (obtain ⟨h1, h2⟩ := h; exact ⟨by simpa using h2.symm, fun _ => by simpa using h1⟩)
      obtain ⟨r, hr, hiff⟩ := run_equal_nil (w := w) (compTy_is ht) (.inl (hty ▸ e1)) (.inl (hty ▸ e2)) (.inl (hty ▸ e1)) (hty ▸ hn)
      have hr1 : r = true := hiff.2 ⟨hty ▸ e1, hty ▸ e2⟩
      obtain ⟨a1, a2, a3, a4, a5, a6⟩ := niled_shape hn (.inl e1)
      refine fin hr (by rw [hr1, hb.1]) (fun k n k' n' h => a1 _ _ h.1) (fun a b h => a2 _ h.1) (fun k n k' n' h => a3 _ _ h.1) (fun k n m k' n' m' h => a4 _ _ _ h.1) ?_
      by_cases hi : cx = .nilIface ∧ cy = .nilIface
      · obtain ⟨rfl, rfl⟩ := hi
        have := a6 rfl
        rcases hb.2 (hty.trans this) with hc | hc
        · exact run_eqGuard_nil t (.inl (isC_const hox hc))
        · exact run_eqGuard_nil t (.inr (isC_const hoy hc))
      · exact run_eqGuard_plain t ox oy hi (fun p q h => a5 _ h.1)
    · rename_i hx' hy'
      have hn := isNil_ty hx'
      have e1 := isNil_true hx' hx
      have e2 := isNil_false hy' hy
      cases h
      obtain ⟨r, hr, hiff⟩ := run_equal_nil (w := w) (compTy_is ht) (.inl (hty ▸ e1)) (.inr (hty ▸ e2)) (.inl (hty ▸ e1)) (hty ▸ hn)
      have hr1 : r = false := by
        cases r
        · rfl
        · exact absurd (hiff.1 rfl).2 (hty ▸ notNil_ne hn e2)
      obtain ⟨a1, a2, a3, a4, a5, a6⟩ := niled_shape hn (.inl e1)
      exact fin hr hr1 (fun k n k' n' h => a1 _ _ h.1) (fun a b h => a2 _ h.1) (fun k n k' n' h => a3 _ _ h.1) (fun k n m k' n' m' h => a4 _ _ _ h.1)
        (run_eqGuard_plain t ox oy (fun h => by
          have hi := (niled_shape hn (.inr e2)).2.2.2.2.2 h.2
          have := notNil_ne hn e2
          rw [h.2, hi] at this
          exact this rfl) (fun p q h => a5 _ h.1))
    · rename_i hx' hy'
      have hn := isNil_ty hy'
      have e1 := isNil_false hx' hx
      have e2 := isNil_true hy' hy
      cases h
      obtain ⟨r, hr, hiff⟩ := run_equal_nil (w := w) (compTy_is ht) (.inr (hty ▸ e1)) (.inl (hty ▸ e2)) (.inr (hty ▸ e2)) (hty ▸ hn)
      have hr1 : r = false := by
        cases r
        · rfl
        · exact absurd (hiff.1 rfl).1 (hty ▸ notNil_ne hn e1)
      obtain ⟨a1, a2, a3, a4, a5, a6⟩ := niled_shape hn (.inr e1)
      exact fin hr hr1 (fun k n k' n' h => a1 _ _ h.1) (fun a b h => a2 _ h.1) (fun k n k' n' h => a3 _ _ h.1) (fun k n m k' n' m' h => a4 _ _ _ h.1)
        (run_eqGuard_plain t ox oy (fun h => by
          have hi := (niled_shape hn (.inr e1)).2.2.2.2.2 h.1
          have := notNil_ne hn e1
          rw [h.1, hi] at this
          exact this rfl) (fun p q h => a5 _ h.1))
    · cases h

theorem evalBin_rel {t : TypeId} {ty : Ty} {ks : List Lf} (ht : compTy P t = some (ty, ks)) {x y : V} {cx cy : Value} {ox oy : Operand} {ox' oy' : Opd} (hox : compOpd ox = some ox') (hoy : compOpd oy = some oy')
    (hx : VR g tk w x cx) (hy : VR g tk w y cy) {op : BinOp} {v : V} (h : evalBin op ty ks x y ox'.isC oy'.isC = some v) :
    ∃ cv, (do eqGuard op t ox oy cx cy; Go.binOp op t cx cy : Sem Value).run P w = .ok cv w ∧ VR g tk w v cv := by
  have pre : ∀ {r : Value}, (eqGuard op t ox oy cx cy).run P w = .ok () w → (Go.binOp op t cx cy).run P w = .ok r w → (do eqGuard op t ox oy cx cy; Go.binOp op t cx cy : Sem Value).run P w = .ok r w := by
    intro r h1 h2
    simp [h1, h2]
  unfold evalBin at h
  split at h
  · rename_i k a k' b
    have e1 := hx.inv_int; have e2 := hy.inv_int
    subst e1 e2
    have hg := run_eqGuard_plain (P := P) (w := w) (op := op) t ox oy (a := .int k a) (b := .int k' b) (by simp) (by simp)
    split at h
    · obtain ⟨cv, h1, h2⟩ := run_shiftBin (P := P) (g := g) (tk := tk) (w := w) (k' := k') (.inl rfl) h t
      exact ⟨cv, pre hg h1, h2⟩
    · obtain ⟨cv, h1, h2⟩ := run_shiftBin (P := P) (g := g) (tk := tk) (w := w) (k' := k') (.inr rfl) h t
      exact ⟨cv, pre hg h1, h2⟩
    · split at h
      · rename_i h1 h2 hk
        subst hk
        obtain ⟨cv, h1, h2⟩ := run_intBin (P := P) (g := g) (tk := tk) (w := w) ⟨fun e => h1 e, fun e => h2 e⟩ h t
        exact ⟨cv, pre hg h1, h2⟩
      · cases h
  · have e1 := hx.inv_str; have e2 := hy.inv_str
    subst e1 e2
    obtain ⟨cv, h1, h2⟩ := run_strBin (P := P) (g := g) (tk := tk) (w := w) h t
    exact ⟨cv, pre (run_eqGuard_plain t ox oy (by simp) (by simp)) h1, h2⟩
  · split at h
    · simp only [Option.map_eq_some_iff] at h
      obtain ⟨b, hb, rfl⟩ := h
      exact ⟨_, eqV_rel ht hox hoy hx hy hb .eql (.inl rfl), .bool _⟩
    · simp only [Option.map_eq_some_iff] at h
      obtain ⟨b, hb, rfl⟩ := h
      exact ⟨_, eqV_rel ht hox hoy hx hy hb .neq (.inr rfl), .bool _⟩
    · cases h

theorem evalUn_rel {op : UnOp} {x v : V} {cx : Value} (hx : VR g tk w x cx) (h : evalUn op x = some v) : ∃ cv, (Op.unary op cx).run P w = .ok cv w ∧ VR g tk w v cv := by
  unfold evalUn at h
  split at h
  · cases h; have e := hx.inv_bool; subst e; exact ⟨_, by simp [Op.unary], .bool _⟩
  · cases h; have e := hx.inv_int; subst e; exact ⟨_, by simp [Op.unary, Op.intArith], .int _ _⟩
  · cases h; have e := hx.inv_int; subst e; exact ⟨_, by simp only [Op.unary, intBits_xor, Sem.run_pure], .int _ _⟩
  · cases h

end Go.Dn
