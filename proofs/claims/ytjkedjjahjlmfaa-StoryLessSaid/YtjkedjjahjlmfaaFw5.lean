/- Each operation that leaves the store alone does in the world what it does in the abstract. -/
import Derived.Test.YtjkedjjahjlmfaaFw4
import Derived.DeepKeys
namespace Go.Dn
set_option linter.unusedVariables false
set_option linter.unusedSimpArgs false

variable {P : Program} {g : Gh} {tk : List Nat} {w : World}

/-! ### inversions -/

theorem VR.inv_d {x : D} {v : Value} (h : VR g tk w (.d x) v) : DR g.frz w x v := by cases h; assumption
theorem VR.inv_one {x : D} {v : Value} (h : VR g tk w (.d x) v) : oneC v = true := by cases h; assumption
theorem DR.inv_int {f : Nat → Nat → Prop} {k : IntKind} {n : Int} {v : Value} (h : DR f w (.int k n) v) : v = .int k n := by cases h; rfl
theorem DR.inv_bool {f : Nat → Nat → Prop} {b : Bool} {v : Value} (h : DR f w (.bool b) v) : v = .bool b := by cases h; rfl
theorem DR.inv_str {f : Nat → Nat → Prop} {l : List UInt8} {v : Value} (h : DR f w (.str l) v) : v = .string ⟨l.toArray⟩ := by cases h; rfl
theorem VR.inv_int {k : IntKind} {n : Int} {v : Value} (h : VR g tk w (.d (.int k n)) v) : v = .int k n := h.inv_d.inv_int
theorem VR.inv_bool {b : Bool} {v : Value} (h : VR g tk w (.d (.bool b)) v) : v = .bool b := h.inv_d.inv_bool
theorem VR.inv_str {l : List UInt8} {v : Value} (h : VR g tk w (.d (.str l)) v) : v = .string ⟨l.toArray⟩ := h.inv_d.inv_str
theorem VR.int (k : IntKind) (n : Int) : VR g tk w (.d (.int k n)) (.int k n) := .d _ _ (.int k n) rfl
theorem VR.bool (b : Bool) : VR g tk w (.d (.bool b)) (.bool b) := .d _ _ (.bool b) rfl
theorem VR.str (l : List UInt8) : VR g tk w (.d (.str l)) (.string ⟨l.toArray⟩) := .d _ _ (.str l) rfl

/-! ### constants and operands -/

theorem leafD_rel {v : Value} {d : D} (h : leafD v = some d) (f : Nat → Nat → Prop) (w : World) : DR f w d v := by
  unfold leafD at h
  split at h
  case h_3 s => cases h; exact .str s.data.toList
  all_goals first | (cases h; constructor) | cases h

theorem leafD_one {v : Value} {d : D} (h : leafD v = some d) : oneC v = true := by
  unfold leafD at h
  split at h <;> first | rfl | cases h

theorem leafsD_one : ∀ {vs : List Value} {ds : List D}, leafsD vs = some ds → ∀ (i : Nat) (v : Value), vs[i]? = some v → oneC v = true
  | [], ds, _, i, v, hv => by simp at hv
  | x :: r, ds, h, i, v, hv => by
    unfold leafsD at h
    split at h
    · rename_i d l hd hl
      cases i with
      | zero => simp at hv; subst hv; exact leafD_one hd
      | succ i => simp at hv; exact leafsD_one hl i v hv
    · cases h

theorem leafsD_rel : ∀ {vs : List Value} {ds : List D}, leafsD vs = some ds → ds.length = vs.length ∧ ∀ (f : Nat → Nat → Prop) (w : World) (i : Nat) (d : D) (v : Value), ds[i]? = some d → vs[i]? = some v → DR f w d v
  | [], ds, h => by
    simp [leafsD] at h; subst h
    exact ⟨rfl, fun f w i d v hd => by simp at hd⟩
  | v :: r, ds, h => by
    unfold leafsD at h
    split at h
    · rename_i d l hd hl
      cases h
      obtain ⟨h1, h2⟩ := leafsD_rel hl
      refine ⟨by simp [h1], fun f w i d' v' hd' hv' => ?_⟩
      cases i with
      | zero => simp at hd' hv'; subst hd' hv'; exact leafD_rel hd f w
      | succ i => simp at hd' hv'; exact h2 f w i d' v' hd' hv'
    · cases h

theorem constO_rel {v : Value} {x : Opd} (h : constO v = some x) (e : Env) : VR g tk w (x.ev e) v := by
  unfold constO at h
  split at h
  · rename_i cs
    split at h
    · rename_i l hl
      cases h
      obtain ⟨h1, h2⟩ := leafsD_rel hl
      exact .da l cs (.agg l cs (by simpa using h1) (fun i v hv => leafsD_one hl i v (by simpa using hv)) (fun i d v hd hv => h2 _ w i d v hd (by simpa using hv)))
    · cases h
  · split at h
    · rename_i d hd
      cases h
      exact .d _ _ (leafD_rel hd _ _) (leafD_one hd)
    · cases h

theorem opd_rel {x : Operand} {x' : Opd} (hx : compOpd x = some x') {n : Nat} {e : Env} {a : Act} (he : EnvR g tk w n e a.tmps) : VR g tk w (x'.ev e) (a.eval x) := by
  unfold compOpd at hx
  split at hx
  · cases hx; exact he.2 _
  · exact constO_rel hx e
  · cases hx; exact .fn _ _ _ _ _ rfl rfl (fun i c v hc => by simp at hc) (fun i c v hc => by simp at hc)
  · cases hx

theorem opds_rel {n : Nat} {e : Env} {a : Act} (he : EnvR g tk w n e a.tmps) : ∀ {xs : List Operand} {l : List Opd}, compOpds xs = some l →
    l.length = xs.length ∧ ∀ (i : Nat) (c : V) (v : Value), (l.map (Opd.ev e))[i]? = some c → (xs.map a.eval)[i]? = some v → VR g tk w c v
  | [], l, h => by simp [compOpds] at h; subst h; exact ⟨rfl, fun i c v hc => by simp at hc⟩
  | x :: r, l, h => by
    unfold compOpds at h
    split at h
    · rename_i a' l' hx hl
      cases h
      obtain ⟨h1, h2⟩ := opds_rel he hl
      refine ⟨by simp [h1], fun i c v hc hv => ?_⟩
      cases i with
      | zero => simp at hc hv; subst hc hv; exact opd_rel hx he
      | succ i => simp only [List.map_cons, List.getElem?_cons_succ] at hc hv; exact h2 i c v hc hv
    · cases h

/-! ### numbers, bools, texts -/

theorem run_intBin {op : BinOp} {k : IntKind} {a b : Int} {v : V} (hop : op ≠ .shl ∧ op ≠ .shr) (h : intBin op k a b = some v) (t : TypeId) :
    ∃ cv, (Go.binOp op t (.int k a) (.int k b)).run P w = .ok cv w ∧ VR g tk w v cv := by
  cases op <;> simp only [intBin] at h <;> try (cases h; done)
  case add => cases h; exact ⟨_, by simp [Go.binOp, Op.intArith], .int _ _⟩
  case sub => cases h; exact ⟨_, by simp [Go.binOp, Op.intArith], .int _ _⟩
  case mul => cases h; exact ⟨_, by simp [Go.binOp, Op.intArith], .int _ _⟩
  case quo => split at h; · cases h
              · rename_i hb; cases h; exact ⟨_, by simp [Go.binOp, Op.intDiv, hb], .int _ _⟩
  case rem => split at h; · cases h
              · rename_i hb; cases h; exact ⟨_, by simp [Go.binOp, Op.intDiv, hb], .int _ _⟩
  case and => cases h; exact ⟨_, by simp only [Go.binOp, ne_eq, not_true_eq_false, if_false, intBits_and, Sem.run_pure], .int _ _⟩
  case or => cases h; exact ⟨_, by simp only [Go.binOp, ne_eq, not_true_eq_false, if_false, intBits_or, Sem.run_pure], .int _ _⟩
  case xor => cases h; exact ⟨_, by simp only [Go.binOp, ne_eq, not_true_eq_false, if_false, intBits_xor, Sem.run_pure], .int _ _⟩
  case andNot => cases h; exact ⟨_, by simp only [Go.binOp, ne_eq, not_true_eq_false, if_false, intBits_andNot, Sem.run_pure], .int _ _⟩
  case eql => cases h; exact ⟨_, by simp [Go.binOp, Op.intCmp]; rfl, .bool _⟩
  case neq => cases h; exact ⟨_, by simp [Go.binOp, Op.intCmp, bne]; rfl, .bool _⟩
  case lss => cases h; exact ⟨_, by simp [Go.binOp, Op.intCmp], .bool _⟩
  case leq => cases h; exact ⟨_, by simp [Go.binOp, Op.intCmp], .bool _⟩
  case gtr => cases h; exact ⟨_, by simp [Go.binOp, Op.intCmp], .bool _⟩
  case geq => cases h; exact ⟨_, by simp [Go.binOp, Op.intCmp], .bool _⟩

theorem run_shiftBin {op : BinOp} {k k' : IntKind} {a b : Int} {v : V} (hop : op = .shl ∨ op = .shr) (h : shiftBin op k a b = some v) (t : TypeId) :
    ∃ cv, (Go.binOp op t (.int k a) (.int k' b)).run P w = .ok cv w ∧ VR g tk w v cv := by
  unfold shiftBin at h
  split at h
  · cases h
  · rename_i hb
    rcases hop with rfl | rfl
    · cases h; exact ⟨_, by simp [Go.binOp, Op.shift, hb], .int _ _⟩
    · cases h
      refine ⟨.int k (a / 2 ^ (min b.toNat k.bits)), ?_, .int _ _⟩
      have hp : (0 : Int) ≤ 2 ^ (min b.toNat k.bits) := Int.pow_nonneg (by decide)
      simp [Go.binOp, Op.shift, hb, Int.fdiv_eq_ediv_of_nonneg _ hp]

theorem bytes_toList (l : List UInt8) : (⟨l.toArray⟩ : ByteArray).toList = l := by simp

theorem bytes_size (l : List UInt8) : (⟨l.toArray⟩ : ByteArray).size = l.length := by simp [ByteArray.size]

theorem bytes_append (a b : List UInt8) : (⟨a.toArray⟩ ++ ⟨b.toArray⟩ : ByteArray) = ⟨(a ++ b).toArray⟩ := by
  apply ByteArray.ext
  simp

theorem run_strBin {op : BinOp} {a b : List UInt8} {v : V} (h : strBin op a b = some v) (t : TypeId) :
    ∃ cv, (Go.binOp op t (.string ⟨a.toArray⟩) (.string ⟨b.toArray⟩)).run P w = .ok cv w ∧ VR g tk w v cv := by
  have hb : ∀ x y : List UInt8, (x == y) = decide (x = y) := fun x y => by by_cases e : x = y <;> simp [e]
  cases op <;> simp only [strBin] at h <;> try (cases h; done)
  case add =>
    split at h
    · rename_i hl
      cases h
      refine ⟨.string ⟨(a ++ b).toArray⟩, ?_, .str _⟩
      have hn : ¬ ((a.length : Int) + b.length > 9223372036854775807) := by omega
      simp only [Go.binOp, Op.stringOp, bytes_size, bytes_append, IntKind.max]
      simp only [IntKind.bits, IntKind.signed]
      rw [if_neg (by simpa using hn)]
      rfl
    · cases h
  case eql => cases h; exact ⟨_, by simp only [Go.binOp, Op.stringOp, bytes_toList, hb]; rfl, .bool _⟩
  case neq => cases h; exact ⟨_, by simp only [Go.binOp, Op.stringOp, bytes_toList, hb]; rfl, .bool _⟩
  case lss => cases h; exact ⟨_, by simp only [Go.binOp, Op.stringOp, bytes_toList, hb]; rfl, .bool _⟩
  case leq => cases h; exact ⟨_, by simp only [Go.binOp, Op.stringOp, bytes_toList, hb]; rfl, .bool _⟩
  case gtr => cases h; exact ⟨_, by simp only [Go.binOp, Op.stringOp, bytes_toList, hb]; rfl, .bool _⟩
  case geq => cases h; exact ⟨_, by simp only [Go.binOp, Op.stringOp, bytes_toList, hb]; rfl, .bool _⟩

/-! ### equality with nil -/

/-- A value's own nil. -/
def nilOf : Ty → Value
  | .ptr => .pointer none
  | .slice => .slice none 0 0
  | .map => .map none
  | .func => .nilFunc
  | _ => .nilIface

theorem isNil_true {ty : Ty} {x : V} {v : Value} (h : V.isNil ty x = some true) (hx : VR g tk w x v) : v = nilOf ty := by
  unfold V.isNil at h
  split at h <;> first | (cases h; done) | skip
  all_goals (have hd := hx.inv_d; clear hx; cases hd; rfl)

/-- Not nil, as its type's values are written. -/
def NotNil : Ty → Value → Prop
  | .ptr, v => ∃ a, v = .pointer (some a)
  | .slice, v => ∃ a n c, v = .slice (some a) n c
  | .map, v => ∃ a, v = .map (some a)
  | .func, v => ∃ f a b, v = .func f a b
  | _, v => ∃ t x, v = .iface t x

theorem isNil_false {ty : Ty} {x : V} {v : Value} (h : V.isNil ty x = some false) (hx : VR g tk w x v) : NotNil ty v := by
  unfold V.isNil at h
  split at h <;> first | (cases h; done) | skip
  all_goals first | (have hd := hx.inv_d; clear hx; cases hd <;> first | exact ⟨_, rfl⟩ | exact ⟨_, _, rfl⟩ | exact ⟨_, _, _, rfl⟩) | (cases hx; first | exact ⟨_, rfl⟩ | exact ⟨_, _, rfl⟩ | exact ⟨_, _, _, rfl⟩)

/-- What a type is, of those that have a nil. -/
def TyIs (P : Program) (t : TypeId) : Ty → Prop
  | .ptr => ∃ e, P.underlying t = some (.pointer e)
  | .slice => ∃ e, P.underlying t = some (.slice e)
  | .map => ∃ k e, P.underlying t = some (.map k e)
  | .func => ∃ a b c, P.underlying t = some (.func a b c)
  | .iface => ∃ ms, P.underlying t = some (.interface ms)
  | .bool => P.underlying t = some .bool
  | _ => True

theorem compTy_is {t : TypeId} {ty : Ty} {ks : List Lf} (h : compTy P t = some (ty, ks)) : TyIs P t ty := by
  unfold compTy at h
  split at h <;> first | (cases h; first | exact ⟨_, by assumption⟩ | exact ⟨_, _, by assumption⟩ | exact ⟨_, _, _, by assumption⟩ | assumption | trivial) | skip
  · unfold flatOf at h; split at h
    · split at h
      · cases h; trivial
      · cases h
    · cases h
  · unfold flatOf at h; split at h
    · split at h
      · cases h; trivial
      · cases h
    · cases h
  · cases h

theorem run_equal_nil {t : TypeId} {ty : Ty} (ht : TyIs P t ty) {x y : Value} (hx : x = nilOf ty ∨ NotNil ty x) (hy : y = nilOf ty ∨ NotNil ty y)
    (hno : x = nilOf ty ∨ y = nilOf ty) (hty : ty = .ptr ∨ ty = .slice ∨ ty = .map ∨ ty = .func ∨ ty = .iface) :
    ∃ b, (Op.equal t x y).run P w = .ok b w ∧ (b = true ↔ (x = nilOf ty ∧ y = nilOf ty)) := by
  show ∃ b, (Op.equalIn (9999 + 1) t x y).run P w = .ok b w ∧ _
  generalize 9999 = n
  rcases hty with rfl | rfl | rfl | rfl | rfl
  · obtain ⟨e, he⟩ := ht
    rcases hx with rfl | ⟨a, rfl⟩ <;> rcases hy with rfl | ⟨b, rfl⟩
    · exact ⟨true, by simp [Op.equalIn, run_underlying he, nilOf], by simp⟩
    · exact ⟨false, by simp [Op.equalIn, run_underlying he, nilOf], by simp [nilOf]⟩
    · exact ⟨false, by simp [Op.equalIn, run_underlying he, nilOf], by simp [nilOf]⟩
    · rcases hno with h | h <;> simp [nilOf] at h
  · obtain ⟨e, he⟩ := ht
    rcases hx with rfl | ⟨a, n, c, rfl⟩ <;> rcases hy with rfl | ⟨b, m, d, rfl⟩
    · exact ⟨true, by simp [Op.equalIn, run_underlying he, nilOf], by simp⟩
    · exact ⟨false, by simp [Op.equalIn, run_underlying he, nilOf], by simp [nilOf]⟩
    · exact ⟨false, by simp [Op.equalIn, run_underlying he, nilOf], by simp [nilOf]⟩
    · rcases hno with h | h <;> simp [nilOf] at h
  · obtain ⟨k, e, he⟩ := ht
    rcases hx with rfl | ⟨a, rfl⟩ <;> rcases hy with rfl | ⟨b, rfl⟩
    · exact ⟨true, by simp [Op.equalIn, run_underlying he, nilOf], by simp⟩
    · exact ⟨false, by simp [Op.equalIn, run_underlying he, nilOf], by simp [nilOf]⟩
    · exact ⟨false, by simp [Op.equalIn, run_underlying he, nilOf], by simp [nilOf]⟩
    · rcases hno with h | h <;> simp [nilOf] at h
  · obtain ⟨k, e, m, he⟩ := ht
    rcases hx with rfl | ⟨a, n, c, rfl⟩ <;> rcases hy with rfl | ⟨b, m, d, rfl⟩
    · exact ⟨true, by simp [Op.equalIn, run_underlying he, nilOf], by simp⟩
    · exact ⟨false, by simp [Op.equalIn, run_underlying he, nilOf], by simp [nilOf]⟩
    · exact ⟨false, by simp [Op.equalIn, run_underlying he, nilOf], by simp [nilOf]⟩
    · rcases hno with h | h <;> simp [nilOf] at h
  · obtain ⟨ms, he⟩ := ht
    rcases hx with rfl | ⟨a, n, rfl⟩ <;> rcases hy with rfl | ⟨b, m, rfl⟩
    · exact ⟨true, by simp [Op.equalIn, run_underlying he, nilOf], by simp⟩
    · exact ⟨false, by simp [Op.equalIn, run_underlying he, nilOf], by simp [nilOf]⟩
    · exact ⟨false, by simp [Op.equalIn, run_underlying he, nilOf], by simp [nilOf]⟩
    · rcases hno with h | h <;> simp [nilOf] at h

/-! ### equality of structs and arrays of plain leaves -/

def litOf : D → Lit
  | .int k n => .int k n
  | .bool b => .bool b
  | .str s => .string s
  | _ => .bool false

/-- A list of data and a list of values, side by side. -/
def DRs (f : Nat → Nat → Prop) (w : World) : List D → List Value → Prop
  | [], [] => True
  | d :: ds, v :: vs => DR f w d v ∧ DRs f w ds vs
  | _, _ => False

theorem DRs.length {f : Nat → Nat → Prop} : ∀ {ds : List D} {vs : List Value}, DRs f w ds vs → ds.length = vs.length
  | [], [], _ => rfl
  | _ :: _, _ :: _, h => by simp [DRs.length h.2]
  | [], _ :: _, h => h.elim
  | _ :: _, [], h => h.elim

theorem DRs.of_get {f : Nat → Nat → Prop} : ∀ {ds : List D} {vs : List Value}, ds.length = vs.length → (∀ (i : Nat) (d : D) (v : Value), ds[i]? = some d → vs[i]? = some v → DR f w d v) → DRs f w ds vs
  | [], [], _, _ => trivial
  | d :: ds, v :: vs, hl, h => ⟨h 0 d v rfl rfl, DRs.of_get (by simpa using hl) (fun i d' v' h1 h2 => h (i + 1) d' v' (by simpa using h1) (by simpa using h2))⟩
  | [], _ :: _, hl, _ => by simp at hl
  | _ :: _, [], hl, _ => by simp at hl

theorem DRs.get {f : Nat → Nat → Prop} : ∀ {ds : List D} {vs : List Value}, DRs f w ds vs → ∀ (i : Nat) (d : D) (v : Value), ds[i]? = some d → vs[i]? = some v → DR f w d v
  | [], [], _, i, d, v, h, _ => by simp at h
  | d :: ds, v :: vs, h, i, d', v', h1, h2 => by
    cases i with
    | zero => simp at h1 h2; subst h1 h2; exact h.1
    | succ i => exact DRs.get h.2 i d' v' (by simpa using h1) (by simpa using h2)
  | [], _ :: _, h, _, _, _, _, _ => h.elim
  | _ :: _, [], h, _, _, _, _, _ => h.elim

theorem DRs.append_inv {f : Nat → Nat → Prop} : ∀ {as bs : List D} {vs : List Value}, DRs f w (as ++ bs) vs → ∃ xs ys, vs = xs ++ ys ∧ DRs f w as xs ∧ DRs f w bs ys
  | [], bs, vs, h => ⟨[], vs, rfl, trivial, h⟩
  | a :: as, bs, [], h => h.elim
  | a :: as, bs, v :: vs, h => by
    obtain ⟨xs, ys, rfl, h1, h2⟩ := DRs.append_inv (as := as) h.2
    exact ⟨v :: xs, ys, rfl, ⟨h.1, h1⟩, h2⟩

theorem fitsAll_length : ∀ {ks : List Lf} {ds : List D}, fitsAll ks ds = true → ks.length = ds.length
  | [], [], _ => rfl
  | _ :: _, _ :: _, h => by simp [fitsAll] at h; simp [fitsAll_length h.2]
  | [], _ :: _, h => by simp [fitsAll] at h
  | _ :: _, [], h => by simp [fitsAll] at h

theorem fitsAll_append : ∀ {ks ks' : List Lf} {ds : List D}, fitsAll (ks ++ ks') ds = true → ∃ a b, ds = a ++ b ∧ fitsAll ks a = true ∧ fitsAll ks' b = true
  | [], ks', ds, h => ⟨[], ds, rfl, rfl, h⟩
  | k :: ks, ks', [], h => by simp [fitsAll] at h
  | k :: ks, ks', d :: ds, h => by
    simp [fitsAll] at h
    obtain ⟨a, b, rfl, h1, h2⟩ := fitsAll_append h.2
    exact ⟨d :: a, b, rfl, by simp [fitsAll, h.1, h1], h2⟩

theorem keyLits_leaf {n : Nat} {t : TypeId} {k : Lf} {d : D} {v : Value} (hu : P.underlying t = some (match k with | .int q => .int q | .bool => .bool | .str => .string)) (hf : k.fits d = true) {f : Nat → Nat → Prop} (hd : DR f w d v) :
    P.keyLits (n + 1) t [v] = some [litOf d] := by
  cases k with
  | int q =>
    cases d <;> simp [Lf.fits] at hf
    obtain ⟨⟨rfl, h1⟩, h2⟩ := hf
    cases hd
    simp [Program.keyLits, hu, Lit.wf, h1, h2, litOf]
  | bool =>
    cases d <;> simp [Lf.fits] at hf
    cases hd
    simp [Program.keyLits, hu, litOf]
  | str =>
    cases d <;> simp [Lf.fits] at hf
    rename_i s
    cases hd
    have : (⟨s.toArray⟩ : ByteArray).size ≤ maxLen := by rw [bytes_size]; simp only [maxLen]; omega
    simp [Program.keyLits, hu, litOf, this]

theorem keyLits_items {F : Nat → Nat → Prop} {m : Nat} {e : TypeId} {l : List Lf} (hc : P.cellsOf e = l.length) (ih : ∀ (ds : List D) (xs : List Value), fitsAll l ds = true → DRs F w ds xs → P.keyLits m e xs = some (ds.map litOf)) :
    ∀ (k : Nat) (pre xs : List Value) (ds : List D) (j : Nat), pre.length = j * l.length → fitsAll ((List.replicate k l).flatten) ds = true → DRs F w ds xs →
      ∃ r, ((List.range k).map (j + ·)).mapM (fun i => P.keyLits m e (((pre ++ xs).drop (i * P.cellsOf e)).take (P.cellsOf e))) = some r ∧ r.flatten = ds.map litOf
  | 0, pre, xs, ds, j, hp, hf, hd => by
    have : ds = [] := List.eq_nil_of_length_eq_zero (by have := fitsAll_length hf; simp at this; exact this.symm)
    subst this
    exact ⟨[], by simp, rfl⟩
  | k + 1, pre, xs, ds, j, hp, hf, hd => by
    simp only [List.replicate_succ, List.flatten_cons] at hf
    obtain ⟨a, b, rfl, h1, h2⟩ := fitsAll_append hf
    obtain ⟨us, vs, rfl, d1, d2⟩ := hd.append_inv
    have hul : us.length = l.length := by rw [← d1.length, fitsAll_length h1]
    obtain ⟨r, hr, hfl⟩ := keyLits_items hc ih k (pre ++ us) vs b (j + 1) (by simp [hp, hul, Nat.add_mul]) h2 d2
    have e1 : ((pre ++ (us ++ vs)).drop (j * P.cellsOf e)).take (P.cellsOf e) = us := by
      rw [hc, ← hp, List.drop_left, ← hul, List.take_left]
    refine ⟨a.map litOf :: r, ?_, by simp [hfl]⟩
    rw [List.range_succ_eq_map, List.map_cons, List.mapM_cons, Nat.add_zero, e1, ih a us h1 d1]
    simp only [List.map_map]
    have e2 : (List.range k).map ((fun x => j + x) ∘ Nat.succ) = (List.range k).map (j + 1 + ·) := by
      apply List.map_congr_left; intro x _; simp; omega
    rw [e2]
    rw [← List.append_assoc, hr]
    rfl

theorem keyLits_fields {F : Nat → Nat → Prop} {m : Nat} {lv : TypeId → Option (List Lf)} (ih : ∀ (t : TypeId) (ks : List Lf), lv t = some ks → ∀ (ds : List D) (xs : List Value), fitsAll ks ds = true → DRs F w ds xs → P.keyLits m t xs = some (ds.map litOf)) :
    ∀ (fs : List Field) (off : Nat) (ks : List Lf) (pre xs : List Value) (ds : List D), leavesFs P lv off fs = some ks → pre.length = off → fitsAll ks ds = true → DRs F w ds xs →
      (∀ f ∈ fs, f.name ≠ "_") ∧ ∃ r, fs.mapM (fun f => P.keyLits m f.type (((pre ++ xs).drop f.offset).take (P.cellsOf f.type))) = some r ∧ r.flatten = ds.map litOf
  | [], off, ks, pre, xs, ds, h, hp, hf, hd => by
    simp [leavesFs] at h; subst h
    have : ds = [] := List.eq_nil_of_length_eq_zero (by have := fitsAll_length hf; simp at this; exact this.symm)
    subst this
    exact ⟨by simp, [], rfl, rfl⟩
  | x :: fs, off, ks, pre, xs, ds, h, hp, hf, hd => by
    unfold leavesFs at h
    split at h
    · rename_i l hl
      split at h
      · rename_i hc
        obtain ⟨hn, ho, hcell⟩ := hc
        split at h
        · rename_i b hb
          cases h
          obtain ⟨a, c, rfl, h1, h2⟩ := fitsAll_append hf
          obtain ⟨us, vs, rfl, d1, d2⟩ := hd.append_inv
          have hul : us.length = l.length := by rw [← d1.length, fitsAll_length h1]
          obtain ⟨hnn, r, hr, hfl⟩ := keyLits_fields ih fs (off + l.length) b (pre ++ us) vs c hb (by simp [hp, hul]) h2 d2
          have e1 : ((pre ++ (us ++ vs)).drop x.offset).take (P.cellsOf x.type) = us := by
            rw [ho, hcell, ← hp, List.drop_left, ← hul, List.take_left]
          refine ⟨fun f hfm => ?_, a.map litOf :: r, ?_, by simp [hfl]⟩
          · rcases List.mem_cons.1 hfm with rfl | hm
            · exact hn
            · exact hnn f hm
          · rw [List.mapM_cons, e1, ih x.type l hl a us h1 d1, ← List.append_assoc, hr]
            rfl
        · cases h
      · cases h
    · cases h

theorem keyLits_leaves {F : Nat → Nat → Prop} : ∀ (n : Nat) (t : TypeId) (ks : List Lf), leavesOf P n t = some ks → ∀ (ds : List D) (xs : List Value), fitsAll ks ds = true → DRs F w ds xs → P.keyLits n t xs = some (ds.map litOf)
  | 0, t, ks, h, ds, xs, hf, hd => by simp [leavesOf] at h
  | n + 1, t, ks, h, ds, xs, hf, hd => by
    have one : ∀ (k : Lf), ks = [k] → P.underlying t = some (match k with | .int q => .int q | .bool => .bool | .str => .string) → P.keyLits (n + 1) t xs = some (ds.map litOf) := by
      rintro k rfl hu
      match ds, xs, hf, hd with
      | [d], [v], hf, hd => simp [fitsAll] at hf; exact keyLits_leaf hu hf hd.1
      | [], _, hf, _ => simp [fitsAll] at hf
      | _ :: _ :: _, _, hf, _ => simp [fitsAll] at hf
      | [_], [], _, hd => exact hd.elim
      | [_], _ :: _ :: _, _, hd => exact hd.2.elim
    unfold leavesOf at h
    split at h
    · cases h; exact one _ rfl (by assumption)
    · cases h; exact one _ rfl (by assumption)
    · cases h; exact one _ rfl (by assumption)
    · rename_i len e hu
      split at h
      · rename_i l hl
        split at h
        · rename_i hc
          cases h
          obtain ⟨hc1, hc2⟩ := hc
          obtain ⟨r, hr, hfl⟩ := keyLits_items (F := F) hc1 (fun ds xs => keyLits_leaves n e l hl ds xs) len [] xs ds 0 (by simp) hf hd
          have hxl : xs.length = P.cellsOf t := by rw [← hd.length, ← fitsAll_length hf, hc2]; simp [List.length_flatten]
          unfold Program.keyLits
          simp only [hu, hxl, if_true]
          simp only [Nat.zero_add, List.map_id', List.nil_append] at hr
          rw [hr]
          simp [hfl]
        · cases h
      · cases h
    · rename_i fs hu
      split at h
      · rename_i l hl
        split at h
        · rename_i hc
          cases h
          obtain ⟨hnn, r, hr, hfl⟩ := keyLits_fields (F := F) (fun t ks hlv ds xs => keyLits_leaves n t ks hlv ds xs) fs.toList 0 ks [] xs ds hl rfl hf hd
          have hxl : xs.length = P.cellsOf t := by rw [← hd.length, ← fitsAll_length hf, hc]
          unfold Program.keyLits
          have hall : fs.all (·.name != "_") = true := by
            rw [Array.all_eq_true_iff_forall_mem]
            intro f hfm
            simpa using hnn f (Array.mem_toList_iff.2 hfm)
          simp only [hu, hxl, hall, and_self, if_true]
          simp only [List.nil_append] at hr
          rw [hr]
          simp [hfl]
        · cases h
      · cases h
    · cases h

theorem litOf_inj : ∀ {ks : List Lf} {a b : List D}, fitsAll ks a = true → fitsAll ks b = true → (a.map litOf = b.map litOf ↔ a = b)
  | [], [], [], _, _ => by simp
  | k :: ks, x :: a, y :: b, h1, h2 => by
    simp only [fitsAll, Bool.and_eq_true] at h1 h2
    have := litOf_inj h1.2 h2.2
    simp only [List.map_cons, List.cons.injEq, this]
    refine and_congr_left fun _ => ?_
    cases k <;> cases x <;> simp [Lf.fits] at h1 <;> cases y <;> simp [Lf.fits] at h2 <;> simp [litOf]
  | [], _ :: _, _, h, _ => by simp [fitsAll] at h
  | [], [], _ :: _, _, h => by simp [fitsAll] at h
  | _ :: _, [], _, h, _ => by simp [fitsAll] at h
  | _ :: _, _ :: _, [], _, h => by simp [fitsAll] at h

theorem flatOf_inv {t : TypeId} {ty : Ty} {ks : List Lf} (h : flatOf P t = some (ty, ks)) : ty = .flat ∧ leavesOf P 12 t = some ks ∧ P.keyTypeAt 12 t = true ∧ P.eqGuardType P.depth t = false := by
  unfold flatOf at h
  split at h
  · rename_i ks' hk
    split at h
    · rename_i hc; cases h; simp at hc; exact ⟨rfl, hk, hc.1, hc.2⟩
    · cases h
  · cases h

theorem run_equal_flat {t : TypeId} {ks : List Lf} (hl : leavesOf P 12 t = some ks) (hk : P.keyTypeAt 12 t = true) (hagg : aggT P t = true) {F : Nat → Nat → Prop} {a b : List D} {xs ys : Array Value}
    (fa : fitsAll ks a = true) (fb : fitsAll ks b = true) (da : DRs F w a xs.toList) (db : DRs F w b ys.toList) :
    ∃ r, (Op.equal t (.agg xs) (.agg ys)).run P w = .ok r w ∧ (r = true ↔ a = b) := by
  have ha := keyLits_leaves 12 t ks hl a xs.toList fa da
  have hb := keyLits_leaves 12 t ks hl b ys.toList fb db
  have hcell : P.cellsOf t = ks.length := by
    unfold leavesOf at hl
    unfold aggT at hagg
    split at hl
    · rename_i hu; simp [hu] at hagg
    · rename_i hu; simp [hu] at hagg
    · rename_i hu; simp [hu] at hagg
    · split at hl
      · split at hl
        · rename_i hc; cases hl; rw [hc.2]; simp [List.length_flatten]
        · cases hl
      · cases hl
    · split at hl
      · split at hl
        · rename_i hc; cases hl; exact hc
        · cases hl
      · cases hl
    · cases hl
  have form : ∀ (zs : Array Value) (c : List D), fitsAll ks c = true → DRs F w c zs.toList → (Value.agg zs).formed P t = true := by
    intro zs c fc dc
    have hz : zs.size = P.cellsOf t := by rw [hcell, fitsAll_length fc, dc.length]; simp
    unfold aggT at hagg
    unfold Value.formed
    split at hagg <;> simp_all
  obtain ⟨r, hr, hiff⟩ := run_equalIn_deep (P := P) 9988 12 t hk w 12 12 (.agg xs) (.agg ys) _ _ (form xs a fa da) (form ys b fb db) (by simpa [Value.cells] using ha) (by simpa [Value.cells] using hb)
  exact ⟨r, hr, hiff.trans (litOf_inj fa fb)⟩

end Go.Dn
