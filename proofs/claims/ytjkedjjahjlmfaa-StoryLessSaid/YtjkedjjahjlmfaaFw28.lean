/- What an operation looks at. -/
import Derived.Test.YtjkedjjahjlmfaaFw27
namespace Go.Dn
set_option linter.unusedVariables false
set_option linter.unusedSimpArgs false

def Opd.slots : Opd → List Nat
  | .t n => [n]
  | _ => []

def optSlots : Option Opd → List Nat
  | some x => x.slots
  | none => []

def POp.reads : POp → List Nat
  | .move x => x.slots
  | .pick c a b => c.slots ++ (a.slots ++ b.slots)
  | .bin _ _ _ x y => x.slots ++ y.slots
  | .una _ x => x.slots
  | .conv _ x => x.slots
  | .load _ _ x => x.slots
  | .nilCheck x => x.slots
  | .faddr _ x => x.slots
  | .field _ _ _ x => x.slots
  | .iaddr _ x i => x.slots ++ i.slots
  | .iaddrArr _ _ x i => x.slots ++ i.slots
  | .index _ _ _ x i => x.slots ++ i.slots
  | .indexStr x i => x.slots ++ i.slots
  | .slice _ x lo hi mx => x.slots ++ (optSlots lo ++ (optSlots hi ++ optSlots mx))
  | .sliceStr x lo hi => x.slots ++ (optSlots lo ++ optSlots hi)
  | .sliceArr _ _ x lo hi => x.slots ++ (optSlots lo ++ optSlots hi)
  | .bslice _ _ _ _ parts => parts.flatMap fun p => p.2.slots
  | .build _ parts => parts.flatMap fun p => p.2.2.slots
  | .len _ x => x.slots
  | .lenArr _ => []
  | .min xs => xs.flatMap Opd.slots
  | .max xs => xs.flatMap Opd.slots
  | .mkif _ x => x.slots
  | .assert _ _ _ x => x.slots
  | .extract x _ => x.slots
  | .mkfn _ first caps => first.flatMap Opd.slots ++ caps.flatMap Opd.slots
  | .lookup _ _ _ x k => x.slots ++ k.slots

/-- Two states look the same to those who look at these slots. -/
def Same (rd : List Nat) (e : Env) (σ : St) (e' : Env) (σ' : St) : Prop :=
  ∀ s ∈ rd, e.get s = e'.get s ∧ ∀ r ∈ dref (e.get s), σ.objs[r]? = σ'.objs[r]?

variable {e e' : Env} {σ σ' : St}

theorem Same.left {a b : List Nat} (h : Same (a ++ b) e σ e' σ') : Same a e σ e' σ' := fun s hs => h s (List.mem_append_left _ hs)
theorem Same.right {a b : List Nat} (h : Same (a ++ b) e σ e' σ') : Same b e σ e' σ' := fun s hs => h s (List.mem_append_right _ hs)

theorem Same.opd {x : Opd} (h : Same x.slots e σ e' σ') : x.ev e = x.ev e' ∧ ∀ r ∈ dref (x.ev e), σ.objs[r]? = σ'.objs[r]? := by
  cases x with
  | t n => exact h n (by simp [Opd.slots])
  | c x => exact ⟨rfl, fun r hr => by simp [Opd.ev, dref] at hr⟩
  | ca l => exact ⟨rfl, fun r hr => by simp [Opd.ev, dref] at hr⟩
  | f k => exact ⟨rfl, fun r hr => by simp [Opd.ev, dref] at hr⟩

theorem Same.opt {x : Option Opd} (h : Same (optSlots x) e σ e' σ') : x.map (Opd.ev e) = x.map (Opd.ev e') := by
  cases x with
  | none => rfl
  | some x => simp [(Same.opd (x := x) h).1]

theorem Same.opds {xs : List Opd} (h : Same (xs.flatMap Opd.slots) e σ e' σ') : xs.map (Opd.ev e) = xs.map (Opd.ev e') := by
  apply List.map_congr_left
  intro x hx
  exact (Same.opd (x := x) fun s hs => h s (List.mem_flatMap.2 ⟨x, hx, hs⟩)).1

theorem rows_same {x : V} (h : ∀ r ∈ dref x, σ.objs[r]? = σ'.objs[r]?) : V.rows σ x = V.rows σ' x := by
  cases x with
  | sl r off len sz => simp only [V.rows]; rw [h r (by simp [dref])]
  | d x => cases x <;> rfl
  | _ => rfl

theorem byVal_same {x : V} (h : ∀ r ∈ dref x, σ.objs[r]? = σ'.objs[r]?) : x.byVal σ = x.byVal σ' := by
  cases x with
  | sl r off len sz => simp only [V.byVal]; rw [rows_same h]
  | _ => rfl

theorem load_same {agg : Bool} {n : Nat} {x : V} (h : ∀ r ∈ dref x, σ.objs[r]? = σ'.objs[r]?) : loadAt σ agg n x = loadAt σ' agg n x := by
  cases x with
  | ref r off => simp only [loadAt]; rw [h r (by simp [dref])]
  | _ => rfl

theorem lenT_same {ty : Ty} {x : V} (h : ∀ r ∈ dref x, σ.objs[r]? = σ'.objs[r]?) : lenT σ ty x = lenT σ' ty x := by
  cases ty
  case map =>
    cases x with
    | map r => simp only [lenT]; rw [h r (by simp [dref])]
    | d x => cases x <;> rfl
    | _ => rfl
  case slice =>
    cases x with
    | d x => cases x <;> rfl
    | _ => rfl
  case str =>
    cases x with
    | d x => cases x <;> rfl
    | _ => rfl
  all_goals rfl

theorem sliceArr_same {n sz : Nat} {x : V} {lo hi : Option V} (h : ∀ r ∈ dref x, σ.objs[r]? = σ'.objs[r]?) : sliceArrV σ n sz x lo hi = sliceArrV σ' n sz x lo hi := by
  cases x with
  | ref r off => simp only [sliceArrV]; rw [h r (by simp [dref])]
  | _ => rfl

theorem iaddr_same {sz : Nat} {x i : V} (h : ∀ r ∈ dref x, σ.objs[r]? = σ'.objs[r]?) : iaddrV σ sz x i = iaddrV σ' sz x i := by
  cases x with
  | sl r off len s => rfl
  | d x => simp only [iaddrV]; rw [rows_same h]
  | _ => simp only [iaddrV]; rw [rows_same h]

theorem conv_same {k : Conv} {x : V} (h : ∀ r ∈ dref x, σ.objs[r]? = σ'.objs[r]?) : evalConv σ k x = evalConv σ' k x := by
  unfold evalConv
  rw [rows_same h]

theorem evalP_same {op : POp} (h : Same op.reads e σ e' σ') : evalP op e σ = evalP op e' σ' := by
  cases op with
  | move x => simp only [evalP]; rw [(Same.opd (x := x) h).1]
  | pick c a b => simp only [evalP]; rw [(Same.opd (x := c) h.left).1, (Same.opd (x := a) h.right.left).1, (Same.opd (x := b) h.right.right).1]
  | bin op ty ks x y => simp only [evalP]; rw [(Same.opd (x := x) h.left).1, (Same.opd (x := y) h.right).1]
  | una op x => simp only [evalP]; rw [(Same.opd (x := x) h).1]
  | conv k x => simp only [evalP]; rw [conv_same (Same.opd (x := x) h).2, (Same.opd (x := x) h).1]
  | load agg n x => simp only [evalP]; rw [load_same (Same.opd (x := x) h).2, (Same.opd (x := x) h).1]
  | nilCheck x => simp only [evalP]; rw [(Same.opd (x := x) h).1]
  | faddr off x => simp only [evalP]; rw [(Same.opd (x := x) h).1]
  | field agg off n x => simp only [evalP]; rw [(Same.opd (x := x) h).1]
  | iaddr sz x i => simp only [evalP]; rw [iaddr_same (Same.opd (x := x) h.left).2, (Same.opd (x := x) h.left).1, (Same.opd (x := i) h.right).1]
  | iaddrArr len sz x i => simp only [evalP]; rw [(Same.opd (x := x) h.left).1, (Same.opd (x := i) h.right).1]
  | index agg len sz x i => simp only [evalP]; rw [(Same.opd (x := x) h.left).1, (Same.opd (x := i) h.right).1]
  | indexStr x i => simp only [evalP]; rw [(Same.opd (x := x) h.left).1, (Same.opd (x := i) h.right).1]
  | slice sz x lo hi mx =>
    simp only [evalP]
    rw [(Same.opd (x := x) h.left).1, Same.opt (x := lo) h.right.left, Same.opt (x := hi) h.right.right.left, Same.opt (x := mx) h.right.right.right]
    rfl
  | sliceStr x lo hi => simp only [evalP]; rw [(Same.opd (x := x) h.left).1, Same.opt (x := lo) h.right.left, Same.opt (x := hi) h.right.right]
  | sliceArr n sz x lo hi => simp only [evalP]; rw [sliceArr_same (Same.opd (x := x) h.left).2, (Same.opd (x := x) h.left).1, Same.opt (x := lo) h.right.left, Same.opt (x := hi) h.right.right]
  | bslice t len sz zero parts =>
    have : (parts.map fun (p : Nat × Opd) => (p.1 * sz, sz, p.2.ev e)) = parts.map fun (p : Nat × Opd) => (p.1 * sz, sz, p.2.ev e') :=
      List.map_congr_left fun p hp => by rw [(Same.opd (x := p.2) fun s hs => h s (List.mem_flatMap.2 ⟨p, hp, hs⟩)).1]
    simp only [evalP]
    rw [this]
  | build zero parts =>
    have : (parts.map fun (p : Nat × Nat × Opd) => (p.1, p.2.1, p.2.2.ev e)) = parts.map fun (p : Nat × Nat × Opd) => (p.1, p.2.1, p.2.2.ev e') :=
      List.map_congr_left fun p hp => by rw [(Same.opd (x := p.2.2) fun s hs => h s (List.mem_flatMap.2 ⟨p, hp, hs⟩)).1]
    simp only [evalP]
    rw [this]
  | len ty x => simp only [evalP]; rw [lenT_same (Same.opd (x := x) h).2, (Same.opd (x := x) h).1]
  | lenArr n => rfl
  | min xs => simp only [evalP]; rw [Same.opds (xs := xs) h]
  | max xs => simp only [evalP]; rw [Same.opds (xs := xs) h]
  | mkif t x => simp only [evalP]; rw [(Same.opd (x := x) h).1]
  | assert t zero ok x => simp only [evalP]; rw [(Same.opd (x := x) h).1]
  | extract x i => simp only [evalP]; rw [(Same.opd (x := x) h).1]
  | mkfn f first caps => simp only [evalP]; rw [Same.opds (xs := first) h.left, Same.opds (xs := caps) h.right]
  | lookup zero agg ok x k => rfl

theorem byVals_same {xs : List Opd} (h : Same (xs.flatMap Opd.slots) e σ e' σ') : byVals σ (xs.map (Opd.ev e)) = byVals σ' (xs.map (Opd.ev e')) := by
  induction xs with
  | nil => rfl
  | cons x r ih =>
    simp only [List.flatMap_cons] at h
    simp only [List.map_cons, byVals]
    rw [ih h.right, byVal_same (Same.opd (x := x) h.left).2, (Same.opd (x := x) h.left).1]

end Go.Dn
