/- Regions that draw their order: the order of the text is enough. -/
import Derived.Test.YtgpbkgfkmengaaaFw28
namespace Go.Dn
set_option linter.unusedVariables false
set_option linter.unusedSimpArgs false

def EOp.reads : EOp → List Nat
  | .box x => x.slots
  | .store _ a x => a.slots ++ x.slots
  | _ => []

def Ins.reads : Ins → List Nat
  | .p _ op => op.reads
  | .e _ op => op.reads
  | .call _ _ args => args.flatMap Opd.slots
  | _ => []

def DOp.gslot (d : DOp) : List Nat := match d.guard with | some (s, _) => [s] | none => []
def DOp.reads (d : DOp) : List Nat := d.gslot ++ d.ins.reads

def DOp.isP (d : DOp) : Bool := match d.ins with | .p _ _ => true | _ => false
def DOp.isCall (d : DOp) : Bool := match d.ins with | .call _ _ _ => true | _ => false
def DOp.isNew (d : DOp) : Bool := d.guard.isNone && match d.ins with | .e (some _) (.alloc _) => true | .e (some _) (.box _) => true | _ => false
def DOp.isSto (l : List DOp) (d : DOp) : Bool := d.guard.isNone && match d.ins with
  | .e none (.store _ (.t s) _) => d.after.any fun m => match l[m]? with | some m => m.isNew && m.ins.dst == some s | none => false
  | _ => false

/-- It looks at nothing that the region writes. -/
def DOp.early (l : List DOp) (d : DOp) : Bool := d.reads.all fun s => l.all fun d' => d'.ins.dst != some s

def apartD (x y : DOp) : Bool :=
  (match x.ins.dst with | some d => !(y.reads.contains d) && y.ins.dst != some d | none => true) &&
  (match y.ins.dst with | some d => !(x.reads.contains d) | none => true)

def okPair (l : List DOp) (x y : DOp) : Bool := apartD x y &&
  ((x.isP && (y.isP || y.isCall)) || (x.isCall && y.isP) ||
   ((x.isNew || x.isSto l) && (y.isP || y.isCall) && y.early l) ||
   ((x.isP || x.isCall) && x.early l && (y.isNew || y.isSto l)) ||
   (x.isNew && y.isNew && x.al != y.al))

/-- Whom each operation must wait for, near and far. -/
def closeT : List DOp → List (List Nat) → List (List Nat)
  | [], acc => acc
  | d :: r, acc => closeT r (acc ++ [(d.after ++ d.after.flatMap fun a => acc.getD a []).eraseDups])

def pairsOk (l : List DOp) (T : List (List Nat)) : Bool :=
  (List.range l.length).all fun j => match l[j]? with
    | some y => (y.isP || y.isCall || y.isNew || y.isSto l) && y.after.all (· < j) &&
      (List.range j).all fun i => match l[i]? with
        | some x => ((T.getD j []).contains i || okPair l x y) && (!(x.isNew || y.isNew) || x.ins.dst != y.ins.dst)
        | none => false
    | none => false

def drwOk (l : List DOp) : Bool := pairsOk l (closeT l [])

/-- Is the guard met? -/
def gsel (gd : Option (Nat × Bool)) (e : Env) : Option Bool :=
  match gd with
  | none => some true
  | some (s, want) => match e.get s with
    | .d (.bool b) => some (decide (b = want))
    | .gone => some false
    | _ => none

/-- An operation that leaves the store alone: its outcomes. -/
def AdmN (K : CallP) (cx : Cx) (d : DOp) (e : Env) (σ : St) (R : V → Prop) : Prop :=
  match gsel d.guard e with
  | some true => (match d.ins with
    | .p _ op => match evalP op e σ with
      | some v => R v
      | none => False
    | .call _ f args => cx.mode f = .val ∧ match byVals σ (args.map (Opd.ev e)) with
      | some ds => ∃ Q', K f ds St.empty Q' ∧ (∃ v s, Q' v s) ∧ ∀ v s, Q' v s → v.pure = true ∧ ((args.map (Opd.ev e)).any V.borrows = true → v.scalars = true) ∧ R v
      | none => False
    | _ => False)
  | some false => R .gone
  | none => False

def AdmE (n0 : Nat) (d : DOp) (e : Env) (σ : St) (R : V → St → Prop) : Prop :=
  match d.ins with
  | .e _ op => match evalE op e σ (some (n0 + d.al)) with
    | some (v, s) => R v s
    | none => False
  | _ => False

def isE (d : DOp) : Bool := match d.ins with | .e _ _ => true | _ => false

/-- One operation, in the order of the text. -/
def Adm (K : CallP) (cx : Cx) (n0 : Nat) (d : DOp) (e : Env) (σ : St) (R : V → St → Prop) : Prop :=
  match isE d with
  | true => d.guard = none ∧ AdmE n0 d e σ R
  | false => AdmN K cx d e σ fun v => R v σ

def wtx (K : CallP) (cx : Cx) (n0 : Nat) : List DOp → Env → St → (Env → St → Prop) → Prop
  | [], e, σ, Q => Q e σ
  | d :: r, e, σ, Q => Adm K cx n0 d e σ fun v s => wtx K cx n0 r (putE e d.ins.dst v) s Q

variable {K : CallP} {cx : Cx} {n0 : Nat}

theorem AdmN.mono {d : DOp} {e : Env} {σ : St} {R R' : V → Prop} (hr : ∀ v, R v → R' v) (h : AdmN K cx d e σ R) : AdmN K cx d e σ R' := by
  unfold AdmN at *
  split
  · rename_i hg
    rw [hg] at h
    simp only at h
    split
    · rename_i dst op hi
      rw [hi] at h
      simp only at h
      split
      · rename_i v hv; rw [hv] at h; exact hr _ h
      · rename_i hv; rw [hv] at h; exact h
    · rename_i dst f args hi
      rw [hi] at h
      simp only at h
      refine ⟨h.1, ?_⟩
      have h := h.2
      split
      · rename_i ds hds
        rw [hds] at h
        obtain ⟨Q', a, b, c⟩ := h
        exact ⟨Q', a, b, fun v s hq => ⟨(c v s hq).1, (c v s hq).2.1, hr _ (c v s hq).2.2⟩⟩
      · rename_i hds; rw [hds] at h; exact h
    · rename_i h1 h2
      split at h
      · rename_i dst op hi; exact (h1 _ _ hi).elim
      · rename_i dst f args hi; exact (h2 _ _ _ hi).elim
      · exact h
  · rename_i hg; rw [hg] at h; exact hr _ h
  · rename_i hg; rw [hg] at h; exact h

theorem AdmN.some {d : DOp} {e : Env} {σ : St} {R : V → Prop} (h : AdmN K cx d e σ R) : ∃ v, R v := by
  unfold AdmN at h
  split at h
  · split at h
    · split at h
      · exact ⟨_, h⟩
      · exact h.elim
    · have h := h.2
      split at h
      · obtain ⟨Q', a, ⟨v, s, hv⟩, c⟩ := h
        exact ⟨v, (c v s hv).2.2⟩
      · exact h.elim
    · exact h.elim
  · exact ⟨_, h⟩
  · exact h.elim

theorem gsel_same {d : DOp} {e e' : Env} {σ σ' : St} (h : Same d.reads e σ e' σ') : gsel d.guard e = gsel d.guard e' := by
  unfold gsel
  cases hg : d.guard with
  | none => rfl
  | some p =>
    obtain ⟨s, w⟩ := p
    simp only
    rw [(h s (by simp [DOp.reads, DOp.gslot, hg])).1]

theorem AdmN.same {d : DOp} {e e' : Env} {σ σ' : St} (h : Same d.reads e σ e' σ') {R : V → Prop} (ha : AdmN K cx d e σ R) : AdmN K cx d e' σ' R := by
  have hr : Same d.ins.reads e σ e' σ' := Same.right (a := d.gslot) h
  unfold AdmN at *
  rw [← gsel_same h]
  split
  · rename_i hg
    rw [hg] at ha
    simp only at ha
    split
    · rename_i dst op hi
      rw [hi] at ha hr
      rw [← evalP_same hr]
      exact ha
    · rename_i dst f args hi
      rw [hi] at ha hr
      rw [← byVals_same hr, ← Same.opds hr]
      exact ha
    · rename_i h1 h2
      split at ha
      · rename_i dst op hi; exact (h1 _ _ hi).elim
      · rename_i dst f args hi; exact (h2 _ _ _ hi).elim
      · exact ha
  · rename_i hg; rw [hg] at ha; exact ha
  · rename_i hg; rw [hg] at ha; exact ha

/-- An operation that isn't a call has one outcome. -/
theorem AdmN.single {d : DOp} (hp : d.isP = true) {e : Env} {σ : St} {R : V → Prop} (h : AdmN K cx d e σ R) : ∃ v, ∀ R', AdmN K cx d e σ R' ↔ R' v := by
  unfold AdmN at *
  split at h
  · rename_i hg
    split at h
    · rename_i dst op hi
      split at h
      · rename_i v hv
        exact ⟨v, fun R' => Iff.rfl⟩
      · exact h.elim
    · rename_i dst f args hi; simp [DOp.isP, hi] at hp
    · exact h.elim
  · exact ⟨.gone, fun R' => Iff.rfl⟩
  · exact h.elim

theorem get_put2 {e : Env} {d d' : Option Nat} {v u : V} (h : ∀ s, d = some s → d' ≠ some s) : ∀ s, (putE (putE e d v) d' u).get s = (putE (putE e d' u) d v).get s := fun s => by
  by_cases h1 : d = some s
  · have h2 := h s h1
    rw [get_put_ne h2]
    subst h1
    simp [putE, Env.get_set]
  · by_cases h2 : d' = some s
    · rw [get_put_ne (e := putE e d' u) h1]
      subst h2
      simp [putE, Env.get_set]
    · rw [get_put_ne h2, get_put_ne h1, get_put_ne h1, get_put_ne h2]

theorem same_put {rd : List Nat} {e : Env} {σ : St} {d : Option Nat} {v : V} (h : ∀ s, d = some s → s ∉ rd) : Same rd e σ (putE e d v) σ := fun s hs =>
  ⟨(get_put_ne (fun hd => h s hd hs) v).symm, fun _ _ => rfl⟩

theorem Same.symm {rd : List Nat} {e e' : Env} {σ σ' : St} (h : Same rd e σ e' σ') : Same rd e' σ' e σ := fun s hs =>
  ⟨(h s hs).1.symm, fun r hr => ((h s hs).2 r (by rw [(h s hs).1]; exact hr)).symm⟩

end Go.Dn
