/- Regions that draw their order: the order of the text is enough. -/
import Derived.Test.YtjkedjjahjlmfaaFw28
namespace Go.Dn
set_option linter.unusedVariables false
set_option linter.unusedSimpArgs false

def EOp.reads : EOp → List Nat
  | .alloc _ | .makeMap => []
  | .box x => x.slots
  | .store _ a x => a.slots ++ x.slots
  | .append _ _ _ a x => a.slots ++ x.slots
  | .appendStr _ a x => a.slots ++ x.slots
  | .appendZero _ _ _ _ a x => a.slots ++ x.slots
  | .copy _ a x => a.slots ++ x.slots
  | .clear _ _ a => a.slots
  | .makeSlice _ _ _ _ a x => a.slots ++ x.slots
  | .mapUpdate a b c => a.slots ++ (b.slots ++ c.slots)
  | .mapDelete a b => a.slots ++ b.slots

def Ins.reads : Ins → List Nat
  | .p _ op => op.reads
  | .e _ op => op.reads
  | .call _ _ args => args.flatMap Opd.slots
  | .callv _ f args => f.slots ++ args.flatMap Opd.slots
  | _ => []

/-- It doesn't look at the store. -/
def POp.blind : POp → Bool
  | .load .. => false
  | .conv .bytesStr _ => false
  | .sliceArr .. => false
  | .lookup .. => false
  | .len .map _ => false
  | _ => true

def DOp.gslot (d : DOp) : List Nat := match d.guard with | some (s, _) => [s] | none => []
def DOp.reads (d : DOp) : List Nat := d.gslot ++ d.ins.reads

def DOp.isP (d : DOp) : Bool := match d.ins with | .p _ _ => true | _ => false
def DOp.isB (d : DOp) : Bool := match d.ins with | .p _ op => op.blind | _ => false
/-- It leaves the store alone. -/
def DOp.isN (md : Nat → Mode) (d : DOp) : Bool := match d.ins with
  | .p _ _ => true
  | .call _ f _ => match md f with | .raw => false | _ => true
  | _ => false
def DOp.isNew (d : DOp) : Bool := d.guard.isNone && match d.ins with | .e (some _) (.alloc _) => true | .e (some _) (.box _) => true | _ => false
def DOp.isSto (l : List DOp) (d : DOp) : Bool := d.guard.isNone && match d.ins with
  | .e none (.store _ (.t s) _) => d.after.any fun m => match l[m]? with | some m => m.isNew && m.ins.dst == some s | none => false
  | _ => false
/-- One operation, not several under a guard. -/
def DOp.one (d : DOp) : Bool := match d.ins with | .when .. => false | _ => true

/-- It looks at nothing that the region writes. -/
def DOp.early (l : List DOp) (d : DOp) : Bool := d.reads.all fun s => l.all fun d' => d'.ins.dst != some s

/-- A field's place, of a slot that the region doesn't write: the slot written, the slot it is of. -/
def DOp.faOf (l : List DOp) (d : DOp) : Option (Nat × Nat) := if d.guard.isNone then (match d.ins with
  | .p (some s) (.faddr _ (.t q)) => if l.all (fun d' => d'.ins.dst != some q) then some (s, q) else none
  | _ => none) else none

/-- The slot, not written by the region, whose object a slot names. -/
def rootD (l : List DOp) (d : DOp) (s : Nat) : Option Nat := if l.all (fun d' => d'.ins.dst != some s) then some s else
  d.after.findSome? fun m => match l[m]? with
    | some dm => (match dm.faOf l with | some (s', q) => if s' = s then some q else none | none => none)
    | none => none

/-- All that it looks at lies in objects that slots name which the region doesn't write. -/
def DOp.near (l : List DOp) (dr : List Nat) (d : DOp) : Bool := d.reads.all fun s => (d.isP && dr.contains s) || (rootD l d s).isSome

/-- It writes a slot that nothing else may write. -/
def DOp.isNF (l : List DOp) (d : DOp) : Bool := d.isNew || (d.faOf l).isSome

def EOp.isStore : EOp → Bool
  | .store .. => true
  | _ => false

def apartD (x y : DOp) : Bool :=
  (match x.ins.dst with | some d => !(y.reads.contains d) && y.ins.dst != some d | none => true) &&
  (match y.ins.dst with | some d => !(x.reads.contains d) | none => true)

/-- It may turn the store, but not what must be kept. -/
def DOp.isXc (md : Nat → Mode) (d : DOp) : Bool := match d.ins with
  | .e _ op => op.isStore
  | .call _ f _ => match md f with | .raw => true | _ => false
  | .callv .. => true
  | _ => false

/-- The slots of the objects that calls must leave alone. -/
def keepOf (dr : List Nat) (l : List DOp) : List Nat := (l.filter fun d => d.isP && !d.isB && d.near l dr).flatMap fun d => d.reads.filterMap (rootD l d)

def okPair (md : Nat → Mode) (dr : List Nat) (l : List DOp) (x y : DOp) : Bool := apartD x y &&
  (x.isB || y.isB || (x.isP && y.isN md) || (x.isN md && y.isP) ||
   ((x.isNew || x.isSto l) && y.isN md && y.near l dr) ||
   (x.isN md && x.near l dr && (y.isNew || y.isSto l)) ||
   (x.isNew && y.isNew && x.al != y.al) ||
   (x.isP && x.near l dr && y.isXc md) || (x.isXc md && y.isP && y.near l dr))

/-- Whom each operation must wait for, near and far. -/
def closeT : List DOp → List (List Nat) → List (List Nat)
  | [], acc => acc
  | d :: r, acc => closeT r (acc ++ [(d.after ++ d.after.flatMap fun a => acc.getD a []).eraseDups])

def pairsOk (md : Nat → Mode) (dr : List Nat) (l : List DOp) (T : List (List Nat)) : Bool :=
  (List.range l.length).all fun j => match l[j]? with
    | some y => y.one && y.after.all (· < j) &&
      (List.range j).all fun i => match l[i]? with
        | some x => ((T.getD j []).contains i || okPair md dr l x y) && (!(x.isNF l || y.isNF l) || x.ins.dst != y.ins.dst)
        | none => false
    | none => false

def drwOk (md : Nat → Mode) (dr : List Nat) (l : List DOp) : Bool := pairsOk md dr l (closeT l [])

/-- Is the guard met? -/
def gsel (gd : Option (Nat × Bool)) (e : Env) : Option Bool :=
  match gd with
  | none => some true
  | some (s, want) => match e.get s with
    | .d (.bool b) => some (decide (b = want))
    | .gone => some false
    | _ => none

/-- The same below a bound. -/
def Agr (n0 : Nat) (σ σ' : St) : Prop := (∀ r, r < n0 → σ'.objs[r]? = σ.objs[r]?) ∧ σ'.toks = σ.toks

theorem Agr.refl (n0 : Nat) (σ : St) : Agr n0 σ σ := ⟨fun _ _ => rfl, rfl⟩
theorem Agr.trans {n0 : Nat} {a b c : St} (h : Agr n0 a b) (h' : Agr n0 b c) : Agr n0 a c := ⟨fun r hr => (h'.1 r hr).trans (h.1 r hr), h'.2.trans h.2⟩
theorem Agr.symm {n0 : Nat} {a b : St} (h : Agr n0 a b) : Agr n0 b a := ⟨fun r hr => (h.1 r hr).symm, h.2.symm⟩

/-- An operation that leaves the store alone: its outcomes. -/
def nGo (K : CallP) (cx : Cx) (n0 : Nat) (i : Ins) (e : Env) (σ : St) (R : V → Prop) : Prop :=
  match i with
  | .p _ op => match evalP op e σ with
    | some v => R v
    | none => False
  | .call _ f args => match cx.mode f with
    | .raw => False
    | .val => match byVals σ (args.map (Opd.ev e)) with
      | some ds => ∃ Q', K .val f ds St.empty Q' ∧ (∃ v s, Q' v s) ∧ ∀ v s, Q' v s → v.pure = true ∧ ((args.map (Opd.ev e)).any V.borrows = true → v.scalars = true) ∧ R v
      | none => False
    | .rd => ∀ σ1, Agr n0 σ σ1 → ∃ Q', K .rd f (args.map (Opd.ev e)) σ1 Q' ∧ (∃ v s, Q' v s) ∧ ∀ v s, Q' v s → R v
  | _ => False

def AdmN (K : CallP) (cx : Cx) (n0 : Nat) (d : DOp) (e : Env) (σ : St) (R : V → Prop) : Prop :=
  match gsel d.guard e with
  | some true => nGo K cx n0 d.ins e σ R
  | some false => R .gone
  | none => False

/-- What these slots name is kept. -/
def Kept (ks : List Nat) (e : Env) (σ s : St) : Prop := ∀ t ∈ ks, ∀ r ∈ dref (e.get t), s.objs[r]? = σ.objs[r]?

theorem Kept.refl (ks : List Nat) (e : Env) (σ : St) : Kept ks e σ σ := fun _ _ _ _ => rfl

/-- A call that may do anything but what must be kept: there is an outcome. -/
def xCall (K : CallP) (cx : Cx) (ks : List Nat) (e : Env) (f : Nat) (vs : List V) (σ : St) (R : V → St → Prop) : Prop :=
  match cx.mode f with
  | .raw => ∃ Q', K .raw f vs σ Q' ∧ (∃ v s, Q' v s) ∧ ∀ v s, Q' v s → Kept ks e σ s ∧ R v s
  | .rd => ∃ Q', K .rd f vs σ Q' ∧ (∃ v s, Q' v s) ∧ ∀ v s, Q' v s → R v σ
  | .val => match byVals σ vs with
    | some ds => ∃ Q', K .val f ds St.empty Q' ∧ (∃ v s, Q' v s) ∧ ∀ v s, Q' v s → v.pure = true ∧ (vs.any V.borrows = true → v.scalars = true) ∧ R v σ
    | none => False

def xGo (K : CallP) (cx : Cx) (n0 : Nat) (ks : List Nat) (al : Nat) (i : Ins) (e : Env) (σ : St) (R : V → St → Prop) : Prop :=
  match i with
  | .e _ op => (match evalE op e σ (some (n0 + al)) with
    | some (v, s) => (op.isStore = true → Kept ks e σ s) ∧ R v s
    | none => False) ∨ (match evalM op e σ (some (n0 + al)) with
    | some (v, s) => R v s
    | none => False)
  | .call _ f args => xCall K cx ks e f (args.map (Opd.ev e)) σ R
  | .callv _ f args => match f.ev e with
    | .fn (.func g) first caps => xCall K cx ks e g (first ++ args.map (Opd.ev e) ++ caps) σ R
    | _ => False
  | _ => False

def AdmX (K : CallP) (cx : Cx) (n0 : Nat) (ks : List Nat) (d : DOp) (e : Env) (σ : St) (R : V → St → Prop) : Prop :=
  match gsel d.guard e with
  | some true => xGo K cx n0 ks d.al d.ins e σ R
  | some false => R .gone σ
  | none => False

/-- One operation. -/
def Adm0 (K : CallP) (cx : Cx) (n0 : Nat) (ks : List Nat) (d : DOp) (e : Env) (σ : St) (R : V → St → Prop) : Prop :=
  match d.isN cx.mode with
  | true => AdmN K cx n0 d e σ fun v => R v σ
  | false => AdmX K cx n0 ks d e σ R

/-- It looks at no object through the slots that must be dry. -/
def Dry (cx : Cx) (d : DOp) (e : Env) : Prop := d.isP = true → ∀ s ∈ cx.dry, s ∈ d.reads → dref (e.get s) = []

/-- One operation, in the order of the text. -/
def Adm (K : CallP) (cx : Cx) (n0 : Nat) (ks : List Nat) (d : DOp) (e : Env) (σ : St) (R : V → St → Prop) : Prop :=
  Dry cx d e ∧ Adm0 K cx n0 ks d e σ R

def wtx (K : CallP) (cx : Cx) (n0 : Nat) (ks : List Nat) : List DOp → Env → St → (Env → St → Prop) → Prop
  | [], e, σ, Q => Q e σ
  | d :: r, e, σ, Q => Adm K cx n0 ks d e σ fun v s => wtx K cx n0 ks r (putE e d.ins.dst v) s Q

variable {K : CallP} {cx : Cx} {n0 : Nat} {ks : List Nat}

theorem nGo.mono {i : Ins} {e : Env} {σ : St} {R R' : V → Prop} (hr : ∀ v, R v → R' v) (h : nGo K cx n0 i e σ R) : nGo K cx n0 i e σ R' := by
  cases i with
  | p dst op =>
    simp only [nGo] at *
    split
    · rename_i v hv; rw [hv] at h; exact hr _ h
    · rename_i hv; rw [hv] at h; exact h
  | call dst f args =>
    simp only [nGo] at *
    cases hm : cx.mode f with
    | raw => simp only [hm] at h
    | val =>
      simp only [hm] at h ⊢
      split
      · rename_i ds hds
        rw [hds] at h
        obtain ⟨Q', a, b, c⟩ := h
        exact ⟨Q', a, b, fun v s hq => ⟨(c v s hq).1, (c v s hq).2.1, hr _ (c v s hq).2.2⟩⟩
      · rename_i hds; rw [hds] at h; exact h
    | rd =>
      simp only [hm] at h ⊢
      intro σ1 ha
      obtain ⟨Q', a, b, c⟩ := h σ1 ha
      exact ⟨Q', a, b, fun v s hq => hr _ (c v s hq)⟩
  | _ => exact h

theorem AdmN.mono {d : DOp} {e : Env} {σ : St} {R R' : V → Prop} (hr : ∀ v, R v → R' v) (h : AdmN K cx n0 d e σ R) : AdmN K cx n0 d e σ R' := by
  unfold AdmN at *
  split
  · rename_i hg; rw [hg] at h; exact nGo.mono hr h
  · rename_i hg; rw [hg] at h; exact hr _ h
  · rename_i hg; rw [hg] at h; exact h

theorem nGo.some {i : Ins} {e : Env} {σ : St} {R : V → Prop} (h : nGo K cx n0 i e σ R) : ∃ v, R v := by
  cases i with
  | p dst op =>
    simp only [nGo] at h
    split at h
    · exact ⟨_, h⟩
    · exact h.elim
  | call dst f args =>
    simp only [nGo] at h
    cases hm : cx.mode f with
    | raw => simp only [hm] at h
    | val =>
      simp only [hm] at h
      split at h
      · obtain ⟨Q', a, ⟨v, s, hv⟩, c⟩ := h
        exact ⟨v, (c v s hv).2.2⟩
      · exact h.elim
    | rd =>
      simp only [hm] at h
      obtain ⟨Q', a, ⟨v, s, hv⟩, c⟩ := h σ (Agr.refl _ _)
      exact ⟨v, c v s hv⟩
  | _ => exact h.elim

theorem AdmN.some {d : DOp} {e : Env} {σ : St} {R : V → Prop} (h : AdmN K cx n0 d e σ R) : ∃ v, R v := by
  unfold AdmN at h
  split at h
  · exact nGo.some h
  · exact ⟨_, h⟩
  · exact h.elim

theorem gsel_same {d : DOp} {e e' : Env} (h : ∀ s ∈ d.reads, e.get s = e'.get s) : gsel d.guard e = gsel d.guard e' := by
  unfold gsel
  cases hg : d.guard with
  | none => rfl
  | some p =>
    obtain ⟨s, w⟩ := p
    simp only
    rw [h s (by simp [DOp.reads, DOp.gslot, hg])]

theorem AdmN.same {d : DOp} {e e' : Env} {σ σ' : St} (h : Same d.reads e σ e' σ') (hag : Agr n0 σ σ') {R : V → Prop} (ha : AdmN K cx n0 d e σ R) : AdmN K cx n0 d e' σ' R := by
  have hr : Same d.ins.reads e σ e' σ' := Same.right (a := d.gslot) h
  unfold AdmN at *
  rw [← gsel_same (fun s hs => (h s hs).1)]
  split
  · rename_i hg
    rw [hg] at ha
    simp only at ha
    generalize d.ins = i at *
    cases i with
    | p dst op =>
      simp only [nGo] at *
      rw [← evalP_same hr]
      exact ha
    | call dst f args =>
      simp only [nGo] at *
      cases hm : cx.mode f with
      | raw => simp only [hm] at ha
      | val =>
        simp only [hm] at ha ⊢
        rw [← byVals_same hr, ← Same.opds hr]
        exact ha
      | rd =>
        simp only [hm] at ha ⊢
        intro σ1 h1
        rw [← Same.opds hr]
        exact ha σ1 (hag.trans h1)
    | _ => exact ha
  · rename_i hg; rw [hg] at ha; exact ha
  · rename_i hg; rw [hg] at ha; exact ha

/-- An operation that isn't a call has one outcome. -/
theorem AdmN.single {d : DOp} (hp : d.isP = true) {e : Env} {σ : St} {R : V → Prop} (h : AdmN K cx n0 d e σ R) : ∃ v, ∀ R', AdmN K cx n0 d e σ R' ↔ R' v := by
  unfold DOp.isP at hp
  split at hp
  · rename_i dst op hi
    unfold AdmN at h
    simp only [AdmN]
    rw [hi] at h ⊢
    split at h
    · simp only [nGo] at h ⊢
      split at h
      · rename_i v hv
        exact ⟨v, fun R' => Iff.rfl⟩
      · exact h.elim
    · exact ⟨.gone, fun R' => Iff.rfl⟩
    · exact h.elim
  · cases hp

theorem opd_slots {x : Opd} {e e' : Env} (h : ∀ s ∈ x.slots, e.get s = e'.get s) : x.ev e = x.ev e' := by
  cases x with
  | t n => exact h n (by simp [Opd.slots])
  | _ => rfl
theorem opds_slots {xs : List Opd} {e e' : Env} (h : ∀ s ∈ xs.flatMap Opd.slots, e.get s = e'.get s) : xs.map (Opd.ev e) = xs.map (Opd.ev e') :=
  List.map_congr_left fun x hx => opd_slots fun s hs => h s (List.mem_flatMap.2 ⟨x, hx, hs⟩)

theorem same_slots {rd : List Nat} {e e' : Env} (h : ∀ s ∈ rd, e.get s = e'.get s) (σ : St) : Same rd e σ e' σ := fun s hs => ⟨h s hs, fun _ _ => rfl⟩

theorem rows_blind {x : V} (h : ∀ r off len sz, x ≠ .sl r off len sz) (σ σ' : St) : V.rows σ x = V.rows σ' x := by
  cases x with
  | sl r off len sz => exact absurd rfl (h _ _ _ _)
  | d x => cases x <;> rfl
  | _ => rfl

theorem iaddr_blind (sz : Nat) (x i : V) (σ σ' : St) : iaddrV σ sz x i = iaddrV σ' sz x i := by
  cases x with
  | sl r off len s => rfl
  | d x => simp only [iaddrV]; rw [rows_blind (by simp) σ σ']
  | _ => simp only [iaddrV]; rw [rows_blind (by simp) σ σ']

theorem evalP_blind {op : POp} (hb : op.blind = true) {e e' : Env} (h : ∀ s ∈ op.reads, e.get s = e'.get s) (σ σ' : St) : evalP op e σ = evalP op e' σ' := by
  rw [evalP_same (same_slots h σ)]
  cases op with
  | load => simp [POp.blind] at hb
  | sliceArr => simp [POp.blind] at hb
  | lookup => simp [POp.blind] at hb
  | conv k x => cases k <;> first | (simp [POp.blind] at hb; done) | rfl
  | len ty x => cases ty <;> first | (simp [POp.blind] at hb; done) | rfl
  | iaddr sz x i => simp only [evalP]; exact iaddr_blind _ _ _ _ _
  | _ => rfl

/-- A blind one has one outcome, wherever. -/
theorem AdmN.blind {d : DOp} (hb : d.isB = true) {e : Env} {σ : St} {R : V → Prop} (h : AdmN K cx n0 d e σ R) : ∃ v, ∀ (e' : Env) (σ' : St), (∀ s ∈ d.reads, e.get s = e'.get s) → ∀ R', AdmN K cx n0 d e' σ' R' ↔ R' v := by
  unfold DOp.isB at hb
  split at hb
  · rename_i dst op hi
    have hg : ∀ e' : Env, (∀ s ∈ d.reads, e.get s = e'.get s) → gsel d.guard e = gsel d.guard e' := fun e' he => gsel_same he
    have hrd : ∀ s ∈ op.reads, s ∈ d.reads := fun s hs => by
      unfold DOp.reads
      rw [hi]
      exact List.mem_append_right _ hs
    unfold AdmN at *
    cases hs : gsel d.guard e with
    | none => rw [hs] at h; exact h.elim
    | some b =>
      rw [hs] at h
      cases b with
      | true =>
        rw [hi] at *
        simp only [nGo] at h
        split at h
        · rename_i v hv
          refine ⟨v, fun e' σ' he R' => ?_⟩
          rw [← hg e' he, hs]
          simp only [nGo]
          rw [← evalP_blind hb (fun s hs => he s (hrd s hs)) σ σ', hv]
        · exact h.elim
      | false =>
        refine ⟨.gone, fun e' σ' he R' => ?_⟩
        rw [← hg e' he, hs]
  · cases hb

theorem evalE_slots {op : EOp} {e e' : Env} (h : ∀ s ∈ op.reads, e.get s = e'.get s) (σ : St) (tg : Option Nat) : evalE op e σ tg = evalE op e' σ tg ∧ evalM op e σ tg = evalM op e' σ tg := by
  cases op with
  | alloc z => exact ⟨rfl, rfl⟩
  | makeMap => exact ⟨rfl, rfl⟩
  | box x => simp only [evalE, evalM, opd_slots (x := x) h, and_self]
  | clear sz z x => simp only [evalE, evalM, opd_slots (x := x) h, and_self]
  | mapUpdate a b c => exact ⟨rfl, rfl⟩
  | mapDelete a b => exact ⟨rfl, rfl⟩
  | appendZero t sz b z a x => exact ⟨rfl, rfl⟩
  | store n a x => simp only [evalE, evalM, opd_slots (x := a) (fun s hs => h s (List.mem_append_left _ hs)), opd_slots (x := x) (fun s hs => h s (List.mem_append_right _ hs)), and_self]
  | append t sz b a x => simp only [evalE, evalM, opd_slots (x := a) (fun s hs => h s (List.mem_append_left _ hs)), opd_slots (x := x) (fun s hs => h s (List.mem_append_right _ hs)), and_self]
  | appendStr t a x => simp only [evalE, evalM, opd_slots (x := a) (fun s hs => h s (List.mem_append_left _ hs)), opd_slots (x := x) (fun s hs => h s (List.mem_append_right _ hs)), and_self]
  | copy sz a x => simp only [evalE, evalM, opd_slots (x := a) (fun s hs => h s (List.mem_append_left _ hs)), opd_slots (x := x) (fun s hs => h s (List.mem_append_right _ hs)), and_self]
  | makeSlice t sz b z a x => simp only [evalE, evalM, opd_slots (x := a) (fun s hs => h s (List.mem_append_left _ hs)), opd_slots (x := x) (fun s hs => h s (List.mem_append_right _ hs)), and_self]

theorem xCall.mono {e : Env} {f : Nat} {vs : List V} {σ : St} {R R' : V → St → Prop} (hr : ∀ v s, R v s → R' v s) (h : xCall K cx ks e f vs σ R) : xCall K cx ks e f vs σ R' := by
  unfold xCall at *
  cases hm : cx.mode f with
  | raw => simp only [hm] at h ⊢; obtain ⟨Q', a, b, c⟩ := h; exact ⟨Q', a, b, fun v s hq => ⟨(c v s hq).1, hr _ _ (c v s hq).2⟩⟩
  | rd => simp only [hm] at h ⊢; obtain ⟨Q', a, b, c⟩ := h; exact ⟨Q', a, b, fun v s hq => hr _ _ (c v s hq)⟩
  | val =>
    simp only [hm] at h ⊢
    split
    · rename_i ds hds
      rw [hds] at h
      obtain ⟨Q', a, b, c⟩ := h
      exact ⟨Q', a, b, fun v s hq => ⟨(c v s hq).1, (c v s hq).2.1, hr _ _ (c v s hq).2.2⟩⟩
    · rename_i hds; rw [hds] at h; exact h

theorem xCall.some {e : Env} {f : Nat} {vs : List V} {σ : St} {R : V → St → Prop} (h : xCall K cx ks e f vs σ R) : ∃ v s, R v s := by
  unfold xCall at h
  cases hm : cx.mode f with
  | raw => simp only [hm] at h; obtain ⟨Q', a, ⟨v, s, b⟩, c⟩ := h; exact ⟨v, s, (c v s b).2⟩
  | rd => simp only [hm] at h; obtain ⟨Q', a, ⟨v, s, b⟩, c⟩ := h; exact ⟨v, σ, c v s b⟩
  | val =>
    simp only [hm] at h
    split at h
    · obtain ⟨Q', a, ⟨v, s, b⟩, c⟩ := h; exact ⟨v, σ, (c v s b).2.2⟩
    · exact h.elim

theorem xCall.callK {e : Env} {f : Nat} {vs : List V} {σ : St} {R : V → St → Prop} (h : xCall K cx ks e f vs σ R) (cx' : Cx) : Dn.callK K cx' f vs σ R := by
  unfold xCall at h
  refine ⟨cx.mode f, ?_⟩
  cases hm : cx.mode f with
  | raw => simp only [hm] at h; obtain ⟨Q', a, b, c⟩ := h; exact ⟨Q', a, fun v s hq => (c v s hq).2⟩
  | rd => simp only [hm] at h; obtain ⟨Q', a, b, c⟩ := h; exact ⟨Q', a, c⟩
  | val =>
    simp only [hm] at h
    simp only [callM]
    split at h
    · rename_i ds hds
      rw [hds]
      obtain ⟨Q', a, b, c⟩ := h; exact ⟨Q', a, c⟩
    · exact h.elim

theorem AdmX.mono {d : DOp} {e : Env} {σ : St} {R R' : V → St → Prop} (hr : ∀ v s, R v s → R' v s) (h : AdmX K cx n0 ks d e σ R) : AdmX K cx n0 ks d e σ R' := by
  unfold AdmX at *
  split
  · rename_i hg
    rw [hg] at h
    simp only at h
    generalize d.ins = i at *
    cases i with
    | e dst op =>
      simp only [xGo] at *
      refine h.imp (fun h => ?_) (fun h => ?_)
      · split
        · rename_i v s hv; rw [hv] at h; exact ⟨h.1, hr _ _ h.2⟩
        · rename_i hv; rw [hv] at h; exact h
      · split
        · rename_i v s hv; rw [hv] at h; exact hr _ _ h
        · rename_i hv; rw [hv] at h; exact h
    | call dst f args => exact xCall.mono hr h
    | callv dst f args =>
      simp only [xGo] at *
      split
      · rename_i g first caps hf; rw [hf] at h; exact xCall.mono hr h
      · rename_i hn
        split at h
        · rename_i g first caps hf; exact (hn _ _ _ hf).elim
        · exact h
    | _ => exact h
  · rename_i hg; rw [hg] at h; exact hr _ _ h
  · rename_i hg; rw [hg] at h; exact h

theorem AdmX.some {d : DOp} {e : Env} {σ : St} {R : V → St → Prop} (h : AdmX K cx n0 ks d e σ R) : ∃ v s, R v s := by
  unfold AdmX at h
  split at h
  · generalize d.ins = i at *
    cases i with
    | e dst op =>
      simp only [xGo] at h
      rcases h with h | h
      · split at h
        · exact ⟨_, _, h.2⟩
        · exact h.elim
      · split at h
        · exact ⟨_, _, h⟩
        · exact h.elim
    | call dst f args => exact xCall.some h
    | callv dst f args =>
      simp only [xGo] at h
      split at h
      · exact xCall.some h
      · exact h.elim
    | _ => exact h.elim
  · exact ⟨_, _, h⟩
  · exact h.elim

theorem kept_slots {e e' : Env} (hk : ∀ s ∈ ks, e.get s = e'.get s) (σ s : St) : Kept ks e σ s ↔ Kept ks e' σ s := by
  constructor
  · intro h t ht r hr; exact h t ht r (by rw [hk t ht]; exact hr)
  · intro h t ht r hr; exact h t ht r (by rw [← hk t ht]; exact hr)

theorem xCall.slots {e e' : Env} (hk : ∀ s ∈ ks, e.get s = e'.get s) {f : Nat} {vs : List V} {σ : St} {R : V → St → Prop} (h : xCall K cx ks e f vs σ R) : xCall K cx ks e' f vs σ R := by
  unfold xCall at *
  cases hm : cx.mode f with
  | raw => simp only [hm] at h ⊢; obtain ⟨Q', a, b, c⟩ := h; exact ⟨Q', a, b, fun v s hq => ⟨(kept_slots hk σ s).1 (c v s hq).1, (c v s hq).2⟩⟩
  | rd => simp only [hm] at h ⊢; exact h
  | val => simp only [hm] at h ⊢; exact h

theorem AdmX.slots {d : DOp} {e e' : Env} (he : ∀ s ∈ d.reads, e.get s = e'.get s) (hk : ∀ s ∈ ks, e.get s = e'.get s) {σ : St} {R : V → St → Prop} (h : AdmX K cx n0 ks d e σ R) : AdmX K cx n0 ks d e' σ R := by
  have hr : ∀ s ∈ d.ins.reads, e.get s = e'.get s := fun s hs => he s (List.mem_append_right _ hs)
  unfold AdmX at *
  rw [← gsel_same he]
  split
  · rename_i hg
    rw [hg] at h
    simp only at h
    generalize d.ins = i at *
    cases i with
    | e dst op =>
      simp only [xGo] at *
      rw [← (evalE_slots hr σ _).1, ← (evalE_slots hr σ _).2]
      refine h.imp (fun h => ?_) id
      split
      · rename_i v s hv; rw [hv] at h; exact ⟨fun hs => (kept_slots hk σ s).1 (h.1 hs), h.2⟩
      · rename_i hv; rw [hv] at h; exact h
    | call dst f args =>
      simp only [xGo] at *
      rw [← opds_slots hr]
      exact h.slots hk
    | callv dst f args =>
      simp only [xGo] at *
      rw [← opds_slots (xs := args) (fun s hs => hr s (List.mem_append_right _ hs)), ← opd_slots (x := f) (fun s hs => hr s (List.mem_append_left _ hs))]
      split
      · rename_i g first caps hf
        rw [hf] at h
        exact h.slots hk
      · rename_i hn
        split at h
        · rename_i g first caps hf; exact (hn _ _ _ hf).elim
        · exact h
    | _ => exact h
  · rename_i hg; rw [hg] at h; exact h
  · rename_i hg; rw [hg] at h; exact h

theorem Adm0.mono {d : DOp} {e : Env} {σ : St} {R R' : V → St → Prop} (hr : ∀ v s, R v s → R' v s) (h : Adm0 K cx n0 ks d e σ R) : Adm0 K cx n0 ks d e σ R' := by
  unfold Adm0 at *
  split
  · rename_i he; rw [he] at h; exact AdmN.mono (fun v => hr v σ) h
  · rename_i he; rw [he] at h; exact AdmX.mono hr h

theorem Adm0.some {d : DOp} {e : Env} {σ : St} {R : V → St → Prop} (h : Adm0 K cx n0 ks d e σ R) : ∃ v s, R v s := by
  unfold Adm0 at h
  split at h
  · obtain ⟨v, hv⟩ := h.some; exact ⟨v, σ, hv⟩
  · exact AdmX.some h

theorem Adm0.slots {d : DOp} {e e' : Env} (he : ∀ s ∈ d.reads, e.get s = e'.get s) (hk : ∀ s ∈ ks, e.get s = e'.get s) {σ : St} {R : V → St → Prop} (h : Adm0 K cx n0 ks d e σ R) : Adm0 K cx n0 ks d e' σ R := by
  unfold Adm0 at *
  split
  · rename_i hn; rw [hn] at h; exact AdmN.same (same_slots he σ) (Agr.refl _ _) h
  · rename_i hn; rw [hn] at h; exact AdmX.slots he hk h

theorem Dry.slots {d : DOp} {e e' : Env} (he : ∀ s ∈ d.reads, e.get s = e'.get s) (h : Dry cx d e) : Dry cx d e' := fun hp s hs hr => by
  rw [← he s hr]
  exact h hp s hs hr

theorem Adm.slots {d : DOp} {e e' : Env} (he : ∀ s ∈ d.reads, e.get s = e'.get s) (hk : ∀ s ∈ ks, e.get s = e'.get s) {σ : St} {R : V → St → Prop} (h : Adm K cx n0 ks d e σ R) : Adm K cx n0 ks d e' σ R := ⟨h.1.slots he, h.2.slots he hk⟩
theorem Adm.mono {d : DOp} {e : Env} {σ : St} {R R' : V → St → Prop} (hr : ∀ v s, R v s → R' v s) (h : Adm K cx n0 ks d e σ R) : Adm K cx n0 ks d e σ R' := ⟨h.1, h.2.mono hr⟩

theorem Adm_N {d : DOp} (h : d.isN cx.mode = true) (e : Env) (σ : St) (R : V → St → Prop) : Adm0 K cx n0 ks d e σ R = AdmN K cx n0 d e σ (fun v => R v σ) := by
  unfold Adm0; rw [h]

/-- What an operation that isn't a call comes to, where what it looks at is the same. -/
theorem AdmN.sameP {d : DOp} (hp : d.isP = true) {e e' : Env} {σ σ' : St} (h : Same d.reads e σ e' σ') {R : V → Prop} (ha : AdmN K cx n0 d e σ R) : AdmN K cx n0 d e' σ' R := by
  have hr : Same d.ins.reads e σ e' σ' := Same.right (a := d.gslot) h
  unfold DOp.isP at hp
  unfold AdmN at *
  rw [← gsel_same (fun s hs => (h s hs).1)]
  split
  · rename_i hg
    rw [hg] at ha
    simp only at ha
    generalize d.ins = i at *
    cases i with
    | p dst op =>
      simp only [nGo] at *
      rw [← evalP_same hr]
      exact ha
    | _ => cases hp
  · rename_i hg; rw [hg] at ha; exact ha
  · rename_i hg; rw [hg] at ha; exact ha

/-- A call's outcomes, that keep what must be kept. -/
theorem AdmX.kept {d : DOp} (hx : d.isXc cx.mode = true) {e : Env} {σ : St} {R : V → St → Prop} (h : AdmX K cx n0 ks d e σ R) : AdmX K cx n0 ks d e σ fun v s => Kept ks e σ s ∧ R v s := by
  have xc : ∀ {f : Nat} {vs : List V}, xCall K cx ks e f vs σ R → xCall K cx ks e f vs σ fun v s => Kept ks e σ s ∧ R v s := fun {f vs} h => by
    unfold xCall at *
    cases hm : cx.mode f with
    | raw => simp only [hm] at h ⊢; obtain ⟨Q', a, b, c⟩ := h; exact ⟨Q', a, b, fun v s hq => ⟨(c v s hq).1, (c v s hq).1, (c v s hq).2⟩⟩
    | rd => simp only [hm] at h ⊢; obtain ⟨Q', a, b, c⟩ := h; exact ⟨Q', a, b, fun v s hq => ⟨Kept.refl _ _ _, c v s hq⟩⟩
    | val =>
      simp only [hm] at h ⊢
      split
      · rename_i ds hds
        rw [hds] at h
        obtain ⟨Q', a, b, c⟩ := h
        exact ⟨Q', a, b, fun v s hq => ⟨(c v s hq).1, (c v s hq).2.1, Kept.refl _ _ _, (c v s hq).2.2⟩⟩
      · rename_i hds; rw [hds] at h; exact h
  unfold DOp.isXc at hx
  unfold AdmX at *
  split
  · rename_i hg
    rw [hg] at h
    simp only at h
    generalize d.ins = i at *
    cases i with
    | e dst op =>
      simp only [xGo] at *
      have hM : evalM op e σ (Option.some (n0 + d.al)) = none := by
        unfold EOp.isStore at hx
        split at hx
        · rfl
        · cases hx
      rw [hM] at h ⊢
      simp only [or_false] at h ⊢
      split
      · rename_i v s hv; rw [hv] at h; exact ⟨h.1, h.1 hx, h.2⟩
      · rename_i hv; rw [hv] at h; exact h
    | call dst f args => exact xc h
    | callv dst f args =>
      simp only [xGo] at *
      split
      · rename_i g first caps hf; rw [hf] at h; exact xc h
      · rename_i hn
        split at h
        · rename_i g first caps hf; exact (hn _ _ _ hf).elim
        · exact h
    | _ => cases hx
  · rename_i hg; rw [hg] at h; exact ⟨Kept.refl _ _ _, h⟩
  · rename_i hg; rw [hg] at h; exact h

theorem isN_Xc {md : Nat → Mode} {d : DOp} (h : d.isXc md = true) : d.isN md = false := by
  unfold DOp.isXc at h; unfold DOp.isN
  generalize d.ins = i at *
  cases i with
  | call dst f args =>
    simp only at h ⊢
    cases hm : md f <;> simp only [hm] at h ⊢ <;> cases h
  | callv dst f args => rfl
  | e dst op => rfl
  | _ => cases h

theorem isN_P {md : Nat → Mode} {d : DOp} (h : d.isP = true) : d.isN md = true := by
  unfold DOp.isP at h; unfold DOp.isN
  generalize d.ins = i at *
  cases i <;> first | rfl | cases h
theorem isP_B {d : DOp} (h : d.isB = true) : d.isP = true := by
  unfold DOp.isB at h; unfold DOp.isP
  generalize d.ins = i at *
  cases i <;> first | rfl | cases h

theorem get_put2 {e : Env} {d d' : Option Nat} {v u : V} (h : ∀ s, d = some s → d' ≠ some s) : ∀ s, (putE (putE e d v) d' u).get s = (putE (putE e d' u) d v).get s := fun s => by
  by_cases h1 : d = some s
  · have h2 := h s h1
    rw [get_put_ne h2]
    subst h1
    simp [putE, Env.get_set]
  · by_cases h2 : d' = some s
    · rw [get_put_ne (e := putE e d' u) h1]
      subst h2
      simp [putE, Env.get_set]
    · rw [get_put_ne h2, get_put_ne h1, get_put_ne h1, get_put_ne h2]

theorem same_put {rd : List Nat} {e : Env} {σ : St} {d : Option Nat} {v : V} (h : ∀ s, d = some s → s ∉ rd) : Same rd e σ (putE e d v) σ := fun s hs =>
  ⟨(get_put_ne (fun hd => h s hd hs) v).symm, fun _ _ => rfl⟩

theorem Same.symm {rd : List Nat} {e e' : Env} {σ σ' : St} (h : Same rd e σ e' σ') : Same rd e' σ' e σ := fun s hs =>
  ⟨(h s hs).1.symm, fun r hr => ((h s hs).2 r (by rw [(h s hs).1]; exact hr)).symm⟩

end Go.Dn
