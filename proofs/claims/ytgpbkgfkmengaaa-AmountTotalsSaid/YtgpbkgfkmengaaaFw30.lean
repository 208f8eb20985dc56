/- Neighbours that may change places. -/
import Derived.Test.YtgpbkgfkmengaaaFw29
namespace Go.Dn
set_option linter.unusedVariables false
set_option linter.unusedSimpArgs false

variable {K : CallP} {cx : Cx} {n0 : Nat}

/-- The cells of a new object. -/
def newCells (op : EOp) (e : Env) : Option (List V) :=
  match op with
  | .alloc zero => some zero
  | .box x => (x.ev e).cells
  | _ => none

theorem isNew_inv {d : DOp} (h : d.isNew = true) : d.guard = none ∧ ∃ s op, d.ins = .e (some s) op ∧ (∀ e σ r, evalE op e σ (some r) = match newCells op e with
    | some cs => newObj σ (some r) (.cells cs) (fun r => .ref r 0)
    | none => none) ∧ (∀ e e', (∀ s ∈ op.reads, e.get s = e'.get s) → newCells op e = newCells op e') := by
  unfold DOp.isNew at h
  simp only [Bool.and_eq_true] at h
  obtain ⟨h1, h2⟩ := h
  refine ⟨by simpa using h1, ?_⟩
  split at h2
  · rename_i s z hi
    exact ⟨s, _, hi, fun e σ r => rfl, fun _ _ _ => rfl⟩
  · rename_i s x hi
    refine ⟨s, _, hi, fun e σ r => by simp only [evalE, newCells]; split <;> simp_all, fun e e' h => ?_⟩
    simp only [newCells]
    have : x.ev e = x.ev e' := by
      cases x with
      | t n => exact h n (by simp [EOp.reads, Opd.slots])
      | _ => rfl
    rw [this]
  · cases h2

theorem isSto_inv {l : List DOp} {d : DOp} (h : d.isSto l = true) : d.guard = none ∧ ∃ n s x, d.ins = .e none (.store n (.t s) x) ∧ ∃ m ∈ d.after, ∃ dm, l[m]? = some dm ∧ dm.isNew = true ∧ dm.ins.dst = some s := by
  unfold DOp.isSto at h
  simp only [Bool.and_eq_true] at h
  obtain ⟨h1, h2⟩ := h
  refine ⟨by simpa using h1, ?_⟩
  split at h2
  · rename_i n s x hi
    refine ⟨n, s, x, hi, ?_⟩
    rw [List.any_eq_true] at h2
    obtain ⟨m, hm, h3⟩ := h2
    split at h3
    · rename_i dm hdm
      simp only [Bool.and_eq_true, beq_iff_eq] at h3
      exact ⟨m, hm, dm, hdm, h3.1, h3.2⟩
    · cases h3
  · cases h2

theorem isE_new {d : DOp} (h : d.isNew = true) : isE d = true := by
  obtain ⟨_, s, op, hi, _⟩ := isNew_inv h
  simp [isE, hi]
theorem isE_sto {l : List DOp} {d : DOp} (h : d.isSto l = true) : isE d = true := by
  obtain ⟨_, n, s, x, hi, _⟩ := isSto_inv h
  simp [isE, hi]
theorem isE_P {d : DOp} (h : d.isP = true) : isE d = false := by
  unfold DOp.isP at h; unfold isE; split at h <;> simp_all
theorem isE_call {d : DOp} (h : d.isCall = true) : isE d = false := by
  unfold DOp.isCall at h; unfold isE; split at h <;> simp_all

theorem Adm.mono {d : DOp} {e : Env} {σ : St} {R R' : V → St → Prop} (hr : ∀ v s, R v s → R' v s) (h : Adm K cx n0 d e σ R) : Adm K cx n0 d e σ R' := by
  unfold Adm at *
  split
  · rename_i he
    rw [he] at h
    refine ⟨h.1, ?_⟩
    have h := h.2
    unfold AdmE at *
    split
    · rename_i dst op hi
      rw [hi] at h
      simp only at h
      split
      · rename_i v s hv; rw [hv] at h; exact hr _ _ h
      · rename_i hv; rw [hv] at h; exact h
    · rename_i h1
      split at h
      · rename_i dst op hi; exact (h1 _ _ hi).elim
      · exact h
  · rename_i he
    rw [he] at h
    exact AdmN.mono (fun v => hr v σ) h

theorem wtx_mono {Q Q' : Env → St → Prop} (hq : ∀ e σ, Q e σ → Q' e σ) : ∀ (l : List DOp) (e : Env) (σ : St), wtx K cx n0 l e σ Q → wtx K cx n0 l e σ Q'
  | [], e, σ, h => hq _ _ h
  | d :: r, e, σ, h => Adm.mono (fun v s => wtx_mono hq r _ _) h

/-- What an operation leaves: below `n0` nothing is touched. -/
def Low (n0 : Nat) (σ σ' : St) : Prop := ∀ r, r < n0 → σ'.objs[r]? = σ.objs[r]?

structure Inv (l : List DOp) (n0 : Nat) (S : List Nat) (e : Env) : Prop where
  low : ∀ s, (∀ d ∈ l, d.ins.dst ≠ some s) → ∀ r ∈ dref (e.get s), r < n0
  new : ∀ m ∈ S, ∀ d, l[m]? = some d → d.isNew = true → ∀ s, d.ins.dst = some s → e.get s = .ref (n0 + d.al) 0

theorem early_same {l : List DOp} {S : List Nat} {e : Env} (hi : Inv l n0 S e) {d : DOp} (hd : d.early l = true) {σ σ' : St} (hlow : Low n0 σ σ') : Same d.reads e σ e σ' := fun s hs => by
  refine ⟨rfl, fun r hr => (hlow r (hi.low s (fun d' hd' hdst => ?_) r hr)).symm⟩
  unfold DOp.early at hd
  rw [List.all_eq_true] at hd
  have := hd s hs
  rw [List.all_eq_true] at this
  have := this d' hd'
  simp [hdst] at this

theorem new_low {d : DOp} (hn : d.isNew = true) {e : Env} {σ : St} {v : V} {s' : St} {op : EOp} {dst : Option Nat} (hi : d.ins = .e dst op) (h : evalE op e σ (some (n0 + d.al)) = some (v, s')) :
    v = .ref (n0 + d.al) 0 ∧ ∃ cs, newCells op e = some cs ∧ σ.objs[n0 + d.al]? = some .free ∧ s' = σ.setObj (n0 + d.al) (.cells cs) := by
  obtain ⟨_, s, op', hi', h1, _⟩ := isNew_inv hn
  rw [hi] at hi'
  cases hi'
  rw [h1] at h
  split at h
  · rename_i cs hcs
    unfold newObj St.place at h
    simp only [St.spot] at h
    split at h
    · rename_i σ' hp
      split at hp
      · rename_i hf
        simp only [Option.some.injEq] at hp
        simp only [Option.some.injEq, Prod.mk.injEq] at h
        obtain ⟨rfl, rfl⟩ := h
        exact ⟨rfl, cs, hcs, hf, hp.symm⟩
      · cases hp
    · cases h
  · cases h

theorem low_set {σ : St} {r : Nat} {o : Obj} (h : n0 ≤ r) : Low n0 σ (σ.setObj r o) := fun q hq => by
  simp only [St.setObj]
  rw [List.getElem?_set_ne (by omega)]

theorem sto_low {l : List DOp} {S : List Nat} {e : Env} (hi : Inv l n0 S e) {d : DOp} (hs : d.isSto l = true) (haf : ∀ a ∈ d.after, a ∈ S) {σ : St} {v : V} {s' : St} {op : EOp} {dst : Option Nat} (hd : d.ins = .e dst op)
    {tg : Option Nat} (h : evalE op e σ tg = some (v, s')) : Low n0 σ s' := by
  obtain ⟨_, n, s, x, hi', m, hm, dm, h1, h2, h3⟩ := isSto_inv hs
  rw [hd] at hi'
  cases hi'
  have hg := hi.new m (haf m hm) dm h1 h2 s h3
  simp only [evalE, Opd.ev, hg] at h
  split at h
  · split at h
    · split at h
      · simp only [Option.some.injEq, Prod.mk.injEq] at h
        obtain ⟨_, rfl⟩ := h
        exact low_set (by omega)
      · cases h
    · cases h
  · cases h

theorem evalE_same {l : List DOp} {d : DOp} (h : d.isNew = true ∨ d.isSto l = true) {op : EOp} {dst : Option Nat} (hi : d.ins = .e dst op) {e e' : Env} (hr : ∀ s ∈ op.reads, e.get s = e'.get s) (σ : St) :
    evalE op e σ (some (n0 + d.al)) = evalE op e' σ (some (n0 + d.al)) := by
  rcases h with h | h
  · obtain ⟨_, s, op', hi', h1, h2⟩ := isNew_inv h
    rw [hi] at hi'
    cases hi'
    rw [h1, h1, h2 e e' hr]
  · obtain ⟨_, n, s, x, hi', _⟩ := isSto_inv h
    rw [hi] at hi'
    cases hi'
    have e1 : e.get s = e'.get s := hr s (by simp [EOp.reads, Opd.slots])
    have e2 : x.ev e = x.ev e' := by
      cases x with
      | t k => exact hr k (by simp [EOp.reads, Opd.slots])
      | _ => rfl
    simp only [evalE, e2]
    simp only [Opd.ev, e1]

structure Apart (x y : DOp) : Prop where
  rd : ∀ s, x.ins.dst = some s → s ∉ y.reads
  ne : ∀ s, x.ins.dst = some s → y.ins.dst ≠ some s
  dr : ∀ s, y.ins.dst = some s → s ∉ x.reads

theorem apart_inv {x y : DOp} (h : apartD x y = true) : Apart x y := by
  unfold apartD at h
  simp only [Bool.and_eq_true] at h
  obtain ⟨h1, h2⟩ := h
  refine ⟨fun s hs => ?_, fun s hs => ?_, fun s hs => ?_⟩
  · rw [hs] at h1; simp at h1; exact h1.1
  · rw [hs] at h1; simp at h1; exact h1.2
  · rw [hs] at h2; simp at h2; exact h2

def Ext (Q : Env → St → Prop) : Prop := ∀ e e' σ, (∀ s, e.get s = e'.get s) → Q e σ → Q e' σ

theorem Apart.swap {x y : DOp} (h : Apart x y) {Q : Env → St → Prop} (hq : Ext Q) {e : Env} {v u : V} {σ : St} (hQ : Q (putE (putE e x.ins.dst v) y.ins.dst u) σ) : Q (putE (putE e y.ins.dst u) x.ins.dst v) σ :=
  hq _ _ _ (get_put2 h.ne) hQ

theorem ins_reads {d : DOp} {s : Nat} (h : s ∈ d.ins.reads) : s ∈ d.reads := List.mem_append_right _ h

theorem Adm_N {d : DOp} (h : isE d = false) (e : Env) (σ : St) (R : V → St → Prop) : Adm K cx n0 d e σ R = AdmN K cx d e σ (fun v => R v σ) := by
  unfold Adm; rw [h]
theorem Adm_E {d : DOp} (h : isE d = true) (e : Env) (σ : St) (R : V → St → Prop) : Adm K cx n0 d e σ R ↔ d.guard = none ∧ ∃ dst op v s, d.ins = .e dst op ∧ evalE op e σ (some (n0 + d.al)) = some (v, s) ∧ R v s := by
  unfold Adm
  rw [h]
  simp only
  refine and_congr_right fun _ => ⟨fun h => ?_, fun ⟨dst, op, v, s, h1, h2, h3⟩ => ?_⟩
  · unfold AdmE at h
    split at h
    · rename_i dst op hi
      split at h
      · rename_i v s hv; exact ⟨dst, op, v, s, hi, hv, h⟩
      · exact h.elim
    · exact h.elim
  · unfold AdmE
    rw [h1]
    simp only
    rw [h2]
    exact h3

theorem exchange {l : List DOp} {S : List Nat} {x y : DOp} (hok : okPair l x y = true) {e : Env} {σ : St} (hi : Inv l n0 S e) (hx : ∀ a ∈ x.after, a ∈ S) (hy : ∀ a ∈ y.after, a ∈ S) {Q : Env → St → Prop} (hq : Ext Q)
    (h : Adm K cx n0 x e σ fun v s => Adm K cx n0 y (putE e x.ins.dst v) s fun u s' => Q (putE (putE e x.ins.dst v) y.ins.dst u) s') :
    Adm K cx n0 y e σ fun u s => Adm K cx n0 x (putE e y.ins.dst u) s fun v s' => Q (putE (putE e y.ins.dst u) x.ins.dst v) s' := by
  unfold okPair at hok
  rw [Bool.and_eq_true] at hok
  obtain ⟨hap, hk⟩ := hok
  have ha := apart_inv hap
  have sx : ∀ (u : V) (σ : St), Same x.reads e σ (putE e y.ins.dst u) σ := fun u σ => same_put ha.dr
  have sy : ∀ (v : V) (σ : St), Same y.reads e σ (putE e x.ins.dst v) σ := fun v σ => same_put ha.rd
  simp only [Bool.or_eq_true, Bool.and_eq_true] at hk
  rcases hk with (((⟨xp, yk⟩ | ⟨xc, yp⟩) | ⟨⟨xe, yk⟩, ye⟩) | ⟨⟨xk, xe⟩, ye⟩) | ⟨⟨xn, yn⟩, hal⟩
  · -- both leave the store alone; the first has one outcome
    have ey : isE y = false := yk.elim isE_P isE_call
    simp only [Adm_N (isE_P xp), Adm_N ey] at h ⊢
    obtain ⟨v, hv⟩ := AdmN.single xp h
    have h1 := ((hv _).1 h).same (sy v σ).symm
    refine h1.mono fun u hu => ?_
    refine AdmN.same (sx u σ) ((hv _).2 ?_)
    exact ha.swap hq hu
  · have ey : isE y = false := isE_P yp
    simp only [Adm_N (isE_call xc), Adm_N ey] at h ⊢
    obtain ⟨v1, h1⟩ := h.some
    obtain ⟨u, hu⟩ := AdmN.single yp (h1.same (sy v1 σ).symm)
    refine (hu _).2 (AdmN.same (sx u σ) (h.mono fun v hv => ?_))
    exact ha.swap hq ((hu _).1 (hv.same (sy v σ).symm))
  · -- the first turns the store, the second looks at what was there before
    have ex : isE x = true := xe.elim isE_new isE_sto
    have ey : isE y = false := yk.elim isE_P isE_call
    rw [Adm_E ex] at h
    rw [Adm_N ey]
    obtain ⟨hg, dst, op, v, s1, hxi, hv, h⟩ := h
    rw [Adm_N ey] at h
    have hlow : Low n0 σ s1 := by
      rcases xe with xn | xs
      · obtain ⟨_, cs, _, _, rfl⟩ := new_low xn hxi hv
        exact low_set (by omega)
      · exact sto_low hi xs hx hxi hv
    have h1 := (h.same (sy v s1).symm).same (early_same hi ye hlow).symm
    refine h1.mono fun u hu => ?_
    rw [Adm_E ex]
    refine ⟨hg, dst, op, v, s1, hxi, ?_, ha.swap hq hu⟩
    rw [← evalE_same xe hxi (e := e) (e' := putE e y.ins.dst u) (fun s hs => (sx u σ s (ins_reads (by rw [hxi]; exact hs))).1) σ, hv]
  · have ex : isE x = false := xk.elim isE_P isE_call
    have ey : isE y = true := ye.elim isE_new isE_sto
    rw [Adm_N ex] at h
    rw [Adm_E ey]
    obtain ⟨v1, h1⟩ := h.some
    rw [Adm_E ey] at h1
    obtain ⟨hg, dst, op, u, s1, hyi, hu, _⟩ := h1
    have hsame : ∀ v : V, evalE op (putE e x.ins.dst v) σ (some (n0 + y.al)) = evalE op e σ (some (n0 + y.al)) := fun v =>
      (evalE_same ye hyi (fun s hs => (sy v σ s (ins_reads (by rw [hyi]; exact hs))).1) σ).symm
    rw [hsame] at hu
    refine ⟨hg, dst, op, u, s1, hyi, hu, ?_⟩
    rw [Adm_N ex]
    have hlow : Low n0 σ s1 := by
      rcases ye with yn | ys
      · obtain ⟨_, cs, _, _, rfl⟩ := new_low yn hyi hu
        exact low_set (by omega)
      · exact sto_low hi ys hy hyi hu
    have sxe : Same x.reads e σ (putE e y.ins.dst u) s1 := fun s hs => ⟨(sx u s1 s hs).1, (early_same hi xe hlow s hs).2⟩
    refine AdmN.same sxe (h.mono fun v hv => ?_)
    rw [Adm_E ey] at hv
    obtain ⟨_, dst', op', u', s1', hyi', hu', hv⟩ := hv
    rw [hyi] at hyi'
    cases hyi'
    rw [hsame, hu] at hu'
    cases hu'
    exact ha.swap hq hv
  · -- two new objects
    rw [Adm_E (isE_new xn)] at h
    rw [Adm_E (isE_new yn)]
    obtain ⟨hgx, dx, ox, v, s1, hxi, hv, h⟩ := h
    rw [Adm_E (isE_new yn)] at h
    obtain ⟨hgy, dy, oy, u, s2, hyi, hu, h⟩ := h
    have hne : n0 + x.al ≠ n0 + y.al := by
      simp at hal
      omega
    obtain ⟨rfl, cx', c1, c2, rfl⟩ := new_low xn hxi hv
    obtain ⟨rfl, cy, d1, d2, rfl⟩ := new_low yn hyi hu
    have ry : newCells oy e = some cy := by
      rw [← d1]
      obtain ⟨_, _, oy', hyi', _, hc⟩ := isNew_inv yn
      rw [hyi] at hyi'
      cases hyi'
      exact hc _ _ fun s hs => (sy (.ref (n0 + x.al) 0) σ s (ins_reads (by rw [hyi]; exact hs))).1
    have rx : newCells ox (putE e y.ins.dst (.ref (n0 + y.al) 0)) = some cx' := by
      rw [← c1]
      obtain ⟨_, _, ox', hxi', _, hc⟩ := isNew_inv xn
      rw [hxi] at hxi'
      cases hxi'
      exact hc _ _ fun s hs => (sx (.ref (n0 + y.al) 0) σ s (ins_reads (by rw [hxi]; exact hs))).1.symm
    have fy : σ.objs[n0 + y.al]? = some .free := by
      simp only [St.setObj] at d2
      rw [List.getElem?_set_ne hne] at d2
      exact d2
    refine ⟨hgy, dy, oy, .ref (n0 + y.al) 0, σ.setObj (n0 + y.al) (.cells cy), hyi, ?_, ?_⟩
    · obtain ⟨_, _, oy', hyi', hE, _⟩ := isNew_inv yn
      rw [hyi] at hyi'
      cases hyi'
      rw [hE, ry]
      simp [newObj, St.place, St.spot, fy]
    · rw [Adm_E (isE_new xn)]
      refine ⟨hgx, dx, ox, .ref (n0 + x.al) 0, (σ.setObj (n0 + y.al) (.cells cy)).setObj (n0 + x.al) (.cells cx'), hxi, ?_, ?_⟩
      · obtain ⟨_, _, ox', hxi', hE, _⟩ := isNew_inv xn
        rw [hxi] at hxi'
        cases hxi'
        rw [hE, rx]
        have : (σ.setObj (n0 + y.al) (.cells cy)).objs[n0 + x.al]? = some .free := by
          simp only [St.setObj]
          rw [List.getElem?_set_ne (Ne.symm hne)]
          exact c2
        simp [newObj, St.place, St.spot, this]
      · have hsw : (σ.setObj (n0 + y.al) (.cells cy)).setObj (n0 + x.al) (.cells cx') = (σ.setObj (n0 + x.al) (.cells cx')).setObj (n0 + y.al) (.cells cy) := by
          simp only [St.setObj]
          rw [List.set_comm _ _ hne]
        rw [hsw]
        exact ha.swap hq h

end Go.Dn
