/- Neighbours that may change places. -/
import Derived.Test.YtjkedjjahjlmfaaFw29
namespace Go.Dn
set_option linter.unusedVariables false
set_option linter.unusedSimpArgs false

variable {K : CallP} {cx : Cx} {n0 : Nat} {ks : List Nat}

/-- The cells of a new object. -/
def newCells (op : EOp) (e : Env) : Option (List V) :=
  match op with
  | .alloc zero => some zero
  | .box x => (x.ev e).cells
  | _ => none

theorem isNew_inv {d : DOp} (h : d.isNew = true) : d.guard = none ∧ ∃ s op, d.ins = .e (some s) op ∧ (∀ e σ r, evalE op e σ (some r) = match newCells op e with
    | some cs => newObj σ (some r) (.cells cs) (fun r => .ref r 0)
    | none => none) ∧ (∀ e e', (∀ s ∈ op.reads, e.get s = e'.get s) → newCells op e = newCells op e') := by
  unfold DOp.isNew at h
  simp only [Bool.and_eq_true] at h
  obtain ⟨h1, h2⟩ := h
  refine ⟨by simpa using h1, ?_⟩
  split at h2
  · rename_i s z hi
    exact ⟨s, _, hi, fun e σ r => rfl, fun _ _ _ => rfl⟩
  · rename_i s x hi
    refine ⟨s, _, hi, fun e σ r => by simp only [evalE, newCells]; split <;> simp_all, fun e e' h => ?_⟩
    simp only [newCells]
    have : x.ev e = x.ev e' := by
      cases x with
      | t n => exact h n (by simp [EOp.reads, Opd.slots])
      | _ => rfl
    rw [this]
  · cases h2

theorem isSto_inv {l : List DOp} {d : DOp} (h : d.isSto l = true) : d.guard = none ∧ ∃ n s x, d.ins = .e none (.store n (.t s) x) ∧ ∃ m ∈ d.after, ∃ dm, l[m]? = some dm ∧ dm.isNew = true ∧ dm.ins.dst = some s := by
  unfold DOp.isSto at h
  simp only [Bool.and_eq_true] at h
  obtain ⟨h1, h2⟩ := h
  refine ⟨by simpa using h1, ?_⟩
  split at h2
  · rename_i n s x hi
    refine ⟨n, s, x, hi, ?_⟩
    rw [List.any_eq_true] at h2
    obtain ⟨m, hm, h3⟩ := h2
    split at h3
    · rename_i dm hdm
      simp only [Bool.and_eq_true, beq_iff_eq] at h3
      exact ⟨m, hm, dm, hdm, h3.1, h3.2⟩
    · cases h3
  · cases h2

theorem isN_new {md : Nat → Mode} {d : DOp} (h : d.isNew = true) : d.isN md = false := by
  obtain ⟨_, s, op, hi, _⟩ := isNew_inv h
  simp [DOp.isN, hi]
theorem isN_sto {md : Nat → Mode} {l : List DOp} {d : DOp} (h : d.isSto l = true) : d.isN md = false := by
  obtain ⟨_, n, s, x, hi, _⟩ := isSto_inv h
  simp [DOp.isN, hi]
theorem new_M {d : DOp} (h : d.isNew = true) {dst : Option Nat} {op : EOp} (hi : d.ins = .e dst op) (e : Env) (σ : St) (tg : Option Nat) : evalM op e σ tg = none := by
  unfold DOp.isNew at h
  rw [hi] at h
  cases op <;> first | rfl | (simp at h; done)
theorem sto_M {l : List DOp} {d : DOp} (h : d.isSto l = true) {dst : Option Nat} {op : EOp} (hi : d.ins = .e dst op) (e : Env) (σ : St) (tg : Option Nat) : evalM op e σ tg = none := by
  obtain ⟨_, n, s, x, hi', _⟩ := isSto_inv h
  rw [hi] at hi'
  cases hi'
  rfl

theorem wtx_mono {Q Q' : Env → St → Prop} (hq : ∀ e σ, Q e σ → Q' e σ) : ∀ (l : List DOp) (e : Env) (σ : St), wtx K cx n0 ks l e σ Q → wtx K cx n0 ks l e σ Q'
  | [], e, σ, h => hq _ _ h
  | d :: r, e, σ, h => Adm.mono (fun v s => wtx_mono hq r _ _) h

/-- What an operation leaves: below `n0` nothing is touched. -/
def Low (n0 : Nat) (σ σ' : St) : Prop := ∀ r, r < n0 → σ'.objs[r]? = σ.objs[r]?

structure Inv (l : List DOp) (n0 : Nat) (S : List Nat) (e : Env) : Prop where
  low : ∀ s, (∀ d ∈ l, d.ins.dst ≠ some s) → ∀ r ∈ dref (e.get s), r < n0
  new : ∀ m ∈ S, ∀ d, l[m]? = some d → d.isNew = true → ∀ s, d.ins.dst = some s → e.get s = .ref (n0 + d.al) 0
  fa : ∀ m ∈ S, ∀ d, l[m]? = some d → ∀ s q, d.faOf l = some (s, q) → ∀ r ∈ dref (e.get s), r ∈ dref (e.get q)

theorem all_ne {l : List DOp} {s : Nat} (h : l.all (fun d' => d'.ins.dst != some s) = true) : ∀ d ∈ l, d.ins.dst ≠ some s := fun d hd => by
  rw [List.all_eq_true] at h
  simpa using h d hd

theorem faOf_inv {l : List DOp} {d : DOp} {s q : Nat} (h : d.faOf l = some (s, q)) : d.guard = none ∧ (∃ k, d.ins = .p (some s) (.faddr k (.t q))) ∧ ∀ d' ∈ l, d'.ins.dst ≠ some q := by
  unfold DOp.faOf at h
  split at h
  · rename_i hg
    split at h
    · rename_i s' k q' hi
      split at h
      · rename_i hq
        cases h
        exact ⟨by simpa using hg, ⟨k, hi⟩, all_ne hq⟩
      · cases h
    · cases h
  · cases h

theorem root_dref {l : List DOp} {S : List Nat} {e : Env} (hi : Inv l n0 S e) {d : DOp} (haf : ∀ a ∈ d.after, a ∈ S) {s q : Nat} (h : rootD l d s = some q) : (∀ d' ∈ l, d'.ins.dst ≠ some q) ∧ ∀ r ∈ dref (e.get s), r ∈ dref (e.get q) := by
  unfold rootD at h
  split at h
  · rename_i hs
    cases h
    exact ⟨all_ne hs, fun r hr => hr⟩
  · obtain ⟨m, hm, h1⟩ := List.exists_of_findSome?_eq_some h
    split at h1
    · rename_i dm hdm
      split at h1
      · rename_i s' q' hf
        split at h1
        · rename_i hss
          cases h1
          subst hss
          exact ⟨(faOf_inv hf).2.2, hi.fa m (haf m hm) dm hdm _ _ hf⟩
        · cases h1
      · cases h1
    · cases h1

theorem near_root {l : List DOp} {dr : List Nat} {d : DOp} (h : d.near l dr = true) {s : Nat} (hs : s ∈ d.reads) : (d.isP = true ∧ s ∈ dr) ∨ ∃ q, rootD l d s = some q := by
  unfold DOp.near at h
  rw [List.all_eq_true] at h
  have := h s hs
  rw [Bool.or_eq_true, Bool.and_eq_true] at this
  exact this.imp (fun h => ⟨h.1, by simpa using h.2⟩) Option.isSome_iff_exists.1

theorem early_same {l : List DOp} {S : List Nat} {e : Env} (hi : Inv l n0 S e) {d : DOp} (haf : ∀ a ∈ d.after, a ∈ S) (hdry : Dry cx d e) (hd : d.near l cx.dry = true) {σ σ' : St} (hlow : Low n0 σ σ') : Same d.reads e σ e σ' := fun s hs => by
  rcases near_root hd hs with ⟨hp, hdr⟩ | ⟨q, hq⟩
  · exact ⟨rfl, fun r hr => by rw [hdry hp s hdr hs] at hr; cases hr⟩
  obtain ⟨h1, h2⟩ := root_dref hi haf hq
  exact ⟨rfl, fun r hr => (hlow r (hi.low q h1 r (h2 r hr))).symm⟩

theorem new_low {d : DOp} (hn : d.isNew = true) {e : Env} {σ : St} {v : V} {s' : St} {op : EOp} {dst : Option Nat} (hi : d.ins = .e dst op) (h : evalE op e σ (some (n0 + d.al)) = some (v, s')) :
    v = .ref (n0 + d.al) 0 ∧ ∃ cs, newCells op e = some cs ∧ σ.objs[n0 + d.al]? = some .free ∧ s' = σ.setObj (n0 + d.al) (.cells cs) := by
  obtain ⟨_, s, op', hi', h1, _⟩ := isNew_inv hn
  rw [hi] at hi'
  cases hi'
  rw [h1] at h
  split at h
  · rename_i cs hcs
    unfold newObj St.place at h
    simp only [St.spot] at h
    split at h
    · rename_i σ' hp
      split at hp
      · rename_i hf
        simp only [Option.some.injEq] at hp
        simp only [Option.some.injEq, Prod.mk.injEq] at h
        obtain ⟨rfl, rfl⟩ := h
        exact ⟨rfl, cs, hcs, hf, hp.symm⟩
      · cases hp
    · cases h
  · cases h

theorem agr_set {σ : St} {r : Nat} {o : Obj} (h : n0 ≤ r) : Agr n0 σ (σ.setObj r o) := ⟨fun q hq => by
  simp only [St.setObj]
  rw [List.getElem?_set_ne (by omega)], rfl⟩

theorem low_set {σ : St} {r : Nat} {o : Obj} (h : n0 ≤ r) : Low n0 σ (σ.setObj r o) := fun q hq => by
  simp only [St.setObj]
  rw [List.getElem?_set_ne (by omega)]

theorem sto_low {l : List DOp} {S : List Nat} {e : Env} (hi : Inv l n0 S e) {d : DOp} (hs : d.isSto l = true) (haf : ∀ a ∈ d.after, a ∈ S) {σ : St} {v : V} {s' : St} {op : EOp} {dst : Option Nat} (hd : d.ins = .e dst op)
    {tg : Option Nat} (h : evalE op e σ tg = some (v, s')) : Agr n0 σ s' := by
  obtain ⟨_, n, s, x, hi', m, hm, dm, h1, h2, h3⟩ := isSto_inv hs
  rw [hd] at hi'
  cases hi'
  have hg := hi.new m (haf m hm) dm h1 h2 s h3
  simp only [evalE, Opd.ev, hg] at h
  split at h
  · split at h
    · split at h
      · simp only [Option.some.injEq, Prod.mk.injEq] at h
        obtain ⟨_, rfl⟩ := h
        exact agr_set (by omega)
      · cases h
    · cases h
  · cases h

theorem evalE_same {l : List DOp} {d : DOp} (h : d.isNew = true ∨ d.isSto l = true) {op : EOp} {dst : Option Nat} (hi : d.ins = .e dst op) {e e' : Env} (hr : ∀ s ∈ op.reads, e.get s = e'.get s) (σ : St) :
    evalE op e σ (some (n0 + d.al)) = evalE op e' σ (some (n0 + d.al)) := by
  rcases h with h | h
  · obtain ⟨_, s, op', hi', h1, h2⟩ := isNew_inv h
    rw [hi] at hi'
    cases hi'
    rw [h1, h1, h2 e e' hr]
  · obtain ⟨_, n, s, x, hi', _⟩ := isSto_inv h
    rw [hi] at hi'
    cases hi'
    have e1 : e.get s = e'.get s := hr s (by simp [EOp.reads, Opd.slots])
    have e2 : x.ev e = x.ev e' := by
      cases x with
      | t k => exact hr k (by simp [EOp.reads, Opd.slots])
      | _ => rfl
    simp only [evalE, e2]
    simp only [Opd.ev, e1]

structure Apart (x y : DOp) : Prop where
  rd : ∀ s, x.ins.dst = some s → s ∉ y.reads
  ne : ∀ s, x.ins.dst = some s → y.ins.dst ≠ some s
  dr : ∀ s, y.ins.dst = some s → s ∉ x.reads

theorem apart_inv {x y : DOp} (h : apartD x y = true) : Apart x y := by
  unfold apartD at h
  simp only [Bool.and_eq_true] at h
  obtain ⟨h1, h2⟩ := h
  refine ⟨fun s hs => ?_, fun s hs => ?_, fun s hs => ?_⟩
  · rw [hs] at h1; simp at h1; exact h1.1
  · rw [hs] at h1; simp at h1; exact h1.2
  · rw [hs] at h2; simp at h2; exact h2

def Ext (Q : Env → St → Prop) : Prop := ∀ e e' σ, (∀ s, e.get s = e'.get s) → Q e σ → Q e' σ

theorem Apart.swap {x y : DOp} (h : Apart x y) {Q : Env → St → Prop} (hq : Ext Q) {e : Env} {v u : V} {σ : St} (hQ : Q (putE (putE e x.ins.dst v) y.ins.dst u) σ) : Q (putE (putE e y.ins.dst u) x.ins.dst v) σ :=
  hq _ _ _ (get_put2 h.ne) hQ

theorem ins_reads {d : DOp} {s : Nat} (h : s ∈ d.ins.reads) : s ∈ d.reads := List.mem_append_right _ h

theorem Adm0_E {l : List DOp} {d : DOp} (h : d.isNew = true ∨ d.isSto l = true) (e : Env) (σ : St) (R : V → St → Prop) : Adm0 K cx n0 ks d e σ R ↔ d.guard = none ∧ ∃ dst op v s, d.ins = .e dst op ∧ evalE op e σ (some (n0 + d.al)) = some (v, s) ∧ (op.isStore = true → Kept ks e σ s) ∧ R v s := by
  have hN : d.isN cx.mode = false := h.elim isN_new isN_sto
  have hg : d.guard = none := h.elim (fun h => (isNew_inv h).1) (fun h => (isSto_inv h).1)
  have hins : ∃ dst op, d.ins = .e dst op := by
    rcases h with h | h
    · obtain ⟨_, s, op, hi, _⟩ := isNew_inv h; exact ⟨_, _, hi⟩
    · obtain ⟨_, n, s, x, hi, _⟩ := isSto_inv h; exact ⟨_, _, hi⟩
  obtain ⟨dst, op, hi⟩ := hins
  have hM : evalM op e σ (some (n0 + d.al)) = none := h.elim (fun h => new_M h hi _ _ _) (fun h => sto_M h hi _ _ _)
  unfold Adm0 AdmX
  rw [hN, hg]
  simp only [gsel, true_and]
  rw [hi]
  simp only [xGo, hM, or_false]
  constructor
  · intro h
    split at h
    · rename_i v s hv; exact ⟨dst, op, v, s, rfl, hv, h.1, h.2⟩
    · exact h.elim
  · rintro ⟨dst', op', v, s, h1, h2, h3⟩
    cases h1
    rw [h2]
    exact h3

theorem new_noStore {d : DOp} (h : d.isNew = true) {dst : Option Nat} {op : EOp} (hi : d.ins = .e dst op) : op.isStore = false := by
  unfold DOp.isNew at h
  rw [hi] at h
  simp only [Bool.and_eq_true] at h
  obtain ⟨_, h2⟩ := h
  cases op <;> first | rfl | (cases dst <;> cases h2)

theorem exchange0 {l : List DOp} {S : List Nat} {x y : DOp} (hok : okPair cx.mode cx.dry l x y = true) {e : Env} {σ : St} (hks : ∀ s ∈ ks, ∀ d ∈ l, d.ins.dst ≠ some s) (hkeep : ∀ d ∈ l, d.isP = true → d.isB = false → d.near l cx.dry = true → ∀ s ∈ d.reads, ∀ q, rootD l d s = some q → q ∈ ks) (hxl : x ∈ l) (hyl : y ∈ l) (hi : Inv l n0 S e) (hx : ∀ a ∈ x.after, a ∈ S) (hy : ∀ a ∈ y.after, a ∈ S) (hdx : Dry cx x e) (hdy : Dry cx y e) {Q : Env → St → Prop} (hq : Ext Q)
    (h : Adm0 K cx n0 ks x e σ fun v s => Adm0 K cx n0 ks y (putE e x.ins.dst v) s fun u s' => Q (putE (putE e x.ins.dst v) y.ins.dst u) s') :
    Adm0 K cx n0 ks y e σ fun u s => Adm0 K cx n0 ks x (putE e y.ins.dst u) s fun v s' => Q (putE (putE e y.ins.dst u) x.ins.dst v) s' := by
  unfold okPair at hok
  rw [Bool.and_eq_true] at hok
  obtain ⟨hap, hk⟩ := hok
  have ha := apart_inv hap
  have sx : ∀ (u : V) (σ : St), Same x.reads e σ (putE e y.ins.dst u) σ := fun u σ => same_put ha.dr
  have sy : ∀ (v : V) (σ : St), Same y.reads e σ (putE e x.ins.dst v) σ := fun v σ => same_put ha.rd
  have lx : ∀ (u : V), ∀ s ∈ x.reads, e.get s = (putE e y.ins.dst u).get s := fun u s hs => (sx u σ s hs).1
  have ly : ∀ (v : V), ∀ s ∈ y.reads, e.get s = (putE e x.ins.dst v).get s := fun v s hs => (sy v σ s hs).1
  simp only [Bool.or_eq_true, Bool.and_eq_true] at hk
  have kx : ∀ (u : V), ∀ s ∈ ks, e.get s = (putE e y.ins.dst u).get s := fun u s hs => (get_put_ne (hks s hs y hyl) u).symm
  have ky : ∀ (v : V), ∀ s ∈ ks, e.get s = (putE e x.ins.dst v).get s := fun v s hs => (get_put_ne (hks s hs x hxl) v).symm
  by_cases xb : x.isB = true
  · -- the first doesn't look at the store
    have xN := isN_P (md := cx.mode) (isP_B xb)
    simp only [Adm_N xN] at h ⊢
    obtain ⟨v, hv⟩ := AdmN.blind xb h
    have h1 := (hv e σ (fun _ _ => rfl) _).1 h
    refine (h1.slots (fun s hs => (ly v s hs).symm) (fun s hs => (ky v s hs).symm)).mono fun u s' hu => ?_
    exact (hv _ s' (lx u) _).2 (ha.swap hq hu)
  by_cases yb : y.isB = true
  · -- the second doesn't look at the store
    have yN := isN_P (md := cx.mode) (isP_B yb)
    simp only [Adm_N yN] at h ⊢
    obtain ⟨v1, s1, h1⟩ := h.some
    obtain ⟨u, hu⟩ := AdmN.blind yb h1
    have hu' : ∀ (v : V) (s : St) (R' : V → Prop), AdmN K cx n0 y (putE e x.ins.dst v) s R' ↔ R' u := fun v s R' =>
      hu _ s (fun t ht => (ly v1 t ht).symm.trans (ly v t ht)) R'
    refine (hu e σ (fun t ht => (ly v1 t ht).symm) _).2 ?_
    refine (h.slots (lx u) (kx u)).mono fun v s' hv => ?_
    exact ha.swap hq ((hu' v s' _).1 hv)
  simp only [Bool.not_eq_true] at xb yb
  simp only [xb, yb, Bool.false_eq_true, false_or] at hk
  rcases hk with ((((((⟨xp, yk⟩ | ⟨xc, yp⟩) | ⟨⟨xe, yk⟩, ye⟩) | ⟨⟨xk, xe⟩, ye⟩) | ⟨⟨xn, yn⟩, hal⟩) | ⟨⟨xp, xe⟩, yx⟩) | ⟨⟨xx, yp⟩, ye⟩)
  · -- both leave the store alone; the first has one outcome
    simp only [Adm_N (isN_P xp), Adm_N yk] at h ⊢
    obtain ⟨v, hv⟩ := AdmN.single xp h
    have h1 := ((hv _).1 h).same (sy v σ).symm (Agr.refl _ _)
    refine h1.mono fun u hu => ?_
    refine AdmN.same (sx u σ) (Agr.refl _ _) ((hv _).2 ?_)
    exact ha.swap hq hu
  · simp only [Adm_N xc, Adm_N (isN_P yp)] at h ⊢
    obtain ⟨v1, h1⟩ := h.some
    obtain ⟨u, hu⟩ := AdmN.single yp (h1.same (sy v1 σ).symm (Agr.refl _ _))
    refine (hu _).2 (AdmN.same (sx u σ) (Agr.refl _ _) (h.mono fun v hv => ?_))
    exact ha.swap hq ((hu _).1 (hv.same (sy v σ).symm (Agr.refl _ _)))
  · -- the first turns the store, the second looks at what was there before
    rw [Adm0_E xe] at h
    rw [Adm_N yk]
    obtain ⟨hg, dst, op, v, s1, hxi, hv, hkk, h⟩ := h
    rw [Adm_N yk] at h
    have hagr : Agr n0 σ s1 := by
      rcases xe with xn | xs
      · obtain ⟨_, cs, _, _, rfl⟩ := new_low xn hxi hv
        exact agr_set (by omega)
      · exact sto_low hi xs hx hxi hv
    have h1 := (h.same (sy v s1).symm (Agr.refl _ _)).same (early_same hi hy hdy ye hagr.1).symm hagr.symm
    refine h1.mono fun u hu => ?_
    rw [Adm0_E xe]
    refine ⟨hg, dst, op, v, s1, hxi, ?_, fun hs => (kept_slots (kx u) σ s1).1 (hkk hs), ha.swap hq hu⟩
    rw [← evalE_same xe hxi (e := e) (e' := putE e y.ins.dst u) (fun s hs => (sx u σ s (ins_reads (by rw [hxi]; exact hs))).1) σ, hv]
  · rw [Adm_N xk] at h
    rw [Adm0_E ye]
    obtain ⟨v1, h1⟩ := h.some
    rw [Adm0_E ye] at h1
    obtain ⟨hg, dst, op, u, s1, hyi, hu, hkk, _⟩ := h1
    have hsame : ∀ v : V, evalE op (putE e x.ins.dst v) σ (some (n0 + y.al)) = evalE op e σ (some (n0 + y.al)) := fun v =>
      (evalE_same ye hyi (fun s hs => (sy v σ s (ins_reads (by rw [hyi]; exact hs))).1) σ).symm
    rw [hsame] at hu
    refine ⟨hg, dst, op, u, s1, hyi, hu, fun hs => (kept_slots (ky v1) σ s1).2 (hkk hs), ?_⟩
    rw [Adm_N xk]
    have hagr : Agr n0 σ s1 := by
      rcases ye with yn | ys
      · obtain ⟨_, cs, _, _, rfl⟩ := new_low yn hyi hu
        exact agr_set (by omega)
      · exact sto_low hi ys hy hyi hu
    have sxe : Same x.reads e σ (putE e y.ins.dst u) s1 := fun s hs => ⟨(sx u s1 s hs).1, (early_same hi hx hdx xe hagr.1 s hs).2⟩
    refine AdmN.same sxe hagr (h.mono fun v hv => ?_)
    rw [Adm0_E ye] at hv
    obtain ⟨_, dst', op', u', s1', hyi', hu', _, hv⟩ := hv
    rw [hyi] at hyi'
    cases hyi'
    rw [hsame, hu] at hu'
    cases hu'
    exact ha.swap hq hv
  · -- two new objects
    have xn' : x.isNew = true ∨ x.isSto l = true := .inl xn
    have yn' : y.isNew = true ∨ y.isSto l = true := .inl yn
    rw [Adm0_E xn'] at h
    rw [Adm0_E yn']
    obtain ⟨hgx, dx, ox, v, s1, hxi, hv, _, h⟩ := h
    rw [Adm0_E yn'] at h
    obtain ⟨hgy, dy, oy, u, s2, hyi, hu, _, h⟩ := h
    have hne : n0 + x.al ≠ n0 + y.al := by
      simp at hal
      omega
    obtain ⟨rfl, cx', c1, c2, rfl⟩ := new_low xn hxi hv
    obtain ⟨rfl, cy, d1, d2, rfl⟩ := new_low yn hyi hu
    have ry : newCells oy e = some cy := by
      rw [← d1]
      obtain ⟨_, _, oy', hyi', _, hc⟩ := isNew_inv yn
      rw [hyi] at hyi'
      cases hyi'
      exact hc _ _ fun s hs => (sy (.ref (n0 + x.al) 0) σ s (ins_reads (by rw [hyi]; exact hs))).1
    have rx : newCells ox (putE e y.ins.dst (.ref (n0 + y.al) 0)) = some cx' := by
      rw [← c1]
      obtain ⟨_, _, ox', hxi', _, hc⟩ := isNew_inv xn
      rw [hxi] at hxi'
      cases hxi'
      exact hc _ _ fun s hs => (sx (.ref (n0 + y.al) 0) σ s (ins_reads (by rw [hxi]; exact hs))).1.symm
    have fy : σ.objs[n0 + y.al]? = some .free := by
      simp only [St.setObj] at d2
      rw [List.getElem?_set_ne hne] at d2
      exact d2
    refine ⟨hgy, dy, oy, .ref (n0 + y.al) 0, σ.setObj (n0 + y.al) (.cells cy), hyi, ?_, (fun h => by rw [new_noStore yn hyi] at h; cases h), ?_⟩
    · obtain ⟨_, _, oy', hyi', hE, _⟩ := isNew_inv yn
      rw [hyi] at hyi'
      cases hyi'
      rw [hE, ry]
      simp [newObj, St.place, St.spot, fy]
    · rw [Adm0_E xn']
      refine ⟨hgx, dx, ox, .ref (n0 + x.al) 0, (σ.setObj (n0 + y.al) (.cells cy)).setObj (n0 + x.al) (.cells cx'), hxi, ?_, (fun h => by rw [new_noStore xn hxi] at h; cases h), ?_⟩
      · obtain ⟨_, _, ox', hxi', hE, _⟩ := isNew_inv xn
        rw [hxi] at hxi'
        cases hxi'
        rw [hE, rx]
        have : (σ.setObj (n0 + y.al) (.cells cy)).objs[n0 + x.al]? = some .free := by
          simp only [St.setObj]
          rw [List.getElem?_set_ne (Ne.symm hne)]
          exact c2
        simp [newObj, St.place, St.spot, this]
      · have hsw : (σ.setObj (n0 + y.al) (.cells cy)).setObj (n0 + x.al) (.cells cx') = (σ.setObj (n0 + x.al) (.cells cx')).setObj (n0 + y.al) (.cells cy) := by
          simp only [St.setObj]
          rw [List.set_comm _ _ hne]
        rw [hsw]
        exact ha.swap hq h

  · -- a look at what is kept, and a call
    have yN := isN_Xc yx
    rw [Adm_N (isN_P xp)] at h
    obtain ⟨v, hv⟩ := AdmN.single xp h
    have h1 := (((hv _).1 h).slots (fun s hs => (ly v s hs).symm) (fun s hs => (ky v s hs).symm))
    unfold Adm0 at h1 ⊢
    rw [yN] at h1 ⊢
    refine (AdmX.kept yx h1).mono fun u s' ⟨hkp, hu⟩ => ?_
    have := Adm_N (K := K) (n0 := n0) (ks := ks) (isN_P (md := cx.mode) xp) (putE e y.ins.dst u) s' (fun v s' => Q (putE (putE e y.ins.dst u) x.ins.dst v) s')
    unfold Adm0 at this
    rw [this]
    refine AdmN.sameP xp (fun s hs => ⟨lx u s hs, fun r hr => ?_⟩) ((hv _).2 (ha.swap hq hu))
    rcases near_root xe hs with ⟨hp, hdr⟩ | ⟨q, hq2⟩
    · rw [hdx hp s hdr hs] at hr; cases hr
    exact (hkp q (hkeep x hxl xp xb xe s hs q hq2) r ((root_dref hi hx hq2).2 r hr)).symm
  · have xN := isN_Xc xx
    rw [Adm_N (isN_P yp)]
    have h0 := h
    unfold Adm0 at h0
    rw [xN] at h0
    have h2 := AdmX.kept xx h0
    obtain ⟨v1, s1, hk1, h1⟩ := AdmX.some h2
    have back : ∀ (v : V) (s : St), Kept ks e σ s → Same y.reads (putE e x.ins.dst v) s e σ := fun v s hkp t ht =>
      ⟨(ly v t ht).symm, fun r hr => by
        rcases near_root ye ht with ⟨hp, hdr⟩ | ⟨q, hq2⟩
        · rw [← ly v t ht, hdy hp t hdr ht] at hr; cases hr
        exact hkp q (hkeep y hyl yp yb ye t ht q hq2) r ((root_dref hi hy hq2).2 r (by rw [ly v t ht]; exact hr))⟩
    have conv : ∀ (v : V) (s : St) (R : V → St → Prop), (match y.isN cx.mode with | true => AdmN K cx n0 y (putE e x.ins.dst v) s fun u => R u s | false => AdmX K cx n0 ks y (putE e x.ins.dst v) s R) = AdmN K cx n0 y (putE e x.ins.dst v) s fun u => R u s := fun v s R => by rw [isN_P (md := cx.mode) yp]
    have h1' : AdmN K cx n0 y (putE e x.ins.dst v1) s1 fun u => Q (putE (putE e x.ins.dst v1) y.ins.dst u) s1 := by rw [← conv v1 s1 (fun u s' => Q (putE (putE e x.ins.dst v1) y.ins.dst u) s')]; exact h1
    obtain ⟨u, hu⟩ := AdmN.single yp (AdmN.sameP yp (back v1 s1 hk1) h1')
    refine (hu _).2 ?_
    unfold Adm0
    rw [xN]
    refine ((AdmX.slots (lx u) (kx u) h2)).mono fun v s' ⟨hkp, hv⟩ => ?_
    have hv' : AdmN K cx n0 y (putE e x.ins.dst v) s' fun u => Q (putE (putE e x.ins.dst v) y.ins.dst u) s' := by rw [← conv v s' (fun u s'' => Q (putE (putE e x.ins.dst v) y.ins.dst u) s'')]; exact hv
    exact ha.swap hq ((hu _).1 (AdmN.sameP yp (back v s' hkp) hv'))

theorem exchange {l : List DOp} {S : List Nat} {x y : DOp} (hok : okPair cx.mode cx.dry l x y = true) {e : Env} {σ : St} (hks : ∀ s ∈ ks, ∀ d ∈ l, d.ins.dst ≠ some s) (hkeep : ∀ d ∈ l, d.isP = true → d.isB = false → d.near l cx.dry = true → ∀ s ∈ d.reads, ∀ q, rootD l d s = some q → q ∈ ks) (hxl : x ∈ l) (hyl : y ∈ l) (hi : Inv l n0 S e) (hx : ∀ a ∈ x.after, a ∈ S) (hy : ∀ a ∈ y.after, a ∈ S) {Q : Env → St → Prop} (hq : Ext Q)
    (h : Adm K cx n0 ks x e σ fun v s => Adm K cx n0 ks y (putE e x.ins.dst v) s fun u s' => Q (putE (putE e x.ins.dst v) y.ins.dst u) s') :
    Adm K cx n0 ks y e σ fun u s => Adm K cx n0 ks x (putE e y.ins.dst u) s fun v s' => Q (putE (putE e y.ins.dst u) x.ins.dst v) s' := by
  obtain ⟨hdx, h0⟩ := h
  have hap := hok
  unfold okPair at hap
  rw [Bool.and_eq_true] at hap
  have ha := apart_inv hap.1
  obtain ⟨v1, s1, h1⟩ := h0.some
  have hdy : Dry cx y e := h1.1.slots fun s hs => (same_put (σ := σ) ha.rd s hs).1.symm
  exact ⟨hdy, (exchange0 hok hks hkeep hxl hyl hi hx hy hdx hdy hq (h0.mono fun v s h => h.2)).mono fun u s h => ⟨hdx.slots fun s hs => (same_put (σ := σ) ha.dr s hs).1, h⟩⟩

end Go.Dn
